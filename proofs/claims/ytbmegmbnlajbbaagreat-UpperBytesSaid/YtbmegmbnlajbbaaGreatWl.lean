/- UpperBytes' contract: the walk of the law. -/
import Derived.Test.YtbmegmbnlajbbaaGreatWk
namespace Go.Proofs.YtbmegmbnlajbbaaGreat
open Go Go.Fw Go.Proofs Go.Sort

theorem neBool' (x y : Operand) (a b : Bool) (w : World) : (eqM .neq y_bool x y (.bool a) (.bool b)).run P w = .ok (.bool (a != b)) w := by
  have h : (Op.equal y_bool (.bool a) (.bool b)).run P w = .ok (a == b) w := run_equalIn_bool' w 9999 y_bool a b uBool
  simp [eqM, eqGuard, binOp, h, bne]
set_option maxHeartbeats 8000000 in
theorem bytes_law {w : World} {H : Heap} {a b : Option Addr} {n nc l lc : Nat} {B : List UInt8} (hw : w.heap = H) (hD : Steps H a n) (hB : Cells H b (byteCells B)) (hl : l = B.length) (hlc : l ≤ lc) :
    CallF P F_l12_UpperBytes #[.slice a n nc, .slice b l lc] w fun e w' => e = .returned (.bool true) ∧ Ext [] H w'.heap := by
  refine fn_l12_UpperBytes ?_
  unfold T_l12_UpperBytes
  refine callF_of (awake_c hw) ?_
  rintro e w1 ⟨rfl, hx1⟩
  refine ⟨true, rfl, ?_⟩
  refine iteP_f rfl ?_
  refine joinP_of (fun _ W => Ext [] H W.heap ∧ l ≤ 60000) ?_ ?_
  · refine callF_of (fits_c rfl (hD.ext hx1)) ?_
    rintro e w2 ⟨fb, rfl, hw2⟩
    refine ⟨fb, rfl, ?_⟩
    have hx2 : Ext [] H w2.heap := by rw [hw2]; exact hx1
    cases fb with
    | false => exact iteP_t rfl ⟨rfl, hx2⟩
    | true =>
    refine iteP_f rfl ?_
    exact iteP_dec (fun _ => ⟨rfl, hx2⟩) (fun h => ⟨hx2, by omega⟩)
  rintro _ w3 ⟨hx3, hl6⟩
  have hok : newOk 7 300 := by unfold newOk; omega
  refine callF_of (new_c 7 300 rfl) ?_
  rintro e w4 (⟨h, _⟩ | ⟨_, p, m, rfl, hU, hx4, hp1, hp2, hm1, hm2⟩)
  · exact absurd hok h
  refine ⟨(some ⟨p, 0, none⟩, 0), rfl, ?_⟩
  refine callF_of (rnew_c 7 300 rfl) ?_
  rintro e w5 (⟨h, _⟩ | ⟨_, pr, rfl, hR, hx5, hr1, hr2⟩)
  · exact absurd hok h
  refine ⟨(some ⟨pr, 0, none⟩, 0), rfl, ?_⟩
  have hx05 := (hx3.trans hx4).trans hx5
  have hs3 := hx3.1
  have hs4 := hx4.1
  refine joinP_of (fun _ W => Ext [] H W.heap) ?_ ?_
  · refine drewP_h rfl fun w6 hw6 => ?_
    have hx56 : Ext [] w5.heap w6.heap := by rw [hw6]; exact .refl _ _
    have hB6 : Both H p m pr 7 300 w6 := ⟨[], [pr], hx05.trans hx56, hU.ext (hx5.trans hx56) (by simp) (by simp), hR.ext hx56 (by simp), by omega, by omega, (by intro b hb; simp only [List.mem_singleton] at hb; omega), (by simp only [List.mem_singleton]; omega), (by simp only [List.mem_singleton]; omega), Tree.nil⟩
    refine iteP_f rfl ?_
    refine callF_of (play_c hB6 hD) ?_
    rintro e w7 ⟨rfl, L, fp, hx7, hU7, hR7, _⟩
    refine ⟨true, rfl, ?_⟩
    refine iteP_f rfl ?_
    refine callF_of (encode_c rfl hU7) ?_
    rintro e w8 ⟨y, rfl, hm8, hx78⟩
    refine ⟨y, rfl, ?_⟩
    have hyl : y.2.1 = (encU 7 300 L).length := by have := hm8.len; simp at this; omega
    refine genQ_of (s := .str) _ (convS_h uS8 u8 uStr rfl hm8.cells hyl) ?_
    refine callF_of (rencode_c rfl (hR7.ext hx78 (by simp))) ?_
    rintro e w9 ⟨z, rfl, hm9, hx89⟩
    refine ⟨z, rfl, ?_⟩
    have hzl : z.2.1 = (encU 7 300 L).length := by have := hm9.len; simp at this; omega
    refine ⟨genQ_of (s := .str) _ (convS_h uS8 u8 uStr rfl (hm8.ext hx89 (by simp)).cells hyl) rfl, ?_⟩
    refine genQ_of (s := .str) _ (convS_h uS8 u8 uStr rfl hm9.cells hzl) ?_
    refine iteP_f (by simp) ?_
    exact (hx7.trans hx78).trans hx89
  rintro _ w10 hx10
  refine callF_of (decode_c rfl (hB.ext hx10 (by simp)) hl (by omega)) ?_
  rintro e w11 ⟨hx1011, hdu⟩
  have hx11 := hx10.trans hx1011
  rcases hdu with ⟨hno, rfl⟩ | ⟨aa, bb, M, p', m', hd, rfl, hU', hp', hm'⟩
  · refine ⟨(none, 21), rfl, ?_⟩
    refine callF_of (rdecode_c rfl (hB.ext hx11 (by simp)) hl hlc (by omega)) ?_
    rintro e w12 ⟨hx1112, ⟨_, rfl⟩ | ⟨_, _, _, _, _, h, _⟩⟩
    rotate_left
    · rw [dec_same, hno] at h; cases h
    refine ⟨(none, false), rfl, ?_⟩
    refine joinP_in ?_
    refine genQ_of (s := .bool) _ (neBool' _ _ _ _ _) ?_
    refine iteP_f rfl ?_
    refine genQ_of (s := .bool) _ (neBool' _ _ _ _ _) ?_
    refine iteP_f rfl ?_
    refine iteP_t rfl ?_
    refine iteP_f rfl ?_
    refine drewP_h rfl fun w14 hw14 => ?_
    exact iteP_t rfl ⟨rfl, rfl, by rw [hw14]; exact hx11.trans hx1112⟩
  · refine ⟨(some ⟨p', 0, none⟩, 0), rfl, ?_⟩
    obtain ⟨_, hBe, ha, hb, hV⟩ := decU_some hd
    have hU'lt := hU'.lt
    refine callF_of (rdecode_c rfl (hB.ext hx11 (by simp)) hl hlc (by omega)) ?_
    rintro e w12 ⟨hx1112, ⟨h, _⟩ | ⟨aa', bb', M', pr', fp', h, rfl, hR', hfp'⟩⟩
    · rw [dec_same, hd] at h; cases h
    rw [dec_same, hd] at h
    simp only [Option.some.injEq, Prod.mk.injEq] at h
    obtain ⟨rfl, rfl, rfl⟩ := h
    refine ⟨(some ⟨pr', 0, none⟩, true), rfl, ?_⟩
    have hx12 := hx11.trans hx1112
    have hs10 := hx10.1
    have hs1011 := hx1011.1
    refine joinP_in ?_
    refine genQ_of (s := .bool) _ (neBool' _ _ _ _ _) ?_
    refine iteP_f rfl ?_
    refine genQ_of (s := .bool) _ (neBool' _ _ _ _ _) ?_
    refine iteP_f rfl ?_
    refine iteP_f rfl ?_
    refine drewP_h rfl fun w14 hw14 => ?_
    have hx1214 : Ext [] w12.heap w14.heap := by rw [hw14]; exact .refl _ _
    refine iteP_f rfl ?_
    have hBo : Both H p' m' pr' aa bb w14 := ⟨M, fp', hx12.trans hx1214, hU'.ext (hx1112.trans hx1214) (by simp) (by simp), hR'.ext hx1214 (by simp), by omega, by omega, fun c hc => by have := hfp' c hc; omega, fun h => by have := hfp' _ h; omega, fun h => by have := hfp' _ h; omega, hV.tree⟩
    refine callF_of (same_c hBo) ?_
    rintro e w15 ⟨rfl, _, hx1415⟩
    refine ⟨true, rfl, ?_⟩
    refine iteP_t rfl ?_
    have hx1115 := (hx1112.trans hx1214).trans hx1415
    have hx15 := hx11.trans hx1115
    refine genQ_of (s := .str) _ (convS_h uS8 u8 uStr rfl (hB.ext hx15 (by simp)) hl) ?_
    refine callF_of (encode_c rfl (hU'.ext hx1115 (by simp) (by simp))) ?_
    rintro e w16 ⟨z, rfl, hm16, hx16⟩
    refine ⟨z, rfl, ?_⟩
    rw [← hBe] at hm16
    have hzl : z.2.1 = B.length := by have := hm16.len; simp at this; omega
    refine ⟨genQ_of (s := .str) _ (convS_h uS8 u8 uStr rfl (hB.ext (hx15.trans hx16) (by simp)) hl) rfl, ?_⟩
    refine genQ_of (s := .str) _ (convS_h uS8 u8 uStr rfl hm16.cells hzl) ?_
    exact ⟨by simp, hx15.trans hx16⟩
end Go.Proofs.YtbmegmbnlajbbaaGreat
