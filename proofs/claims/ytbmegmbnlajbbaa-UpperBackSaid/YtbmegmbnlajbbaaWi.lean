/- UpperBack's contract: the walk of the law. -/
import Derived.Test.YtbmegmbnlajbbaaWf
import Derived.Test.YtbmegmbnlajbbaaWg
namespace Go.Proofs.Ytbmegmbnlajbbaa
open Go Go.Fw Go.Proofs Go.Sort

theorem encU_len {nn bb : Int} {L : List Ino} (h : Good L) : 3 ≤ (encU nn bb L).length ∧ (encU nn bb L).length ≤ 1400000 := by
  have hlen := inosB_len (L := L) fun i hi => inoB_len (h.ok i hi).1 (h.small i hi)
  have hmany := h.many
  have pos : ∀ k, 1 ≤ (uintB k).length := by
    intro k
    unfold uintB
    rw [numB]
    split <;> simp
  have u1 := @uintB_len nn
  have u2 := @uintB_len bb
  have u3 := @uintB_len (L.length : Int)
  have p1 := pos nn
  have p2 := pos bb
  have p3 := pos (L.length : Int)
  simp only [encU, List.length_append]
  omega
theorem neBool (x y : Operand) (a b : Bool) (w : World) : (eqM .neq y_bool x y (.bool a) (.bool b)).run P w = .ok (.bool (a != b)) w := by
  have h : (Op.equal y_bool (.bool a) (.bool b)).run P w = .ok (a == b) w := run_equalIn_bool' w 9999 y_bool a b uBool
  simp [eqM, eqGuard, binOp, h, bne]
set_option maxHeartbeats 8000000 in
theorem back_c {w : World} {H : Heap} {nn bb : Int} {a : Option Addr} {n nc : Nat} (hw : w.heap = H) (hD : Steps H a n) :
    CallF P F_l12_UpperBack #[.int .i64 nn, .int .i64 bb, .slice a n nc] w fun e w' => e = .returned (.bool true) ∧ Ext [] H w'.heap := by
  refine fn_l12_UpperBack ?_
  unfold T_l12_UpperBack
  refine callF_of (awake_c hw) ?_
  rintro e w1 ⟨rfl, hx1⟩
  refine ⟨true, rfl, ?_⟩
  refine iteP_f rfl ?_
  refine callF_of (fits_c rfl (hD.ext hx1)) ?_
  rintro e w2 ⟨fb, rfl, hw2⟩
  refine ⟨fb, rfl, ?_⟩
  have hx2 : Ext [] H w2.heap := by rw [hw2]; exact hx1
  cases fb with
  | false => exact iteP_t rfl ⟨rfl, hx2⟩
  | true =>
  refine iteP_f rfl ?_
  refine callF_of (new_c nn bb rfl) ?_
  rintro e w3 (⟨hno, rfl, hw3⟩ | ⟨hok, p, m, rfl, hU, hx3, hp1, hp2, hm1, hm2⟩)
  · refine ⟨(none, 1), rfl, ?_⟩
    exact iteP_t rfl ⟨rfl, by rw [hw3]; exact hx2⟩
  refine ⟨(some ⟨p, 0, none⟩, 0), rfl, ?_⟩
  refine iteP_f rfl ?_
  have hx03 := hx2.trans hx3
  have hs2 := hx2.1
  obtain ⟨hn, hDs⟩ := hD
  refine joinP_of (fun _ W => ∃ L, Ext [] H W.heap ∧ Up W.heap p m nn bb L ∧ Val L) ?_ ?_
  · refine joinP_in ?_
    refine loopP_of (fun (s : Int) W => ∃ i : Nat, s = (i : Int) ∧ i ≤ 200 ∧ ∃ L, Ext [] H W.heap ∧ Up W.heap p m nn bb L ∧ Val L) (fun s _ => (200 - s).toNat) ⟨0, rfl, by omega, [], hx03, hU, Val.nil⟩ ?_
    rintro _ W ⟨i, rfl, hi, L, hxW, hUW, hV⟩
    refine joinP_in ?_
    refine iteP_dec (fun hlt => ?_) (fun _ => ⟨L, hxW, hUW, hV⟩)
    refine iteP_dec (fun hlt2 => ?_) (fun _ => ⟨L, hxW, hUW, hV⟩)
    have hil : i < n := by omega
    obtain ⟨b, ob, c, T, fr, t, d, k, o, dr, xN, q, rfl, hb, c0, c1, c2, c3, c4, c5, hN, hNl, hNc, hNf, hNq⟩ := hDs i hil
    refine joinP_of (fun _ W' => ∃ L, Ext [] H W'.heap ∧ Up W'.heap p m nn bb L ∧ Val L) ?_ ?_
    rotate_left
    · rintro _ W' ⟨L', hx', hU', hV'⟩
      refine addI_to ((i + 1 : Nat) : Int) (by omega) (by omega) (by omega) ?_
      exact ⟨⟨i + 1, rfl, by omega, L', hx', hU', hV'⟩, by omega⟩
    refine joinP_in ?_
    refine ixS_h i rfl hil ?_
    simp only [add_none]
    refine ld_h (s := .bool) (t := dr) rfl (hxW.get hb (by simp)) c4 ?_
    cases dr with
    | true =>
      refine iteP_t rfl ?_
      refine ixS_h i rfl hil ?_
      simp only [add_none]
      refine ld_h (s := .slc) (t := xN) rfl (hxW.get hb (by simp)) c5 ?_
      refine callF_of (drop_c rfl hUW (hN.ext hxW (by simp)) hNl hNc hNf hNq) ?_
      rintro e W2 ⟨rfl, hU2, hx12⟩
      refine ⟨_, rfl, ?_⟩
      exact ⟨_, hxW.own hx12 (by intro c hc hlt; simp at hc; omega), hU2, hV.drop q⟩
    | false =>
      refine iteP_f rfl ?_
      refine ixS_h i rfl hil ?_
      have h5 := (Array.getElem?_eq_some_iff.1 c5).1
      have hcs : c.extract (ob + i * 6) (ob + i * 6 + 4) = (raw t k o d).toArray := by
        apply Array.ext_getElem?
        intro j
        rw [Array.getElem?_extract]
        match j with
        | 0 => rw [if_pos (by omega)]; exact c0
        | 1 => rw [if_pos (by omega)]; exact c1
        | 2 => rw [if_pos (by omega)]; exact c2
        | 3 => rw [if_pos (by omega)]; exact c3
        | j + 4 => rw [if_neg (by omega)]; simp [raw]
      refine ldA_h rfl (hxW.get hb (by simp)) (by omega) ?_
      rw [hcs]
      refine callF_of (put_c (t := t) (k := k) (o := o) (d := d) rfl hUW) ?_
      rintro e W2 ⟨rfl, hU2, hx12⟩
      refine ⟨_, rfl, ?_⟩
      exact ⟨_, hxW.own hx12 (by intro c hc hlt; simp at hc; omega), hU2, hV.put t k o d⟩
  rintro _ W ⟨L, hxW, hUW, hV⟩
  have hG := hV.good
  obtain ⟨hn0, hn1, hb0, hb1⟩ := hok
  obtain ⟨na, rfl⟩ := Int.eq_ofNat_of_zero_le hn0
  obtain ⟨ba, rfl⟩ := Int.eq_ofNat_of_zero_le hb0
  have hEl := encU_len (nn := (na : Int)) (bb := (ba : Int)) hG
  have hdec := decU_enc (a := na) (b := ba) (by omega) (by omega) hV
  have hmore := decU_more (a := na) (b := ba) (by omega) (by omega) hV 0
  obtain ⟨E, x, hE⟩ : ∃ E x, encU na ba L = E ++ [x] := by
    refine ⟨(encU na ba L).dropLast, (encU na ba L).getLast (by intro h; rw [h] at hEl; simp at hEl), ?_⟩
    exact (List.dropLast_concat_getLast _).symm
  have hless := decU_less (a := na) (b := ba) (by omega) (by omega) hV hE
  refine callF_of (encode_c rfl hUW) ?_
  rintro e w12 ⟨y, rfl, hm12, hx12⟩
  refine ⟨y, rfl, ?_⟩
  generalize hB : encU na ba L = B at *
  have hyl : y.2.1 = B.length := by have := hm12.len; simp at this; omega
  have hyc := mine_ok hm12
  have hU12 := hUW.ext hx12 (by simp) (by simp)
  have hx012 := hxW.trans hx12
  refine callF_of (decode_c rfl hm12.cells hyl (by omega)) ?_
  rintro e w13 ⟨hx13, ⟨h, _⟩ | ⟨a', b', M, p', m', hd', rfl, hU13', hp', hm'⟩⟩
  · rw [hdec] at h; cases h
  rw [hdec] at hd'
  simp only [Option.some.injEq, Prod.mk.injEq] at hd'
  obtain ⟨rfl, rfl, rfl⟩ := hd'
  refine ⟨(some ⟨p', 0, none⟩, 0), rfl, ?_⟩
  have hx1213 := hx12.trans hx13
  have hU13 := hU12.ext hx13 (by simp) (by simp)
  have hm13 := hm12.ext hx13 (by simp)
  have hx013 := hx012.trans hx13
  refine joinP_of (fun _ W' => Ext [] w13.heap W'.heap) ?_ ?_
  · refine drewP_h rfl fun w14 hw14 => ?_
    have hx14 : Ext [] w13.heap w14.heap := by rw [hw14]; exact .refl _ _
    refine iteP_f rfl ?_
    refine iteP_f rfl ?_
    refine genQ_of (s := .str) _ (convS_h uS8 u8 uStr rfl (hm13.ext hx14 (by simp)).cells hyl) ?_
    refine callF_of (encode_c rfl (hU13'.ext hx14 (by simp) (by simp))) ?_
    rintro e w15 ⟨z, rfl, hm15, hx15⟩
    refine ⟨z, rfl, ?_⟩
    rw [hB] at hm15
    have hzl : z.2.1 = B.length := by have := hm15.len; simp at this; omega
    have hx1315 := hx14.trans hx15
    refine ⟨genQ_of (s := .str) _ (convS_h uS8 u8 uStr rfl (hm13.ext hx1315 (by simp)).cells hyl) rfl, ?_⟩
    refine genQ_of (s := .str) _ (convS_h uS8 u8 uStr rfl hm15.cells hzl) ?_
    refine iteP_f (by simp) ?_
    refine callF_of (below_c (q := []) rfl (hU13'.ext hx1315 (by simp) (by simp)) (.inl rfl) rfl (by simp)) ?_
    rintro e w16 ⟨u, rfl, hm16, hx16⟩
    refine ⟨u, rfl, ?_⟩
    have hx1316 := hx1315.trans hx16
    refine callF_of (below_c (q := []) rfl (hU13.ext hx1316 (by simp) (by simp)) (.inl rfl) rfl (by simp)) ?_
    rintro e w17 ⟨v, rfl, hm17, hx17⟩
    refine ⟨v, rfl, ?_⟩
    rw [below_all hG] at hm16 hm17
    have hmany := hG.many
    refine callF_of (inodes_c rfl (hm16.ext hx17 (by simp)).cells (mineI_len hm16) hm17.cells (mineI_len hm17) (by omega)) ?_
    rintro e w18 ⟨rfl, hw18⟩
    refine ⟨true, rfl, ?_⟩
    refine iteP_f rfl ?_
    have hx1318 : Ext [] w13.heap w18.heap := by rw [hw18]; exact hx1316.trans hx17
    refine callF_of (over_c rfl (hU13'.ext hx1318 (by simp) (by simp))) ?_
    rintro e w19 ⟨rfl, hw19⟩
    refine ⟨_, rfl, ?_⟩
    have hx1319 : Ext [] w13.heap w19.heap := by rw [hw19]; exact hx1318
    refine callF_of (over_c rfl (hU13.ext hx1319 (by simp) (by simp))) ?_
    rintro e w20 ⟨rfl, hw20⟩
    refine ⟨_, rfl, ?_⟩
    have hx1320 : Ext [] w13.heap w20.heap := by rw [hw20]; exact hx1319
    refine genQ_of (s := .bool) _ (neBool _ _ _ _ _) ?_
    refine iteP_f (by simp) ?_
    refine callF_of (size_c rfl (hU13'.ext hx1320 (by simp) (by simp))) ?_
    rintro e w21 ⟨rfl, hw21⟩
    subst w21
    refine ⟨_, rfl, ?_⟩
    refine callF_of (size_c rfl (hU13.ext hx1320 (by simp) (by simp))) ?_
    rintro e w22 ⟨rfl, hw22⟩
    subst w22
    refine ⟨_, rfl, ?_⟩
    exact iteP_f (by simp) hx1320
  rintro _ w23 hx23
  have hm23 := hm13.ext hx23 (by simp)
  have hx023 := hx013.trans hx23
  refine nil8 rfl fun w24 hx24 hm24 => ?_
  refine app8 rfl hm24 (by have := hx24.1; omega) (hm23.ext hx24 (by simp)).cells hyl (by simp; omega) fun x25 w25 hm25 hx25 hs25 => ?_
  rw [List.nil_append] at hm25
  have hx2325 := own_new hx24 hm24 (Nat.le_refl _) hx25
  refine one8 0 rfl rfl fun w26 hx26 hm26 => ?_
  have hs26 := (hx2325.trans hx26).1
  refine app8 rfl (hm25.ext hx26 (by simp)) (by omega) hm26.cells rfl (by simp; omega) fun x27 w27 hm27 hx27 hs27 => ?_
  have hx2327 := own_new (hx2325.trans hx26) (hm25.ext hx26 (by simp)) (Nat.le_refl _) hx27
  refine callF_of (decode_c rfl hm27.cells (by have := hm27.len; simp at this; simp; omega) (by simp; omega)) ?_
  rintro e w28 ⟨hx28, ⟨_, rfl⟩ | ⟨_, _, _, _, _, hd, _⟩⟩
  rotate_left
  · rw [hmore] at hd; cases hd
  refine ⟨(none, 21), rfl, ?_⟩
  have hx2328 := hx2327.trans hx28
  have hm28 := hm23.ext hx2328 (by simp)
  have hBl : B.length = E.length + 1 := by rw [hE]; simp
  refine subI_to ((y.2.1 - 1 : Nat) : Int) (by omega) (by omega) (by omega) ?_
  refine genQ_of (s := .slc) (if y.2.2 = 0 then y.1 else y.1.map (·.add (0 * 1)), (y.2.1 - 1) - 0, y.2.2 - 0) (run_slice_slc uS8 sz8 .no (.yes rfl) (Nat.zero_le _) (show y.2.1 - 1 ≤ y.2.2 by omega)) ?_
  have hcut := (Mine.cut hm28 (k := y.2.1 - 1) (by omega)).cells
  have hcut : Cells w28.heap (if y.2.2 = 0 then y.1 else y.1.map (·.add (0 * 1))) ((byteCells B).take (y.2.1 - 1)) := hcut
  rw [byteCells_take, show B.take (y.2.1 - 1) = E by rw [hE, hyl, hBl]; simp] at hcut
  refine callF_of (decode_c rfl hcut (by simp only; omega) (by omega)) ?_
  rintro e w29 ⟨hx29, ⟨_, rfl⟩ | ⟨_, _, _, _, _, hd, _⟩⟩
  rotate_left
  · rw [hless] at hd; cases hd
  refine ⟨(none, 21), rfl, ?_⟩
  exact iteP_t rfl ⟨rfl, (hx023.trans hx2328).trans hx29⟩
end Go.Proofs.Ytbmegmbnlajbbaa
