/- UpperRefused's contract: Clone, and the walk of the law. -/
import Derived.Test.YtbmegmbnlajbbaaVg
import Derived.Test.YtbmegmbnlajbbaaWb
namespace Go.Proofs.Ytbmegmbnlajbbaa
open Go Go.Fw Go.Proofs Go.Sort

theorem eqIn_nil_map {w : World} {t k e : TypeId} {m : Option Nat} (d : Nat) (h : P.underlying t = some (.map k e)) : (Op.equalIn (d + 1) t (.map m) (.map none)).run P w = .ok m.isNone w := by
  cases m <;> simp [Op.equalIn, run_underlying' h]
theorem eqM_map {w : World} {x y : Operand} {t k e : TypeId} {m : Option Nat} (h : P.underlying t = some (.map k e)) : (eqM .eql t x y (.map m) (.map none)).run P w = .ok (.bool m.isNone) w := by
  have hg : (eqGuard .eql t x y (.map m) (.map none)).run P w = .ok () w := by unfold eqGuard; split <;> rfl
  have he : (Op.equal t (.map m) (.map none)).run P w = .ok m.isNone w := eqIn_nil_map 9999 h
  simp only [eqM, Sem.run_bind, hg, Result.andThen_ok, binOp, he, Sem.run_pure]
theorem mclone_c {w : World} {H : Heap} {m : Nat} {es : Array MapEntry} {c : Nat} (hw : w.heap = H) (hm : H[m]? = some (.map es c)) :
    CallF P F_maps_Clone_M_string_api_Inode_string_api_Inode #[.map (some m)] w fun e w' => e = .returned (.map (some H.size)) ∧ w'.heap = H.push (.map es c) := by
  refine fn_maps_Clone_M_string_api_Inode_string_api_Inode ?_
  unfold T_maps_Clone_M_string_api_Inode_string_api_Inode
  refine genQ_of (s := .bool) _ (eqM_map uM) ?_
  refine iteP_f rfl ?_
  refine genQ_of (s := .any) (.iface y_M_string_api_Inode (.map (some m))) (by simp [Instr.makeInterface, run_underlying' uM]; rfl) ?_
  have hrun : (Extern.MapsClone.clone #[.iface y_M_string_api_Inode (.map (some m))]).run P w = .ok (.iface y_M_string_api_Inode (.map (some H.size))) { w with heap := H.push (.map es c) } := by
    have hcl : Extern.MapsClone.clone #[.iface y_M_string_api_Inode (.map (some m))] = (getObj m >>= fun x => match x with
      | .map entries clock => (newObj (.map entries clock) >>= fun r => pure (.iface y_M_string_api_Inode (.map (some r))))
      | _ => stuck "maps.clone: a map expected") := rfl
    rw [hcl]
    simp only [Sem.run_bind, get_h hw hm (by intros; simp), Result.andThen_ok]
    subst hw
    simp
  refine callF_extW (l := [.any]) (.iface y_M_string_api_Inode (.map (some H.size))) { w with heap := H.push (.map es c) } (by rw [x_maps_clone (e := Extern.MapsClone.clone) (by kernel_rfl), hrun]; rfl) ⟨rfl, rfl, rfl, Nat.le_refl _⟩ ?_
  refine genQ_of (s := .map) (some H.size) (by simp [Instr.typeAssert, run_underlying' uM]; rfl) ?_
  exact ⟨rfl, rfl⟩
theorem zcU : (zc P y_upper_Upper).size = 4 := by kernel_rfl
theorem szU : P.cellsOf y_upper_Upper = 4 := by kernel_rfl
theorem clone_c {w : World} {H : Heap} {p m : Nat} {nn bb : Int} {L : List Ino} (hw : w.heap = H) (hU : Up H p m nn bb L) :
    CallF P F_upper_Upper_Clone #[.pointer (some ⟨p, 0, none⟩)] w fun e w' => ∃ p' m', e = .returned (.pointer (some ⟨p', 0, none⟩)) ∧ Up w'.heap p' m' nn bb L ∧ Ext [] H w'.heap ∧ H.size ≤ p' ∧ H.size ≤ m' := by
  obtain ⟨M, c, h1, h2, h3, h4⟩ := hU
  refine fn_upper_Upper_Clone ?_
  unfold T_upper_Upper_Clone
  refine iteP_f rfl ?_
  simp only [withAddr_some]
  refine ldA_all hw h1 rfl ?_
  refine var_g (v := .agg #[.int .i64 nn, .int .i64 bb, .int .i64 (tot L : Int), .map (some m)]) szU zcU (by simp [Value.cells]) (by intro v hv; simp [Value.cells] at hv; rcases hv with rfl | rfl | rfl | rfl <;> rfl) hw fun w2 hw2 => ?_
  have hx2 : Ext [] H w2.heap := by rw [hw2]; exact .push _
  have hb2 : w2.heap[H.size]? = some (.cells #[.int .i64 nn, .int .i64 bb, .int .i64 (tot L : Int), .map (some m)] y_upper_Upper (0, 0)) := by rw [hw2]; exact push_new
  simp only [add_none, Nat.zero_add]
  refine ld_h (s := .map) (t := some m) rfl (hx2.get h1 (by simp)) rfl ?_
  refine callF_of (mclone_c rfl (hx2.get h2 (by simp))) ?_
  rintro e w3 ⟨rfl, hw3⟩
  refine ⟨some w2.heap.size, rfl, ?_⟩
  have hx3 : Ext [] w2.heap w3.heap := by rw [hw3]; exact .push _
  have hm3 : w3.heap[w2.heap.size]? = some (.map (ents keyS (vl valI M)) c) := by rw [hw3]; exact push_new
  have hb3 := hx3.get hb2 (by simp)
  refine stC_h rfl hb3 (by simp) fun w4 hw4 => ?_
  have hlt := lt_of_get hb2
  refine ⟨H.size, w2.heap.size, rfl, ⟨M, c, by rw [hw4]; exact set_new hb3, by rw [hw4]; exact set_old hm3 (by omega), h3, h4⟩, ?_, Nat.le_refl _, by omega⟩
  rw [hw4]
  exact (hx2.trans hx3).set_own (.inl (Nat.le_refl _))

set_option maxHeartbeats 8000000 in
theorem refused_c {w : World} {H : Heap} {a : Option Addr} {n nc : Nat} (hw : w.heap = H) (hD : Steps H a n) :
    CallF P F_l12_UpperRefused #[.slice a n nc] w fun e w' => e = .returned (.bool true) ∧ Ext [] H w'.heap := by
  refine fn_l12_UpperRefused ?_
  unfold T_l12_UpperRefused
  refine callF_of (awake_c hw) ?_
  rintro e w1 ⟨rfl, hx1⟩
  refine ⟨true, rfl, ?_⟩
  refine iteP_f rfl ?_
  refine callF_of (fits_c rfl (hD.ext hx1)) ?_
  rintro e w2 ⟨fb, rfl, hw2⟩
  refine ⟨fb, rfl, ?_⟩
  have hx2 : Ext [] H w2.heap := by rw [hw2]; exact hx1
  cases fb with
  | false => exact iteP_t rfl ⟨rfl, hx2⟩
  | true =>
  refine iteP_f rfl ?_
  have hok : newOk 9 99 := by unfold newOk; omega
  refine callF_of (new_c 9 99 rfl) ?_
  rintro e w3 (⟨h, _⟩ | ⟨_, p, m, rfl, hU, hx3, hp1, hp2, hm1, hm2⟩)
  · exact absurd hok h
  refine ⟨(some ⟨p, 0, none⟩, 0), rfl, ?_⟩
  refine iteP_f rfl ?_
  have hx03 := hx2.trans hx3
  have hs2 := hx2.1
  obtain ⟨hn, hDs⟩ := hD
  refine joinP_of (fun _ W => Ext [] H W.heap) ?_ ?_
  · refine joinP_in ?_
    refine loopP_of (fun (s : Int) W => ∃ i : Nat, s = (i : Int) ∧ i ≤ 60 ∧ ∃ L, Ext [] H W.heap ∧ Up W.heap p m 9 99 L) (fun s _ => (60 - s).toNat) ⟨0, rfl, by omega, [], hx03, hU⟩ ?_
    rintro _ W ⟨i, rfl, hi, L, hxW, hUW⟩
    refine joinP_in ?_
    refine iteP_dec (fun hlt => ?_) (fun _ => hxW)
    refine iteP_dec (fun hlt2 => ?_) (fun _ => hxW)
    have hil : i < n := by omega
    obtain ⟨b, ob, c, T, fr, t, d, k, o, dr, xN, q, rfl, hb, c0, c1, c2, c3, c4, c5, hN, hNl, hNc, hNf, hNq⟩ := hDs i hil
    refine joinP_of (fun _ W' => ∃ L, Ext [] H W'.heap ∧ Up W'.heap p m 9 99 L) ?_ ?_
    rotate_left
    · rintro _ W' ⟨L', hx', hU'⟩
      refine addI_to ((i + 1 : Nat) : Int) (by omega) (by omega) (by omega) ?_
      exact ⟨⟨i + 1, rfl, by omega, L', hx', hU'⟩, by omega⟩
    refine joinP_in ?_
    refine callF_of (encode_c rfl hUW) ?_
    rintro e w6 ⟨y, rfl, hm6, hx6⟩
    refine ⟨y, rfl, ?_⟩
    have hyl : y.2.1 = (encU 9 99 L).length := by have := hm6.len; simp at this; omega
    have hU6 := hUW.ext hx6 (by simp) (by simp)
    refine callF_of (clone_c rfl hU6) ?_
    rintro e w7 ⟨p', m', rfl, hU7', hx67, hp', hm'⟩
    refine ⟨some ⟨p', 0, none⟩, rfl, ?_⟩
    have hU7 := hU6.ext hx67 (by simp) (by simp)
    have hx7 := (hxW.trans hx6).trans hx67
    have hm7 := hm6.ext hx67 (by simp)
    have hlt6 := hU6.lt
    have hpm : ∀ c, c ∈ [p, m] → c < w6.heap.size := by intro c hc; simp at hc; rcases hc with rfl | rfl; exact hlt6.1; exact hlt6.2
    have hltW := hUW.lt
    -- what stays when the store alone is written to
    have stay : ∀ {W1 W2 : World}, W1.heap = w7.heap → Ext [p, m] W1.heap W2.heap → Ext [] H W2.heap ∧ Up W2.heap p' m' 9 99 L ∧ Mine W2.heap W.heap.size y_uint8 1 y (byteCells (encU 9 99 L)) := by
      intro W1 W2 h1 h2
      rw [h1] at h2
      refine ⟨hx7.own h2 (by intro c hc hlt; simp at hc; omega), hU7'.ext h2 (fun h => by have := hpm _ h; omega) (fun h => by have := hpm _ h; omega), hm7.ext h2 fun c hc h => ?_⟩
      have := ownM_ge hm7 c hc
      simp at h; omega
    refine joinP_of (fun _ W' => Ext [] H W'.heap ∧ Up W'.heap p' m' 9 99 L ∧ Mine W'.heap W.heap.size y_uint8 1 y (byteCells (encU 9 99 L)) ∧ ∃ L', Up W'.heap p m 9 99 L') ?_ ?_
    rotate_left
    · rintro _ W' ⟨hxa, hUa, hma, L', hUb⟩
      refine drewP_h rfl fun W1 hW1 => ?_
      have hx1' : Ext [] W'.heap W1.heap := by rw [hW1]; exact .refl _ _
      refine genQ_of (s := .str) _ (convS_h uS8 u8 uStr rfl (hma.ext hx1' (by simp)).cells hyl) ?_
      refine callF_of (encode_c rfl (hUa.ext hx1' (by simp) (by simp))) ?_
      rintro e W2 ⟨z, rfl, hm2', hx2'⟩
      refine ⟨z, rfl, ?_⟩
      have hzl : z.2.1 = (encU 9 99 L).length := by have := hm2'.len; simp at this; omega
      refine ⟨genQ_of (s := .str) _ (convS_h uS8 u8 uStr rfl (hma.ext (hx1'.trans hx2') (by simp)).cells hyl) rfl, ?_⟩
      refine genQ_of (s := .str) _ (convS_h uS8 u8 uStr rfl hm2'.cells hzl) ?_
      refine iteP_f (by simp) ?_
      exact ⟨L', hxa.trans (hx1'.trans hx2'), hUb.ext (hx1'.trans hx2') (by simp) (by simp)⟩
    refine ixS_h i rfl hil ?_
    simp only [add_none]
    refine ld_h (s := .bool) (t := dr) rfl (hx7.get hb (by simp)) c4 ?_
    cases dr with
    | true =>
      refine iteP_t rfl ?_
      refine ixS_h i rfl hil ?_
      simp only [add_none]
      refine ld_h (s := .slc) (t := xN) rfl (hx7.get hb (by simp)) c5 ?_
      refine callF_of (drop_c rfl hU7 (hN.ext hx7 (by simp)) hNl hNc hNf hNq) ?_
      rintro e W2 ⟨rfl, hU2, hx12⟩
      refine ⟨_, rfl, ?_⟩
      obtain ⟨g1, g2, g3⟩ := stay rfl hx12
      exact ⟨g1, g2, g3, _, hU2⟩
    | false =>
      refine iteP_f rfl ?_
      refine drewP_h rfl fun W1 hW1 => ?_
      have hx1' : Ext [] H W1.heap := by rw [hW1]; exact hx7
      refine ixS_h i rfl hil ?_
      have h5 := (Array.getElem?_eq_some_iff.1 c5).1
      have hcs : c.extract (ob + i * 6) (ob + i * 6 + 4) = (raw t k o d).toArray := by
        apply Array.ext_getElem?
        intro j
        rw [Array.getElem?_extract]
        match j with
        | 0 => rw [if_pos (by omega)]; exact c0
        | 1 => rw [if_pos (by omega)]; exact c1
        | 2 => rw [if_pos (by omega)]; exact c2
        | 3 => rw [if_pos (by omega)]; exact c3
        | j + 4 => rw [if_neg (by omega)]; simp [raw]
      refine ldA_h rfl (hx1'.get hb (by simp)) (by omega) ?_
      rw [hcs]
      refine callF_of (put_c (t := t) (k := k) (o := o) (d := d) rfl (by rw [hW1]; exact hU7)) ?_
      rintro e W2 ⟨rfl, hU2, hx12⟩
      refine ⟨_, rfl, ?_⟩
      obtain ⟨g1, g2, g3⟩ := stay hW1 hx12
      refine iteP_ne (fun hne => ?_) (fun _ => ⟨trivial, g1, g2, g3, _, hU2⟩)
      have hsame := putL_same hne
      rw [hsame] at hU2
      refine genQ_of (s := .str) _ (convS_h uS8 u8 uStr rfl g3.cells hyl) ?_
      refine callF_of (encode_c rfl hU2) ?_
      rintro e W3 ⟨z, rfl, hm3', hx3'⟩
      refine ⟨z, rfl, ?_⟩
      have hzl : z.2.1 = (encU 9 99 L).length := by have := hm3'.len; simp at this; omega
      refine ⟨genQ_of (s := .str) _ (convS_h uS8 u8 uStr rfl (g3.ext hx3' (by simp)).cells hyl) rfl, ?_⟩
      refine genQ_of (s := .str) _ (convS_h uS8 u8 uStr rfl hm3'.cells hzl) ?_
      refine iteP_f (by simp) ?_
      exact ⟨g1.trans hx3', g2.ext hx3' (by simp) (by simp), g3.ext hx3' (by simp), L, hU2.ext hx3' (by simp) (by simp)⟩
  rintro _ W hxW
  refine genL_of (s := .slc) (some ⟨W.heap.size, 0, none⟩, 1, 1) _ (build1_g Estr uSstr (v := .string (ByteArray.mk #[97])) rfl (by omega) (by omega)) ?_
  refine callF_of get_nil ?_
  rintro e w20 ⟨rfl, hx20⟩
  refine ⟨(.agg (raw [] 0 false []).toArray, false), rfl, ?_⟩
  have hx020 := (hxW.trans (Ext.push (.cells (Value.string (ByteArray.mk #[97])).cells y_string))).trans hx20
  rw [zcI]
  refine newB_h rfl fun w21 hw21 => ?_
  have hb21 : w21.heap[w20.heap.size]? = some (.cells (raw [] 0 false []).toArray y_api_Inode (0, 0)) := by rw [hw21]; exact push_new
  refine stI rfl hb21 rfl (vs := raw [] 0 false []) rfl one_raw fun w22 hw22 => ?_
  have hx2022 : Ext [] w20.heap w22.heap := by rw [hw22, hw21]; exact (Ext.push _).set_own (.inl (Nat.le_refl _))
  refine genQ_of (s := .any) zI (bI _) ?_
  refine callF_of put_nil ?_
  rintro e w23 ⟨rfl, hx23⟩
  refine ⟨7, rfl, ?_⟩
  have hx023 := (hx020.trans hx2022).trans hx23
  refine iteP_t rfl ?_
  refine iteP_t rfl ?_
  refine callF_of drop_nil ?_
  rintro e w24 ⟨rfl, hx24⟩
  refine ⟨0, rfl, ?_⟩
  refine iteP_t rfl ?_
  refine callF_of below_nil ?_
  rintro e w25 ⟨rfl, hw25⟩
  subst w25
  refine ⟨(none, 0, 0), rfl, ?_⟩
  refine iteP_t rfl ?_
  refine callF_of count_nil ?_
  rintro e w26 ⟨rfl, hw26⟩
  subst w26
  refine ⟨0, rfl, ?_⟩
  refine iteP_t rfl ?_
  refine callF_of size_nil ?_
  rintro e w27 ⟨rfl, hw27⟩
  subst w27
  refine ⟨0, rfl, ?_⟩
  refine iteP_t rfl ?_
  refine callF_of over_nil ?_
  rintro e w28 ⟨rfl, hw28⟩
  refine ⟨false, rfl, ?_⟩
  refine iteP_t rfl ?_
  refine callF_of clone_nil ?_
  rintro e w29 ⟨rfl, hw29⟩
  subst w29
  refine ⟨none, rfl, ?_⟩
  refine iteP_t rfl ?_
  refine callF_of encode_nil ?_
  rintro e w30 ⟨rfl, hw30⟩
  subst w30
  refine ⟨(none, 0, 0), rfl, ?_⟩
  exact ⟨rfl, by rw [hw28]; exact hx023.trans hx24⟩
end Go.Proofs.Ytbmegmbnlajbbaa
