/- The contract of UpperPlays. -/
import Derived.Test.YtbmegmbnlajbbaaGreatUv
import Derived.Test.YtbmegmbnlajbbaaGreatVa
namespace Go.Proofs.YtbmegmbnlajbbaaGreat
open Go Go.Fw Go.Proofs Go.Sort

/-- A call of a script's, in a row's cells. -/
def StepAt (H : Heap) (c : Array Value) (off : Nat) (t d : List UInt8) (k : Int) (o dr : Bool) (xN : Option Addr × Nat × Nat) (q : Path) : Prop :=
  c[off]? = some (.string (strOf t)) ∧ c[off + 1]? = some (.int .i64 k) ∧ c[off + 2]? = some (.bool o) ∧ c[off + 3]? = some (.string (strOf d)) ∧ c[off + 4]? = some (.bool dr) ∧ c[off + 5]? = some (slcV xN) ∧
  Cells H xN.1 (strRow q) ∧ xN.2.1 = q.length ∧ xN.2.1 ≤ xN.2.2 ∧ Fit q ∧ q.length ≤ 9223372036854775807
def Steps (H : Heap) (a : Option Addr) (n : Nat) : Prop := n ≤ 9223372036854775807 ∧ ∀ i, i < n → ∃ (b ob : Nat) (c : Array Value) (T : TypeId) (fr : Nat × Nat) (t d : List UInt8) (k : Int) (o dr : Bool) (xN : Option Addr × Nat × Nat) (q : Path), a = some ⟨b, ob, none⟩ ∧ H[b]? = some (.cells c T fr) ∧ StepAt H c (ob + i * 6) t d k o dr xN q
theorem Steps.ext {H H' : Heap} {a : Option Addr} {n : Nat} (h : Steps H a n) (hx : Ext [] H H') : Steps H' a n := by
  refine ⟨h.1, fun i hi => ?_⟩
  obtain ⟨b, ob, c, T, fr, t, d, k, o, dr, xN, q, h1, h2, h3, h4, h5, h6, h7, h8, h9, h10⟩ := h.2 i hi
  exact ⟨b, ob, c, T, fr, t, d, k, o, dr, xN, q, h1, hx.get h2 (by simp), h3, h4, h5, h6, h7, h8, h9.ext hx (by simp), h10⟩
theorem fits_c {w : World} {H : Heap} {a : Option Addr} {n nc : Nat} (hw : w.heap = H) (hD : Steps H a n) : CallF P F_l12_fits #[.slice a n nc] w fun e w' => ∃ b, e = .returned (.bool b) ∧ w'.heap = H := by
  obtain ⟨hn, hD⟩ := hD
  refine fn_l12_fits ?_
  unfold T_l12_fits
  refine loopP_of (fun (s : Int × Int) W => ∃ i : Nat, s.2 = (i : Int) ∧ i ≤ n ∧ W.heap = H) (fun s _ => (n - s.2).toNat) ⟨0, rfl, Nat.zero_le _, hw⟩ ?_
  rintro ⟨u, _⟩ W ⟨i, rfl, hi, hW⟩
  refine iteP_dec (fun hlt => ?_) (fun hge => ⟨_, rfl, hW⟩)
  have hil : i < n := by simp only at hlt; omega
  obtain ⟨b, ob, c, T, fr, t, d, k, o, dr, xN, q, rfl, hb, c0, c1, c2, c3, c4, c5, _⟩ := hD i hil
  refine drewP_h hW fun W2 hW2 => ?_
  refine ixS_h i rfl hil ?_
  refine ixS_h i rfl hil ?_
  refine ixS_h i rfl hil ?_
  simp only [add_none]
  refine ld_h (s := .str) (t := strOf t) hW2 hb c0 ?_
  refine ⟨_, rfl, ?_⟩
  refine ld_h (s := .str) (t := strOf d) hW2 hb c3 ?_
  refine ⟨_, rfl, ?_⟩
  refine ld_h (s := .slc) (t := xN) hW2 hb c5 ?_
  refine ⟨_, rfl, ?_⟩
  refine ⟨_, rfl, ?_⟩
  refine ⟨_, rfl, ?_⟩
  refine addI_to ((i + 1 : Nat) : Int) (by omega) (by omega) (by omega) ?_
  exact ⟨⟨i + 1, rfl, by omega, hW2⟩, by omega⟩
/-- Both upper branches, side by side. -/
def Both (H0 : Heap) (p m pr : Nat) (nn bb : Int) (W : World) : Prop := ∃ L fp, Ext [] H0 W.heap ∧ Up W.heap p m nn bb L ∧ RU W.heap fp pr nn bb L ∧ H0.size ≤ p ∧ H0.size ≤ m ∧ (∀ b ∈ fp, H0.size ≤ b) ∧ p ∉ fp ∧ m ∉ fp ∧ Tree L
theorem Up.lt {H : Heap} {p m : Nat} {n b : Int} {L : List Ino} (h : Up H p m n b L) : p < H.size ∧ m < H.size := by obtain ⟨_, _, h1, h2, _⟩ := h; exact ⟨lt_of_get h1, lt_of_get h2⟩

set_option maxHeartbeats 8000000 in
theorem play_c {w : World} {H0 : Heap} {p m pr : Nat} {nn bb : Int} {a : Option Addr} {n nc : Nat} (hB : Both H0 p m pr nn bb w) (hD : Steps H0 a n) :
    CallF P F_l12_play #[.pointer (some ⟨p, 0, none⟩), .pointer (some ⟨pr, 0, none⟩), .slice a n nc] w fun e w' => e = .returned (.bool true) ∧ Both H0 p m pr nn bb w' := by
  obtain ⟨hn, hD⟩ := hD
  refine fn_l12_play ?_
  unfold T_l12_play
  refine joinP_of (fun _ W => Both H0 p m pr nn bb W) ?_ (fun _ W h => ⟨rfl, h⟩)
  refine loopP_of (fun (s : Int) W => ∃ i : Nat, s = (i : Int) ∧ i ≤ 200 ∧ Both H0 p m pr nn bb W) (fun s _ => (200 - s).toNat) ⟨0, rfl, by omega, hB⟩ ?_
  rintro _ W ⟨i, rfl, hi, hP⟩
  refine joinP_in ?_
  refine iteP_dec (fun hlt => ?_) (fun _ => hP)
  refine iteP_dec (fun hlt2 => ?_) (fun _ => hP)
  have hil : i < n := by omega
  obtain ⟨b, ob, c, T, fr, t, d, k, o, dr, xN, q, rfl, hb, c0, c1, c2, c3, c4, c5, hN, hNl, hNc, hNf, hNq⟩ := hD i hil
  obtain ⟨L, fp, hx, hU, hR, hp0, hm0, hf0, hpf, hmf, hT⟩ := hP
  refine joinP_of (fun _ W' => Both H0 p m pr nn bb W') ?_ ?_
  rotate_left
  · rintro _ W' h
    refine addI_to ((i + 1 : Nat) : Int) (by omega) (by omega) (by omega) ?_
    exact ⟨⟨i + 1, rfl, by omega, h⟩, by omega⟩
  refine joinP_in ?_
  refine ixS_h i rfl hil ?_
  simp only [add_none]
  refine ld_h (s := .bool) (t := dr) rfl (hx.get hb (by simp)) c4 ?_
  have fin : ∀ {W1 W2 W3 : World} {L' : List Ino} {fp' : List Nat}, W1.heap = W.heap → Up W2.heap p m nn bb L' → Ext [p, m] W1.heap W2.heap → RU W3.heap fp' pr nn bb L' → Ext fp W2.heap W3.heap → (∀ b ∈ fp', b ∈ fp ∨ (W2.heap.size ≤ b ∧ b < W3.heap.size)) → Tree L' → Both H0 p m pr nn bb W3 := by
    intro W1 W2 W3 L' fp' h1 h2 h3 h4 h5 h6 hT'
    rw [h1] at h3
    have hlt := h2.lt
    have hx2 : Ext [] H0 W2.heap := hx.own h3 (by intro b hb hlt; simp at hb; omega)
    refine ⟨L', fp', hx2.own h5 (by intro b hb hlt; have := hf0 b hb; omega), h2.ext h5 hpf hmf, h4, hp0, hm0, fun b hb => ?_, fun h => ?_, fun h => ?_, hT'⟩
    · rcases h6 b hb with h | h
      · exact hf0 b h
      · have := hx2.1; omega
    · rcases h6 p h with h | h
      · exact hpf h
      · omega
    · rcases h6 m h with h | h
      · exact hmf h
      · omega
  have hpm : ∀ b ∈ fp, b ∉ [p, m] := by
    intro b hb h
    simp only [List.mem_cons, List.not_mem_nil, or_false] at h
    rcases h with rfl | rfl
    · exact hpf hb
    · exact hmf hb
  have hnpm : ∀ {W1 W2 : World}, Ext [p, m] W1.heap W2.heap → ∀ {o : Obj} {b : Nat}, b < H0.size → W1.heap[b]? = some o → W2.heap[b]? = some o := fun h o b hb ho => h.get ho (by simp; omega)
  have hbl := lt_of_get hb
  cases dr with
  | true =>
    refine iteP_t rfl ?_
    refine drewP_h rfl fun W1 hW1 => ?_
    have hx1 : Ext [] H0 W1.heap := by rw [hW1]; exact hx
    refine ixS_h i rfl hil ?_
    refine ixS_h i rfl hil ?_
    simp only [add_none]
    refine ld_h (s := .slc) (t := xN) rfl (hx1.get hb (by simp)) c5 ?_
    refine ld_h (s := .slc) (t := xN) rfl (hx1.get hb (by simp)) c5 ?_
    refine callF_of (drop_c rfl (by rw [hW1]; exact hU) (hN.ext hx1 (by simp)) hNl hNc hNf hNq) ?_
    rintro e W2 ⟨rfl, hU2, hx12⟩
    refine ⟨_, rfl, ?_⟩
    refine ⟨ld_h (s := .slc) (t := xN) rfl (hnpm hx12 hbl (hx1.get hb (by simp))) c5 rfl, ?_⟩
    have hx02 : Ext [] H0 W2.heap := hx1.own hx12 (by intro b hb hlt; simp at hb; omega)
    refine callF_of (rdrop_c rfl ((show RU W1.heap fp pr nn bb L by rw [hW1]; exact hR).ext hx12 hpm) (hN.ext hx02 (by simp)) hNl hNq) ?_
    rintro e W3 ⟨fp', rfl, hR3, hx23, hsub⟩
    refine ⟨_, rfl, ?_⟩
    refine iteP_f (by simp) ?_
    exact fin hW1 hU2 hx12 hR3 hx23 hsub (hT.drop q)
  | false =>
    refine iteP_f rfl ?_
    refine drewP_h rfl fun W1 hW1 => ?_
    have hx1 : Ext [] H0 W1.heap := by rw [hW1]; exact hx
    refine ixS_h i rfl hil ?_
    refine ixS_h i rfl hil ?_
    have h5 := (Array.getElem?_eq_some_iff.1 c5).1
    have hcs : c.extract (ob + i * 6) (ob + i * 6 + 4) = (raw t k o d).toArray := by
      apply Array.ext_getElem?
      intro j
      rw [Array.getElem?_extract]
      match j with
      | 0 => rw [if_pos (by omega)]; exact c0
      | 1 => rw [if_pos (by omega)]; exact c1
      | 2 => rw [if_pos (by omega)]; exact c2
      | 3 => rw [if_pos (by omega)]; exact c3
      | j + 4 => rw [if_neg (by omega)]; simp [raw]
    refine ldA_h rfl (hx1.get hb (by simp)) (by omega) ?_
    refine ldA_h rfl (hx1.get hb (by simp)) (by omega) ?_
    rw [hcs]
    refine callF_of (put_c (t := t) (k := k) (o := o) (d := d) rfl (by rw [hW1]; exact hU)) ?_
    rintro e W2 ⟨rfl, hU2, hx12⟩
    refine ⟨_, rfl, ?_⟩
    refine ⟨ldA_h rfl (hnpm hx12 hbl (hx1.get hb (by simp))) (by omega) (by rw [hcs]), ?_⟩
    refine callF_of (rput_c (t := t) (k := k) (o := o) (d := d) rfl ((show RU W1.heap fp pr nn bb L by rw [hW1]; exact hR).ext hx12 hpm)) ?_
    rintro e W3 ⟨fp', rfl, hR3, hx23, hsub⟩
    refine ⟨_, rfl, ?_⟩
    refine iteP_f (by simp) ?_
    exact fin hW1 hU2 hx12 hR3 hx23 hsub (Tree.put hU.good hT _ _ _ _)
theorem below_all {L : List Ino} (hG : Good L) : belowL L [] = L := by
  unfold belowL
  rw [List.filter_eq_self]
  intro i hi
  have := (hG.ok i hi).2
  unfold belowQ
  rw [within_iff.2 ⟨by simp, by simp⟩]
  cases h : i.names with
  | nil => exact absurd h this
  | cons a b => simp
theorem eqBool (x y : Operand) (a b : Bool) (w : World) : (eqM .eql y_bool x y (.bool a) (.bool b)).run P w = .ok (.bool (a == b)) w := by
  have h : (Op.equal y_bool (.bool a) (.bool b)).run P w = .ok (a == b) w := run_equalIn_bool' w 9999 y_bool a b uBool
  simp [eqM, eqGuard, binOp, h]
set_option maxHeartbeats 4000000 in
theorem same_c {w : World} {H0 : Heap} {p m pr : Nat} {nn bb : Int} (hB : Both H0 p m pr nn bb w) :
    CallF P F_l12_same #[.pointer (some ⟨p, 0, none⟩), .pointer (some ⟨pr, 0, none⟩)] w fun e w' => e = .returned (.bool true) ∧ Both H0 p m pr nn bb w' ∧ Ext [] w.heap w'.heap := by
  obtain ⟨L, fp, hx, hU, hR, hp0, hm0, hf0, hpf, hmf, hT⟩ := hB
  have hG := hU.good
  have hmany := hG.many
  obtain ⟨x, r1, r2, r3, r4, r5⟩ := id hR
  have hxl := mineI_len r2
  refine fn_l12_same ?_
  unfold T_l12_same
  refine drewP_h rfl fun w1 hw1 => ?_
  have hx1 : Ext [] w.heap w1.heap := by rw [hw1]; exact .refl _ _
  simp only [withAddr_some, add_none, Nat.zero_add]
  refine ld_h (s := .slc) (t := x) rfl (hx1.get r1 (by simp)) rfl ?_
  refine callF_of (below_c (q := []) rfl (hU.ext hx1 (by simp) (by simp)) (.inl rfl) rfl (by simp)) ?_
  rintro e w2 ⟨y, rfl, hm2, hx12⟩
  refine ⟨y, rfl, ?_⟩
  rw [below_all hG] at hm2
  have hx2 := hx1.trans hx12
  refine ⟨ld_h (s := .slc) (t := x) rfl (hx2.get r1 (by simp)) rfl rfl, ?_⟩
  refine callF_of (inodes_c rfl hm2.cells (mineI_len hm2) (r2.ext hx2 (by simp)).cells hxl (by omega)) ?_
  rintro e w3 ⟨rfl, hw3⟩
  refine ⟨true, rfl, ?_⟩
  have hx3 : Ext [] w.heap w3.heap := by rw [hw3]; exact hx2
  refine iteP_t rfl ?_
  have hp3 := hx3.get r1 (by simp)
  have hU3 := hU.ext hx3 (by simp) (by simp)
  have hR3 := hR.ext hx3 (by simp)
  refine ld_h (s := .slc) (t := x) rfl hp3 rfl ?_
  refine callF_of (count_c rfl hU3) ?_
  rintro e w4 ⟨rfl, hw4⟩
  subst w4
  refine ⟨(L.length : Int), rfl, ?_⟩
  refine ⟨ld_h (s := .slc) (t := x) rfl hp3 rfl rfl, ?_⟩
  refine iteP_t (by simp [hxl]) ?_
  refine callF_of (size_c rfl hU3) ?_
  rintro e w5 ⟨rfl, hw5⟩
  subst w5
  refine ⟨(tot L : Int), rfl, ?_⟩
  refine callF_of (rsize_c rfl hR3) ?_
  rintro e w6 ⟨rfl, hw6⟩
  subst w6
  refine ⟨(tot L : Int), rfl, ?_⟩
  refine iteP_t (by simp) ?_
  refine callF_of (over_c rfl hU3) ?_
  rintro e w7 ⟨rfl, hw7⟩
  refine ⟨overB nn bb L, rfl, ?_⟩
  have hx37 : Ext [] w3.heap w7.heap := by rw [hw7]; exact .refl _ _
  refine callF_of (rover_c rfl (hR3.ext hx37 (by simp))) ?_
  rintro e w8 ⟨rfl, hw8⟩
  refine ⟨overB nn bb L, rfl, ?_⟩
  have hx38 : Ext [] w3.heap w8.heap := by rw [hw8]; exact hx37
  refine genQ_of (s := .bool) _ (eqBool _ _ _ _ _) ?_
  exact ⟨by simp, ⟨L, fp, hx.trans (hx3.trans hx38), hU3.ext hx38 (by simp) (by simp), hR3.ext hx38 (by simp), hp0, hm0, hf0, hpf, hmf, hT⟩, hx3.trans hx38⟩

end Go.Proofs.YtbmegmbnlajbbaaGreat
