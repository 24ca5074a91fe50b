/- The contract of UpperPlays. -/
import Derived.Test.YtbmegmbnlajbbaaUv
import Derived.Test.YtbmegmbnlajbbaaVa
namespace Go.Proofs.Ytbmegmbnlajbbaa
open Go Go.Fw Go.Proofs Go.Sort

/-- A call of a script's, in a row's cells. -/
def StepAt (H : Heap) (c : Array Value) (off : Nat) (t d : List UInt8) (k : Int) (o dr : Bool) (xN : Option Addr × Nat × Nat) (q : Path) : Prop :=
  c[off]? = some (.string (strOf t)) ∧ c[off + 1]? = some (.int .i64 k) ∧ c[off + 2]? = some (.bool o) ∧ c[off + 3]? = some (.string (strOf d)) ∧ c[off + 4]? = some (.bool dr) ∧ c[off + 5]? = some (slcV xN) ∧
  Cells H xN.1 (strRow q) ∧ xN.2.1 = q.length ∧ xN.2.1 ≤ xN.2.2 ∧ Fit q ∧ q.length ≤ 9223372036854775807
def Steps (H : Heap) (a : Option Addr) (n : Nat) : Prop := n ≤ 9223372036854775807 ∧ ∀ i, i < n → ∃ (b ob : Nat) (c : Array Value) (T : TypeId) (fr : Nat × Nat) (t d : List UInt8) (k : Int) (o dr : Bool) (xN : Option Addr × Nat × Nat) (q : Path), a = some ⟨b, ob, none⟩ ∧ H[b]? = some (.cells c T fr) ∧ StepAt H c (ob + i * 6) t d k o dr xN q
theorem Steps.ext {H H' : Heap} {a : Option Addr} {n : Nat} (h : Steps H a n) (hx : Ext [] H H') : Steps H' a n := by
  refine ⟨h.1, fun i hi => ?_⟩
  obtain ⟨b, ob, c, T, fr, t, d, k, o, dr, xN, q, h1, h2, h3, h4, h5, h6, h7, h8, h9, h10⟩ := h.2 i hi
  exact ⟨b, ob, c, T, fr, t, d, k, o, dr, xN, q, h1, hx.get h2 (by simp), h3, h4, h5, h6, h7, h8, h9.ext hx (by simp), h10⟩
theorem fits_c {w : World} {H : Heap} {a : Option Addr} {n nc : Nat} (hw : w.heap = H) (hD : Steps H a n) : CallF P F_l12_fits #[.slice a n nc] w fun e w' => ∃ b, e = .returned (.bool b) ∧ w'.heap = H := by
  obtain ⟨hn, hD⟩ := hD
  refine fn_l12_fits ?_
  unfold T_l12_fits
  refine loopP_of (fun (s : Int × Int) W => ∃ i : Nat, s.2 = (i : Int) ∧ i ≤ n ∧ W.heap = H) (fun s _ => (n - s.2).toNat) ⟨0, rfl, Nat.zero_le _, hw⟩ ?_
  rintro ⟨u, _⟩ W ⟨i, rfl, hi, hW⟩
  refine iteP_dec (fun hlt => ?_) (fun hge => ⟨_, rfl, hW⟩)
  have hil : i < n := by simp only at hlt; omega
  obtain ⟨b, ob, c, T, fr, t, d, k, o, dr, xN, q, rfl, hb, c0, c1, c2, c3, c4, c5, _⟩ := hD i hil
  refine drewP_h hW fun W2 hW2 => ?_
  refine ixS_h i rfl hil ?_
  refine ixS_h i rfl hil ?_
  refine ixS_h i rfl hil ?_
  simp only [add_none]
  refine ld_h (s := .str) (t := strOf t) hW2 hb c0 ?_
  refine ⟨_, rfl, ?_⟩
  refine ld_h (s := .str) (t := strOf d) hW2 hb c3 ?_
  refine ⟨_, rfl, ?_⟩
  refine ld_h (s := .slc) (t := xN) hW2 hb c5 ?_
  refine ⟨_, rfl, ?_⟩
  refine ⟨_, rfl, ?_⟩
  refine ⟨_, rfl, ?_⟩
  refine addI_to ((i + 1 : Nat) : Int) (by omega) (by omega) (by omega) ?_
  exact ⟨⟨i + 1, rfl, by omega, hW2⟩, by omega⟩
/-- Both upper branches, side by side. -/
def Both (H0 : Heap) (p m pr : Nat) (nn bb : Int) (W : World) : Prop := ∃ L fp, Ext [] H0 W.heap ∧ Up W.heap p m nn bb L ∧ RU W.heap fp pr nn bb L ∧ H0.size ≤ p ∧ H0.size ≤ m ∧ (∀ b ∈ fp, H0.size ≤ b) ∧ p ∉ fp ∧ m ∉ fp ∧ Tree L
theorem Up.lt {H : Heap} {p m : Nat} {n b : Int} {L : List Ino} (h : Up H p m n b L) : p < H.size ∧ m < H.size := by obtain ⟨_, _, h1, h2, _⟩ := h; exact ⟨lt_of_get h1, lt_of_get h2⟩

set_option maxHeartbeats 8000000 in
theorem play_c {w : World} {H0 : Heap} {p m pr : Nat} {nn bb : Int} {a : Option Addr} {n nc : Nat} (hB : Both H0 p m pr nn bb w) (hD : Steps H0 a n) :
    CallF P F_l12_play #[.pointer (some ⟨p, 0, none⟩), .pointer (some ⟨pr, 0, none⟩), .slice a n nc] w fun e w' => e = .returned (.bool true) ∧ Both H0 p m pr nn bb w' := by
  obtain ⟨hn, hD⟩ := hD
  refine fn_l12_play ?_
  unfold T_l12_play
  refine joinP_of (fun _ W => Both H0 p m pr nn bb W) ?_ (fun _ W h => ⟨rfl, h⟩)
  refine loopP_of (fun (s : Int) W => ∃ i : Nat, s = (i : Int) ∧ i ≤ 200 ∧ Both H0 p m pr nn bb W) (fun s _ => (200 - s).toNat) ⟨0, rfl, by omega, hB⟩ ?_
  rintro _ W ⟨i, rfl, hi, hP⟩
  refine joinP_in ?_
  refine iteP_dec (fun hlt => ?_) (fun _ => hP)
  refine iteP_dec (fun hlt2 => ?_) (fun _ => hP)
  have hil : i < n := by omega
  obtain ⟨b, ob, c, T, fr, t, d, k, o, dr, xN, q, rfl, hb, c0, c1, c2, c3, c4, c5, hN, hNl, hNc, hNf, hNq⟩ := hD i hil
  obtain ⟨L, fp, hx, hU, hR, hp0, hm0, hf0, hpf, hmf, hT⟩ := hP
  refine joinP_of (fun _ W' => Both H0 p m pr nn bb W') ?_ ?_
  rotate_left
  · rintro _ W' h
    refine addI_to ((i + 1 : Nat) : Int) (by omega) (by omega) (by omega) ?_
    exact ⟨⟨i + 1, rfl, by omega, h⟩, by omega⟩
  refine joinP_in ?_
  refine ixS_h i rfl hil ?_
  simp only [add_none]
  refine ld_h (s := .bool) (t := dr) rfl (hx.get hb (by simp)) c4 ?_
  have fin : ∀ {W1 W2 W3 : World} {L' : List Ino} {fp' : List Nat}, W1.heap = W.heap → Up W2.heap p m nn bb L' → Ext [p, m] W1.heap W2.heap → RU W3.heap fp' pr nn bb L' → Ext fp W2.heap W3.heap → (∀ b ∈ fp', b ∈ fp ∨ (W2.heap.size ≤ b ∧ b < W3.heap.size)) → Tree L' → Both H0 p m pr nn bb W3 := by
    intro W1 W2 W3 L' fp' h1 h2 h3 h4 h5 h6 hT'
    rw [h1] at h3
    have hlt := h2.lt
    have hx2 : Ext [] H0 W2.heap := hx.own h3 (by intro b hb hlt; simp at hb; omega)
    refine ⟨L', fp', hx2.own h5 (by intro b hb hlt; have := hf0 b hb; omega), h2.ext h5 hpf hmf, h4, hp0, hm0, fun b hb => ?_, fun h => ?_, fun h => ?_, hT'⟩
    · rcases h6 b hb with h | h
      · exact hf0 b h
      · have := hx2.1; omega
    · rcases h6 p h with h | h
      · exact hpf h
      · omega
    · rcases h6 m h with h | h
      · exact hmf h
      · omega
  have hpm : ∀ b ∈ fp, b ∉ [p, m] := by
    intro b hb h
    simp only [List.mem_cons, List.not_mem_nil, or_false] at h
    rcases h with rfl | rfl
    · exact hpf hb
    · exact hmf hb
  have hnpm : ∀ {W1 W2 : World}, Ext [p, m] W1.heap W2.heap → ∀ {o : Obj} {b : Nat}, b < H0.size → W1.heap[b]? = some o → W2.heap[b]? = some o := fun h o b hb ho => h.get ho (by simp; omega)
  have hbl := lt_of_get hb
  cases dr with
  | true =>
    refine iteP_t rfl ?_
    refine drewP_h rfl fun W1 hW1 => ?_
    have hx1 : Ext [] H0 W1.heap := by rw [hW1]; exact hx
    refine ixS_h i rfl hil ?_
    refine ixS_h i rfl hil ?_
    simp only [add_none]
    refine ld_h (s := .slc) (t := xN) rfl (hx1.get hb (by simp)) c5 ?_
    refine ld_h (s := .slc) (t := xN) rfl (hx1.get hb (by simp)) c5 ?_
    refine callF_of (drop_c rfl (by rw [hW1]; exact hU) (hN.ext hx1 (by simp)) hNl hNc hNf hNq) ?_
    rintro e W2 ⟨rfl, hU2, hx12⟩
    refine ⟨_, rfl, ?_⟩
    refine ⟨ld_h (s := .slc) (t := xN) rfl (hnpm hx12 hbl (hx1.get hb (by simp))) c5 rfl, ?_⟩
    have hx02 : Ext [] H0 W2.heap := hx1.own hx12 (by intro b hb hlt; simp at hb; omega)
    refine callF_of (rdrop_c rfl ((show RU W1.heap fp pr nn bb L by rw [hW1]; exact hR).ext hx12 hpm) (hN.ext hx02 (by simp)) hNl hNq) ?_
    rintro e W3 ⟨fp', rfl, hR3, hx23, hsub⟩
    refine ⟨_, rfl, ?_⟩
    refine iteP_f (by simp) ?_
    exact fin hW1 hU2 hx12 hR3 hx23 hsub (hT.drop q)
  | false =>
    refine iteP_f rfl ?_
    refine drewP_h rfl fun W1 hW1 => ?_
    have hx1 : Ext [] H0 W1.heap := by rw [hW1]; exact hx
    refine ixS_h i rfl hil ?_
    refine ixS_h i rfl hil ?_
    have h5 := (Array.getElem?_eq_some_iff.1 c5).1
    have hcs : c.extract (ob + i * 6) (ob + i * 6 + 4) = (raw t k o d).toArray := by
      apply Array.ext_getElem?
      intro j
      rw [Array.getElem?_extract]
      match j with
      | 0 => rw [if_pos (by omega)]; exact c0
      | 1 => rw [if_pos (by omega)]; exact c1
      | 2 => rw [if_pos (by omega)]; exact c2
      | 3 => rw [if_pos (by omega)]; exact c3
      | j + 4 => rw [if_neg (by omega)]; simp [raw]
    refine ldA_h rfl (hx1.get hb (by simp)) (by omega) ?_
    refine ldA_h rfl (hx1.get hb (by simp)) (by omega) ?_
    rw [hcs]
    refine callF_of (put_c (t := t) (k := k) (o := o) (d := d) rfl (by rw [hW1]; exact hU)) ?_
    rintro e W2 ⟨rfl, hU2, hx12⟩
    refine ⟨_, rfl, ?_⟩
    refine ⟨ldA_h rfl (hnpm hx12 hbl (hx1.get hb (by simp))) (by omega) (by rw [hcs]), ?_⟩
    refine callF_of (rput_c (t := t) (k := k) (o := o) (d := d) rfl ((show RU W1.heap fp pr nn bb L by rw [hW1]; exact hR).ext hx12 hpm)) ?_
    rintro e W3 ⟨fp', rfl, hR3, hx23, hsub⟩
    refine ⟨_, rfl, ?_⟩
    refine iteP_f (by simp) ?_
    exact fin hW1 hU2 hx12 hR3 hx23 hsub (Tree.put hU.good hT _ _ _ _)
theorem below_all {L : List Ino} (hG : Good L) : belowL L [] = L := by
  unfold belowL
  rw [List.filter_eq_self]
  intro i hi
  have := (hG.ok i hi).2
  unfold belowQ
  rw [within_iff.2 ⟨by simp, by simp⟩]
  cases h : i.names with
  | nil => exact absurd h this
  | cons a b => simp
theorem eqBool (x y : Operand) (a b : Bool) (w : World) : (eqM .eql y_bool x y (.bool a) (.bool b)).run P w = .ok (.bool (a == b)) w := by
  have h : (Op.equal y_bool (.bool a) (.bool b)).run P w = .ok (a == b) w := run_equalIn_bool' w 9999 y_bool a b uBool
  simp [eqM, eqGuard, binOp, h]
set_option maxHeartbeats 4000000 in
theorem same_c {w : World} {H0 : Heap} {p m pr : Nat} {nn bb : Int} (hB : Both H0 p m pr nn bb w) :
    CallF P F_l12_same #[.pointer (some ⟨p, 0, none⟩), .pointer (some ⟨pr, 0, none⟩)] w fun e w' => e = .returned (.bool true) ∧ Both H0 p m pr nn bb w' := by
  obtain ⟨L, fp, hx, hU, hR, hp0, hm0, hf0, hpf, hmf, hT⟩ := hB
  have hG := hU.good
  have hmany := hG.many
  obtain ⟨x, r1, r2, r3, r4, r5⟩ := id hR
  have hxl := mineI_len r2
  refine fn_l12_same ?_
  unfold T_l12_same
  refine drewP_h rfl fun w1 hw1 => ?_
  have hx1 : Ext [] w.heap w1.heap := by rw [hw1]; exact .refl _ _
  simp only [withAddr_some, add_none, Nat.zero_add]
  refine ld_h (s := .slc) (t := x) rfl (hx1.get r1 (by simp)) rfl ?_
  refine callF_of (below_c (q := []) rfl (hU.ext hx1 (by simp) (by simp)) (.inl rfl) rfl (by simp)) ?_
  rintro e w2 ⟨y, rfl, hm2, hx12⟩
  refine ⟨y, rfl, ?_⟩
  rw [below_all hG] at hm2
  have hx2 := hx1.trans hx12
  refine ⟨ld_h (s := .slc) (t := x) rfl (hx2.get r1 (by simp)) rfl rfl, ?_⟩
  refine callF_of (inodes_c rfl hm2.cells (mineI_len hm2) (r2.ext hx2 (by simp)).cells hxl (by omega)) ?_
  rintro e w3 ⟨rfl, hw3⟩
  refine ⟨true, rfl, ?_⟩
  have hx3 : Ext [] w.heap w3.heap := by rw [hw3]; exact hx2
  refine iteP_t rfl ?_
  have hp3 := hx3.get r1 (by simp)
  have hU3 := hU.ext hx3 (by simp) (by simp)
  have hR3 := hR.ext hx3 (by simp)
  refine ld_h (s := .slc) (t := x) rfl hp3 rfl ?_
  refine callF_of (count_c rfl hU3) ?_
  rintro e w4 ⟨rfl, hw4⟩
  subst w4
  refine ⟨(L.length : Int), rfl, ?_⟩
  refine ⟨ld_h (s := .slc) (t := x) rfl hp3 rfl rfl, ?_⟩
  refine iteP_t (by simp [hxl]) ?_
  refine callF_of (size_c rfl hU3) ?_
  rintro e w5 ⟨rfl, hw5⟩
  subst w5
  refine ⟨(tot L : Int), rfl, ?_⟩
  refine callF_of (rsize_c rfl hR3) ?_
  rintro e w6 ⟨rfl, hw6⟩
  subst w6
  refine ⟨(tot L : Int), rfl, ?_⟩
  refine iteP_t (by simp) ?_
  refine callF_of (over_c rfl hU3) ?_
  rintro e w7 ⟨rfl, hw7⟩
  refine ⟨overB nn bb L, rfl, ?_⟩
  have hx37 : Ext [] w3.heap w7.heap := by rw [hw7]; exact .refl _ _
  refine callF_of (rover_c rfl (hR3.ext hx37 (by simp))) ?_
  rintro e w8 ⟨rfl, hw8⟩
  refine ⟨overB nn bb L, rfl, ?_⟩
  have hx38 : Ext [] w3.heap w8.heap := by rw [hw8]; exact hx37
  refine genQ_of (s := .bool) _ (eqBool _ _ _ _ _) ?_
  exact ⟨by simp, L, fp, hx.trans (hx3.trans hx38), hU3.ext hx38 (by simp) (by simp), hR3.ext hx38 (by simp), hp0, hm0, hf0, hpf, hmf, hT⟩

set_option maxHeartbeats 8000000 in
theorem plays_c {w : World} {H : Heap} {nn bb : Int} {a b : Option Addr} {n nc k kc : Nat} {q : Path} (hw : w.heap = H) (hD : Steps H a n) (hL : Cells H b (strRow q)) (hk : k = q.length) (hkc : k ≤ kc) (hf : Fit q) (hq : q.length ≤ 9223372036854775807) :
    CallF P F_l12_UpperPlays #[.int .i64 nn, .int .i64 bb, .slice a n nc, .slice b k kc] w fun e w' => e = .returned (.bool true) ∧ Ext [] H w'.heap := by
  refine fn_l12_UpperPlays ?_
  unfold T_l12_UpperPlays
  refine callF_of (awake_c hw) ?_
  rintro e w1 ⟨rfl, hx1⟩
  refine ⟨true, rfl, ?_⟩
  refine iteP_f rfl ?_
  refine callF_of (fits_c rfl (hD.ext hx1)) ?_
  rintro e w2 ⟨fb, rfl, hw2⟩
  refine ⟨fb, rfl, ?_⟩
  have hx2 : Ext [] H w2.heap := by rw [hw2]; exact hx1
  cases fb with
  | false => exact iteP_t rfl ⟨rfl, hx2⟩
  | true =>
  refine iteP_f rfl ?_
  refine callF_of (new_c nn bb rfl) ?_
  rintro e w3 h3
  rcases h3 with ⟨hno, rfl, hw3⟩ | ⟨hyes, p, m, rfl, hU, hx3, hp1, hp2, hm1, hm2⟩
  · refine ⟨(none, 1), rfl, ?_⟩
    have hx3 : Ext [] H w3.heap := by rw [hw3]; exact hx2
    refine callF_of (rnew_c nn bb rfl) ?_
    rintro e w4 (⟨_, rfl, hw4⟩ | ⟨h, _⟩)
    · refine ⟨(none, 1), rfl, ?_⟩
      refine joinP_in ?_
      refine iteP_f rfl ?_
      refine genQ_of (s := .bool) false ?_ ?_
      · have h : (Op.equal y_bool (.bool true) (.bool true)).run P w4 = .ok (true == true) w4 := run_equalIn_bool' w4 9999 y_bool true true uBool
        simp [eqM, eqGuard, binOp, h]
        rfl
      refine iteP_f rfl ?_
      exact iteP_t rfl ⟨rfl, by rw [hw4]; exact hx3⟩
    · exact absurd h hno
  refine ⟨(some ⟨p, 0, none⟩, 0), rfl, ?_⟩
  refine callF_of (rnew_c nn bb rfl) ?_
  rintro e w4 (⟨h, _⟩ | ⟨_, pr, rfl, hR, hx4, hr1, hr2⟩)
  · exact absurd hyes h
  refine ⟨(some ⟨pr, 0, none⟩, 0), rfl, ?_⟩
  have hx03 := hx2.trans hx3
  have hx04 := hx03.trans hx4
  have hs2 := hx2.1
  have hs3 := hx3.1
  have hB4 : Both H p m pr nn bb w4 := ⟨[], [pr], hx04, hU.ext hx4 (by simp) (by simp), hR, by omega, by omega, (by intro b hb; simp only [List.mem_singleton] at hb; omega), (by simp only [List.mem_singleton]; omega), (by simp only [List.mem_singleton]; omega), Tree.nil⟩
  refine joinP_in ?_
  refine iteP_f rfl ?_
  refine genQ_of (s := .bool) false ?_ ?_
  · have h : (Op.equal y_bool (.bool false) (.bool false)).run P w4 = .ok (false == false) w4 := run_equalIn_bool' w4 9999 y_bool false false uBool
    simp [eqM, eqGuard, binOp, h]
    rfl
  refine iteP_f rfl ?_
  refine iteP_f rfl ?_
  refine joinP_in ?_
  refine callF_of (play_c hB4 hD) ?_
  rintro e w6 ⟨rfl, hB6⟩
  refine ⟨true, rfl, ?_⟩
  refine iteP_f rfl ?_
  refine callF_of (same_c hB6) ?_
  rintro e w7 ⟨rfl, hB7⟩
  refine ⟨true, rfl, ?_⟩
  refine iteP_f rfl ?_
  obtain ⟨L, fp, hx7, hU7, hR7, _⟩ := hB7
  refine callF_of (get_c rfl hU7 (hL.ext hx7 (by simp)) hk hkc hf hq) ?_
  rintro e w9 ⟨rfl, hx9⟩
  refine ⟨(.agg (gotI (getL L q)).toArray, (getL L q).isSome), rfl, ?_⟩
  rw [zcI]
  refine newB_h rfl fun w10 hw10 => ?_
  have hb10 : w10.heap[w9.heap.size]? = some (.cells (raw [] 0 false []).toArray y_api_Inode (0, 0)) := by rw [hw10]; exact push_new
  refine stI rfl hb10 rfl len_gotI one_gotI fun w11 hw11 => ?_
  have hb11 : w11.heap[w9.heap.size]? = some (.cells (gotI (getL L q)).toArray y_api_Inode (0, 0)) := by rw [hw11]; exact set_new hb10
  have hx911 : Ext [] w9.heap w11.heap := by rw [hw11, hw10]; exact (Ext.push _).set_own (.inl (Nat.le_refl _))
  have hx711 := hx9.trans hx911
  refine callF_of (rget_c rfl (hR7.ext hx711 (by simp)) (hL.ext (hx7.trans hx711) (by simp)) hk hf hq) ?_
  rintro e w12 ⟨rfl, hx12⟩
  refine ⟨(.agg (gotI (getL L q)).toArray, (getL L q).isSome), rfl, ?_⟩
  refine newB_h rfl fun w13 hw13 => ?_
  have hb13 : w13.heap[w12.heap.size]? = some (.cells (raw [] 0 false []).toArray y_api_Inode (0, 0)) := by rw [hw13]; exact push_new
  refine stI rfl hb13 rfl len_gotI one_gotI fun w14 hw14 => ?_
  have hb14 : w14.heap[w12.heap.size]? = some (.cells (gotI (getL L q)).toArray y_api_Inode (0, 0)) := by rw [hw14]; exact set_new hb13
  have hx1214 : Ext [] w12.heap w14.heap := by rw [hw14, hw13]; exact (Ext.push _).set_own (.inl (Nat.le_refl _))
  refine ldA_all rfl ((hx12.trans hx1214).get hb11 (by simp)) (by simp [len_gotI]) ?_
  refine ldA_all rfl hb14 (by simp [len_gotI]) ?_
  have hself : (eqM .eql y_api_Inode (.tmp 69) (.tmp 70) (.agg (gotI (getL L q)).toArray) (.agg (gotI (getL L q)).toArray)).run P w14 = .ok (.bool true) w14 := by
    cases getL L q with
    | none => exact eqlRaw.trans (by rw [same_self])
    | some i => exact eqlRaw.trans (by rw [same_self])
  refine genQ_of (s := .bool) true hself ?_
  refine iteP_t rfl ?_
  refine genQ_of (s := .bool) _ (eqBool _ _ _ _ _) ?_
  refine iteP_t (by simp) ?_
  have hx714 := hx711.trans (hx12.trans hx1214)
  have hx014 := hx7.trans hx714
  refine callF_of (below_c rfl (hU7.ext hx714 (by simp) (by simp)) (hL.ext hx014 (by simp)) hk hq) ?_
  rintro e w15 ⟨y, rfl, hm15, hx15⟩
  refine ⟨y, rfl, ?_⟩
  refine callF_of (rbelow_c rfl (hR7.ext (hx714.trans hx15) (by simp)) (hL.ext (hx014.trans hx15) (by simp)) hk hq) ?_
  rintro e w16 ⟨z, rfl, hm16, hx16⟩
  refine ⟨z, rfl, ?_⟩
  have hbl : (belowL L q).length ≤ 1024 := Nat.le_trans (List.length_filter_le _ _) hU7.good.many
  refine callF_of (inodes_c rfl (hm15.ext hx16 (by simp)).cells (mineI_len hm15) hm16.cells (mineI_len hm16) (by omega)) ?_
  rintro e w17 ⟨rfl, hw17⟩
  refine ⟨true, rfl, ?_⟩
  exact ⟨rfl, by rw [hw17]; exact (hx014.trans hx15).trans hx16⟩
end Go.Proofs.Ytbmegmbnlajbbaa
