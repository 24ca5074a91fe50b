/- The contract of Write: more bytes go into a hash. -/
import Derived.Test.YtkolbfjheleoaaaDoorSb
import Derived.Test.YtkolbfjheleoaaaDoorFwL
namespace Go.Proofs.YtkolbfjheleoaaaDoor
open Go Go.Fw Go.Proofs

theorem nth_append_lt {D E : List UInt8} {i : Nat} (h : i < D.length) : Sha.nth (D ++ E) i = Sha.nth D i := by
  simp [Sha.nth, List.getD_eq_getElem?_getD, List.getElem?_append_left h]
theorem nth_append_ge {D E : List UInt8} {i : Nat} (h : D.length ≤ i) : Sha.nth (D ++ E) i = Sha.nth E (i - D.length) := by
  simp [Sha.nth, List.getD_eq_getElem?_getD, List.getElem?_append_right h]
theorem blocks_append {D E : List UInt8} : ∀ n, 64 * n ≤ D.length → Sha.blocks (D ++ E) n = Sha.blocks D n
  | 0, _ => rfl
  | n + 1, h => by
    simp only [Sha.blocks]
    rw [blocks_append n (by omega)]
    have : ∀ t, t < 16 → Sha.word (fun j => Sha.nth (D ++ E) (64 * n + j)) t = Sha.word (fun j => Sha.nth D (64 * n + j)) t := by
      intro t ht
      simp only [Sha.word]
      rw [nth_append_lt (by omega), nth_append_lt (by omega), nth_append_lt (by omega), nth_append_lt (by omega)]
    unfold Sha.comp
    rw [funext (Sha.W_congr this)]

/-- A hash that has been told D; n is in the field of the number of bytes. -/
def HashI (H : Heap) (p : Nat) (D : List UInt8) (n : Nat) : Prop :=
  ∃ c, H[p]? = some (.cells c y_sha_Hash (0, 0)) ∧ c.size = 74 ∧ Words c 0 (Sha.blocks D (D.length / 64)) 8 ∧ Bytes c 8 (fun i => Sha.nth D (64 * (D.length / 64) + i)) (D.length % 64) ∧
    c[72]? = some (.int .i64 ((D.length % 64 : Nat) : Int)) ∧ c[73]? = some (.int .i64 (n : Int)) ∧ AllOne c
/-- The table of the rounds lies where it lay. -/
def Rounds (H : Heap) : Prop := ∃ rc rT rfr, H[0]? = some (.cells rc rT rfr) ∧ Words rc 0 Sha.K 64
theorem Rounds.ext {M : List Nat} {H H' : Heap} (h : Rounds H) (hx : Ext M H H') (h0 : 0 ∉ M) : Rounds H' := by
  obtain ⟨rc, rT, rfr, h1, h2⟩ := h
  exact ⟨rc, rT, rfr, hx.get h1 h0, h2⟩
theorem HashI.ext {M : List Nat} {H H' : Heap} {p : Nat} {D : List UInt8} {n : Nat} (h : HashI H p D n) (hx : Ext M H H') (h0 : p ∉ M) : HashI H' p D n := by
  obtain ⟨c, h1, h2⟩ := h
  exact ⟨c, hx.get h1 h0, h2⟩

theorem u89 : P.underlying y_64_uint8 = some (.array 64 y_uint8) := by kernel_rfl
theorem u22 : P.underlying y_S_uint8 = some (.slice y_uint8) := by kernel_rfl
theorem i5 : (P.info? y_uint8).map (·.size) = some 1 := by kernel_rfl

set_option maxHeartbeats 4000000 in
theorem write_c {w : World} {H : Heap} {p l lc : Nat} {a : Option Addr} {D L : List UInt8} (hw : w.heap = H) (hD : HashI H p D D.length) (hL : Cells H a (byteCells L)) (hl : l = L.length) (hc : l ≤ lc)
    (hne : L ≠ [] → ∀ x, a = some x → x.block ≠ p) (hR : Rounds H) (h0 : p ≠ 0) (hlen : D.length + L.length < 4611686018427387904) :
    CallF P F_sha_Hash_Write #[.pointer (some ⟨p, 0, none⟩), .slice a l lc] w fun e w' => e = .returned (.tuple #[]) ∧ Ext [p] H w'.heap ∧ HashI w'.heap p (D ++ L) (D ++ L).length := by
  subst hl
  refine fn_sha_Hash_Write ?_
  unfold T_sha_Hash_Write
  refine iteP_f rfl ?_
  simp only [withAddr_some, add_none, Nat.zero_add]
  obtain ⟨c, hp, hsz, hS, hB, h72, h73, ha1⟩ := hD
  refine ld_h hw hp h73 ?_
  refine addI_to ((D.length + L.length : Nat) : Int) (by omega) (by omega) (by omega) ?_
  refine stC_h hw hp (by omega) fun w1 hw1 => ?_
  refine loopP_of (fun s w => ∃ (k : Nat) (H' : Heap), k ≤ L.length ∧ s.2.1 = L.length - k ∧ s.2.1 ≤ s.2.2 ∧ Cells H' s.1 (byteCells (L.drop k)) ∧ (L ≠ [] → ∀ x, s.1 = some x → x.block ≠ p) ∧ w.heap = H' ∧ Ext [p] H H' ∧
      HashI H' p (D ++ L.take k) (D.length + L.length)) (fun s _ => s.2.1) ?_ ?_
  · refine ⟨0, _, by omega, by simp, hc, ?_, hne, hw1, Ext.set _ (by simp), _, set_new hp, by simpa using hsz, ?_, ?_, ?_, ?_, ha1.set rfl⟩
    · exact hL.ext (Ext.set (M := [p]) _ (by simp)) (fun x hx hv => by simpa using hne (by rintro rfl; exact hv rfl) x hx)
    · simp only [List.take_zero, List.append_nil]
      intro i hi
      rw [Array.getElem?_setIfInBounds_ne (by omega)]
      exact hS i hi
    · simp only [List.take_zero, List.append_nil]
      intro i hi
      rw [Array.getElem?_setIfInBounds_ne (by omega)]
      exact hB i hi
    · simp only [List.take_zero, List.append_nil]
      rw [Array.getElem?_setIfInBounds_ne (by omega)]
      exact h72
    · simp [hsz]
  clear hw1 hp hsz hS hB h72 h73 hL ha1
  rintro ⟨sa, sl, sc⟩ w2 ⟨k, H2, hk, hsl, hsc, hC, hnb, hw2, hx, c2, hp2, hsz2, hS2, hB2, h72, h73, ha2⟩
  simp only at hsl hsc hC hnb
  have hEl : (D ++ L.take k).length = D.length + k := by simp; omega
  refine iteP_dec (fun hgt => ?_) (fun hle => ?_)
  · have hlt : k < L.length := by simp only at hgt; omega
    have hnb := hnb (by rintro rfl; simp at hlt)
    refine joinP_in ?_
    refine drewP_h hw2 fun w3 hw3 => ?_
    refine ld_h hw3 hp2 h72 ?_
    generalize hu : (D ++ L.take k).length % 64 = u at *
    generalize hq : (D ++ L.take k).length / 64 = q at *
    have hu64 : u < 64 := by omega
    have hEq : D.length + k = 64 * q + u := by omega
    refine genQ_of (s := .slc) (some ⟨p, 8 + u, none⟩, 64 - u, 64 - u) ?_ ?_
    · rw [run_slice_arr u89 i5 (.yes rfl) .no (by omega) (by omega), if_neg (by omega), add_none]
      simp [Sh.val]
    -- copy
    generalize hn : min sl (64 - u) = n
    have hnl : n ≤ L.length - k := by omega
    have hX : ((L.drop k).take n).length = n := by simp; omega
    obtain ⟨w4, hrun, hcm4, hw4⟩ := copy_h (P := P) (w := w3) (st := 22) (xt := 22) (ty := 3) (od := 8 + u) (dl := 64 - u) (dc := 64 - u) (sl := sl) (sc := sc) (vs := byteCells ((L.drop k).take n)) u22 i5 hw3
      (by rw [← byteCells_take]; exact hC.take n) (by simp only [length_byteCells, hX]; omega) one_byteCells hp2 (by simp only [length_byteCells, hX]; omega)
    rw [hn] at hrun
    refine genL_of ((n : Nat) : Int) w4 hrun ?_ hcm4
    -- the bytes that are there now
    generalize hXX : (L.drop k).take n = X at *
    have hE' : D ++ L.take (k + n) = (D ++ L.take k) ++ X := by rw [← hXX, List.append_assoc, ← List.take_add]
    have hp4 : (H2.setIfInBounds p (.cells (setCells c2 (8 + u) (byteCells X)) y_sha_Hash (0, 0)))[p]? = some (.cells (setCells c2 (8 + u) (byteCells X)) y_sha_Hash (0, 0)) := set_new hp2
    have hg : ∀ i, (setCells c2 (8 + u) (byteCells X))[i]? = if 8 + u ≤ i ∧ i < 8 + u + n then (byteCells X)[i - (8 + u)]? else c2[i]? := by
      intro i; rw [get_setCells (by simp only [length_byteCells]; omega)]; simp only [length_byteCells, hX]
    have hS4 : Words (setCells c2 (8 + u) (byteCells X)) 0 (Sha.blocks (D ++ L.take k) q) 8 := fun i hi => by rw [hg, if_neg (by omega)]; exact hS2 i hi
    have hB4 : Bytes (setCells c2 (8 + u) (byteCells X)) 8 (fun i => Sha.nth (D ++ L.take (k + n)) (64 * q + i)) (u + n) := by
      intro i hi
      rw [hg, hE']
      by_cases hiu : i < u
      · rw [if_neg (by omega), hB2 i hiu]
        simp only
        rw [nth_append_lt (D := D ++ L.take k) (E := X) (by omega)]
      · rw [if_pos (by omega), byteCells_get (by omega)]
        simp only
        rw [nth_append_ge (D := D ++ L.take k) (E := X) (by omega)]
        have : 8 + i - (8 + u) = 64 * q + i - (D ++ L.take k).length := by omega
        rw [this]
        rfl
    refine drewP_h hw4 fun w5 hw5 => ?_
    refine ld_h (t := ((u : Nat) : Int)) hw5 hp4 (by rw [hg, if_neg (by omega)]; exact h72) ?_
    refine addI_to ((u + n : Nat) : Int) (by omega) (by omega) (by omega) ?_
    have hsl5 : ∀ w, (Instr.sliceAt y_S_uint8 (.slice sa sl sc) (some (.int .i64 (n : Int))) none none).run P w = .ok (.slice (if sc = n then sa else sa.map (·.add (n * 1))) (sl - n) (sc - n)) w :=
      fun w => run_slice_slc u22 i5 (.yes rfl) .no (by omega) (by omega)
    refine genQ_of (s := .slc) (if sc = n then sa else sa.map (·.add (n * 1)), sl - n, sc - n) (hsl5 _) ?_
    refine stC_h hw5 hp4 (by simp; omega) fun w6 hw6 => ?_
    refine ⟨genQ_of (s := .slc) (if sc = n then sa else sa.map (·.add (n * 1)), sl - n, sc - n) (hsl5 _) rfl, ?_⟩
    rw [set_set] at hw6
    have hp6 : (H2.setIfInBounds p (.cells ((setCells c2 (8 + u) (byteCells X)).setIfInBounds 72 (.int .i64 ((u + n : Nat) : Int))) 91 (0, 0)))[p]? = some (.cells ((setCells c2 (8 + u) (byteCells X)).setIfInBounds 72 (.int .i64 ((u + n : Nat) : Int))) 91 (0, 0)) := set_new hp2
    have ha6 : AllOne ((setCells c2 (8 + u) (byteCells X)).setIfInBounds 72 (.int .i64 ((u + n : Nat) : Int))) := (ha2.setCells one_byteCells).set rfl
    generalize hc6 : (setCells c2 (8 + u) (byteCells X)).setIfInBounds 72 (.int .i64 ((u + n : Nat) : Int)) = c6 at *
    have hsz6 : c6.size = 74 := by rw [← hc6]; simp; omega
    have h726 : c6[72]? = some (.int .i64 ((u + n : Nat) : Int)) := by rw [← hc6]; simp [hsz2]
    have hg6 : ∀ i, i ≠ 72 → c6[i]? = (setCells c2 (8 + u) (byteCells X))[i]? := fun i hi => by rw [← hc6, Array.getElem?_setIfInBounds_ne (Ne.symm hi)]
    have hS6 : Words c6 0 (Sha.blocks (D ++ L.take k) q) 8 := fun i hi => by rw [hg6 _ (by omega)]; exact hS4 i hi
    have hB6 : Bytes c6 8 (fun i => Sha.nth (D ++ L.take (k + n)) (64 * q + i)) (u + n) := fun i hi => by rw [hg6 _ (by omega)]; exact hB4 i hi
    have h736 : c6[73]? = some (.int .i64 ((D.length + L.length : Nat) : Int)) := by rw [hg6 _ (by omega), hg, if_neg (by omega)]; exact h73
    have hx6 : Ext [p] H2 (H2.setIfInBounds p (.cells c6 y_sha_Hash (0, 0))) := Ext.set _ (by simp)
    have hE'l : (D ++ L.take (k + n)).length = D.length + k + n := by simp; omega
    have hC6 : Cells (H2.setIfInBounds p (.cells c6 y_sha_Hash (0, 0))) (if sc = n then sa else sa.map (·.add (n * 1))) (byteCells (L.drop (k + n))) := by
      have := (hC.ext hx6 (fun x hx _ => by simpa using hnb x hx)).drop n sc (by simp; omega)
      rw [byteCells_drop, List.drop_drop] at this
      rw [Nat.mul_one]
      exact this
    have hnb6 : ∀ x, (if sc = n then sa else sa.map (·.add (n * 1))) = some x → x.block ≠ p := by
      intro x hx'
      split at hx'
      · exact hnb x hx'
      · cases sa with
        | none => simp at hx'
        | some y =>
          simp only [Option.map_some, Option.some.injEq] at hx'
          subst hx'
          have := hnb y rfl
          unfold Addr.add
          split <;> exact this
    refine ld_h hw6 hp6 h726 ?_
    refine iteP_eq (fun h64 => ?_) (fun hn64 => ?_)
    · have h64 : u + n = 64 := by omega
      refine genQ_of (s := .slc) (some ⟨p, 8, none⟩, 64, 64) ?_ ?_
      · rw [run_slice_arr u89 i5 .no .no (by omega) (by omega), if_neg (by omega), add_none]
        rfl
      obtain ⟨rc, rT, rfr, hr1, hr2⟩ := (hR.ext hx (by simp; omega)).ext hx6 (by simp; omega)
      refine callF_of (mix_c (l := 64) (lc := 64) hw6 hp6 hsz6 hS6 hp6 (by rw [← h64]; exact hB6) (by omega) hr1 hr2 h0) ?_
      rintro e w7 ⟨rfl, hx7, c7, hp7, hsz7, hS7, hold7⟩
      refine ⟨(), rfl, ?_⟩
      refine stC_h rfl hp7 (by omega) fun w8 hw8 => ?_
      refine ⟨⟨k + n, _, by omega, by simp only; omega, by simp only; omega, hC6.ext (hx7.trans (Ext.set (M := [p]) _ (by simp))) (fun x hx _ => by simpa using hnb6 x hx), fun _ => hnb6, hw8, (hx.trans hx6).trans (hx7.trans (Ext.set _ (by simp))), _, set_new hp7, by simpa using hsz7, ?_, ?_, ?_, ?_, AllOne.set ?_ rfl⟩, ?_⟩
      · have e1 : (D ++ L.take (k + n)).length / 64 = q + 1 := by omega
        rw [e1]
        simp only [Sha.blocks]
        rw [show Sha.blocks (D ++ L.take (k + n)) q = Sha.blocks (D ++ L.take k) q from by rw [hE']; exact blocks_append q (by omega)]
        intro i hi
        rw [Array.getElem?_setIfInBounds_ne (by omega)]
        exact hS7 i hi
      · have e1 : (D ++ L.take (k + n)).length % 64 = 0 := by omega
        rw [e1]
        intro i hi; omega
      · have e1 : (D ++ L.take (k + n)).length % 64 = 0 := by omega
        rw [e1]
        simp [hsz7]
      · rw [Array.getElem?_setIfInBounds_ne (by omega), hold7 _ (by omega)]
        exact h736
      · intro i v hv
        by_cases hi : i < 8
        · rw [hS7.at i hi] at hv; cases hv; rfl
        · rw [hold7 i (by omega)] at hv; exact ha6 i v hv
      · simp only; omega
    · have hlt64 : u + n < 64 := by omega
      have e1 : (D ++ L.take (k + n)).length / 64 = q := by omega
      have e2 : (D ++ L.take (k + n)).length % 64 = u + n := by omega
      refine ⟨⟨k + n, _, by omega, by simp only; omega, by simp only; omega, hC6, fun _ => hnb6, hw6, hx.trans hx6, _, hp6, hsz6, ?_, ?_, ?_, h736, ha6⟩, ?_⟩
      · rw [e1, show Sha.blocks (D ++ L.take (k + n)) q = Sha.blocks (D ++ L.take k) q from by rw [hE']; exact blocks_append q (by omega)]
        exact hS6
      · rw [e1, e2]; exact hB6
      · rw [e2]; exact h726
      · simp only; omega
  · have hkl : k = L.length := by simp only at hle; omega
    subst hkl
    rw [List.take_length] at *
    refine ⟨trivial, by rw [hw2]; exact hx, ?_⟩
    rw [hw2]
    exact ⟨c2, hp2, hsz2, hS2, hB2, h72, by rw [List.length_append]; exact h73, ha2⟩
end Go.Proofs.YtkolbfjheleoaaaDoor
