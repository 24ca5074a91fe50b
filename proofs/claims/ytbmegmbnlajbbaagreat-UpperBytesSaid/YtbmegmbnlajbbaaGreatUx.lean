/- Scripts of steps and rows of names, opened. -/
import Derived.Test.YtbmegmbnlajbbaaGreatUw
import Derived.Test.YtbmegmbnlajbbaaGreatFwR
import Derived.Test.YtbmegmbnlajbbaaGreatFwW
namespace Go.Proofs.YtbmegmbnlajbbaaGreat
open Go Go.Fw Go.Proofs Go.ChangeShapes Go.WideShapes Go.ChangeAt Go.RowKit
variable {Hh : Type} {enc : TypeId × Value → Hh} {W : World}
theorem row_max {t e : TypeId} (ht : P.underlying t = some (.slice e)) {a : Option Addr} {n nc : Nat} {fuel : Nat} {x : DataW Hh × List MemPlace} (h : DataW.trod enc P W 0 (fun _ => true) true fuel t [.slice a n nc] = some x) : n ≤ 9223372036854775807 := by
  rcases DataW.trod_slice ht h with ⟨hcs, _⟩ | ⟨a', len, cap, elems, rest, m, _, hcs, _, _, hle, hmax, _⟩
  · simp only [List.cons.injEq, Value.slice.injEq, and_true] at hcs
    omega
  · simp only [List.cons.injEq, Value.slice.injEq, and_true] at hcs
    have : maxLen = 9223372036854775807 := by decide
    omega
theorem str_of {t : TypeId} (ht : P.underlying t = some .string) {v : Value} {fuel : Nat} {x : DataW Hh × List MemPlace} (h : DataW.trod enc P W 0 (fun _ => true) true fuel t [v] = some x) : ∃ L : List UInt8, v = .string (strOf L) ∧ L.length ≤ 9223372036854775807 := by
  cases fuel with
  | zero => simp [DataW.trod] at h
  | succ m =>
    unfold DataW.trod at h
    rw [ht] at h
    split at h <;> simp_all
    refine ⟨_, strOf_data.symm, ?_⟩
    have hm : maxLen = 9223372036854775807 := by decide
    have h1 := h.1
    simp only [ByteArray.size] at h1
    rw [Array.length_toList]
    omega
theorem cStr : P.cellsOf y_string = 1 := by kernel_rfl
/-- A row of texts. -/
theorem open_strs {t : TypeId} (ht : P.underlying t = some (.slice y_string)) {v : Value} {fuel : Nat} {x : DataW Hh × List MemPlace} (h : DataW.trod enc P W 0 (fun _ => true) true fuel t [v] = some x) :
    ∃ (a : Option Addr) (n nc : Nat) (q : Path), v = .slice a n nc ∧ Cells W.heap a (strRow q) ∧ n = q.length ∧ n ≤ nc ∧ Fit q ∧ q.length ≤ 9223372036854775807 := by
  obtain ⟨a, n, nc, ys, rfl, hle, hn, hx, hel⟩ := row_of ht cStr (by omega) h
  have hmax := row_max ht h
  have key : ∀ i (hi : i < ys.length), ∃ L : List UInt8, (∃ (b o : Nat) (c : Array Value) (T : TypeId) (fr : Nat × Nat), a = some ⟨b, o, none⟩ ∧ W.heap[b]? = some (.cells c T fr) ∧ c[o + i]? = some (.string (strOf L))) ∧ L.length ≤ 9223372036854775807 := by
    intro i hi
    obtain ⟨b, o, c, T, fr, m, ps, rfl, hb, hsz, ht2⟩ := hel i hi
    rw [Nat.mul_one] at hsz ht2
    rw [take_one (by omega)] at ht2
    obtain ⟨L, hv, hl⟩ := str_of uStr ht2
    exact ⟨L, ⟨b, o, c, T, fr, rfl, hb, by rw [← hv]; exact Array.getElem?_eq_getElem _⟩, hl⟩
  classical
  refine ⟨a, n, nc, (List.range n).map fun i => if h : i < ys.length then Classical.choose (key i h) else [], rfl, ?_, by simp, hle, fun L hL => ?_, by simpa using hmax⟩
  · by_cases h0 : n = 0
    · subst h0; exact .inl rfl
    · obtain ⟨b, o, c, T, fr, rfl, hb, _⟩ := (Classical.choose_spec (key 0 (by omega))).1
      refine .inr ⟨b, o, c, T, fr, rfl, hb, ?_, ?_⟩
      · obtain ⟨b2, o2, c2, T2, fr2, he, hb2, hc2⟩ := (Classical.choose_spec (key (n - 1) (by omega))).1
        cases he
        rw [hb] at hb2; cases hb2
        have := (Array.getElem?_eq_some_iff.1 hc2).1
        simp; omega
      · apply List.ext_getElem?
        intro j
        rw [Array.getElem?_toList, Array.getElem?_extract]
        simp only [length_strRow, List.length_map, List.length_range, strRow, List.map_map, List.getElem?_map]
        by_cases hj : j < n
        · obtain ⟨b2, o2, c2, T2, fr2, he, hb2, hc2⟩ := (Classical.choose_spec (key j (by omega))).1
          cases he
          rw [hb] at hb2; cases hb2
          have := (Array.getElem?_eq_some_iff.1 hc2).1
          rw [if_pos (by omega), List.getElem?_range hj, hc2]
          simp [hn ▸ hj]
        · rw [if_neg (by omega), List.getElem?_eq_none (by simp; omega)]; rfl
  · simp only [List.mem_map, List.mem_range] at hL
    obtain ⟨i, hi, rfl⟩ := hL
    rw [dif_pos (by omega)]
    exact (Classical.choose_spec (key i (by omega))).2
theorem shStep : shapeOf P y_l12_Step = some [(y_api_Inode, 0), (y_bool, 4), (y_S_string, 5)] := by kernel_rfl
theorem shIno : shapeOf P y_api_Inode = some [(y_string, 0), (y_int, 1), (y_bool, 2), (y_string, 3)] := by kernel_rfl
theorem cStep : P.cellsOf y_l12_Step = 6 := by kernel_rfl
theorem cBool : P.cellsOf y_bool = 1 := by kernel_rfl
theorem cInt : P.cellsOf y_int = 1 := by kernel_rfl
theorem cSs : P.cellsOf y_S_string = 1 := by kernel_rfl
theorem open_steps {t : TypeId} (ht : P.underlying t = some (.slice y_l12_Step)) {v : Value} {fuel : Nat} {x : DataW Hh × List MemPlace} (h : DataW.trod enc P W 0 (fun _ => true) true fuel t [v] = some x) :
    ∃ a n nc, v = .slice a n nc ∧ Steps W.heap a n := by
  obtain ⟨a, n, nc, ys, rfl, hle, hn, hx, hel⟩ := row_of ht cStep (by omega) h
  refine ⟨a, n, nc, rfl, row_max ht h, fun i hi => ?_⟩
  obtain ⟨b, ob, c, T, fr, m, ps, rfl, hbk, hsz, ht2⟩ := hel i (by omega)
  obtain ⟨zs, _, _, _, hf⟩ := struct_of shStep ht2
  obtain ⟨mI, pI, zI', _, hI⟩ := hf 0 y_api_Inode 0 rfl
  obtain ⟨m4, p4, z4, _, h4⟩ := hf 1 y_bool 4 rfl
  obtain ⟨m5, p5, z5, _, h5⟩ := hf 2 y_S_string 5 rfl
  rw [cBool, field_one (by omega) hsz] at h4
  rw [cSs, field_one (by omega) hsz] at h5
  rw [szI, List.drop_zero, List.take_take, Nat.min_eq_left (by omega)] at hI
  obtain ⟨zi, _, _, _, hg⟩ := struct_of shIno hI
  have hs4 : ob + i * 6 + 4 ≤ c.size := by omega
  obtain ⟨a0, b0, e0, _, g0⟩ := hg 0 y_string 0 rfl
  obtain ⟨a1, b1, e1, _, g1⟩ := hg 1 y_int 1 rfl
  obtain ⟨a2, b2, e2, _, g2⟩ := hg 2 y_bool 2 rfl
  obtain ⟨a3, b3, e3, _, g3⟩ := hg 3 y_string 3 rfl
  rw [cStr, field_one (by omega) hs4] at g0 g3
  rw [cInt, field_one (by omega) hs4] at g1
  rw [cBool, field_one (by omega) hs4] at g2
  obtain ⟨t', ht', _⟩ := str_of uStr g0
  obtain ⟨k', hk', _⟩ := int_of uInt g1
  obtain ⟨o', ho'⟩ := bool_of uBool g2
  obtain ⟨d', hd', _⟩ := str_of uStr g3
  obtain ⟨dr, hdr⟩ := bool_of uBool h4
  obtain ⟨aN, nN, ncN, q, hN, hC, hnN, hleN, hfit, hqm⟩ := open_strs uSstr h5
  have cell : ∀ {j : Nat} {w : Value} (hj : j < 6), c[ob + i * 6 + j]'(by omega) = w → c[ob + i * 6 + j]? = some w := fun hj h => by rw [← h]; exact Array.getElem?_eq_getElem _
  exact ⟨b, ob, c, T, fr, t', d', k', o', dr, (aN, nN, ncN), q, rfl, hbk, cell (j := 0) (by omega) ht', cell (by omega) hk', cell (by omega) ho', cell (by omega) hd', cell (by omega) hdr, cell (by omega) hN, hC, hnN, hleN, hfit, hqm⟩
end Go.Proofs.YtbmegmbnlajbbaaGreat
namespace Go.Proofs.YtbmegmbnlajbbaaGreat.RowC
open Go Go.Fw Go.Proofs Go.ChangeShapes Go.WideShapes Go.ChangeAt Go.RowKit
theorem own : ownKnob Tryz.prog.godebug = none := by kernel_rfl
theorem laidOut : laidOutB Tryz.prog = true := by kernel_rfl
end Go.Proofs.YtbmegmbnlajbbaaGreat.RowC
