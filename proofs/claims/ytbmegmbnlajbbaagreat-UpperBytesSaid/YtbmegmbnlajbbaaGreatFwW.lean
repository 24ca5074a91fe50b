/- Arguments opened: rows of anything, structs, leaves. -/
import Derived.Test.YtbmegmbnlajbbaaGreatFwR
namespace Go.Fw
open Go Go.ChangeShapes Go.WideShapes Go.ChangeAt Go.RowKit

section
variable {H : Type} {enc : TypeId × Value → H} {P : Program} {W : World}

theorem cells_n {a : Addr} {n : Nat} {cs : List Value} (h0 : 0 < n) (h : W.cells? 0 a n = some cs) : a.spot = none ∧ ∃ c T fr, W.heap[a.block]? = some (.cells c T fr) ∧ a.off + n ≤ c.size ∧ cs = (c.toList.drop a.off).take n := by
  obtain ⟨b, o, s⟩ := a
  simp only [World.cells?, Nat.zero_le, if_true] at h
  have hl : cs.length = n := by simpa using mapM_some_length h
  have hg : ∀ i, i < n → W.cell? (Addr.add ⟨b, o, s⟩ i) = cs[i]? := fun i hi => mapM_some_get h i i (by simp [hi])
  have h1 := hg 0 h0
  rw [List.getElem?_eq_getElem (by omega)] at h1
  obtain ⟨hs, c, T, fr, hb, _⟩ := cell_some h1
  have hs' : s = none := by
    cases s with
    | none => rfl
    | some z => simp at hs
  subst hs'
  have hc : ∀ i, i < n → c[o + i]? = cs[i]? := by
    intro i hi
    have h2 := hg i hi
    rw [List.getElem?_eq_getElem (by omega), add_none] at h2
    obtain ⟨_, c2, T2, f2, hb2, hc2⟩ := cell_some h2
    rw [hb] at hb2; cases hb2
    rw [hc2, List.getElem?_eq_getElem (by omega)]
  have hsz : o + n ≤ c.size := by
    have h3 := hc (n - 1) (by omega)
    rw [List.getElem?_eq_getElem (by omega)] at h3
    have := (Array.getElem?_eq_some_iff.1 h3).1
    omega
  refine ⟨rfl, c, T, fr, hb, hsz, ?_⟩
  apply List.ext_getElem?
  intro i
  by_cases hi : i < n
  · rw [← hc i hi, List.getElem?_take, if_pos hi, List.getElem?_drop, Array.getElem?_toList]
  · rw [List.getElem?_eq_none (by omega), List.getElem?_take, if_neg hi]
theorem spot_add {a : Addr} (h : (a.add 0).spot = none) : a.spot = none := by
  obtain ⟨b, o, s⟩ := a
  cases s with
  | none => rfl
  | some z => simp [Addr.add] at h

/-- A row of anything. -/
theorem row_of {t e : TypeId} {sz : Nat} (ht : P.underlying t = some (.slice e)) (hc : P.cellsOf e = sz) (h0 : 0 < sz) {v : Value} {fuel : Nat} {x : DataW H × List MemPlace} (h : DataW.trod enc P W 0 (fun _ => true) true fuel t [v] = some x) :
    ∃ (a : Option Addr) (n nc : Nat) (ys : List (DataW H)), v = .slice a n nc ∧ n ≤ nc ∧ ys.length = n ∧ ((n = 0 ∧ ys = [] ∧ x.1 = .nil) ∨ ∃ rest, x.1 = .slice ys rest) ∧
      ∀ i (hi : i < ys.length), ∃ (b o : Nat) (c : Array Value) (T : TypeId) (fr : Nat × Nat) (m : Nat) (ps : List MemPlace), a = some ⟨b, o, none⟩ ∧ W.heap[b]? = some (.cells c T fr) ∧ o + i * sz + sz ≤ c.size ∧ DataW.trod enc P W 0 (fun _ => true) true m e ((c.toList.drop (o + i * sz)).take sz) = some (ys[i], ps) := by
  rcases DataW.trod_slice ht h with ⟨hcs, rfl⟩ | ⟨a', len, cap, elems, rest, m, _, hcs, rfl, _, hle, _, hlen, hel, _⟩
  · simp only [List.cons.injEq, and_true] at hcs
    exact ⟨none, 0, 0, [], hcs, Nat.le_refl _, rfl, .inl ⟨rfl, rfl, rfl⟩, fun i hi => absurd hi (by simp)⟩
  · simp only [List.cons.injEq, and_true] at hcs
    refine ⟨some a', len, cap, elems.map (·.1), hcs, hle, by simpa using hlen, .inr ⟨_, rfl⟩, fun i hi => ?_⟩
    have hil : i < len := by simpa [hlen] using hi
    have h1 := hel i hil
    rw [List.getElem?_eq_getElem (by omega), hc] at h1
    simp only [Option.bind_eq_some_iff] at h1
    obtain ⟨cs, h2, h3⟩ := h1
    obtain ⟨hsp, c, T, fr, hb, hsz, rfl⟩ := cells_n h0 h2
    have hsp' : a'.spot = none := by
      have h1 := hel 0 (by omega)
      rw [List.getElem?_eq_getElem (by omega), hc] at h1
      simp only [Option.bind_eq_some_iff, Nat.zero_mul] at h1
      obtain ⟨cs, h2, _⟩ := h1
      exact spot_add (cells_n h0 h2).1
    obtain ⟨b, o, s⟩ := a'
    obtain rfl : s = none := hsp'
    rw [add_none] at hb hsz h3
    exact ⟨b, o, c, T, fr, m, (elems[i]).2, rfl, hb, hsz, by simpa using h3⟩

/-- A struct type's fields: types and places. -/
def shapeOf (P : Program) (t : TypeId) : Option (List (TypeId × Nat)) := match P.underlying t with | some (.struct fs) => some (fs.toList.map fun f => (f.type, f.offset)) | _ => none
theorem struct_of {t : TypeId} {L : List (TypeId × Nat)} (hs : shapeOf P t = some L) {cs : List Value} {fuel : Nat} {x : DataW H × List MemPlace} (h : DataW.trod enc P W 0 (fun _ => true) true fuel t cs = some x) :
    ∃ ys : List (DataW H), x.1 = .agg ys ∧ cs.length = P.cellsOf t ∧ ys.length = L.length ∧ ∀ (i : Nat) (ti : TypeId) (off : Nat), L[i]? = some (ti, off) → ∃ m ps y, ys[i]? = some y ∧ DataW.trod enc P W 0 (fun _ => true) true m ti ((cs.drop off).take (P.cellsOf ti)) = some (y, ps) := by
  unfold shapeOf at hs
  split at hs
  · rename_i fs hu
    injection hs with hs
    subst hs
    obtain ⟨xs, n, _, rfl, hl, hlen, hf⟩ := DataW.trod_struct hu h
    refine ⟨xs.map (·.1), rfl, hl, by simpa using hlen, fun i ti off hi => ?_⟩
    rw [List.getElem?_map, Option.map_eq_some_iff] at hi
    obtain ⟨f, hfi, he⟩ := hi
    simp only [Prod.mk.injEq] at he
    obtain ⟨rfl, rfl⟩ := he
    have h1 := hf i f (by simpa using hfi)
    have hil : i < xs.length := by
      have := (List.getElem?_eq_some_iff.1 hfi).1
      simp at this; omega
    rw [List.getElem?_eq_getElem hil] at h1
    exact ⟨n, (xs[i]).2, (xs[i]).1, by simp [List.getElem?_eq_getElem hil], h1⟩
  · cases hs

theorem int_of {t : TypeId} {k : IntKind} (ht : P.underlying t = some (.int k)) {v : Value} {fuel : Nat} {x : DataW H × List MemPlace} (h : DataW.trod enc P W 0 (fun _ => true) true fuel t [v] = some x) : ∃ n, v = .int k n ∧ (Lit.int k n).wf = true := by
  cases fuel with
  | zero => simp [DataW.trod] at h
  | succ m =>
    unfold DataW.trod at h
    rw [ht] at h
    split at h <;> simp_all
theorem bool_of {t : TypeId} (ht : P.underlying t = some .bool) {v : Value} {fuel : Nat} {x : DataW H × List MemPlace} (h : DataW.trod enc P W 0 (fun _ => true) true fuel t [v] = some x) : ∃ b, v = .bool b := by
  cases fuel with
  | zero => simp [DataW.trod] at h
  | succ m =>
    unfold DataW.trod at h
    rw [ht] at h
    split at h <;> simp_all
theorem take_one {c : Array Value} {o : Nat} (h : o < c.size) : (c.toList.drop o).take 1 = [c[o]] := by
  rw [List.drop_eq_getElem_cons (by simpa using h)]
  simp
theorem field_one {c : Array Value} {o sz j : Nat} (hj : j < sz) (h : o + sz ≤ c.size) : (((c.toList.drop o).take sz).drop j).take 1 = [c[o + j]] := by
  rw [List.drop_take, List.drop_drop, List.take_take, Nat.min_eq_left (by omega)]
  exact take_one (by omega)
/-- How many elements a datum has, where it is a row. -/
def big : DataW H → Nat
  | .slice es _ => es.length
  | _ => 0
theorem bytesW {t e : TypeId} (ht : P.underlying t = some (.slice e)) (he : P.underlying e = some (.int .u8)) (hc : P.cellsOf e = 1) {v : Value} {fuel : Nat} {x : DataW H × List MemPlace} (h : DataW.trod enc P W 0 (fun _ => true) true fuel t [v] = some x) :
    ∃ a l c L, v = .slice a l c ∧ Cells W.heap a (byteCells L) ∧ l = L.length ∧ l ≤ c ∧ L.length = big x.1 := by
  obtain ⟨a, l, c, L, rfl, hC, hl, hlc, _⟩ := cell_bytes ht he hc h
  obtain ⟨a', n, nc, ys, he', _, hn, hx, _⟩ := row_of ht hc (by omega) h
  injection he' with h1 h2 h3
  subst h1 h2 h3
  refine ⟨a, l, c, L, rfl, hC, hl, hlc, ?_⟩
  rcases hx with ⟨h1, h2, h3⟩ | ⟨rest, h3⟩
  · rw [h3]; simp only [big]; omega
  · rw [h3]; simp only [big]; omega
theorem rowsW {t t1 e : TypeId} (ht : P.underlying t = some (.slice t1)) (ht1 : P.underlying t1 = some (.slice e)) (he : P.underlying e = some (.int .u8)) (hc : P.cellsOf e = 1) (hc1 : P.cellsOf t1 = 1) {v : Value} {fuel : Nat} {x : DataW H × List MemPlace} (h : DataW.trod enc P W 0 (fun _ => true) true fuel t [v] = some x) :
    ∃ (a : Option Addr) (n nc : Nat) (Ls : List (List UInt8)) (ys : List (DataW H)), v = .slice a n nc ∧ n ≤ nc ∧ (n = Ls.length ∧ ∀ i (h : i < Ls.length), ∃ (b o : Nat) (c : Array Value) (T : TypeId) (fr : Nat × Nat) (x : Option Addr × Nat × Nat), a = some ⟨b, o, none⟩ ∧ W.heap[b]? = some (.cells c T fr) ∧ c[o + i]? = some (.slice x.1 x.2.1 x.2.2) ∧ Cells W.heap x.1 (byteCells Ls[i]) ∧ x.2.1 = Ls[i].length ∧ x.2.1 ≤ x.2.2) ∧
      ys.length = n ∧ ((n = 0 ∧ ys = [] ∧ x.1 = .nil) ∨ ∃ rest, x.1 = .slice ys rest) ∧ ∀ L ∈ Ls, ∃ y ∈ ys, L.length = big y := by
  obtain ⟨a, n, nc, ys, rfl, hle, hn, hx, hel⟩ := row_of ht hc1 (by omega) h
  have key : ∀ i (hi : i < ys.length), ∃ L : List UInt8, (∃ (b o : Nat) (c : Array Value) (T : TypeId) (fr : Nat × Nat) (x : Option Addr × Nat × Nat), a = some ⟨b, o, none⟩ ∧ W.heap[b]? = some (.cells c T fr) ∧ c[o + i]? = some (.slice x.1 x.2.1 x.2.2) ∧ Cells W.heap x.1 (byteCells L) ∧ x.2.1 = L.length ∧ x.2.1 ≤ x.2.2) ∧ L.length = big ys[i] := by
    intro i hi
    obtain ⟨b, o, c, T, fr, m, ps, rfl, hb, hsz, ht2⟩ := hel i hi
    rw [Nat.mul_one] at hsz ht2
    rw [take_one (by omega)] at ht2
    obtain ⟨xa, xl, xc, L, hv, hC, hl, hlc, hbig⟩ := bytesW ht1 he hc ht2
    exact ⟨L, ⟨b, o, c, T, fr, (xa, xl, xc), rfl, hb, by rw [← hv]; exact Array.getElem?_eq_getElem _, hC, hl, hlc⟩, hbig⟩
  classical
  refine ⟨a, n, nc, (List.range n).map fun i => if h : i < ys.length then Classical.choose (key i h) else [], ys, rfl, hle, ⟨by simp, fun i hi => ?_⟩, hn, hx, fun L hL => ?_⟩
  · have hi' : i < ys.length := by simpa [hn] using hi
    have := (Classical.choose_spec (key i hi')).1
    simpa [hi'] using this
  · simp only [List.mem_map, List.mem_range] at hL
    obtain ⟨i, hi, rfl⟩ := hL
    rw [dif_pos (by omega)]
    exact ⟨ys[i]'(by omega), List.getElem_mem _, (Classical.choose_spec (key i (by omega))).2⟩
end
end Go.Fw
