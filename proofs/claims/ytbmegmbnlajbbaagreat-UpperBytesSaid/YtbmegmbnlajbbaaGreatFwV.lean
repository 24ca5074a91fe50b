/- Rows of values of several cells: variables, elements, what is appended. -/
import Derived.Test.YtbmegmbnlajbbaaGreatFwN
import Derived.Test.YtbmegmbnlajbbaaGreatFwT
import Derived.Test.YtbmegmbnlajbbaaGreatFwQ
import Derived.Great.BuildSlice
namespace Go.Fw
open Go

/-- A new variable with a value. -/
theorem var_g {P : Program} {w : World} {H : Heap} {y : TypeId} {v : Value} (hs : P.cellsOf y = v.cells.size) (hz : (zc P y).size = v.cells.size) (h0 : v.cells.size ≠ 0) (h1 : oneCells v.cells.toList) (hw : w.heap = H) {K : Nat → World → Prop}
    (hK : ∀ w', w'.heap = H.push (.cells v.cells y (0, 0)) → K H.size w') : newB (zc P y) y w fun b w1 => genU P (storeVar y (⟨b, 0, none⟩ : Addr) v) w1 fun w2 => K b w2 := by
  refine newB_h hw fun w1 hw1 => ?_
  refine storeVar_h hs h0 h1 hw1 push_new (by omega) fun w2 hw2 => hK w2 ?_
  rw [hw2, setCells_all (by simpa using hz.symm)]
  apply Array.ext_getElem?
  intro i
  by_cases h : H.size = i
  · subst h
    simp
  · rw [Array.getElem?_setIfInBounds_ne h]
    by_cases hi : i < H.size
    · rw [push_old (Array.getElem?_eq_getElem hi), push_old (Array.getElem?_eq_getElem hi)]
    · rw [Array.getElem?_eq_none (by simp; omega), Array.getElem?_eq_none (by simp; omega)]
/-- A type of elements: so many cells, so many bytes. -/
def Elem (P : Program) (e : TypeId) (sz bts : Nat) : Prop := ∃ info z, P.info? e = some info ∧ info.size = sz ∧ info.zero = some z ∧ z.cells.size = sz ∧ info.bytes = bts
theorem elem_of {P : Program} {e : TypeId} {sz bts : Nat} {z : Value} (h : (P.info? e).map (fun i => (i.size, i.bytes, i.zero)) = some (sz, bts, some z)) (hz : z.cells.size = sz) : Elem P e sz bts := by
  obtain ⟨i, hi, h⟩ := Option.map_eq_some_iff.1 h
  simp only [Prod.mk.injEq] at h
  exact ⟨i, z, hi, h.1, h.2.2, hz, h.2.1⟩
theorem append_g {P : Program} {w : World} {H : Heap} {st xt e ty : TypeId} {sz bts B : Nat} {x : Option Addr × Nat × Nat} {y : Value} {n : Nat} {vs us : List Value} (E : Elem P e sz bts) (hb : bts ≠ 0) (hu : P.underlying st = some (.slice e)) (hx : ∃ d, P.underlying xt = some d ∧ ∀ k, d ≠ .int k)
    (hw : w.heap = H) (hown : Mine H B e sz x vs) (hB : B ≤ H.size) (hsrc : Src P w y sz n us) (h1 : oneCells us) (hroom : (2 * (x.2.1 + n) + 192) * bts ≤ 281474976710656) {K : (Option Addr × Nat × Nat) → World → Prop}
    (hK : ∀ x' w', Mine w'.heap B e sz x' (vs ++ us) → x'.2.1 = x.2.1 + n → Ext (ownM x) H w'.heap → (∀ b, b ∈ ownM x' → b ∈ ownM x ∨ H.size ≤ b) → K x' w') :
    genL P (Builtin.append_ #[st, xt] ty #[.slice x.1 x.2.1 x.2.2, y]) .slc w K := by
  obtain ⟨i, z, hi, hs, hz, hzs, hbb⟩ := E
  obtain ⟨x', w', h2, hc, h3, h4, h5, h6⟩ := append_h (ty := ty) hu hx hi hs hz hzs (by omega) hw hown hB hsrc h1 (by rw [hbb]; exact hroom)
  exact genL_of x' w' h2 (hK x' w' h3 h4 h5 h6) hc
theorem slice_noint {P : Program} {st e : TypeId} (hu : P.underlying st = some (.slice e)) : ∃ d, P.underlying st = some d ∧ ∀ k, d ≠ .int k := ⟨_, hu, by intro k h; cases h⟩
/-- An element of a row, by its place. -/
theorem elem_ld {P : Program} {w : World} {H : Heap} {a : Option Addr} {len sz : Nat} {α : Type} {enc : α → List Value} (hk : ∀ x, (enc x).length = sz) (h0 : 0 < sz) {xs : List α} {v : α} {i : Nat} {n : Int} (hw : w.heap = H) (hL : Cells H a (xs.flatMap enc))
    (hlen : len = xs.length) (hi : xs[i]? = some v) (hn : n = (i : Int)) {K : Array Value → Prop} (hK : K (enc v).toArray) : ixS a len sz n fun p => ldA P sz p w K := by
  have hlt := (List.getElem?_eq_some_iff.1 hi).1
  rcases hL with h | ⟨b, o, c, T, fr, rfl, hb, hsz, hc⟩
  · have := congrArg List.length h
    rw [length_flatMap_k enc hk] at this
    have := Nat.mul_pos (show 0 < xs.length by omega) h0
    simp_all
  · refine ixS_h i hn (by omega) ?_
    have hm : i * sz + sz ≤ xs.length * sz := by
      have := Nat.mul_le_mul_right sz (show i + 1 ≤ xs.length by omega)
      rw [Nat.add_mul] at this; omega
    rw [length_flatMap_k enc hk] at hsz
    refine ldA_h hw hb (by omega) ?_
    have : c.extract (o + i * sz) (o + i * sz + sz) = (enc v).toArray := by
      apply Array.ext_getElem?
      intro j
      rw [Array.getElem?_extract]
      by_cases hj : j < sz
      · rw [if_pos (by omega)]
        have h2 : (xs.flatMap enc)[i * sz + j]? = (enc v)[j]? := by
          rw [getElem_flatMap enc hk h0]
          have h3 : (i * sz + j) / sz = i := by
            rw [Nat.mul_comm, Nat.mul_add_div h0, Nat.div_eq_of_lt hj]; rfl
          have h4 : (i * sz + j) % sz = j := by
            rw [Nat.mul_comm, Nat.mul_add_mod, Nat.mod_eq_of_lt hj]
          rw [h3, h4, hi]; rfl
        rw [← hc, Array.getElem?_toList, Array.getElem?_extract, length_flatMap_k enc hk, if_pos (by omega)] at h2
        rw [show o + i * sz + j = o + (i * sz + j) by omega, h2]
        simp
      · rw [if_neg (by omega)]
        rw [Array.getElem?_eq_none (by simp [hk]; omega)]
    rw [this]; exact hK
theorem fold_setCells (off : Nat) : ∀ (vs : List Value) (k : Nat) (cs : Array Value), (vs.zipIdx k).foldl (fun cs x => cs.setIfInBounds (off + x.2) x.1) cs = setCells cs (off + k) vs
  | [], _, _ => rfl
  | v :: r, k, cs => by
    simp only [List.zipIdx_cons, List.foldl_cons, setCells]
    rw [fold_setCells off r (k + 1)]
    rfl
theorem fill_one {v : Value} {size : Nat} {cs : Array Value} (hs : v.cells.size = size) (hc : cs.size = size) : Instr.fill (fun i => some (i * size, size)) cs [(0, v)] = some v.cells := by
  simp only [Instr.fill, Nat.zero_mul, Nat.zero_add, hs, hc, ne_eq, not_true_eq_false, decide_false, Bool.false_or, Nat.lt_irrefl, decide_eq_true_eq, if_false, Bool.or_self, Bool.false_eq_true, gt_iff_lt]
  congr 1
  have h := fold_setCells 0 v.cells.toList 0 cs
  simp only [Nat.zero_add] at h
  rw [← Array.foldl_toList, Array.toList_zipIdx, h, setCells_all (by simpa [hc] using hs)]
/-- A row of one. -/
theorem build1_g {P : Program} {w : World} {st e : TypeId} {sz bts : Nat} {v : Value} (E : Elem P e sz bts) (hu : P.underlying st = some (.slice e)) (hv : v.cells.size = sz) (h0 : 0 < sz) (h1 : sz ≤ 16777216) :
    (Instr.buildSlice st 1 #[(0, v)]).run P w = .ok (.slice (some ⟨w.heap.size, 0, none⟩) 1 1) { w with heap := w.heap.push (.cells v.cells e) } := by
  obtain ⟨i, z, hi, hs, hz, hzs, _⟩ := E
  have hn1 : ¬ (1 * i.size > 2 ^ 24) := by
    have : (2 : Nat) ^ 24 = 16777216 := by decide
    rw [this]; omega
  have hn2 : ¬ (1 * i.size = 0) := by omega
  have hf : Instr.fill (fun k => some (k * i.size, i.size)) ((Array.range (1 * i.size)).map (z.cells[· % z.cells.size]!)) [(0, v)] = some v.cells := fill_one (by omega) (by simp)
  exact run_buildSlice w st e 1 #[(0, v)] v.cells i z hu hi hz hn1 hn2 hf
end Go.Fw
