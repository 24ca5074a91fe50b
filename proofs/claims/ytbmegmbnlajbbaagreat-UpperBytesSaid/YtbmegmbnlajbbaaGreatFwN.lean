/- Bytes and strings. -/
import Derived.Test.YtbmegmbnlajbbaaGreatFwM
import Derived.Laws.BytesString
import Derived.Lib.BytesEntry
import Derived.Lib.Bytealg
import Derived.Laws.Externs
namespace Go.Fw
open Go

/-- A string, out of its bytes. -/
def strOf (L : List UInt8) : ByteArray := ⟨L.toArray⟩
theorem fold_push (L : List UInt8) : ∀ (s : ByteArray), (L.map fun b => (b.toNat : Int)).foldl (fun r n => r.push (UInt8.ofNat n.toNat)) s = ⟨s.data ++ L.toArray⟩ := by
  induction L with
  | nil => intro s; cases s; simp
  | cons b l ih =>
    intro s
    simp only [List.map_cons, List.foldl_cons]
    rw [ih]
    cases s
    simp [ByteArray.push]
section
variable {P : Program} {w : World} {H : Heap}
theorem convS_h {st sd e : TypeId} {a : Option Addr} {l c : Nat} {L : List UInt8} (hs : P.underlying st = some (.slice e)) (he : P.underlying e = some (.int .u8)) (hd : P.underlying sd = some .string) (hw : w.heap = H) (hL : Cells H a (byteCells L)) (hl : l = L.length) :
    (convert st sd (.slice a l c)).run P w = .ok (.string (strOf L)) w := by
  subst hl
  rw [run_convert_bytes_string w st sd e a _ c hs he hd]
  cases a with
  | none =>
    have : L = [] := by
      rcases hL with h | ⟨b, o, c, T, fr, h, _⟩
      · simpa [byteCells] using h
      · cases h
    subst this
    rfl
  | some a =>
    have hcs : (loadCells a L.length).run P w = .ok ((L.map fun b => (b.toNat : Int)).map (Value.int .u8)).toArray w := by
      rw [List.map_map]
      rcases hL with h | ⟨b, o, c, T, fr, h, hb, hn, hc⟩
      · have : L = [] := by simpa [byteCells] using h
        subst this
        rfl
      · cases h
        rw [length_byteCells] at hn
        rw [loadCells_h hw hb hn]
        congr 1
        rw [length_byteCells] at hc
        apply Array.ext'
        rw [hc]
        rfl
    rw [run_bytesToString w a L.length c _ hcs, fold_push]
    simp [strOf]
/-- A list of bytes of a program's text: its row is marked. -/
theorem mark_h {st e : TypeId} {b o l c : Nat} {cc : Array Value} {T : TypeId} (hs : P.underlying st = some (.slice e)) (he : P.underlying e = some (.int .u8)) (hw : w.heap = H) (hb : H[b]? = some (.cells cc T (0, 0))) :
    ∃ w', (convert st st (.slice (some ⟨b, o, none⟩) l c)).run P w = .ok (.slice (some ⟨b, o, none⟩) l c) w' ∧ Calm w w' ∧ w'.heap = H.setIfInBounds b (.cells cc T (cc.size, cc.size + 1)) := by
  subst hw
  refine ⟨w.freeze { block := b, off := cc.size } 1, ?_, ⟨rfl, rfl, rfl, Nat.le_refl _⟩, ?_⟩
  · simp only [convert, Sem.run_bind, run_underlying' hs, run_underlying' he, Result.andThen_ok, beq_self_eq_true, markStringish, run_shape, World.shape?, hb, run_freeze, Sem.run_pure]
  · simp only [World.freeze, Nat.succ_ne_zero, if_false]
    apply Array.ext_getElem?
    intro i
    rw [Array.getElem?_modify, Array.getElem?_setIfInBounds]
    by_cases e : b = i
    · subst e
      have := lt_of_get hb
      simp only [if_true, this, hb, Option.map_some]
      rfl
    · simp [e]
theorem cells_cell {a : Addr} {vs : List Value} (hw : w.heap = H) (h : Cells H (some a) vs) {i : Nat} {v : Value} (hi : vs[i]? = some v) : w.cell? (a.add i) = some v := by
  have hlt := (List.getElem?_eq_some_iff.1 hi).1
  rcases h with h | ⟨b, o, c, T, fr, h, hb, hn, hc⟩
  · subst h; simp at hlt
  · cases h
    rw [add_none, cell_h hw hb]
    rw [← hc, Array.getElem?_toList, Array.getElem?_extract] at hi
    split at hi
    · exact hi
    · cases hi
theorem run_bytesOf {a : Option Addr} {l c : Nat} {L : List UInt8} (hw : w.heap = H) (hL : Cells H a (byteCells L)) (hl : l = L.length) : (Extern.Bytes.bytesOf (.slice a l c)).run P w = .ok (strOf L) w := by
  subst hl
  cases a with
  | none =>
    have : L = [] := by
      rcases hL with h | ⟨b, o, c, T, fr, h, _⟩
      · simpa [byteCells] using h
      · cases h
    subst this
    rfl
  | some a =>
    simp only [Extern.Bytes.bytesOf]
    have h := Lib.run_loadBytesX (P := P) w (L.map fun b => (b.toNat : Int)) a .empty fun j x hj => cells_cell hw hL (by
      rw [List.getElem?_map] at hj
      obtain ⟨b, hb, rfl⟩ := Option.map_eq_some_iff.1 hj
      simp [byteCells, hb])
    rw [List.length_map] at h
    rw [h]
    simp [strOf, Lib.bytesOf, Function.comp_def]
theorem run_compare_sl {a a' : Option Addr} {l c l' c' : Nat} {L L' : List UInt8} (hw : w.heap = H) (hL : Cells H a (byteCells L)) (hl : l = L.length) (hL' : Cells H a' (byteCells L')) (hl' : l' = L'.length) :
    (Extern.BytealgCompare.compare #[.slice a l c, .slice a' l' c']).run P w = .ok (.int .i64 (Lib.compareBytes L L')) w := by
  change Sem.run P (do pure (goInt (Extern.BytealgCompare.cmp (← Extern.Bytes.bytesOf (.slice a l c)) (← Extern.Bytes.bytesOf (.slice a' l' c'))))) w = _
  simp only [Sem.run_bind, run_bytesOf hw hL hl, run_bytesOf hw hL' hl', Sem.run_pure, Result.andThen_ok]
  rw [Lib.cmp_eq]
  rfl
end
end Go.Fw
