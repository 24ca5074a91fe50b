/- The order of bytes. -/
import Derived.Lib.Bytealg
import Derived.Sort.LotA
import Derived.Shelf.SlSortCmp.Insertion
namespace Go.Fw
open Go Go.Proofs Go.Sort

theorem cmpB_lt : ∀ {a b : List UInt8}, Lib.compareBytes a b < 0 ↔ a < b
  | [], [] => by simp [Lib.compareBytes]
  | [], b :: y => by simp [Lib.compareBytes]
  | a :: x, [] => by simp [Lib.compareBytes]
  | a :: x, b :: y => by
    have ih := cmpB_lt (a := x) (b := y)
    rw [List.cons_lt_cons_iff]
    simp only [Lib.compareBytes]
    by_cases h1 : a < b
    · simp [h1]
    · rw [if_neg h1]
      by_cases h2 : b < a
      · rw [if_pos h2]
        have : a ≠ b := by rintro rfl; exact h1 h2
        simp [h1, this]
      · rw [if_neg h2]
        have : a = b := UInt8.le_antisymm (UInt8.not_lt.1 h2) (UInt8.not_lt.1 h1)
        subst this
        simp [h1, ih]
theorem cmpB_eq : ∀ {a b : List UInt8}, Lib.compareBytes a b = 0 ↔ a = b
  | [], [] => by simp [Lib.compareBytes]
  | [], b :: y => by simp [Lib.compareBytes]
  | a :: x, [] => by simp [Lib.compareBytes]
  | a :: x, b :: y => by
    have ih := cmpB_eq (a := x) (b := y)
    simp only [Lib.compareBytes, List.cons.injEq]
    by_cases h1 : a < b
    · have : a ≠ b := by rintro rfl; exact UInt8.lt_irrefl _ h1
      simp [h1, this]
    · rw [if_neg h1]
      by_cases h2 : b < a
      · have : a ≠ b := by rintro rfl; exact h1 h2
        simp [h2, this]
      · rw [if_neg h2]
        have : a = b := UInt8.le_antisymm (UInt8.not_lt.1 h2) (UInt8.not_lt.1 h1)
        simp [this, ih]
theorem cmpB_neg : ∀ {a b : List UInt8}, Lib.compareBytes a b = - Lib.compareBytes b a
  | [], [] => by simp [Lib.compareBytes]
  | [], b :: y => by simp [Lib.compareBytes]
  | a :: x, [] => by simp [Lib.compareBytes]
  | a :: x, b :: y => by
    have ih := cmpB_neg (a := x) (b := y)
    simp only [Lib.compareBytes]
    by_cases h1 : a < b
    · have : ¬ b < a := fun h => UInt8.lt_irrefl _ (UInt8.lt_trans h1 h)
      simp [h1, this]
    · by_cases h2 : b < a
      · simp [h1, h2]
      · simp [h1, h2]; exact ih
theorem cmpB_range : ∀ {a b : List UInt8}, Lib.compareBytes a b = -1 ∨ Lib.compareBytes a b = 0 ∨ Lib.compareBytes a b = 1
  | [], [] => by simp [Lib.compareBytes]
  | [], b :: y => by simp [Lib.compareBytes]
  | a :: x, [] => by simp [Lib.compareBytes]
  | a :: x, b :: y => by
    simp only [Lib.compareBytes]
    split
    · simp
    · split
      · simp
      · exact cmpB_range
/-- Bytes by a view of them are in a strict weak order. -/
theorem swo_cmpB {α : Type} (f : α → List UInt8) : SWO (ltOf fun x y => Lib.compareBytes (f x) (f y)) := by
  have h : ∀ x y, ltOf (fun x y => Lib.compareBytes (f x) (f y)) x y = ltStr (f x) (f y) := by
    intro x y
    unfold ltOf ltStr
    exact decide_eq_decide.2 cmpB_lt
  exact ⟨fun x => by rw [h]; exact swo_ltStr.irrefl _, fun x y z => by rw [h, h, h]; exact swo_ltStr.trans _ _ _, fun x y z => by rw [h, h, h]; exact swo_ltStr.ntrans _ _ _⟩
end Go.Fw
