/- Strings as lists of bytes; rows of strings. -/
import Derived.Test.YtbmegmbnlajbbaaGreatFwV
import Derived.Test.YtbmegmbnlajbbaaGreatFwM
import Derived.Test.YtbmegmbnlajbbaaGreatFwN
import Derived.Test.YtbmegmbnlajbbaaGreatFwO
import Derived.Laws.Strings
namespace Go.Fw
open Go

@[simp] theorem strOf_toList {L : List UInt8} : (strOf L).toList = L := by rw [ByteArray.toList_eq]; rfl
@[simp] theorem strOf_size {L : List UInt8} : (strOf L).size = L.length := rfl
theorem strOf_data {s : ByteArray} : strOf s.data.toList = s := rfl
theorem str_ex (s : ByteArray) : ∃ L, s = strOf L := ⟨s.data.toList, rfl⟩
theorem strOf_inj {A B : List UInt8} : strOf A = strOf B ↔ A = B := by
  constructor
  · intro h
    have := congrArg ByteArray.toList h
    simpa using this
  · rintro rfl; rfl
theorem strOf_extract {L : List UInt8} {l h : Nat} : (strOf L).extract l h = strOf ((L.take h).drop l) := by
  apply ByteArray.ext
  simp only [ByteArray.data_extract, strOf]
  apply Array.ext'
  simp [List.extract_eq_take_drop, List.drop_take]
theorem strOf_append {A B : List UInt8} : strOf A ++ strOf B = strOf (A ++ B) := by
  apply ByteArray.ext
  simp [strOf, ByteArray.data_append]
theorem ixStr_h {L : List UInt8} {i : Int} {K : Int → Prop} (k : Nat) (hi : i = (k : Int)) (hk : k < L.length) (hK : K ((L[k]).toNat : Int)) : ixStr (strOf L) i K := by
  subst hi
  refine ⟨by omega, L[k], ?_, hK⟩
  show (strOf L)[((k : Int)).toNat]? = some L[k]
  rw [Int.toNat_natCast]
  have h : k < (strOf L).size := hk
  rw [getElem?_pos (strOf L) k h]
  rfl
theorem catS_h {A B : List UInt8} {K : ByteArray → Prop} (h : A.length + B.length ≤ 9223372036854775807) (hK : K (strOf (A ++ B))) : catS (strOf A) (strOf B) K := ⟨by simp only [strOf_size]; exact h, by rw [strOf_append]; exact hK⟩
theorem mk_toList (A : Array UInt8) : (ByteArray.mk A).toList = A.toList := ByteArray.toList_eq _
theorem beqStr {L : List UInt8} {A : Array UInt8} : ((strOf L).toList == (ByteArray.mk A).toList) = true ↔ L = A.toList := by rw [strOf_toList, mk_toList, beq_iff_eq]
theorem beqStr2 {L M : List UInt8} : ((strOf L).toList == (strOf M).toList) = true ↔ L = M := by rw [strOf_toList, strOf_toList, beq_iff_eq]
section
variable {P : Program} {w : World}
theorem slStr_h {t : TypeId} {L : List UInt8} {l h : Nat} {lo hi : Option Value} (hu : P.underlying t = some .string) (hlo : IxO lo 0 l) (hhi : IxO hi L.length h) (h1 : l ≤ h) (h2 : h ≤ L.length) :
    (Instr.sliceAt t (.string (strOf L)) lo hi none).run P w = .ok (.string (strOf ((L.take h).drop l))) w := by
  rw [run_slice_str (s := strOf L) hu hlo hhi h1 h2, strOf_extract]
end
theorem beq_strOf {a b : List UInt8} : (strOf a == strOf b) = decide (a = b) := by
  show ((strOf a).data == (strOf b).data) = _
  rw [Bool.eq_iff_iff, beq_iff_eq, decide_eq_true_iff]
  simp [strOf]
theorem findNow_g {κ : Type} [DecidableEq κ] {enc : κ → ByteArray} (heq : ∀ a b, (enc a == enc b) = decide (a = b)) {k : κ} : ∀ (l : List (κ × Value × Nat)) (i : Nat),
    Instr.findNow .string (.string (enc k)) (l.map fun x => ⟨.string (enc x.1), x.2.1, x.2.2⟩) i = some ((l.findIdx? (fun x => x.1 == k)).bind fun j => (l[j]?).map fun x => (i + j, x.2.1))
  | [], i => by simp [Instr.findNow]
  | x :: l, i => by
    have ih := findNow_g heq (k := k) l (i + 1)
    simp only [List.map_cons, Instr.findNow, Instr.sameNow, heq]
    by_cases e : x.1 = k
    · subst e
      simp [List.findIdx?_cons]
    · have e2 : ¬ k = x.1 := fun h => e h.symm
      simp only [e2, decide_false, ih]
      congr 1
      rw [List.findIdx?_cons]
      simp only [beq_eq_false_iff_ne.2 e]
      cases hf : List.findIdx? (fun x => x.1 == k) l with
      | none => simp
      | some j => simp [Nat.add_assoc, Nat.add_comm 1 j]
/-- Texts as keys. -/
theorem KeyOk.str {P : Program} {t : TypeId} (hu : P.underlying t = some .string) : KeyOk P t (List UInt8) (fun _ => True) (fun L => .string (strOf L)) where
  find w k es l _ _ he := by
    subst he
    have h := findNow_g (enc := strOf) (fun a b => beq_strOf) (k := k) l 0
    simp only [Nat.zero_add] at h
    simp only [Instr.findKey, Sem.run_bind, run_underlying' hu, Result.andThen_ok, h, Sem.run_pure]
  chk w k e _ := by
    rw [show (10000 : Nat) = 9999 + 1 from rfl, Instr.checkKey]
    simp only [Sem.run_bind, run_underlying' hu, Result.andThen_ok, Sem.run_pure]
  same k _ := by simp [Instr.sameBits, beq_strOf]
/-- The cells of a row of texts. -/
def strRow (xs : List (List UInt8)) : List Value := xs.map fun L => .string (strOf L)
@[simp] theorem length_strRow {xs : List (List UInt8)} : (strRow xs).length = xs.length := by simp [strRow]
theorem one_strRow {xs : List (List UInt8)} : oneCells (strRow xs) := by
  intro v hv
  obtain ⟨L, _, rfl⟩ := List.mem_map.1 hv
  rfl
theorem strRow_take {xs : List (List UInt8)} {n : Nat} : (strRow xs).take n = strRow (xs.take n) := by simp [strRow]
theorem strRow_drop {xs : List (List UInt8)} {n : Nat} : (strRow xs).drop n = strRow (xs.drop n) := by simp [strRow]
theorem strRow_append {xs ys : List (List UInt8)} : strRow xs ++ strRow ys = strRow (xs ++ ys) := by simp [strRow]
/-- An element of a row of texts. -/
theorem strIx {w : World} {H : Heap} {a : Option Addr} {len i : Nat} {n : Int} {xs : List (List UInt8)} (hw : w.heap = H) (hL : Cells H a (strRow xs)) (hlen : len = xs.length) (hi : i < xs.length) (hn : n = (i : Int)) {K : ByteArray → Prop} (hK : K (strOf xs[i])) :
    ixS a len 1 n fun p => ld .str p w K := by
  rcases hL with h | ⟨b, o, c, T, fr, rfl, hb, hsz, hc⟩
  · have := congrArg List.length h
    rw [length_strRow] at this; simp at this; subst this; simp at hi
  · refine ixS_1 i hn (by omega) ?_
    refine ld_h (s := .str) hw hb ?_ hK
    have h2 : (strRow xs)[i]? = some (.string (strOf xs[i])) := by simp [strRow, hi]
    rw [← hc, Array.getElem?_toList, Array.getElem?_extract, length_strRow] at h2
    split at h2
    · exact h2
    · cases h2
/-- Two places of rows of texts, then what lies there. -/
theorem strIx2 {w : World} {H : Heap} {a a' : Option Addr} {len len' i j : Nat} {n n' : Int} {xs ys : List (List UInt8)} (hw : w.heap = H) (hL : Cells H a (strRow xs)) (hlen : len = xs.length) (hi : i < xs.length) (hn : n = (i : Int))
    (hL' : Cells H a' (strRow ys)) (hlen' : len' = ys.length) (hj : j < ys.length) (hn' : n' = (j : Int)) {K : ByteArray → ByteArray → Prop} (hK : K (strOf xs[i]) (strOf ys[j])) :
    ixS a len 1 n fun p => ixS a' len' 1 n' fun p' => ld .str p w fun t => ld .str p' w fun t' => K t t' := by
  rcases hL with h | ⟨b, o, c, T, fr, rfl, hb, hsz, hc⟩
  · have := congrArg List.length h
    rw [length_strRow] at this; simp at this; subst this; simp at hi
  rcases hL' with h | ⟨b', o', c', T', fr', rfl, hb', hsz', hc'⟩
  · have := congrArg List.length h
    rw [length_strRow] at this; simp at this; subst this; simp at hj
  refine ixS_1 i hn (by omega) ?_
  refine ixS_1 j hn' (by omega) ?_
  have h2 : (strRow xs)[i]? = some (.string (strOf xs[i])) := by simp [strRow, hi]
  rw [← hc, Array.getElem?_toList, Array.getElem?_extract, length_strRow] at h2
  have h3 : (strRow ys)[j]? = some (.string (strOf ys[j])) := by simp [strRow, hj]
  rw [← hc', Array.getElem?_toList, Array.getElem?_extract, length_strRow] at h3
  refine ld_h (s := .str) hw hb (by split at h2; exact h2; cases h2) ?_
  refine ld_h (s := .str) hw hb' (by split at h3; exact h3; cases h3) ?_
  exact hK
end Go.Fw
