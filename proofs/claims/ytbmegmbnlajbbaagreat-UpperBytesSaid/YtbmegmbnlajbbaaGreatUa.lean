/- Paths: bytes, names, orders. -/
import Derived.Test.YtbmegmbnlajbbaaGreatTd
import Derived.Test.YtbmegmbnlajbbaaGreatFwX
import Derived.Test.YtbmegmbnlajbbaaGreatFwT
namespace Go.Proofs.YtbmegmbnlajbbaaGreat
open Go Go.Fw Go.Proofs

def plainI (c : Int) : Bool := decide (c = 46 ∨ c = 95 ∨ c = 45 ∨ (48 ≤ c ∧ c ≤ 57) ∨ (97 ≤ c ∧ c ≤ 122) ∨ (65 ≤ c ∧ c ≤ 90))
def plainB (b : UInt8) : Bool := plainI (b.toNat : Int)
def nameOk (L : List UInt8) : Bool := decide (L ≠ [] ∧ L.length ≤ 16 ∧ L ≠ [46] ∧ L ≠ [46, 46]) && L.all plainB
abbrev Path := List (List UInt8)
def checkP (p : Path) : Int := if p.all nameOk then (if 8 < p.length then 42 else 0) else 41
def cmpP : Path → Path → Int
  | [], [] => 0
  | [], _ :: _ => -1
  | _ :: _, [] => 1
  | x :: a, y :: b => if Lib.compareBytes x y ≠ 0 then Lib.compareBytes x y else cmpP a b

theorem plain_true {c : Int} {w : World} (h : c = 46 ∨ c = 95 ∨ c = 45 ∨ (48 ≤ c ∧ c ≤ 57) ∨ (97 ≤ c ∧ c ≤ 122) ∨ (65 ≤ c ∧ c ≤ 90)) : (Ending.returned (Value.bool true) = .returned (.bool (plainI c))) ∧ w = w := ⟨by simp only [plainI, decide_eq_true h], rfl⟩
theorem plain_false {c : Int} {w : World} (h : ¬ (c = 46 ∨ c = 95 ∨ c = 45 ∨ (48 ≤ c ∧ c ≤ 57) ∨ (97 ≤ c ∧ c ≤ 122) ∨ (65 ≤ c ∧ c ≤ 90))) : (Ending.returned (Value.bool false) = .returned (.bool (plainI c))) ∧ w = w := ⟨by simp only [plainI, decide_eq_false h], rfl⟩
theorem plain_beq {c : Int} {w : World} {b : Bool} (h : b = plainI c) : (Ending.returned (Value.bool b) = .returned (.bool (plainI c))) ∧ w = w := ⟨by rw [h], rfl⟩
theorem plain_c {w : World} (c : Int) : CallF P F_vpath_plain #[.int .u8 c] w fun e w' => e = .returned (.bool (plainI c)) ∧ w' = w := by
  refine fn_vpath_plain ?_
  unfold T_vpath_plain
  repeat' first
    | refine joinP_in ?_
    | refine iteP_eq (fun h => ?_) (fun h => ?_)
    | refine iteP_dec (fun h => ?_) (fun h => ?_)
    | exact plain_true (by omega)
    | exact plain_false (by omega)
    | exact plain_beq (decide_eq_decide.2 (by omega))
theorem rplain_c {w : World} (c : Int) : CallF P F_r04_Plain #[.int .u8 c] w fun e w' => e = .returned (.bool (plainI c)) ∧ w' = w := by
  refine fn_r04_Plain ?_
  unfold T_r04_Plain
  repeat' first
    | refine joinP_in ?_
    | refine iteP_eq (fun h => ?_) (fun h => ?_)
    | refine iteP_dec (fun h => ?_) (fun h => ?_)
    | exact plain_true (by omega)
    | exact plain_beq (by rw [plainI, Bool.eq_iff_iff, beq_iff_eq, decide_eq_true_iff]; omega)

theorem all_take {L : List UInt8} {i : Nat} (hi : i < L.length) (h : ∀ b ∈ L.take i, plainB b = true) (hb : plainB L[i] = true) : ∀ b ∈ L.take (i + 1), plainB b = true := by
  intro b hm
  rw [List.take_add_one, List.getElem?_eq_getElem hi] at hm
  rcases List.mem_append.1 hm with hm | hm
  · exact h b hm
  · simp only [Option.toList_some, List.mem_singleton] at hm; subst hm; exact hb
theorem all_plain_no {L : List UInt8} {i : Nat} (hi : i < L.length) (hb : plainB L[i] = false) : L.all plainB = false := by
  rw [List.all_eq_false]
  exact ⟨L[i], List.getElem_mem hi, by simp [hb]⟩

theorem name_c {w : World} (L : List UInt8) (hL : L.length ≤ 9223372036854775807) : CallF P F_vpath_name #[.string (strOf L)] w fun e w' => e = .returned (.bool (nameOk L)) ∧ w' = w := by
  refine fn_vpath_name ?_
  unfold T_vpath_name
  have no : ∀ {w : World}, ¬ (L ≠ [] ∧ L.length ≤ 16 ∧ L ≠ [46] ∧ L ≠ [46, 46]) → (Ending.returned (Value.bool false) = .returned (.bool (nameOk L))) ∧ w = w := fun h => ⟨by simp only [nameOk, decide_eq_false h, Bool.false_and], rfl⟩
  refine joinP_in ?_
  refine iteP_of (p := L = []) beqStr (fun h => no fun h2 => h2.1 h) (fun h1 => ?_)
  refine iteP_dec (fun h => no fun h2 => by have := h2.2.1; simp only [strOf_size] at h; omega) (fun h2 => ?_)
  refine iteP_of (p := L = [46]) beqStr (fun h => no fun h2 => h2.2.2.1 h) (fun h3 => ?_)
  refine iteP_of (p := L = [46, 46]) beqStr (fun h => no fun h2 => h2.2.2.2 h) (fun h4 => ?_)
  have hc : (L ≠ [] ∧ L.length ≤ 16 ∧ L ≠ [46] ∧ L ≠ [46, 46]) := ⟨h1, by simp only [strOf_size] at h2; omega, h3, h4⟩
  have hno : nameOk L = L.all plainB := by simp only [nameOk, decide_eq_true hc, Bool.true_and]
  rw [hno]
  refine loopP_of (fun (s : Int) W => ∃ i : Nat, s = (i : Int) ∧ i ≤ L.length ∧ W = w ∧ ∀ b ∈ L.take i, plainB b = true) (fun s _ => (L.length - s).toNat) ⟨0, rfl, Nat.zero_le _, rfl, by simp⟩ ?_
  rintro _ w ⟨i, rfl, hi, rfl, hp⟩
  refine iteP_dec (fun hlt => ?_) (fun hge => ?_)
  · have hil : i < L.length := by simp only [strOf_size] at hlt; omega
    refine ixStr_h i rfl hil ?_
    refine callQ_of (plainB L[i]) (plain_c _) ?_
    cases hb : plainB L[i] with
    | false => exact iteP_t rfl ⟨by rw [all_plain_no hil hb], rfl⟩
    | true =>
      refine iteP_f rfl ?_
      refine addI_to ((i + 1 : Nat) : Int) (by omega) (by omega) (by omega) ?_
      exact ⟨⟨i + 1, rfl, by omega, rfl, all_take hil hp hb⟩, by omega⟩
  · have : i = L.length := by simp only [strOf_size] at hge; omega
    subst this
    rw [List.take_length] at hp
    exact ⟨by rw [List.all_eq_true.2 hp], rfl⟩
theorem rname_c {w : World} (L : List UInt8) (hL : L.length ≤ 9223372036854775807) : CallF P F_r04_Name #[.string (strOf L)] w fun e w' => e = .returned (.bool (nameOk L)) ∧ w' = w := by
  refine fn_r04_Name ?_
  unfold T_r04_Name
  have no : ∀ {w : World}, ¬ (L ≠ [] ∧ L.length ≤ 16 ∧ L ≠ [46] ∧ L ≠ [46, 46]) → (Ending.returned (Value.bool false) = .returned (.bool (nameOk L))) ∧ w = w := fun h => ⟨by simp only [nameOk, decide_eq_false h, Bool.false_and], rfl⟩
  refine joinP_in ?_
  refine iteP_dec (fun h => no fun h2 => h2.1 (by simp only [strOf_size] at h; exact List.eq_nil_of_length_eq_zero (by omega))) (fun h1 => ?_)
  refine iteP_dec (fun h => no fun h2 => by have := h2.2.1; simp only [strOf_size] at h; omega) (fun h2 => ?_)
  refine iteP_of (p := L = [46]) beqStr (fun h => no fun h2 => h2.2.2.1 h) (fun h3 => ?_)
  refine iteP_of (p := L = [46, 46]) beqStr (fun h => no fun h2 => h2.2.2.2 h) (fun h4 => ?_)
  have hc : (L ≠ [] ∧ L.length ≤ 16 ∧ L ≠ [46] ∧ L ≠ [46, 46]) := ⟨by rintro rfl; simp [strOf_size] at h1, by simp only [strOf_size] at h2; omega, h3, h4⟩
  have hno : nameOk L = L.all plainB := by simp only [nameOk, decide_eq_true hc, Bool.true_and]
  rw [hno]
  refine loopP_of (fun (s : Int) W => ∃ i : Nat, s = (i : Int) ∧ i ≤ L.length ∧ W = w ∧ ∀ b ∈ L.take i, plainB b = true) (fun s _ => (L.length - s).toNat) ⟨0, rfl, Nat.zero_le _, rfl, by simp⟩ ?_
  rintro _ w ⟨i, rfl, hi, rfl, hp⟩
  refine iteP_dec (fun hlt => ?_) (fun hge => ?_)
  · have hil : i < L.length := by simp only [strOf_size] at hlt; omega
    refine ixStr_h i rfl hil ?_
    refine callQ_of (plainB L[i]) (rplain_c _) ?_
    cases hb : plainB L[i] with
    | false => exact iteP_t rfl ⟨by rw [all_plain_no hil hb], rfl⟩
    | true =>
      refine iteP_f rfl ?_
      refine addI_to ((i + 1 : Nat) : Int) (by omega) (by omega) (by omega) ?_
      exact ⟨⟨i + 1, rfl, by omega, rfl, all_take hil hp hb⟩, by omega⟩
  · have : i = L.length := by simp only [strOf_size] at hge; omega
    subst this
    rw [List.take_length] at hp
    exact ⟨by rw [List.all_eq_true.2 hp], rfl⟩
end Go.Proofs.YtbmegmbnlajbbaaGreat
