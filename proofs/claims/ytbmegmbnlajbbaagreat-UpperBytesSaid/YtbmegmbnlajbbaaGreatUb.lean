/- Paths: their checks and orders. -/
import Derived.Test.YtbmegmbnlajbbaaGreatUa
namespace Go.Proofs.YtbmegmbnlajbbaaGreat
open Go Go.Fw Go.Proofs

theorem uSstr : P.underlying y_S_string = some (.slice y_string) := by kernel_rfl
theorem szStr : (P.info? y_string).map (·.size) = some 1 := by kernel_rfl
/-- Names short enough for the machine's integers. -/
def Fit (p : Path) : Prop := ∀ L ∈ p, L.length ≤ 9223372036854775807
theorem all_name_no {p : Path} {i : Nat} (hi : i < p.length) (hb : nameOk p[i] = false) : p.all nameOk = false := by
  rw [List.all_eq_false]
  exact ⟨p[i], List.getElem_mem hi, by simp [hb]⟩
theorem all_name_take {p : Path} {i : Nat} (hi : i < p.length) (h : ∀ b ∈ p.take i, nameOk b = true) (hb : nameOk p[i] = true) : ∀ b ∈ p.take (i + 1), nameOk b = true := by
  intro b hm
  rw [List.take_add_one, List.getElem?_eq_getElem hi] at hm
  rcases List.mem_append.1 hm with hm | hm
  · exact h b hm
  · simp only [Option.toList_some, List.mem_singleton] at hm; subst hm; exact hb
theorem check_c {w : World} {H : Heap} {a : Option Addr} {n nc : Nat} {p : Path} (hw : w.heap = H) (hL : Cells H a (strRow p)) (hn : n = p.length) (hf : Fit p) (hp : p.length ≤ 9223372036854775807) : CallF P F_vpath_Check #[.slice a n nc] w fun e w' => e = .returned (.int .i64 (checkP p)) ∧ w' = w := by
  subst hn
  refine fn_vpath_Check ?_
  unfold T_vpath_Check
  refine loopP_of (fun (s : Int) W => ∃ i : Nat, s = (i : Int) ∧ i ≤ p.length ∧ W = w ∧ ∀ b ∈ p.take i, nameOk b = true) (fun s _ => (p.length - s).toNat) ⟨0, rfl, Nat.zero_le _, rfl, by simp⟩ ?_
  rintro _ w ⟨i, rfl, hi, rfl, hok⟩
  refine iteP_dec (fun hlt => ?_) (fun hge => ?_)
  · have hil : i < p.length := by omega
    refine strIx hw hL rfl hil rfl ?_
    refine callF_of (name_c _ (hf _ (List.getElem_mem hil))) ?_
    rintro e w' ⟨rfl, rfl⟩
    refine ⟨_, rfl, ?_⟩
    cases hb : nameOk p[i] with
    | false => exact iteP_t rfl ⟨by simp [checkP, all_name_no hil hb], rfl⟩
    | true =>
      refine iteP_f rfl ?_
      refine addI_to ((i + 1 : Nat) : Int) (by omega) (by omega) (by omega) ?_
      exact ⟨⟨i + 1, rfl, by omega, rfl, all_name_take hil hok hb⟩, by omega⟩
  · have : i = p.length := by omega
    subst this
    rw [List.take_length] at hok
    have hall : p.all nameOk = true := List.all_eq_true.2 hok
    refine iteP_dec (fun h => ⟨by simp only [checkP, hall, if_true]; rw [if_pos (by omega)], rfl⟩) (fun h => ⟨by simp only [checkP, hall, if_true]; rw [if_neg (by omega)], rfl⟩)
theorem rcheck_c {w : World} {H : Heap} {a : Option Addr} {n nc : Nat} {p : Path} (hw : w.heap = H) (hL : Cells H a (strRow p)) (hn : n = p.length) (hf : Fit p) (hp : p.length ≤ 9223372036854775807) : CallF P F_r04_Check #[.slice a n nc] w fun e w' => e = .returned (.int .i64 (checkP p)) ∧ w' = w := by
  subst hn
  refine fn_r04_Check ?_
  unfold T_r04_Check
  refine loopP_of (fun (s : Int) W => ∃ i : Nat, s = (i : Int) ∧ i ≤ p.length ∧ W = w ∧ ∀ b ∈ p.take i, nameOk b = true) (fun s _ => (p.length - s).toNat) ⟨0, rfl, Nat.zero_le _, rfl, by simp⟩ ?_
  rintro _ w ⟨i, rfl, hi, rfl, hok⟩
  refine iteP_dec (fun hlt => ?_) (fun hge => ?_)
  · have hil : i < p.length := by omega
    refine strIx hw hL rfl hil rfl ?_
    refine callF_of (rname_c _ (hf _ (List.getElem_mem hil))) ?_
    rintro e w' ⟨rfl, rfl⟩
    refine ⟨_, rfl, ?_⟩
    cases hb : nameOk p[i] with
    | false => exact iteP_t rfl ⟨by simp [checkP, all_name_no hil hb], rfl⟩
    | true =>
      refine iteP_f rfl ?_
      refine addI_to ((i + 1 : Nat) : Int) (by omega) (by omega) (by omega) ?_
      exact ⟨⟨i + 1, rfl, by omega, rfl, all_name_take hil hok hb⟩, by omega⟩
  · have : i = p.length := by omega
    subst this
    rw [List.take_length] at hok
    have hall : p.all nameOk = true := List.all_eq_true.2 hok
    refine iteP_dec (fun h => ⟨by simp only [checkP, hall, if_true]; rw [if_pos (by omega)], rfl⟩) (fun h => ⟨by simp only [checkP, hall, if_true]; rw [if_neg (by omega)], rfl⟩)

/-- Whether a path is another one, or below it. -/
def withinP (p q : Path) : Bool := q.isPrefixOf p
theorem within_iff {p q : Path} : withinP p q = true ↔ q.length ≤ p.length ∧ p.take q.length = q := by
  unfold withinP
  rw [List.isPrefixOf_iff_prefix]
  constructor
  · rintro ⟨t, rfl⟩
    exact ⟨by simp, by simp⟩
  · rintro ⟨h1, h2⟩
    exact ⟨p.drop q.length, by conv => lhs; lhs; rw [← h2]
                               exact List.take_append_drop _ _⟩
theorem same_take {p q : Path} {i : Nat} (hip : i < p.length) (hiq : i < q.length) (h : p.take i = q.take i) (e : p[i] = q[i]) : p.take (i + 1) = q.take (i + 1) := by
  rw [List.take_add_one, List.take_add_one, List.getElem?_eq_getElem hip, List.getElem?_eq_getElem hiq, h, e]
theorem not_same {p q : Path} {i : Nat} (hip : i < p.length) (hiq : i < q.length) (e : p[i] ≠ q[i]) : p ≠ q := by rintro rfl; exact e rfl
theorem equal_c {w : World} {H : Heap} {a b : Option Addr} {n nc m mc : Nat} {p q : Path} (hw : w.heap = H) (hL : Cells H a (strRow p)) (hn : n = p.length) (hM : Cells H b (strRow q)) (hm : m = q.length) (hp : p.length ≤ 9223372036854775807) :
    CallF P F_slices_Equal_S_string_string #[.slice a n nc, .slice b m mc] w fun e w' => e = .returned (.bool (decide (p = q))) ∧ w'.heap = H := by
  subst hn hm
  refine fn_slices_Equal_S_string_string ?_
  unfold T_slices_Equal_S_string_string
  refine iteP_ne (fun h => ⟨by rw [decide_eq_false]; rintro rfl; exact h rfl, hw⟩) (fun hl => ?_)
  have hl : p.length = q.length := by omega
  refine loopP_of (fun (s : Int) W => ∃ i : Nat, s = (i : Int) ∧ i ≤ p.length ∧ W.heap = H ∧ p.take i = q.take i) (fun s _ => (p.length - s).toNat) ⟨0, rfl, Nat.zero_le _, hw, by simp⟩ ?_
  rintro _ W ⟨i, rfl, hi, hW, hs⟩
  refine iteP_dec (fun hlt => ?_) (fun hge => ?_)
  · have hil : i < p.length := by omega
    refine drewP_h hW fun W1 hW1 => ?_
    refine strIx2 hW1 hL rfl hil rfl hM rfl (by omega) rfl ?_
    by_cases e : p[i] = q[i]
    · refine iteP_f (by simp [e]) ?_
      refine addI_to ((i + 1 : Nat) : Int) (by omega) (by omega) (by omega) ?_
      exact ⟨⟨i + 1, rfl, by omega, hW1, same_take hil (by omega) hs e⟩, by omega⟩
    · refine iteP_t (by simp [e]) ?_
      exact ⟨by rw [decide_eq_false (not_same hil (by omega) e)], hW1⟩
  · have : i = p.length := by omega
    subst this
    rw [List.take_length, hl, List.take_length] at hs
    exact ⟨by rw [decide_eq_true hs], hW⟩
theorem within_c {w : World} {H : Heap} {a b : Option Addr} {n nc m mc : Nat} {p q : Path} (hw : w.heap = H) (hL : Cells H a (strRow p)) (hn : n = p.length) (hnc : n ≤ nc) (hM : Cells H b (strRow q)) (hm : m = q.length) (hp : p.length ≤ 9223372036854775807) (hq : q.length ≤ 9223372036854775807) :
    CallF P F_vpath_Within #[.slice a n nc, .slice b m mc] w fun e w' => e = .returned (.bool (withinP p q)) ∧ w'.heap = H := by
  refine fn_vpath_Within ?_
  unfold T_vpath_Within
  refine iteP_dec (fun h => ?_) (fun h => ⟨by congr 2; refine (Bool.eq_false_iff.2 ?_).symm; intro h2; have := (within_iff.1 h2).1; omega, hw⟩)
  refine genQ_of (s := .slc) (if nc = 0 then a else a.map (·.add (0 * 1)), m - 0, nc - 0) (run_slice_slc uSstr szStr .no (.yes rfl) (Nat.zero_le _) (by omega)) ?_
  have hC : Cells H (if nc = 0 then a else a.map (·.add (0 * 1))) (strRow (p.take m)) := by
    have := (hL.drop 0 nc (by simp; omega)).take m
    rwa [List.drop_zero, strRow_take] at this
  refine callF_of (equal_c hw hC (by simp; omega) hM hm (by simp; omega)) ?_
  rintro e w' ⟨rfl, hw'⟩
  refine ⟨_, rfl, ?_⟩
  refine ⟨?_, hw'⟩
  congr 2
  rw [Bool.eq_iff_iff, decide_eq_true_iff, within_iff, hm]
  exact ⟨fun h => ⟨by omega, h⟩, fun h => h.2⟩
theorem rwithin_c {w : World} {H : Heap} {a b : Option Addr} {n nc m mc : Nat} {p q : Path} (hw : w.heap = H) (hL : Cells H a (strRow p)) (hn : n = p.length) (hM : Cells H b (strRow q)) (hm : m = q.length) (hp : p.length ≤ 9223372036854775807) (hq : q.length ≤ 9223372036854775807) :
    CallF P F_r04_Within #[.slice a n nc, .slice b m mc] w fun e w' => e = .returned (.bool (withinP p q)) ∧ w'.heap = H := by
  subst hn hm
  refine fn_r04_Within ?_
  unfold T_r04_Within
  refine iteP_dec (fun h => ⟨by congr 2; refine (Bool.eq_false_iff.2 ?_).symm; intro h2; have := (within_iff.1 h2).1; omega, hw⟩) (fun hl => ?_)
  refine loopP_of (fun (s : Int) W => ∃ i : Nat, s = (i : Int) ∧ i ≤ q.length ∧ W.heap = H ∧ p.take i = q.take i) (fun s _ => (q.length - s).toNat) ⟨0, rfl, Nat.zero_le _, hw, by simp⟩ ?_
  rintro _ W ⟨i, rfl, hi, hW, hs⟩
  refine iteP_dec (fun hlt => ?_) (fun hge => ?_)
  · have hil : i < q.length := by omega
    refine drewP_h hW fun W1 hW1 => ?_
    refine strIx2 hW1 hL rfl (by omega) rfl hM rfl hil rfl ?_
    by_cases e : p[i]'(by omega) = q[i]
    · refine iteP_f (by simp [e]) ?_
      refine addI_to ((i + 1 : Nat) : Int) (by omega) (by omega) (by omega) ?_
      exact ⟨⟨i + 1, rfl, by omega, hW1, same_take (by omega) hil hs e⟩, by omega⟩
    · refine iteP_t (by simp [e]) ?_
      refine ⟨?_, hW1⟩
      congr 2
      refine (Bool.eq_false_iff.2 ?_).symm
      intro h2
      have h3 := (within_iff.1 h2).2
      apply e
      have h4 : (p.take q.length)[i]? = q[i]? := by rw [h3]
      rw [List.getElem?_take, if_pos hil, List.getElem?_eq_getElem (by omega), List.getElem?_eq_getElem hil] at h4
      exact Option.some.inj h4
  · have : i = q.length := by omega
    subst this
    rw [List.take_length] at hs
    exact ⟨by rw [within_iff.2 ⟨by omega, hs⟩], hW⟩

theorem cmpstr_c {w : World} (x y : List UInt8) : CallF P F_cmp_Compare_string #[.string (strOf x), .string (strOf y)] w fun e w' => e = .returned (.int .i64 (Lib.compareBytes x y)) ∧ w' = w := by
  have nan : ∀ (w : World) (x : List UInt8), CallF P F_cmp_isNaN_string #[.string (strOf x)] w fun e w' => e = .returned (.bool false) ∧ w' = w := by
    intro w x
    refine fn_cmp_isNaN_string ?_
    unfold T_cmp_isNaN_string
    exact ⟨by simp, rfl⟩
  refine fn_cmp_Compare_string ?_
  unfold T_cmp_Compare_string
  refine callQ_of false (nan w x) ?_
  refine callQ_of false (nan w y) ?_
  refine iteP_f rfl ?_
  refine iteP_f rfl ?_
  rw [bytesLess_eq, strOf_toList, strOf_toList]
  have hr := cmpB_range (a := x) (b := y)
  refine iteP_dec (fun h => ?_) (fun h => ?_)
  · have := cmpB_lt.2 h
    exact ⟨by congr 2; omega, rfl⟩
  · have h1 : ¬ Lib.compareBytes x y < 0 := fun h2 => h (cmpB_lt.1 h2)
    by_cases e : x = y
    · refine iteP_f (by simp [e]) ?_
      have := cmpB_eq.2 e
      exact ⟨by rw [this], rfl⟩
    · refine iteP_t (by simp [e]; exact fun h2 => absurd h2 h) ?_
      have h2 : Lib.compareBytes x y ≠ 0 := fun h2 => e (cmpB_eq.1 h2)
      exact ⟨by congr 2; omega, rfl⟩
end Go.Proofs.YtbmegmbnlajbbaaGreat
