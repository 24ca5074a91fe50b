/- The order of paths; what is shown and parsed. -/
import Derived.Test.YtbmegmbnlajbbaaGreatUg
namespace Go.Proofs.YtbmegmbnlajbbaaGreat
open Go Go.Fw Go.Proofs Go.Sort

theorem cmpP_eq : ∀ {p q : Path}, cmpP p q = 0 ↔ p = q
  | [], [] => by simp [cmpP]
  | [], _ :: _ => by simp [cmpP]
  | _ :: _, [] => by simp [cmpP]
  | x :: p, y :: q => by
    simp only [cmpP]
    by_cases h : Lib.compareBytes x y = 0
    · rw [if_neg (fun e => e h), cmpP_eq, cmpB_eq.1 h]; simp
    · rw [if_pos h]
      have : x ≠ y := fun e => h (cmpB_eq.2 e)
      simp [h, this]
theorem cmpP_neg : ∀ {p q : Path}, cmpP p q = - cmpP q p
  | [], [] => by simp [cmpP]
  | [], _ :: _ => by simp [cmpP]
  | _ :: _, [] => by simp [cmpP]
  | x :: p, y :: q => by
    simp only [cmpP]
    have hn := cmpB_neg (a := x) (b := y)
    by_cases h : Lib.compareBytes x y = 0
    · rw [if_neg (fun e => e h), if_neg (fun e => e (by omega)), cmpP_neg]
    · rw [if_pos h, if_pos (by omega), hn]
theorem cmpP_range : ∀ {p q : Path}, cmpP p q = -1 ∨ cmpP p q = 0 ∨ cmpP p q = 1
  | [], [] => by simp [cmpP]
  | [], _ :: _ => by simp [cmpP]
  | _ :: _, [] => by simp [cmpP]
  | x :: p, y :: q => by
    simp only [cmpP]
    split
    · exact cmpB_range
    · exact cmpP_range
theorem cmpP_trans : ∀ {p q r : Path}, cmpP p q < 0 → cmpP q r < 0 → cmpP p r < 0
  | [], [], _, h, _ => by simp [cmpP] at h
  | [], _ :: _, [], _, h => by simp [cmpP] at h
  | [], _ :: _, _ :: _, _, _ => by simp [cmpP]
  | _ :: _, [], _, h, _ => by simp [cmpP] at h
  | _ :: _, _ :: _, [], _, h => by simp [cmpP] at h
  | x :: p, y :: q, z :: r, h1, h2 => by
    simp only [cmpP] at h1 h2 ⊢
    by_cases hxy : Lib.compareBytes x y = 0
    · rw [if_neg (fun e => e hxy)] at h1
      obtain rfl := cmpB_eq.1 hxy
      by_cases hyz : Lib.compareBytes x z = 0
      · rw [if_neg (fun e => e hyz)] at h2 ⊢
        exact cmpP_trans h1 h2
      · rw [if_pos hyz] at h2 ⊢
        exact h2
    · rw [if_pos hxy] at h1
      by_cases hyz : Lib.compareBytes y z = 0
      · obtain rfl := cmpB_eq.1 hyz
        rw [if_pos hxy]; exact h1
      · rw [if_pos hyz] at h2
        have h3 := cmpB_lt.2 (List.lt_trans (cmpB_lt.1 h1) (cmpB_lt.1 h2))
        rw [if_pos (by omega)]; exact h3
theorem swo_cmpP {α : Type} (f : α → Path) : SWO (ltOf fun x y => cmpP (f x) (f y)) := by
  have h : ∀ x y, ltOf (fun x y => cmpP (f x) (f y)) x y = true ↔ cmpP (f x) (f y) < 0 := by
    intro x y; unfold ltOf; exact decide_eq_true_iff
  refine ⟨fun x => ?_, fun x y z h1 h2 => ?_, fun x y z h1 h2 => ?_⟩
  · rw [← Bool.not_eq_true, h, cmpP_eq.2 rfl]; omega
  · rw [h] at *; exact cmpP_trans h1 h2
  · rw [← Bool.not_eq_true, h] at *
    intro h3
    have hxy := cmpP_range (p := f x) (q := f y)
    have hyz := cmpP_range (p := f y) (q := f z)
    have n1 := cmpP_neg (p := f x) (q := f y)
    have n2 := cmpP_neg (p := f y) (q := f z)
    rcases Int.lt_or_eq_of_le (show cmpP (f y) (f x) ≤ 0 by omega) with h4 | h4
    · rcases Int.lt_or_eq_of_le (show cmpP (f z) (f y) ≤ 0 by omega) with h5 | h5
      · have h6 := cmpP_trans h5 h4
        have n3 := cmpP_neg (p := f x) (q := f z)
        omega
      · rw [cmpP_eq.1 h5] at h3; omega
    · rw [cmpP_eq.1 h4] at h2; omega

theorem cmpP_drop : ∀ {i : Nat} {p q : Path}, p.take i = q.take i → i ≤ p.length → i ≤ q.length → cmpP p q = cmpP (p.drop i) (q.drop i)
  | 0, p, q, _, _, _ => by simp
  | i + 1, [], q, _, h, _ => by simp at h
  | i + 1, x :: p, [], _, _, h => by simp at h
  | i + 1, x :: p, y :: q, h, h1, h2 => by
    simp only [List.take_succ_cons, List.cons.injEq] at h
    obtain ⟨rfl, h⟩ := h
    simp only [cmpP, List.drop_succ_cons]
    rw [if_neg (fun e => e (cmpB_eq.2 rfl))]
    exact cmpP_drop h (by simpa using h1) (by simpa using h2)
theorem compare_c {w : World} {H : Heap} {a b : Option Addr} {n nc m mc : Nat} {p q : Path} (hw : w.heap = H) (hL : Cells H a (strRow p)) (hn : n = p.length) (hM : Cells H b (strRow q)) (hm : m = q.length) (hp : p.length ≤ 1099511627776) :
    CallF P F_vpath_Compare #[.slice a n nc, .slice b m mc] w fun e w' => e = .returned (.int .i64 (cmpP p q)) ∧ w' = w := by
  subst hn hm
  refine fn_vpath_Compare ?_
  unfold T_vpath_Compare
  have h : CallF P F_slices_CompareFunc_S_string_S_string_string_string #[.slice a p.length nc, .slice b q.length mc, .func (.func F_cmp_Compare_string) #[] #[]] w fun e w' => e = .returned (.int .i64 (cmpP p q)) ∧ w' = w := by
    refine fn_slices_CompareFunc_S_string_S_string_string_string ?_
    unfold T_slices_CompareFunc_S_string_S_string_string_string
    refine loopP_of (fun (s : Int) W => ∃ i : Nat, s = (i : Int) ∧ i ≤ p.length ∧ i ≤ q.length ∧ W = w ∧ p.take i = q.take i) (fun s _ => (p.length - s).toNat) ⟨0, rfl, Nat.zero_le _, Nat.zero_le _, rfl, by simp⟩ ?_
    rintro _ w ⟨i, rfl, hi, hj, rfl, hs⟩
    have hd := cmpP_drop hs hi hj
    refine iteP_dec (fun hlt => ?_) (fun hge => ?_)
    · have hil : i < p.length := by omega
      refine strIx hw hL rfl hil rfl ?_
      refine iteP_dec (fun hge => ?_) (fun hlt2 => ?_)
      · have : i = q.length := by omega
        rw [List.drop_eq_getElem_cons hil, List.drop_eq_nil_of_le (show q.length ≤ i by omega)] at hd
        exact ⟨by rw [hd]; rfl, rfl⟩
      · have hjl : i < q.length := by omega
        refine strIx hw hM rfl hjl rfl ?_
        refine callV_func ((cmpstr_c _ _).mono ?_)
        rintro e w' ⟨rfl, rfl⟩
        refine ⟨_, rfl, ?_⟩
        rw [List.drop_eq_getElem_cons hil, List.drop_eq_getElem_cons hjl, cmpP] at hd
        refine iteP_ne (fun hne => ?_) (fun heq => ?_)
        · rw [if_pos hne] at hd
          exact ⟨by rw [hd], rfl⟩
        · refine addI_to ((i + 1 : Nat) : Int) (by omega) (by omega) (by omega) ?_
          exact ⟨⟨i + 1, rfl, by omega, by omega, rfl, same_take hil hjl hs (cmpB_eq.1 heq)⟩, by omega⟩
    · have : i = p.length := by omega
      rw [List.drop_eq_nil_of_le (show p.length ≤ i by omega)] at hd
      refine iteP_dec (fun h => ?_) (fun h => ?_)
      · rw [List.drop_eq_getElem_cons (show i < q.length by omega)] at hd
        exact ⟨by rw [hd]; rfl, rfl⟩
      · rw [List.drop_eq_nil_of_le (show q.length ≤ i by omega)] at hd
        exact ⟨by rw [hd]; rfl, rfl⟩
  refine callF_of h ?_
  rintro e w' ⟨rfl, rfl⟩
  exact ⟨_, rfl, rfl, rfl⟩
theorem rcompare_c {w : World} {H : Heap} {a b : Option Addr} {n nc m mc : Nat} {p q : Path} (hw : w.heap = H) (hL : Cells H a (strRow p)) (hn : n = p.length) (hM : Cells H b (strRow q)) (hm : m = q.length) (hp : p.length ≤ 1099511627776) :
    CallF P F_r04_Compare #[.slice a n nc, .slice b m mc] w fun e w' => e = .returned (.int .i64 (cmpP p q)) ∧ w'.heap = H := by
  subst hn hm
  refine fn_r04_Compare ?_
  unfold T_r04_Compare
  refine joinP_in ?_
  refine joinP_of (fun _ W => W.heap = H ∧ ∃ i : Nat, i ≤ p.length ∧ i ≤ q.length ∧ (i = p.length ∨ i = q.length) ∧ p.take i = q.take i) ?_ ?_
  · refine loopP_of (fun (s : Int) W => ∃ i : Nat, s = (i : Int) ∧ i ≤ p.length ∧ i ≤ q.length ∧ W.heap = H ∧ p.take i = q.take i) (fun s _ => (p.length - s).toNat) ⟨0, rfl, Nat.zero_le _, Nat.zero_le _, hw, by simp⟩ ?_
    rintro _ W ⟨i, rfl, hi, hj, hW, hs⟩
    have hd := cmpP_drop hs hi hj
    refine joinP_in ?_
    refine iteP_dec (fun hlt => ?_) (fun hge => ⟨hW, i, hi, hj, .inl (by omega), hs⟩)
    refine iteP_dec (fun hlt2 => ?_) (fun hge => ⟨hW, i, hi, hj, .inr (by omega), hs⟩)
    have hil : i < p.length := by omega
    have hjl : i < q.length := by omega
    rw [List.drop_eq_getElem_cons hil, List.drop_eq_getElem_cons hjl, cmpP] at hd
    have hr := cmpB_range (a := p[i]) (b := q[i])
    refine drewP_h hW fun W1 hW1 => ?_
    refine strIx2 hW1 hL rfl hil rfl hM rfl hjl rfl ?_
    rw [strOf_toList, strOf_toList, bytesLess_eq]
    refine iteP_dec (fun h => ?_) (fun h => ?_)
    · have h2 := cmpB_lt.2 h
      rw [if_pos (by omega)] at hd
      exact ⟨by rw [hd]; congr 2; omega, hW1⟩
    have hnl : ¬ Lib.compareBytes p[i] q[i] < 0 := fun h2 => h (cmpB_lt.1 h2)
    refine drewP_h hW1 fun W2 hW2 => ?_
    refine strIx2 hW2 hL rfl hil rfl hM rfl hjl rfl ?_
    rw [strOf_toList, strOf_toList, bytesLess_eq]
    by_cases e : p[i] = q[i]
    · refine iteP_f (by simp [e]) ?_
      refine addI_to ((i + 1 : Nat) : Int) (by omega) (by omega) (by omega) ?_
      exact ⟨⟨i + 1, rfl, by omega, by omega, hW2, same_take hil hjl hs e⟩, by omega⟩
    · refine iteP_t (by simp [e]; exact fun h2 => absurd h2 h) ?_
      have h2 : Lib.compareBytes p[i] q[i] ≠ 0 := fun h2 => e (cmpB_eq.1 h2)
      rw [if_pos h2] at hd
      exact ⟨by rw [hd]; congr 2; omega, hW2⟩
  · rintro _ W ⟨hW, i, hi, hj, hor, hs⟩
    have hd := cmpP_drop hs hi hj
    refine iteP_dec (fun h => ?_) (fun h => ?_)
    · rw [List.drop_eq_nil_of_le (show p.length ≤ i by omega), List.drop_eq_getElem_cons (show i < q.length by omega)] at hd
      exact ⟨by rw [hd]; rfl, hW⟩
    · refine iteP_dec (fun h2 => ?_) (fun h2 => ?_)
      · rw [List.drop_eq_nil_of_le (show q.length ≤ i by omega), List.drop_eq_getElem_cons (show i < p.length by omega)] at hd
        exact ⟨by rw [hd]; rfl, hW⟩
      · rw [List.drop_eq_nil_of_le (show q.length ≤ i by omega), List.drop_eq_nil_of_le (show p.length ≤ i by omega)] at hd
        exact ⟨by rw [hd]; rfl, hW⟩
end Go.Proofs.YtbmegmbnlajbbaaGreat
