/- What is shown is parsed again; what is parsed is a path's. -/
import Derived.Test.YtbmegmbnlajbbaaGreatUh
namespace Go.Proofs.YtbmegmbnlajbbaaGreat
open Go Go.Fw Go.Proofs Go.Sort

theorem plain47 : plainB 47 = false := by decide
theorem nameOk_iff {L : List UInt8} : nameOk L = true ↔ (L ≠ [] ∧ L.length ≤ 16 ∧ L ≠ [46] ∧ L ≠ [46, 46]) ∧ ∀ b ∈ L, plainB b = true := by
  unfold nameOk
  rw [Bool.and_eq_true, decide_eq_true_iff, List.all_eq_true]
theorem nameOk_no47 {L : List UInt8} (h : nameOk L = true) : (47 : UInt8) ∉ L := by
  intro hm
  have := (nameOk_iff.1 h).2 47 hm
  rw [plain47] at this; cases this
/-- A path's names. -/
def okP (p : Path) : Prop := (∀ L ∈ p, nameOk L = true) ∧ p.length ≤ 8
theorem check_ok {p : Path} : checkP p = 0 ↔ okP p := by
  unfold checkP okP
  by_cases h : p.all nameOk = true
  · rw [if_pos h]
    rw [List.all_eq_true] at h
    by_cases h2 : 8 < p.length
    · rw [if_pos h2]
      constructor
      · intro h3; omega
      · intro h3; omega
    · rw [if_neg h2]
      exact ⟨fun _ => ⟨h, by omega⟩, fun _ => rfl⟩
  · rw [if_neg h]
    rw [List.all_eq_true] at h
    constructor
    · intro h3; omega
    · intro h3; exact absurd h3.1 h
theorem check_codes {p : Path} : checkP p = 0 ∨ checkP p = 41 ∨ checkP p = 42 := by
  unfold checkP; split
  · split <;> simp
  · simp
theorem okP.take {p : Path} (h : okP p) (i : Nat) : okP (p.take i) := ⟨fun L hL => h.1 L (List.mem_of_mem_take hL), by have := h.2; simp; omega⟩
theorem okP.tlen {p : Path} (h : okP p) : tlen p ≤ 16 * p.length := by
  obtain ⟨h, h8⟩ := h
  clear h8
  induction p with
  | nil => simp [Go.Proofs.YtbmegmbnlajbbaaGreat.tlen]
  | cons x p ih =>
    have h1 := (nameOk_iff.1 (h x (by simp))).1.2.1
    have h2 := ih fun L hL => h L (by simp [hL])
    simp only [Go.Proofs.YtbmegmbnlajbbaaGreat.tlen, List.map_cons, List.sum_cons, List.length_cons] at h2 ⊢
    omega
theorem okP.small {p : Path} (h : okP p) : Go.Proofs.YtbmegmbnlajbbaaGreat.tlen p + p.length ≤ 136 := by have := h.tlen; have := h.2; omega
theorem okP.fit {p : Path} (h : okP p) : Fit p := fun L hL => by have := (nameOk_iff.1 (h.1 L hL)).1.2.1; omega
theorem pieces_join : ∀ {p : Path}, p ≠ [] → (∀ L ∈ p, nameOk L = true) → pieces (joinP p) = p
  | [], h, _ => absurd rfl h
  | [x], _, h => by
    have hx := h x (by simp)
    have : joinP [x] = x := by simp [joinP]
    rw [this, pieces_last (nameOk_no47 hx) (nameOk_iff.1 hx).1.1]
  | x :: y :: p, _, h => by
    have hx := h x (by simp)
    have e : joinP (x :: y :: p) = x ++ 47 :: joinP (y :: p) := by simp [joinP]
    rw [e, pieces_sep (nameOk_no47 hx), pieces_join (by simp) fun L hL => h L (List.mem_cons_of_mem _ hL)]
theorem walk_names : ∀ {p acc : Path}, (∀ L ∈ p, nameOk L = true) → p.foldl walkStep acc = acc ++ p
  | [], acc, _ => by simp
  | x :: p, acc, h => by
    obtain ⟨⟨h1, h2, h3, h4⟩, _⟩ := nameOk_iff.1 (h x (by simp))
    rw [List.foldl_cons]
    have e : walkStep acc x = acc ++ [x] := by rw [walkStep, if_neg (by simp [h1, h3]), if_neg h4]
    rw [e, walk_names fun L hL => h L (List.mem_cons_of_mem _ hL)]; simp
theorem join_bytes : ∀ {p : Path}, ∀ b ∈ joinP p, b = 47 ∨ ∃ L ∈ p, b ∈ L
  | [], b, h => by simp [joinP] at h
  | x :: p, b, h => by
    simp only [joinP, List.mem_append, List.mem_flatMap, List.mem_cons] at h
    rcases h with h | ⟨L, hL, h | h⟩
    · exact .inr ⟨x, by simp, h⟩
    · exact .inl h
    · exact .inr ⟨L, by simp [hL], h⟩
theorem parse_show {p : Path} (h : okP p) : parseP (showP p) = (p, 0) := by
  have hlen : (showP p).length ≤ 137 := by
    have h1 := h.small
    unfold showP
    cases p with
    | nil => simp [joinP]
    | cons x p =>
      simp only [List.length_cons, tlen_join]
      simp only [List.length_cons] at h1
      omega
  have hok : okText (showP p) = true := by
    unfold okText showP
    rw [List.all_eq_true]
    intro b hb
    rcases List.mem_cons.1 hb with rfl | hb
    · simp
    · rcases join_bytes b hb with rfl | ⟨L, hL, hm⟩
      · simp
      · rw [(nameOk_iff.1 (h.1 L hL)).2 b hm]; simp
  have hpc : pieces (showP p) = [] :: p := by
    unfold showP
    have h0 : pieces (47 :: joinP p) = [] :: pieces (joinP p) := pieces_sep (p := []) (by simp)
    rw [h0]
    by_cases hp : p = []
    · subst hp; rfl
    · rw [pieces_join hp h.1]
  have hwalk : walkP (pieces (showP p)) = p := by
    rw [hpc]
    show (p.foldl walkStep (walkStep [] [])) = p
    rw [walk_names h.1]; simp [walkStep]
  have hany : (pieces (showP p)).any (fun x => decide (16 < x.length)) = false := by
    rw [hpc, List.any_eq_false]
    intro x hx
    rcases List.mem_cons.1 hx with rfl | hx
    · simp
    · have := (nameOk_iff.1 (h.1 x hx)).1.2.1
      simp; omega
  have h8 := h.2
  unfold parseP
  rw [if_neg (by omega), if_neg (by simp [showP]), if_neg (by simp [hok]), hany, hwalk, if_neg (by simp), if_neg (by omega)]
theorem show_inj {p q : Path} (hp : okP p) (hq : okP q) (h : showP p = showP q) : p = q := by
  have := parse_show hp
  rw [h, parse_show hq] at this
  simpa using this.symm
theorem pieces_mem : ∀ {L x : List UInt8}, x ∈ pieces L → (47 : UInt8) ∉ x ∧ ∀ b ∈ x, b ∈ L
  | [], x, h => by simp [pieces] at h
  | c :: L, x, h => by
    rw [pieces] at h
    by_cases hc : c = 47
    · rw [if_pos hc] at h
      rcases List.mem_cons.1 h with rfl | h
      · simp
      · have := pieces_mem h
        exact ⟨this.1, fun b hb => List.mem_cons_of_mem _ (this.2 b hb)⟩
    · rw [if_neg hc] at h
      cases hps : pieces L with
      | nil =>
        rw [hps] at h
        simp only [List.mem_singleton] at h
        subst h
        exact ⟨by simp [Ne.symm hc], by simp⟩
      | cons p ps =>
        rw [hps] at h
        have hp := pieces_mem (L := L) (x := p) (by rw [hps]; simp)
        simp only at h
        split at h
        · rcases List.mem_cons.1 h with rfl | h
          · exact ⟨by simp [Ne.symm hc], by simp⟩
          · have := pieces_mem (L := L) (x := x) (by rw [hps]; simp [h])
            exact ⟨this.1, fun b hb => List.mem_cons_of_mem _ (this.2 b hb)⟩
        · rcases List.mem_cons.1 h with rfl | h
          · refine ⟨by simp [Ne.symm hc, hp.1], fun b hb => ?_⟩
            rcases List.mem_cons.1 hb with rfl | hb
            · simp
            · exact List.mem_cons_of_mem _ (hp.2 b hb)
          · have := pieces_mem (L := L) (x := x) (by rw [hps]; simp [h])
            exact ⟨this.1, fun b hb => List.mem_cons_of_mem _ (this.2 b hb)⟩
theorem walk_mem : ∀ {ps acc : Path} {x : List UInt8}, x ∈ ps.foldl walkStep acc → x ∈ acc ∨ (x ∈ ps ∧ x ≠ [] ∧ x ≠ [46] ∧ x ≠ [46, 46])
  | [], acc, x, h => .inl h
  | y :: ps, acc, x, h => by
    rw [List.foldl_cons] at h
    rcases walk_mem h with h | ⟨h1, h2⟩
    · unfold walkStep at h
      split at h
      · exact .inl h
      · rename_i h1
        split at h
        · exact .inl ((List.dropLast_sublist acc).subset h)
        · rename_i h2
          rcases List.mem_append.1 h with h | h
          · exact .inl h
          · simp only [List.mem_singleton] at h
            subst h
            simp only [not_or] at h1
            exact .inr ⟨by simp, h1.1, h1.2, h2⟩
    · exact .inr ⟨List.mem_cons_of_mem _ h1, h2⟩
theorem parse_ok (L : List UInt8) : okP (parseP L).1 := by
  have nil : okP [] := ⟨by simp, by simp⟩
  unfold parseP
  split
  · exact nil
  split
  · exact nil
  split
  · exact nil
  rename_i hok
  split
  · exact nil
  rename_i hany
  split
  · exact nil
  rename_i hdeep
  refine ⟨fun x hx => ?_, by simp only; omega⟩
  rcases walk_mem hx with h | ⟨h1, h2, h3, h4⟩
  · cases h
  · have hm := pieces_mem h1
    rw [nameOk_iff]
    refine ⟨⟨h2, ?_, h3, h4⟩, fun b hb => ?_⟩
    · simp only [Bool.not_eq_true, List.any_eq_false] at hany
      have := hany x h1
      simp at this; omega
    · have hb2 := hm.2 b hb
      simp only [Bool.not_eq_false] at hok
      have h5 := List.all_eq_true.1 hok b hb2
      have h6 : b ≠ 47 := fun e => hm.1 (by rw [← e]; exact hb)
      simpa [h6] using h5
theorem parse_codes (L : List UInt8) : ((parseP L).2 = 0 ∨ (parseP L).1 = []) := by
  unfold parseP
  split
  · right; rfl
  split
  · right; rfl
  split
  · right; rfl
  split
  · right; rfl
  split
  · right; rfl
  · left; rfl
end Go.Proofs.YtbmegmbnlajbbaaGreat
