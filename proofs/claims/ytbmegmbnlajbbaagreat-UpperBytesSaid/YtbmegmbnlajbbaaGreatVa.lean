/- The inodes are a tree, whatever is put and dropped. -/
import Derived.Test.YtbmegmbnlajbbaaGreatUn
namespace Go.Proofs.YtbmegmbnlajbbaaGreat
open Go Go.Fw Go.Proofs Go.Sort

/-- Every inode's directory is a directory that is there. -/
def Tree (L : List Ino) : Prop := ∀ i ∈ L, 1 < i.names.length → ∃ d ∈ L, d.names = i.names.dropLast ∧ d.kind = 2
theorem Tree.nil : Tree [] := fun i hi => absurd hi (by simp)
theorem within_dropLast {p q : Path} (h : withinP p.dropLast q = true) : withinP p q = true := by
  unfold withinP at h ⊢
  rw [List.isPrefixOf_iff_prefix] at h ⊢
  exact h.trans (List.dropLast_prefix p)
theorem Tree.drop {L : List Ino} (h : Tree L) (q : Path) : Tree (dropL L q) := by
  intro i hi hl
  obtain ⟨h1, h2⟩ := List.mem_filter.1 hi
  obtain ⟨d, hd, hn, hk⟩ := h i h1 hl
  refine ⟨d, List.mem_filter.2 ⟨hd, ?_⟩, hn, hk⟩
  cases hw : withinP d.names q with
  | false => rfl
  | true =>
    rw [hn] at hw
    rw [within_dropLast hw] at h2
    simp at h2
theorem mem_ins {x i : Ino} : ∀ {L : List Ino}, x ∈ insL L i → x = i ∨ (x ∈ L ∧ (L.Pairwise (fun a b => cmpP a.names b.names < 0) → x.names ≠ i.names))
  | [], h => .inl (by simpa [insL] using h)
  | j :: L, h => by
    unfold insL at h
    split at h
    · rename_i hlt
      rcases List.mem_cons.1 h with rfl | h
      · exact .inr ⟨by simp, fun _ e => by rw [e, cmpP_eq.2 rfl] at hlt; omega⟩
      · rcases mem_ins h with h | ⟨h, hne⟩
        · exact .inl h
        · exact .inr ⟨by simp [h], fun hp => hne (List.pairwise_cons.1 hp).2⟩
    · rename_i hge
      split at h
      · rename_i he
        rcases List.mem_cons.1 h with h | h
        · exact .inl h
        · exact .inr ⟨by simp [h], fun hp e => by have := (List.pairwise_cons.1 hp).1 x h; rw [e, cmpP_eq.2 he] at this; omega⟩
      · rename_i hne
        rcases List.mem_cons.1 h with h | h
        · exact .inl h
        · refine .inr ⟨h, fun hp e => ?_⟩
          rcases List.mem_cons.1 h with rfl | h
          · exact hne e
          · have := (List.pairwise_cons.1 hp).1 x h
            rw [e] at this
            exact hge this
theorem ins_mem {x i : Ino} : ∀ {L : List Ino}, (x = i ∨ (x ∈ L ∧ x.names ≠ i.names)) → x ∈ insL L i
  | [], h => by
    rcases h with rfl | ⟨h, _⟩
    · simp [insL]
    · simp at h
  | j :: L, h => by
    unfold insL
    split
    · rcases h with rfl | ⟨h, hne⟩
      · exact List.mem_cons_of_mem _ (ins_mem (.inl rfl))
      · rcases List.mem_cons.1 h with rfl | h
        · exact List.mem_cons_self
        · exact List.mem_cons_of_mem _ (ins_mem (.inr ⟨h, hne⟩))
    · split
      · rename_i he
        rcases h with rfl | ⟨h, hne⟩
        · exact List.mem_cons_self
        · rcases List.mem_cons.1 h with rfl | h
          · exact absurd he hne
          · exact List.mem_cons_of_mem _ h
      · rcases h with rfl | ⟨h, _⟩
        · exact List.mem_cons_self
        · exact List.mem_cons_of_mem _ h
theorem getL_some {L : List Ino} {q : Path} {i : Ino} (h : getL L q = some i) : i ∈ L ∧ i.names = q := by
  unfold getL at h
  split at h
  · exact ⟨List.mem_of_find?_eq_some h, by simpa using List.find?_some h⟩
  · cases h
theorem get_mem {L : List Ino} (hG : Good L) {i : Ino} (hi : i ∈ L) : getL L i.names = some i := by
  rw [getL_eq (hG.ok i hi).1 (hG.ok i hi).2]
  cases hf : L.find? fun j => decide (j.names = i.names) with
  | none => exact absurd (by simp) (List.find?_eq_none.1 hf i hi)
  | some j => rw [same_names hG (List.mem_of_find?_eq_some hf) hi (by simpa using List.find?_some hf)]
theorem Tree.put {L : List Ino} (hG : Good L) (h : Tree L) (t : List UInt8) (k : Int) (o : Bool) (d : List UInt8) : Tree (putL L t k o d).2 := by
  unfold putL
  split
  · exact h
  split
  · exact h
  split
  · exact h
  split
  · exact h
  rename_i hsome
  split
  · exact h
  rename_i hkind
  split
  · exact h
  rename_i hbelow
  split
  · exact h
  intro i hi hl
  rcases mem_ins hi with rfl | ⟨hL, hne⟩
  · have hl' : 1 < (parseP t).1.length := hl
    cases hg : getL L (parseP t).1.dropLast with
    | none => exact absurd ⟨hl', by rw [hg]; rfl⟩ hsome
    | some j =>
      obtain ⟨hj, hn⟩ := getL_some hg
      refine ⟨j, ins_mem (.inr ⟨hj, ?_⟩), hn, ?_⟩
      · show j.names ≠ (parseP t).1
        intro e
        have := congrArg List.length (hn.symm.trans e)
        rw [List.length_dropLast] at this
        omega
      · by_cases e : j.kind = 2
        · exact e
        · exact absurd ⟨hl', by rw [hg]; exact e⟩ hkind
  · have hne := hne hG.rise
    obtain ⟨j, hj, hn, hk⟩ := h i hL hl
    by_cases e : j.names = (parseP t).1
    · refine ⟨⟨(parseP t).1, k, o, d⟩, ins_mem (.inl rfl), by rw [← e]; exact hn, ?_⟩
      by_cases e2 : k = 2
      · exact e2
      · refine absurd ⟨e2, ?_⟩ hbelow
        refine List.length_pos_of_mem (a := i) (List.mem_filter.2 ⟨hL, ?_⟩)
        unfold belowQ
        rw [← e, hn]
        have : withinP i.names i.names.dropLast = true := within_dropLast (by unfold withinP; rw [List.isPrefixOf_iff_prefix]; exact List.prefix_rfl)
        rw [this, List.length_dropLast]
        simp; omega
    · exact ⟨j, ins_mem (.inr ⟨hj, e⟩), hn, hk⟩
/-- Every directory on the way is there. -/
theorem Tree.up {L : List Ino} (h : Tree L) {i : Ino} (hi : i ∈ L) {q : Path} (hq : q ≠ []) (hw : withinP i.names q = true) (hl : q.length < i.names.length) : ∃ d ∈ L, d.names = q ∧ d.kind = 2 := by
  generalize hn : i.names.length = n at hl
  induction n using Nat.strongRecOn generalizing i with
  | ind n ih =>
    have hq1 : 0 < q.length := List.length_pos_iff.2 hq
    obtain ⟨d, hd, e, hk⟩ := h i hi (by omega)
    obtain ⟨h1, h2⟩ := within_iff.1 hw
    have hdl : d.names.length = n - 1 := by rw [e, List.length_dropLast, hn]
    by_cases hlast : q.length = n - 1
    · refine ⟨d, hd, ?_, hk⟩
      rw [e, List.dropLast_eq_take, hn, ← hlast, h2]
    · refine ih (n - 1) (by omega) hd (within_iff.2 ⟨by omega, ?_⟩) hdl (by omega)
      rw [e, List.dropLast_eq_take, List.take_take, Nat.min_eq_left (by omega), h2]
/-- Below what is no directory lies nothing. -/
theorem Tree.none_below {L : List Ino} (hG : Good L) (h : Tree L) {i : Ino} (hi : i ∈ L) (hk : i.kind ≠ 2) : belowL L i.names = [] := by
  unfold belowL
  rw [List.filter_eq_nil_iff]
  intro j hj hb
  unfold belowQ at hb
  simp only [Bool.and_eq_true, decide_eq_true_eq] at hb
  obtain ⟨d, hd, e, hk2⟩ := h.up hj (hG.ok i hi).2 hb.2 hb.1
  rw [same_names hG hd hi e] at hk2
  exact hk hk2
/-- The directory of an inode. -/
theorem Tree.dir {L : List Ino} (hG : Good L) (h : Tree L) {i : Ino} (hi : i ∈ L) (hl : 1 < i.names.length) : ∃ d, getL L i.names.dropLast = some d ∧ d.kind = 2 := by
  obtain ⟨d, hd, e, hk⟩ := h i hi hl
  exact ⟨d, by rw [← e]; exact get_mem hG hd, hk⟩
/-- Drop at the root takes all. -/
theorem drop_root {L : List Ino} : dropL L [] = [] := by
  unfold dropL
  rw [List.filter_eq_nil_iff]
  intro i _
  rw [within_iff.2 ⟨by simp, by simp⟩]
  simp
end Go.Proofs.YtbmegmbnlajbbaaGreat
