/- What a Put does to inodes in order: the plain law. -/
import Derived.Test.YtbmegmbnlajbbaaGreatUl
namespace Go.Proofs.YtbmegmbnlajbbaaGreat
open Go Go.Fw Go.Proofs Go.Sort

def insL : List Ino → Ino → List Ino
  | [], i => [i]
  | j :: L, i => if cmpP j.names i.names < 0 then j :: insL L i else if j.names = i.names then i :: L else i :: j :: L
theorem split_rise {p : Path} : ∀ {L : List Ino}, (L.Pairwise fun a b => cmpP a.names b.names < 0) → ∃ lo hi : List Ino, (∀ j ∈ lo, cmpP j.names p < 0) ∧ (∀ j ∈ hi, cmpP p j.names < 0) ∧
    ((L = lo ++ hi ∧ L.find? (fun i => decide (i.names = p)) = none) ∨ ∃ i, i.names = p ∧ L = lo ++ i :: hi ∧ L.find? (fun i => decide (i.names = p)) = some i)
  | [], _ => ⟨[], [], by simp, by simp, .inl ⟨rfl, rfl⟩⟩
  | j :: L, h => by
    obtain ⟨h1, h2⟩ := List.pairwise_cons.1 h
    by_cases hlt : cmpP j.names p < 0
    · obtain ⟨lo, hi, g1, g2, g3⟩ := split_rise (p := p) h2
      have hne : j.names ≠ p := fun e => by rw [cmpP_eq.2 e] at hlt; omega
      refine ⟨j :: lo, hi, fun x hx => ?_, g2, ?_⟩
      · rcases List.mem_cons.1 hx with rfl | hx
        · exact hlt
        · exact g1 x hx
      · rcases g3 with ⟨e1, e2⟩ | ⟨i, e0, e1, e2⟩
        · exact .inl ⟨by rw [e1]; rfl, by rw [List.find?_cons, decide_eq_false hne]; exact e2⟩
        · exact .inr ⟨i, e0, by rw [e1]; rfl, by rw [List.find?_cons, decide_eq_false hne]; exact e2⟩
    · by_cases he : j.names = p
      · exact ⟨[], L, by simp, fun x hx => by rw [← he]; exact h1 x hx, .inr ⟨j, he, rfl, by rw [List.find?_cons, decide_eq_true he]⟩⟩
      · have hgt : cmpP p j.names < 0 := by
          have := cmpP_neg (p := p) (q := j.names)
          have h3 : cmpP j.names p ≠ 0 := fun e => he (cmpP_eq.1 e)
          omega
        have hall : ∀ x ∈ j :: L, cmpP p x.names < 0 := by
          intro x hx
          rcases List.mem_cons.1 hx with rfl | hx
          · exact hgt
          · exact cmpP_trans hgt (h1 x hx)
        refine ⟨[], j :: L, by simp, hall, .inl ⟨rfl, ?_⟩⟩
        rw [List.find?_eq_none]
        intro x hx e
        have e : x.names = p := by simpa using e
        have := hall x hx
        rw [e, cmpP_eq.2 rfl] at this; omega
theorem ins_lo {i : Ino} {hi : List Ino} (h : (∀ j ∈ hi, cmpP i.names j.names < 0)) : ∀ {lo : List Ino}, (∀ j ∈ lo, cmpP j.names i.names < 0) → insL (lo ++ hi) i = lo ++ i :: hi
  | [], _ => by
    cases hi with
    | nil => rfl
    | cons j hi =>
      have h1 := h j (by simp)
      have h2 := cmpP_neg (p := i.names) (q := j.names)
      have h3 : j.names ≠ i.names := fun e => by rw [cmpP_eq.2 e.symm] at h1; omega
      show insL (j :: hi) i = _
      rw [insL, if_neg (by omega), if_neg h3]; rfl
  | j :: lo, hlo => by
    show insL (j :: (lo ++ hi)) i = _
    rw [insL, if_pos (hlo j (by simp)), ins_lo h fun x hx => hlo x (by simp [hx])]; rfl
theorem ins_eq {i j : Ino} {hi : List Ino} (he : j.names = i.names) : ∀ {lo : List Ino}, (∀ j ∈ lo, cmpP j.names i.names < 0) → insL (lo ++ j :: hi) i = lo ++ i :: hi
  | [], _ => by
    show insL (j :: hi) i = _
    rw [insL, if_neg (by rw [cmpP_eq.2 he]; omega), if_pos he]; rfl
  | x :: lo, hlo => by
    show insL (x :: (lo ++ j :: hi)) i = _
    rw [insL, if_pos (hlo x (by simp)), ins_eq he fun y hy => hlo y (by simp [hy])]; rfl
def olenL (o : Option Ino) : Nat := match o with | some i => i.data.length | none => 0
theorem tot_app {a b : List Ino} : tot (a ++ b) = tot a + tot b := by simp [tot]
theorem tot_cons {i : Ino} {b : List Ino} : tot (i :: b) = i.data.length + tot b := by simp [tot]
/-- What an insertion gives: all of it. -/
theorem ins_good {L : List Ino} {i : Ino} (hG : Good L) (hi : okP i.names ∧ i.names ≠ []) (hd : i.data.length ≤ 1024) (hm : (L.find? fun j => decide (j.names = i.names)).isSome = true ∨ L.length < 1024) :
    Good (insL L i) ∧ tot (insL L i) + olenL (L.find? fun j => decide (j.names = i.names)) = tot L + i.data.length ∧
    (∀ {M : IM} {c : Nat}, MOk (fun _ => True) M c → St M L → St (mupd M (showP i.names) i c) (insL L i)) := by
  obtain ⟨lo, hi', g1, g2, g3⟩ := split_rise (p := i.names) hG.rise
  have rise : ∀ {M : List Ino}, ((lo ++ hi').Pairwise fun a b => cmpP a.names b.names < 0) → (lo ++ i :: hi').Pairwise fun a b => cmpP a.names b.names < 0 := by
    intro _ h
    rw [List.pairwise_append] at h ⊢
    refine ⟨h.1, List.pairwise_cons.2 ⟨g2, h.2.1⟩, fun a ha b hb => ?_⟩
    rcases List.mem_cons.1 hb with rfl | hb
    · exact g1 a ha
    · exact h.2.2 a ha b hb
  have mem : ∀ {Q : Ino → Prop}, Q i → (∀ j ∈ lo ++ hi', Q j) → ∀ j ∈ lo ++ i :: hi', Q j := by
    intro Q h1 h2 j hj
    rcases List.mem_append.1 hj with h | h
    · exact h2 j (List.mem_append_left _ h)
    · rcases List.mem_cons.1 h with rfl | h
      · exact h1
      · exact h2 j (List.mem_append_right _ h)
  rcases g3 with ⟨e1, e2⟩ | ⟨j, e0, e1, e2⟩
  · have hins : insL L i = lo ++ i :: hi' := by rw [e1, ins_lo g2 g1]
    rw [hins, e2]
    have hlen : L.length < 1024 := by rcases hm with h | h; rw [e2] at h; cases h; exact h
    refine ⟨⟨mem hi (by rw [← e1]; exact hG.ok), rise (M := []) (by rw [← e1]; exact hG.rise), mem hd (by rw [← e1]; exact hG.small), ?_⟩, ?_, ?_⟩
    · rw [e1] at hlen; simp at hlen ⊢; omega
    · rw [e1, tot_app, tot_app, tot_cons]; simp only [olenL]; omega
    · intro M c hM hS
      have hno : ∀ x ∈ M, x.1 ≠ showP i.names := by
        intro x hx e
        have h1 : x.2.1 ∈ L := hS.perm.mem_iff.1 (List.mem_map.2 ⟨x, hx, rfl⟩)
        have h2 := hS.key x hx
        have h3 := show_inj (hG.ok _ h1).1 hi.1 (by rw [← h2, e])
        exact List.find?_eq_none.1 e2 _ h1 (by simpa using h3)
      rw [mupd_none (mget_none_of hno)]
      refine ⟨?_, fun x hx => ?_, ⟨mem hi (by rw [← e1]; exact hG.ok), rise (M := []) (by rw [← e1]; exact hG.rise), mem hd (by rw [← e1]; exact hG.small), by rw [e1] at hlen; simp at hlen ⊢; omega⟩⟩
      · rw [List.map_append]
        have h1 := hS.perm
        rw [e1] at h1
        refine (h1.append_right [i]).trans ?_
        rw [List.append_assoc]
        exact List.Perm.append_left lo (List.perm_append_singleton i hi')
      · rcases List.mem_append.1 hx with hx | hx
        · exact hS.key x hx
        · simp only [List.mem_singleton] at hx; subst hx; rfl
  · have hins : insL L i = lo ++ i :: hi' := by rw [e1, ins_eq e0 g1]
    rw [hins, e2]
    have hsub : ∀ x ∈ lo ++ hi', x ∈ L := by
      intro x hx
      rw [e1]
      rcases List.mem_append.1 hx with h | h
      · exact List.mem_append_left _ h
      · exact List.mem_append_right _ (List.mem_cons_of_mem _ h)
    have hr2 : (lo ++ hi').Pairwise fun a b => cmpP a.names b.names < 0 := by
      have h := hG.rise
      rw [e1, List.pairwise_append] at h
      rw [List.pairwise_append]
      exact ⟨h.1, (List.pairwise_cons.1 h.2.1).2, fun a ha b hb => h.2.2 a ha b (List.mem_cons_of_mem _ hb)⟩
    have hlen : (lo ++ i :: hi').length ≤ 1024 := by have := hG.many; rw [e1] at this; simpa using this
    have hgood : Good (lo ++ i :: hi') := ⟨mem hi (fun x hx => hG.ok x (hsub x hx)), rise (M := []) hr2, mem hd (fun x hx => hG.small x (hsub x hx)), hlen⟩
    refine ⟨hgood, ?_, ?_⟩
    · rw [e1, tot_app, tot_app, tot_cons, tot_cons]; simp only [olenL]; omega
    · intro M c hM hS
      have hget := st_get hM hS hi.1
      rw [e2] at hget
      have hiff : ∀ x ∈ M, (x.1 = showP i.names ↔ x.2.1.names = i.names) := by
        intro x hx
        have h1 : x.2.1 ∈ L := hS.perm.mem_iff.1 (List.mem_map.2 ⟨x, hx, rfl⟩)
        have h2 := hS.key x hx
        exact ⟨fun e => show_inj (hG.ok _ h1).1 hi.1 (by rw [← h2, e]), fun e => by rw [h2, e]⟩
      rw [mupd_some (by rw [hget]; rfl)]
      refine ⟨?_, fun x hx => ?_, hgood⟩
      · have h1 : (M.map fun x => if x.1 = showP i.names then (x.1, i, x.2.2) else x).map (·.2.1) = (M.map (·.2.1)).map fun z => if z.names = i.names then i else z := by
          rw [List.map_map, List.map_map]
          apply List.map_congr_left
          intro x hx
          simp only [Function.comp]
          by_cases e : x.1 = showP i.names
          · rw [if_pos e, if_pos ((hiff x hx).1 e)]
          · rw [if_neg e, if_neg fun h => e ((hiff x hx).2 h)]
        rw [h1]
        refine (hS.perm.map _).trans ?_
        rw [e1, List.map_append, List.map_cons, if_pos e0]
        have keep : ∀ {l : List Ino}, (∀ x ∈ l, x.names ≠ i.names) → l.map (fun z => if z.names = i.names then i else z) = l := by
          intro l hl
          conv => rhs; rw [← List.map_id l]
          apply List.map_congr_left
          intro x hx
          rw [if_neg (hl x hx)]; rfl
        have k1 := keep (l := lo) fun x hx e => by have := g1 x hx; rw [e, cmpP_eq.2 rfl] at this; omega
        have k2 := keep (l := hi') fun x hx e => by have := g2 x hx; rw [e, cmpP_eq.2 rfl] at this; omega
        exact List.Perm.of_eq (by rw [k1, k2])
      · obtain ⟨y, hy, rfl⟩ := List.mem_map.1 hx
        by_cases e : y.1 = showP i.names
        · rw [if_pos e]; exact e
        · rw [if_neg e]; exact hS.key y hy
def kindOf (o : Option Ino) : Int := match o with | some i => i.kind | none => 0
/-- Put: the answer, and the inodes behind it. -/
def putL (L : List Ino) (t : List UInt8) (k : Int) (o : Bool) (d : List UInt8) : Int × List Ino :=
  if (parseP t).2 ≠ 0 then ((parseP t).2, L) else if (parseP t).1 = [] then (132, L) else if formE k o d ≠ 0 then (formE k o d, L)
  else if 1 < (parseP t).1.length ∧ (getL L (parseP t).1.dropLast).isSome = false then (4, L)
  else if 1 < (parseP t).1.length ∧ kindOf (getL L (parseP t).1.dropLast) ≠ 2 then (70, L)
  else if k ≠ 2 ∧ 0 < (belowL L (parseP t).1).length then (130, L)
  else if (getL L (parseP t).1).isSome = false ∧ 1024 ≤ L.length then (8, L)
  else (0, insL L ⟨(parseP t).1, k, o, d⟩)
end Go.Proofs.YtbmegmbnlajbbaaGreat
