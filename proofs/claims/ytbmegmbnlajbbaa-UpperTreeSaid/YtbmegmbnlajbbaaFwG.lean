/- A tree of orders that the kernel has checked stands for every order. -/
import Derived.Test.YtbmegmbnlajbbaaFwF
namespace Go.Fw
open Go
section
variable {P : Program} {ops : Array Oper} {Q : Act → World → Prop}

theorem memN_iff {n : Nat} {l : List Nat} : memN n l = true ↔ n ∈ l := by
  induction l with
  | nil => simp [memN]
  | cons m r ih =>
    simp only [memN, Bool.or_eq_true, List.mem_cons, ih]
    constructor
    · rintro (h | h)
      · exact .inl (Nat.eq_of_beq_eq_true h).symm
      · exact .inr h
    · rintro (h | h)
      · subst h; exact .inl (by simp)
      · exact .inr h
theorem dep_of_dependsOn {i : Nat} {p : Nat × List Nat} (hp : ∀ d ∈ p.2, Dep ops d p.1) (h : dependsOn ops i p = true) : Dep ops i p.1 := by
  unfold dependsOn at h
  split at h
  · rename_i o ho
    obtain ⟨e, he, hb⟩ := Array.any_eq_true'.1 h
    simp only [Bool.and_eq_true, Bool.or_eq_true] at hb
    rcases hb.2 with h1 | h1
    · exact .edge ho he hb.1 (Nat.eq_of_beq_eq_true h1)
    · exact .via ho he hb.1 rfl (hp _ (memN_iff.1 h1))
  · simp at h
theorem stepPds_sound {qt : Nat → Bool} {i : Nat} {pds : List (Nat × List Nat)} (h : ∀ p ∈ pds, ∀ d ∈ p.2, Dep ops d p.1) : ∀ p ∈ stepPds ops qt i pds, ∀ d ∈ p.2, Dep ops d p.1 := by
  have hl : ∀ p ∈ pds.map fun p => bif dependsOn ops i p then (p.1, i :: p.2) else p, ∀ d ∈ p.2, Dep ops d p.1 := by
    intro p hp d hd
    obtain ⟨q, hq, rfl⟩ := List.mem_map.1 hp
    cases hb : dependsOn ops i q with
    | true =>
      rw [hb] at hd
      simp only [cond_true, List.mem_cons] at hd
      have hr : Dep ops i q.1 := dep_of_dependsOn (h q hq) hb
      rcases hd with rfl | hd
      · exact hr
      · exact h q hq d hd
    | false =>
      rw [hb] at hd
      simp only [cond_false] at hd ⊢
      exact h q hq d hd
  intro p hp
  unfold stepPds at hp
  cases hq : qt i with
  | true =>
    rw [hq] at hp
    simp only [cond_true, List.mem_cons] at hp
    rcases hp with rfl | hp
    · intro d hd; simp at hd
    · exact hl p hp
  | false =>
    rw [hq] at hp
    exact hl p hp
theorem stepPds_keeps {qt : Nat → Bool} {i n : Nat} {pds : List (Nat × List Nat)} (h : ∃ ds, (n, ds) ∈ pds) : ∃ ds, (n, ds) ∈ stepPds ops qt i pds := by
  obtain ⟨ds, h⟩ := h
  have : ∃ ds, (n, ds) ∈ pds.map fun p => bif dependsOn ops i p then (p.1, i :: p.2) else p := by
    cases hb : dependsOn ops i (n, ds) with
    | true => exact ⟨i :: ds, List.mem_map.2 ⟨_, h, by simp [hb]⟩⟩
    | false => exact ⟨ds, List.mem_map.2 ⟨_, h, by simp [hb]⟩⟩
  obtain ⟨ds', h'⟩ := this
  refine ⟨ds', ?_⟩
  unfold stepPds
  cases qt i with
  | true => exact List.mem_cons_of_mem _ h'
  | false => exact h'
theorem stepPds_new {qt : Nat → Bool} {i : Nat} {pds : List (Nat × List Nat)} (h : qt i = true) : (i, []) ∈ stepPds ops qt i pds := by
  unfold stepPds
  rw [h]
  exact List.mem_cons_self ..

theorem clearOf_spec {i : Nat} {oi : Oper} {pds : List (Nat × List Nat)} (hi : ops[i]? = some oi) (h : clearOf ops i pds = true) :
    (∀ d, oi.dst = some d → d ∉ oi.looksAt ops) ∧ (∀ n, (∃ ds, (n, ds) ∈ pds) → ∀ o, ops[n]? = some o → ∀ d, oi.dst = some d → d ∉ o.looksAt ops) := by
  unfold clearOf at h
  simp only [hi] at h
  cases hd : oi.dst with
  | none => exact ⟨fun d h => by simp at h, fun n _ o _ d h => by simp at h⟩
  | some d =>
    rw [hd] at h
    simp only [Bool.and_eq_true, Bool.not_eq_true', List.all_eq_true] at h
    refine ⟨fun d' h' hm => ?_, fun n hn o ho d' h' hm => ?_⟩
    · cases h'
      rw [memN_iff.2 hm] at h
      simp at h
    · cases h'
      obtain ⟨ds, hn⟩ := hn
      have := h.2 _ hn
      simp only [ho, Bool.not_eq_true'] at this
      rw [memN_iff.2 hm] at this
      cases this

theorem tree_sound (hs : ∀ (j : Nat) (o : Oper) cs b, ops[j]? = some o → o.op ≠ .select cs b) (qt pt : Nat → Bool) : ∀ (t : OT) (listed : Array Bool) (pds : List (Nat × List Nat)) (pend : List (Nat × Value)) (pd : Nat × Value → Prop) (a : Act) (w : World),
    DC ops listed → (∀ p ∈ pds, ∀ d ∈ p.2, Dep ops d p.1) → (∀ p, pd p → p ∈ pend ∧ ∃ ds, (p.1, ds) ∈ pds) → (∀ p, pd p → Ynow P ops p a w ∧ (pt p.1 = true → ∀ w', Ynow P ops p a w')) → wpT P ops Q qt pt t pend a w →
    (okT ops qt pt true t listed pds = true → ∀ fuel, t.depth ≤ fuel → wpAnyP P ops Q fuel pd listed a w) ∧
    (okT ops qt pt false t listed pds = true → ∀ i ∈ t.heads, i ∈ Region.ready .any ops listed → stepD P ops i (fun a' w' => (∀ p, pd p ∧ ¬ Dep ops i p.1 → Ynow P ops p a' w') ∧
      ∀ fuel, t.depth ≤ fuel + 1 → wpAnyP P ops Q fuel (fun p => pd p ∧ ¬ Dep ops i p.1) (listed.setIfInBounds i true) a' w') a w) := by
  intro t
  induction t with
  | done =>
    intro listed pds pend pd a w hdc hds hpd hn h
    refine ⟨fun hok => ?_, fun hok => ?_⟩
    · simp only [okT, Bool.true_and, List.isEmpty_iff] at hok
      intro fuel _
      cases fuel with
      | zero => exact ⟨hok, h⟩
      | succ f => exact ⟨fun _ => h, by rw [hok]; simp⟩
    · intro i hi; simp [OT.heads] at hi
  | op i re t ih =>
    intro listed pds pend pd a w hdc hds hpd hn h
    -- one step, whatever the rest
    have step : ∀ top, okT ops qt pt top (.op i re t) listed pds = true → i ∈ Region.ready .any ops listed ∧ stepD P ops i (fun a' w' => (∀ p, pd p ∧ ¬ Dep ops i p.1 → Ynow P ops p a' w') ∧
        ∀ fuel, t.depth ≤ fuel → wpAnyP P ops Q fuel (fun p => pd p ∧ ¬ Dep ops i p.1) (listed.setIfInBounds i true) a' w') a w := by
      intro top hok
      simp only [okT, Bool.and_eq_true] at hok
      obtain ⟨⟨⟨h1, h2⟩, h3⟩, h4⟩ := hok
      have hr := memN_iff.1 h1
      refine ⟨hr, ?_⟩
      cases hq : qt i with
      | true =>
        rw [hq] at h2
        simp only [wpT, hq, if_true] at h
        obtain ⟨o, v, ho, hy, hyp, ht⟩ := h
        have c2 : ∀ p, pd p → ¬ Dep ops i p.1 → ∀ o', ops[p.1]? = some o' → ∀ d, o.dst = some d → d ∉ o'.looksAt ops := by
          intro p hp hd o' ho' d hdst hmem
          obtain ⟨hm, ds, hmd⟩ := hpd p hp
          simp only [cond_true, List.all_eq_true, Bool.or_eq_true] at h2
          rcases h2 _ hmd with h | h
          · exact hd (dep_of_dependsOn (hds _ hmd) h)
          · simp only [clear1, ho, ho', hdst, Bool.not_eq_true'] at h
            rw [memN_iff.2 hmem] at h
            cases h
        refine stepD_of_yields ho hy ?_
        have hnow : ∀ p, pd p ∧ ¬ Dep ops i p.1 → Ynow P ops p (a.put o.dst v) w ∧ (pt p.1 = true → ∀ w', Ynow P ops p (a.put o.dst v) w') := fun p hp =>
          ⟨(hn p hp.1).1.put hs fun o' ho' => c2 p hp.1 hp.2 o' ho', fun hpt w' => ((hn p hp.1).2 hpt w').put hs fun o' ho' => c2 p hp.1 hp.2 o' ho'⟩
        refine ⟨fun p hp => (hnow p hp).1, ?_⟩
        exact (ih _ _ _ _ _ _ (hdc.set hr) (stepPds_sound hds) (fun p hp => ⟨List.mem_cons_of_mem _ (hpd p hp.1).1, stepPds_keeps (hpd p hp.1).2⟩) hnow ht).1 h4
      | false =>
        rw [hq] at h2
        simp only [wpT, hq, Bool.false_eq_true, if_false] at h
        refine stepD_mono (stepD_info h) fun a' w' ⟨hinfo, hre, ht⟩ => ?_
        -- what does not look at the world
        have hclr : ∀ p : Nat × Value, clear1 ops i p.1 = true → (∃ w'', Ynow P ops p a w'') → ∀ w'', Ynow P ops p a w'' → Ynow P ops p a' w'' := by
          intro p hc _ w'' hy
          unfold clear1 at hc
          split at hc
          · rename_i oi q hoi hoq
            obtain ⟨u, rfl⟩ := hinfo oi hoi
            refine hy.put hs fun o' ho' d hd hmem => ?_
            rw [hoq] at ho'
            cases ho'
            rw [hd] at hc
            simp only [Bool.not_eq_true'] at hc
            rw [memN_iff.2 hmem] at hc
            cases hc
          · simp at hc
        have hpur : ∀ p, pd p → pt p.1 = true → clear1 ops i p.1 = true → ∀ w'', Ynow P ops p a' w'' := fun p hp hpt hc w'' => hclr p hc ⟨w'', (hn p hp).2 hpt w''⟩ w'' ((hn p hp).2 hpt w'')
        have hnow : ∀ p, pd p ∧ ¬ Dep ops i p.1 → Ynow P ops p a' w' ∧ (pt p.1 = true → ∀ w', Ynow P ops p a' w') := by
          rintro p ⟨hp, hd⟩
          obtain ⟨hm, ds, hmd⟩ := hpd p hp
          simp only [cond_false, List.all_eq_true, Bool.or_eq_true] at h2
          rcases h2 _ hmd with h | h
          · exact absurd (dep_of_dependsOn (hds _ hmd) h) hd
          · cases hpt : pt p.1 with
            | true =>
              rw [hpt] at h
              exact ⟨hpur p hp hpt h w', fun _ => hpur p hp hpt h⟩
            | false =>
              rw [hpt] at h
              exact ⟨hre p hm (memN_iff.1 h), by intro h; cases h⟩
        refine ⟨fun p hp => (hnow p hp).1, ?_⟩
        exact (ih _ _ _ _ _ _ (hdc.set hr) (stepPds_sound hds) (fun p hp => ⟨(hpd p hp.1).1, stepPds_keeps (hpd p hp.1).2⟩) hnow ht).1 h4
    refine ⟨fun hok => ?_, fun hok j hj _ => ?_⟩
    · intro fuel hf
      obtain ⟨f, rfl⟩ : ∃ f, fuel = f + 1 := ⟨fuel - 1, by simp [OT.depth] at hf; omega⟩
      have hf' : t.depth ≤ f := by simp [OT.depth] at hf; omega
      obtain ⟨hr, hst⟩ := step true hok
      simp only [okT, Bool.and_eq_true, cond_true, Bool.or_eq_true] at hok
      obtain ⟨⟨⟨_, _⟩, h3⟩, h4⟩ := hok
      rcases h3 with ⟨⟨hq, hc⟩, hfree⟩ | h3
      · simp only [wpT, hq, if_true] at h
        obtain ⟨o, v, ho, hy, hyp, ht⟩ := h
        obtain ⟨c1, c2⟩ := clearOf_spec ho hc
        refine take_first ho hs c1 f pd listed a w hdc (fun j oj hj hji hjl hje => Region.free_spec ho hfree j oj hj hji hjl hje) (fun p hp => c2 p.1 (hpd p hp).2) hr hy (fun p hp => (hn p hp).1) ?_
        refine (ih _ _ ((i, v) :: pend) (fun p => pd p ∨ p = (i, v)) _ _ (hdc.set hr) (stepPds_sound hds) ?_ ?_ ht).1 h4 f hf'
        · rintro p (hp | rfl)
          · exact ⟨List.mem_cons_of_mem _ (hpd p hp).1, stepPds_keeps (hpd p hp).2⟩
          · exact ⟨List.mem_cons_self .., [], stepPds_new hq⟩
        · rintro p (hp | rfl)
          · exact ⟨(hn p hp).1.put hs fun o' ho' => c2 p.1 (hpd p hp).2 o' ho', fun hpt w' => ((hn p hp).2 hpt w').put hs fun o' ho' => c2 p.1 (hpd p hp).2 o' ho'⟩
          · have own : ∀ w', YieldsAt P ops w' o v a → Ynow P ops (i, v) (a.put o.dst v) w' := by
              intro w' hy'
              refine Ynow.put hs ⟨o, ho, hy'⟩ ?_
              intro o' ho'
              simp only [ho, Option.some.injEq] at ho'
              subst ho'
              exact c1
            exact ⟨own w hy, fun hpt w' => own w' (hyp hpt w')⟩
      · have hsing : Region.ready .any ops listed = [i] := by
          unfold isSingle at h3
          split at h3
          · rename_i j' hj'
            rw [hj', Nat.eq_of_beq_eq_true h3]
          · simp at h3
        refine ⟨fun h0 => (by rw [h0] at hr; cases hr), fun j hj => ?_⟩
        rw [hsing] at hj
        simp only [List.mem_singleton] at hj
        subst hj
        exact stepD_mono hst fun a' w' hh => ⟨hh.1, hh.2 f hf'⟩
    · simp only [OT.heads, List.mem_singleton] at hj
      subst hj
      exact stepD_mono (step false hok).2 fun a' w' hh => ⟨hh.1, fun fuel hf => hh.2 fuel (by simp [OT.depth] at hf; omega)⟩
  | or x y ihx ihy =>
    intro listed pds pend pd a w hdc hds hpd hn h
    have both : okT ops qt pt false x listed pds = true → okT ops qt pt false y listed pds = true → ∀ i ∈ x.heads ++ y.heads, i ∈ Region.ready .any ops listed → stepD P ops i (fun a' w' => (∀ p, pd p ∧ ¬ Dep ops i p.1 → Ynow P ops p a' w') ∧
        ∀ fuel, max x.depth y.depth ≤ fuel + 1 → wpAnyP P ops Q fuel (fun p => pd p ∧ ¬ Dep ops i p.1) (listed.setIfInBounds i true) a' w') a w := by
      intro hx hy i hi hr
      rcases List.mem_append.1 hi with hi | hi
      · exact stepD_mono ((ihx _ _ _ _ _ _ hdc hds hpd hn h.1).2 hx i hi hr) fun a' w' hh => ⟨hh.1, fun fuel hf => hh.2 fuel (by omega)⟩
      · exact stepD_mono ((ihy _ _ _ _ _ _ hdc hds hpd hn h.2).2 hy i hi hr) fun a' w' hh => ⟨hh.1, fun fuel hf => hh.2 fuel (by omega)⟩
    refine ⟨fun hok => ?_, fun hok => ?_⟩
    · simp only [okT, cond_true, Bool.and_eq_true, Bool.not_eq_true', List.all_eq_true] at hok
      obtain ⟨⟨⟨h1, h2⟩, hx⟩, hy⟩ := hok
      intro fuel hf
      have hne : Region.ready .any ops listed ≠ [] := by
        intro h0; rw [h0] at h1; simp at h1
      cases fuel with
      | zero =>
        exfalso
        obtain ⟨i, hi⟩ := List.exists_mem_of_ne_nil _ hne
        have := memN_iff.1 (h2 i hi)
        have hd : ∀ t : OT, t.depth = 0 → t.heads = [] := by
          intro t
          induction t with
          | done => intro _; rfl
          | op i re t _ => intro h; simp [OT.depth] at h
          | or a b iha ihb => intro h; simp only [OT.depth] at h; simp only [OT.heads]; rw [iha (by omega), ihb (by omega)]; rfl
        simp only [OT.depth] at hf
        rw [hd x (by omega), hd y (by omega)] at this
        simp at this
      | succ f =>
        refine ⟨fun h0 => absurd h0 hne, fun j hj => ?_⟩
        exact stepD_mono (both hx hy j (memN_iff.1 (h2 j hj)) hj) fun a' w' hh => ⟨hh.1, hh.2 f (by simpa [OT.depth] using hf)⟩
    · simp only [okT, cond_false, Bool.and_eq_true, Bool.true_and] at hok
      intro i hi hr
      exact both hok.1 hok.2 i hi hr

/-- A drawn region by its tree. -/
theorem region_tree {r : Option Nat} {n : Nat} {Q' : Exit → Act → World → Prop} {qt pt : Nat → Bool} {t : OT} {id : Nat} {a : Act} {w : World} (hm : P.follows .mixedOrders = true) (hsel : Region.noSelect ops = true)
    (hok : okT ops qt pt true t (Array.replicate ops.size false) [] = true) (hd : Nat.ble t.depth ops.size = true) (hQ : ∀ a w, Q a w → Q' .normal a w)
    (h : wpT P ops Q qt pt t [] a { w with drawn := w.drawn + 1 }) : (Code.region id ops true).wpIn (FF r) n P Q' a w := by
  refine wpIn_region_any hm ?_
  refine wpAny_of_P hQ ops.size (fun _ => False) _ a _ ?_
  refine (tree_sound (Region.noSelect_spec hsel) qt pt t _ [] [] _ a _ ?_ (by simp) (fun _ h => h.elim) (fun _ h => h.elim) h).1 hok ops.size (Nat.le_of_ble_eq_true hd)
  intro j hj
  rw [Array.getD_eq_getD_getElem?] at hj
  cases hx : (Array.replicate ops.size false)[j]? with
  | none => rw [hx] at hj; simp at hj
  | some b =>
    rw [hx] at hj
    simp only [Option.getD_some] at hj
    obtain ⟨hlt, he⟩ := Array.getElem?_eq_some_iff.1 hx
    simp at he
    rw [he] at hj
    cases hj
end
end Go.Fw
