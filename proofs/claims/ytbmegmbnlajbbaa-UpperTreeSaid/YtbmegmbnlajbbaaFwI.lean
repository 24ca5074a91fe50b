/- The translation is sound: the operations of a region. -/
import Derived.Test.YtbmegmbnlajbbaaFwHm
import Derived.Tactics2
namespace Go.Fw
open Go

def Keeps (ws : List Nat) (e e' : Env) : Prop := ∀ t, memN t ws = false → e'.find t = e.find t
theorem Keeps.refl (ws : List Nat) (e : Env) : Keeps ws e e := fun _ _ => rfl
theorem Keeps.trans {ws : List Nat} {e e' e'' : Env} (h : Keeps ws e e') (h' : Keeps ws e' e'') : Keeps ws e e'' := fun t ht => (h' t ht).trans (h t ht)
theorem find_cons_ne {e : Env} {d t : Nat} {v : EV} (h : d ≠ t) : Env.find ((d, v) :: e) t = e.find t := by
  have : Nat.beq d t = false := by
    cases hb : Nat.beq d t with
    | true => exact absurd (Nat.eq_of_beq_eq_true hb) h
    | false => rfl
  simp only [Env.find, this, cond_false]
theorem find_cons_eq {e : Env} {d : Nat} {v : EV} : Env.find ((d, v) :: e) d = some v := by
  have : Nat.beq d d = true := by simp
  simp only [Env.find, this, cond_true]
theorem Keeps.cons {ws : List Nat} {e : Env} {d : Nat} {v : EV} (h : memN d ws = true) : Keeps ws e ((d, v) :: e) := by
  intro t ht
  refine find_cons_ne fun he => ?_
  subst he
  rw [h] at ht
  cases ht
theorem Keeps.put {ws : List Nat} {e : Env} {d : Option Tmp} {v : EV} (h : ∀ t, d = some t → memN t ws = true) : Keeps ws e (e.put d v) := by
  cases d with
  | none => exact Keeps.refl _ _
  | some t => exact Keeps.cons (h t rfl)
theorem mem_opsWrites {l : List Oper} {o : Oper} {d : Nat} (ho : o ∈ l) (hd : o.dst = some d) : memN d (opsWrites l) = true := by
  induction l with
  | nil => cases ho
  | cons x r ih =>
    rcases List.mem_cons.1 ho with rfl | ho
    · simp only [opsWrites, hd, memN, Nat.beq_refl, Bool.true_or]
    · have := ih ho
      cases hx : x.dst with
      | none => simp only [opsWrites, hx, this]
      | some y => simp only [opsWrites, hx, memN, this, Bool.or_true]
/-- Writing what is there already. -/
theorem Rep.lit {ds : List Deferred} {n : Nat} {e : Env} {a : Act} (h : Rep ds n e a) {d : Nat} {v v' : EV} (hf : e.find d = some v) (hv : v'.2 = v.2) : Rep ds n ((d, v') :: e) a := by
  refine ⟨h.1, h.2.1, fun t x hx => ?_⟩
  by_cases hd : d = t
  · subst hd
    rw [find_cons_eq] at hx
    cases hx
    rw [hv]
    exact h.2.2 d v hf
  · rw [find_cons_ne hd] at hx
    exact h.2.2 t x hx
theorem ev_const (e : Env) (v : Value) : (e.ev (.const v)).2 = v := rfl
theorem ev_func (e : Env) (f : FuncId) : (e.ev (.func f)).2 = .func (.func f) #[] #[] := rfl

section
variable {P : Program} {qs : List FuncId} {ds : List Deferred} {n : Nat}

theorem exec_ev {o : Oper} {e : Env} {a : Act} (hr : Rep ds n e a) (hk : knowsAll e o = true) : execOp (fun x => (e.ev x).2) o = execOp a.eval o := by
  have hs : ∀ cs b, o.op ≠ .select cs b := by
    intro cs b h
    unfold knowsAll at hk
    rw [h] at hk
    simp at hk
  have ha : ∀ x ∈ o.op.operands, e.knows x = true := by
    intro x hx
    unfold knowsAll at hk
    cases hop : o.op <;> rw [hop] at hk hx <;> first | (exact absurd hop (hs _ _)) | skip
    all_goals exact List.all_eq_true.1 hk x (Array.mem_toList_iff.2 hx)
  exact execOp_congr o hs fun x hx => (hr.ev (ha x hx)).symm
theorem run1_q {o : Oper} {e : Env} {a : Act} {w : World} {K : EV → World → Prop} (hr : Rep ds n e a) (hq : isQ P qs o = true) (h : run1 P qs o e w K) : ∃ tag v, Yq P o a.eval v w ∧ (isPure P o = true → ∀ w', Yq P o a.eval v w') ∧ K (tag, v) w := by
  unfold run1 at h
  cases hk : knowsAll e o with
  | false => rw [hk] at h; exact h.elim
  | true =>
    rw [hk, hq] at h
    simp only [cond_true] at h
    obtain ⟨tag, v, h1, hp, h2⟩ := opQ_sound (ev_const e) (ev_func e) hq h
    have back : ∀ w, Yq P o (fun x => (e.ev x).2) v w → Yq P o a.eval v w := by
      intro w h
      unfold Yq at *
      rw [exec_ev hr hk] at h
      exact h
    exact ⟨tag, v, back w h1, fun hpp w' => back w' (hp hpp w'), h2⟩
theorem run1_sound {o : Oper} {e : Env} {a : Act} {w : World} {K : EV → World → Prop} (hr : Rep ds n e a) (h : run1 P qs o e w K) : Does P o a.eval w fun v w' => ∃ tag, K (tag, v) w' := by
  cases hq : isQ P qs o with
  | true =>
    obtain ⟨tag, v, h1, _, h2⟩ := run1_q hr hq h
    exact h1.does ⟨tag, h2⟩
  | false =>
    unfold run1 at h
    cases hk : knowsAll e o with
    | false => rw [hk] at h; exact h.elim
    | true =>
      rw [hk, hq] at h
      simp only [cond_true, cond_false] at h
      have := opL_sound (ev_func e) h
      unfold Does at *
      rw [exec_ev hr hk] at this
      exact this

theorem wanted_of {all : Array Oper} {o : Oper} {e : Env} {a : Act} {j : Nat} {want : Bool} {d : Nat} {tag : Nat} {b : Bool} (hr : Rep ds n e a) (hg : o.guard = some (j, want)) (hd : (all[j]?).bind (·.dst) = some d)
    (hf : e.find d = some (tag, .bool b)) : Region.wanted o (yielded all a.tmps) = (b == want) := by
  have ht := hr.2.2 d _ hf
  simp only [Region.wanted, hg, yielded, hd, Option.bind_some, ht]
  cases b <;> cases want <;> rfl

theorem wanted_undef {all : Array Oper} {o : Oper} {e : Env} {a : Act} {j : Nat} {want : Bool} {d : Nat} {tag : Nat} {vs : Array Value} (hr : Rep ds n e a) (hg : o.guard = some (j, want)) (hd : (all[j]?).bind (·.dst) = some d)
    (hf : e.find d = some (tag, .tuple vs)) : Region.wanted o (yielded all a.tmps) = false := by
  have ht := hr.2.2 d _ hf
  simp only [Region.wanted, hg, yielded, hd, Option.bind_some, ht]
  rfl

/-- What an operation comes to, and the environment behind it. -/
theorem trOp_sound {all : Array Oper} {o : Oper} {e : Env} {a : Act} {w : World} {K : Env → EV → World → Prop} (ho : o ∈ all.toList) (hdst : ∀ t, o.dst = some t → t < n) (hr : Rep ds n e a) (h : trOp P qs all o e w K) :
    (if Region.wanted o (yielded all a.tmps) then Does P o a.eval w (fun v w' => ∃ e' tag, Rep ds n e' (a.put o.dst v) ∧ Keeps (opsWrites all.toList) e e' ∧ K e' (tag, v) w')
      else ∃ e', Rep ds n e' (a.put o.dst undef) ∧ Keeps (opsWrites all.toList) e e' ∧ K e' (0, undef) w) ∧
    (isQ P qs o = true → ∃ v tag e', YieldsAt P all w o v a ∧ (isPure P o = true → ∀ w', YieldsAt P all w' o v a) ∧ Rep ds n e' (a.put o.dst v) ∧ Keeps (opsWrites all.toList) e e' ∧ K e' (tag, v) w) := by
  have hw : ∀ t, o.dst = some t → memN t (opsWrites all.toList) = true := fun t ht => mem_opsWrites ho ht
  -- the two ways to go on
  have runs : ∀ e1 : Env, Rep ds n e1 a → Keeps (opsWrites all.toList) e e1 → Region.wanted o (yielded all a.tmps) = true → run1 P qs o e1 w (fun v w' => K (e1.put o.dst v) v w') →
      (if Region.wanted o (yielded all a.tmps) then Does P o a.eval w (fun v w' => ∃ e' tag, Rep ds n e' (a.put o.dst v) ∧ Keeps (opsWrites all.toList) e e' ∧ K e' (tag, v) w')
      else ∃ e', Rep ds n e' (a.put o.dst undef) ∧ Keeps (opsWrites all.toList) e e' ∧ K e' (0, undef) w) ∧
    (isQ P qs o = true → ∃ v tag e', YieldsAt P all w o v a ∧ (isPure P o = true → ∀ w', YieldsAt P all w' o v a) ∧ Rep ds n e' (a.put o.dst v) ∧ Keeps (opsWrites all.toList) e e' ∧ K e' (tag, v) w) := by
    intro e1 h1 hk1 hwt hrun
    refine ⟨?_, fun hq => ?_⟩
    · rw [if_pos hwt]
      exact (run1_sound h1 hrun).mono fun v w' ⟨tag, hK⟩ => ⟨_, tag, h1.put hdst, hk1.trans (Keeps.put hw), hK⟩
    · obtain ⟨tag, v, hy, hp, hK⟩ := run1_q h1 hq hrun
      exact ⟨v, tag, _, .inl ⟨hwt, hy⟩, fun hpp w' => .inl ⟨hwt, hp hpp w'⟩, h1.put hdst, hk1.trans (Keeps.put hw), hK⟩
  have skips : ∀ e1 : Env, Rep ds n e1 a → Keeps (opsWrites all.toList) e e1 → Region.wanted o (yielded all a.tmps) = false → K (e1.put o.dst (0, undef)) (0, undef) w →
      (if Region.wanted o (yielded all a.tmps) then Does P o a.eval w (fun v w' => ∃ e' tag, Rep ds n e' (a.put o.dst v) ∧ Keeps (opsWrites all.toList) e e' ∧ K e' (tag, v) w')
      else ∃ e', Rep ds n e' (a.put o.dst undef) ∧ Keeps (opsWrites all.toList) e e' ∧ K e' (0, undef) w) ∧
    (isQ P qs o = true → ∃ v tag e', YieldsAt P all w o v a ∧ (isPure P o = true → ∀ w', YieldsAt P all w' o v a) ∧ Rep ds n e' (a.put o.dst v) ∧ Keeps (opsWrites all.toList) e e' ∧ K e' (tag, v) w) := by
    intro e1 h1 hk1 hwt hK
    refine ⟨?_, fun _ => ?_⟩
    · rw [if_neg (by rw [hwt]; simp)]
      exact ⟨_, h1.put hdst, hk1.trans (Keeps.put hw), hK⟩
    · exact ⟨undef, 0, _, .inr ⟨hwt, rfl⟩, fun _ _ => .inr ⟨hwt, rfl⟩, h1.put hdst, hk1.trans (Keeps.put hw), hK⟩
  unfold trOp at h
  cases hg : o.guard with
  | none =>
    rw [hg] at h
    exact runs e hr (Keeps.refl _ _) (by simp [Region.wanted, hg]) h
  | some x =>
    obtain ⟨j, want⟩ := x
    rw [hg] at h
    simp only at h
    cases hd : (all[j]?).bind (·.dst) with
    | none => rw [hd] at h; exact h.elim
    | some d =>
      rw [hd] at h
      simp only at h
      have hdw : memN d (opsWrites all.toList) = true := by
        obtain ⟨oj, hj, hjd⟩ := Option.bind_eq_some_iff.1 hd
        exact mem_opsWrites (Array.mem_toList_iff.2 (Array.mem_of_getElem? hj)) hjd
      split at h
      · rename_i tag b hf
        have hwt := wanted_of hr hg hd hf
        cases ht : Nat.beq tag 2 with
        | true =>
          rw [ht] at h
          simp only [cond_true] at h
          cases hb : (b == want) with
          | true => rw [hb] at h hwt; exact runs e hr (Keeps.refl _ _) hwt h
          | false => rw [hb] at h hwt; exact skips e hr (Keeps.refl _ _) hwt h
        | false =>
          rw [ht] at h
          simp only [cond_false] at h
          obtain ⟨h1, h2⟩ := h
          cases b with
          | true =>
            have h1 := h1 rfl
            cases want with
            | true => exact runs _ (hr.lit (v' := (2, .bool true)) hf rfl) (Keeps.cons hdw) hwt h1
            | false => exact skips _ (hr.lit (v' := (2, .bool true)) hf rfl) (Keeps.cons hdw) hwt h1
          | false =>
            have h2 := h2 rfl
            cases want with
            | true => exact skips _ (hr.lit (v' := (2, .bool false)) hf rfl) (Keeps.cons hdw) hwt h2
            | false => exact runs _ (hr.lit (v' := (2, .bool false)) hf rfl) (Keeps.cons hdw) hwt h2
      · rename_i tag vs hf
        exact skips e hr (Keeps.refl _ _) (wanted_undef hr hg hd hf) h
      · exact h.elim

theorem dstsOk_spec {l : List Oper} (h : dstsOk n l = true) : ∀ o ∈ l, ∀ t, o.dst = some t → t < n := by
  induction l with
  | nil => intro o ho; cases ho
  | cons x r ih =>
    simp only [dstsOk, Bool.and_eq_true] at h
    intro o ho t ht
    rcases List.mem_cons.1 ho with rfl | ho
    · have := h.1
      rw [ht] at this
      exact Nat.lt_of_lt_of_le (Nat.lt_succ_self _) (Nat.le_of_ble_eq_true this)
    · exact ih h.2 o ho t ht

theorem trOps_sound {r : Option Nat} {m : Nat} {all : Array Oper} {Q : Exit → Act → World → Prop} {e0 : Env} : ∀ (l : List Oper) (e : Env) (a : Act) (w : World) (K : Env → World → Prop), (∀ o ∈ l, o ∈ all.toList) → (∀ o ∈ l, ∀ t, o.dst = some t → t < n) → Rep ds n e a →
    Keeps (opsWrites all.toList) e0 e → trOps P qs all l e w K → (∀ e' a w, Rep ds n e' a → Keeps (opsWrites all.toList) e0 e' → K e' w → Q .normal a w) → wpListIn (FF r) m P all Q l a w := by
  intro l
  induction l with
  | nil => intro e a w K _ _ hr hk h hQ; exact hQ _ _ _ hr hk h
  | cons o r ih =>
    intro e a w K hm hd hr hk h hQ
    have h1 := (trOp_sound (hm o (by simp)) (hd o (by simp)) hr h).1
    have hm' : ∀ o ∈ r, o ∈ all.toList := fun x hx => hm x (by simp [hx])
    have hd' : ∀ o ∈ r, ∀ t, o.dst = some t → t < n := fun x hx => hd x (by simp [hx])
    unfold wpListIn
    split
    · rename_i hw
      rw [if_pos hw] at h1
      exact wp_of_does (h1.mono fun v w' ⟨e', tag, hr', hk', hK⟩ => ih e' _ w' K hm' hd' hr' (hk.trans hk') hK hQ)
    · rename_i hw
      rw [if_neg hw] at h1
      obtain ⟨e', hr', hk', hK⟩ := h1
      exact ⟨fun _ _ => trivial, ih e' _ w K hm' hd' hr' (hk.trans hk') hK hQ⟩

theorem reOK_sound {ops : Array Oper} {e : Env} {a : Act} {w : World} {re : List Nat} (hqs : ∀ i ∈ re, ∀ o, ops[i]? = some o → isQ P qs o = true) (hr : Rep ds n e a) : ∀ (pend : List (Nat × EV)) (K : Prop), reOK P ops e w re pend K →
    (∀ p ∈ pend.map (fun x => (x.1, x.2.2)), p.1 ∈ re → Ynow P ops p a w) ∧ K := by
  intro pend
  induction pend with
  | nil => intro K h; exact ⟨fun p hp => by simp at hp, h⟩
  | cons x r ih =>
    obtain ⟨i, v⟩ := x
    intro K h
    simp only [reOK] at h
    cases hm : memN i re with
    | false =>
      rw [hm] at h
      obtain ⟨h1, h2⟩ := ih K h
      refine ⟨fun p hp hpre => ?_, h2⟩
      simp only [List.map_cons, List.mem_cons] at hp
      rcases hp with rfl | hp
      · rw [memN_iff.2 hpre] at hm; cases hm
      · exact h1 p hp hpre
    | true =>
      rw [hm] at h
      simp only [cond_true] at h
      cases ho : ops[i]? with
      | none => rw [ho] at h; exact h.elim
      | some o =>
        rw [ho] at h
        simp only at h
        cases hk : knowsAll e o with
        | false => rw [hk] at h; exact h.elim
        | true =>
          rw [hk] at h
          simp only [cond_true] at h
          have hnow : ∀ K', (match wantedIn ops e o with
              | some true => opQ P o e.ev w (fun u => u.2 = v.2) ∧ K'
              | some false => v.2 = undef ∧ K'
              | none => False) → Ynow P ops (i, v.2) a w ∧ K' := by
            intro K' h
            cases hwi : wantedIn ops e o with
            | none => rw [hwi] at h; exact h.elim
            | some b =>
              have hwt : Region.wanted o (yielded ops a.tmps) = b := by
                unfold wantedIn at hwi
                cases hg : o.guard with
                | none => rw [hg] at hwi; simp at hwi; subst hwi; simp [Region.wanted, hg]
                | some x =>
                  obtain ⟨j, want⟩ := x
                  rw [hg] at hwi
                  simp only at hwi
                  cases hd : (ops[j]?).bind (·.dst) with
                  | none => rw [hd] at hwi; simp at hwi
                  | some d =>
                    rw [hd] at hwi
                    simp only at hwi
                    split at hwi
                    · rename_i b' hf
                      simp at hwi
                      subst hwi
                      exact wanted_of hr hg hd hf
                    · rename_i vs hf
                      simp at hwi
                      subst hwi
                      exact wanted_undef hr hg hd hf
                    · simp at hwi
              rw [hwi] at h
              cases b with
              | true =>
                obtain ⟨h1, h2⟩ := h
                obtain ⟨tag, u, h3, _, h4⟩ := opQ_sound (ev_const e) (ev_func e) (hqs i (memN_iff.1 hm) o ho) h1
                simp only at h4
                subst h4
                refine ⟨⟨o, ho, .inl ⟨hwt, ?_⟩⟩, h2⟩
                unfold Yq at h3
                rw [exec_ev hr hk] at h3
                exact h3
              | false =>
                obtain ⟨h1, h2⟩ := h
                exact ⟨⟨o, ho, .inr ⟨hwt, h1⟩⟩, h2⟩
          obtain ⟨h1, h2⟩ := hnow _ h
          obtain ⟨h3, h4⟩ := ih K h2
          refine ⟨fun p hp hpre => ?_, h4⟩
          simp only [List.map_cons, List.mem_cons] at hp
          rcases hp with rfl | hp
          · exact h1
          · exact h3 p hp hpre

theorem trT_sound {ops : Array Oper} {e0 : Env} {K : Env → World → Prop} (hd : ∀ o ∈ ops.toList, ∀ t, o.dst = some t → t < n) : ∀ (t : OT) (e : Env) (pend : List (Nat × EV)) (a : Act) (w : World),
    t.reQ (fun i => match ops[i]? with | some o => isQ P qs o | none => false) = true → Rep ds n e a → Keeps (opsWrites ops.toList) e0 e → trT P qs ops t e pend w K →
    wpT P ops (fun a w => ∃ e', Rep ds n e' a ∧ Keeps (opsWrites ops.toList) e0 e' ∧ K e' w) (fun i => match ops[i]? with | some o => isQ P qs o | none => false) (fun i => match ops[i]? with | some o => isPure P o | none => false) t (pend.map fun x => (x.1, x.2.2)) a w := by
  intro t
  induction t with
  | done => intro e pend a w _ hr hk h; exact ⟨e, hr, hk, h⟩
  | op i re t ih =>
    intro e pend a w hre hr hk h
    simp only [OT.reQ, Bool.and_eq_true] at hre
    simp only [trT] at h
    cases ho : ops[i]? with
    | none => rw [ho] at h; exact h.elim
    | some o =>
      rw [ho] at h
      simp only at h
      have hmem : o ∈ ops.toList := Array.mem_toList_iff.2 (Array.mem_of_getElem? ho)
      obtain ⟨h1, h2⟩ := trOp_sound hmem (hd o hmem) hr h
      simp only [wpT, ho]
      cases hq : isQ P qs o with
      | true =>
        simp only [if_true]
        obtain ⟨v, tag, e', hy, hyp, hr', hk', hK⟩ := h2 hq
        rw [hq] at hK
        exact ⟨o, v, rfl, hy, hyp, ih e' ((i, (tag, v)) :: pend) _ w hre.2 hr' (hk.trans hk') hK⟩
      | false =>
        simp only [Bool.false_eq_true, if_false]
        have hqs : ∀ i ∈ re, ∀ o, ops[i]? = some o → isQ P qs o = true := by
          intro i hi o' ho'
          have := List.all_eq_true.1 hre.1 i hi
          simp only [ho'] at this
          exact this
        have fin : ∀ e' v w' a', Rep ds n e' a' → Keeps (opsWrites ops.toList) e e' → (bif isQ P qs o then trT P qs ops t e' ((i, v) :: pend) w' K else reOK P ops e' w' re pend (trT P qs ops t e' pend w' K)) →
            (∀ p ∈ pend.map (fun x => (x.1, x.2.2)), p.1 ∈ re → Ynow P ops p a' w') ∧ wpT P ops (fun a w => ∃ e', Rep ds n e' a ∧ Keeps (opsWrites ops.toList) e0 e' ∧ K e' w) (fun i => match ops[i]? with | some o => isQ P qs o | none => false) (fun i => match ops[i]? with | some o => isPure P o | none => false) t (pend.map fun x => (x.1, x.2.2)) a' w' := by
          intro e' v w' a' hr' hk' hK
          rw [hq] at hK
          simp only [cond_false] at hK
          obtain ⟨h3, h4⟩ := reOK_sound hqs hr' pend _ hK
          exact ⟨h3, ih e' pend a' w' hre.2 hr' (hk.trans hk') h4⟩
        unfold stepD
        simp only [ho]
        split
        · rename_i hw
          rw [if_pos hw] at h1
          exact h1.mono fun v w' ⟨e', tag, hr', hk', hK⟩ => fin e' _ w' _ hr' hk' hK
        · rename_i hw
          rw [if_neg hw] at h1
          obtain ⟨e', hr', hk', hK⟩ := h1
          exact fin e' _ w _ hr' hk' hK
  | or x y ihx ihy =>
    intro e pend a w hre hr hk h
    simp only [OT.reQ, Bool.and_eq_true] at hre
    exact ⟨ihx e pend a w hre.1 hr hk h.1, ihy e pend a w hre.2 hr hk h.2⟩
end
end Go.Fw
