/- Regions whose order is drawn: a tree of orders, checked by the kernel, stands for all orders. -/
import Derived.Test.YtbmegmbnlajbbaaFwE
import Derived.OrdersIn
namespace Go.Fw
open Go

/-- A tree of orders: an operation (with the earlier reads that are to be told anew behind it) and what follows; or two trees. -/
inductive OT where
  | done
  | op (i : Nat) (re : List Nat) (t : OT)
  | or (a b : OT)
def OT.depth : OT → Nat
  | .done => 0
  | .op _ _ t => t.depth + 1
  | .or a b => max a.depth b.depth

section
variable {P : Program} {ops : Array Oper} {Q : Act → World → Prop}

/-- Operation j comes up. -/
def stepD (P : Program) (ops : Array Oper) (j : Nat) (K : Act → World → Prop) (a : Act) (w : World) : Prop :=
  match ops[j]? with
  | none => K a w
  | some o => if Region.wanted o (yielded ops a.tmps) then Does P o a.eval w (fun v w' => K (a.put o.dst v) w') else K (a.put o.dst undef) w
theorem Does.mono {o : Oper} {ρ : Operand → Value} {w : World} {K K' : Value → World → Prop} (h : Does P o ρ w K) (hk : ∀ v w, K v w → K' v w) : Does P o ρ w K' := by
  rcases h with ⟨v, w', h, h'⟩ | ⟨w', h, h'⟩ | ⟨f, args, w1, h, h'⟩ | ⟨l, f, tmps, as, bd, w1, h, h'⟩
  · exact .inl ⟨v, w', h, hk _ _ h'⟩
  · exact .inr (.inl ⟨w', h, hk _ _ h'⟩)
  · exact .inr (.inr (.inl ⟨f, args, w1, h, h'.mono fun _ _ ⟨v, e, h⟩ => ⟨v, e, hk _ _ h⟩⟩))
  · exact .inr (.inr (.inr ⟨l, f, tmps, as, bd, w1, h, h'.mono fun _ _ ⟨v, e, h⟩ => ⟨v, e, hk _ _ h⟩⟩))
theorem stepD_mono {j : Nat} {K K' : Act → World → Prop} {a : Act} {w : World} (h : stepD P ops j K a w) (hk : ∀ a w, K a w → K' a w) : stepD P ops j K' a w := by
  unfold stepD at *
  split at h
  · exact hk _ _ h
  · split
    · rename_i hw; simp only [hw, if_true] at h; exact h.mono fun v w => hk _ _
    · rename_i hw; simp only [hw] at h; exact hk _ _ h
/-- The fence that lets all go on; in a round of a loop, or in none. -/
def FF (r : Option Nat) : Fence := { Fence.wide with round := r }
theorem room_FF (r : Option Nat) (n : Nat) : (FF r).room n := room_wide n
theorem does_no_defer {o : Oper} {ρ : Operand → Value} {w : World} {K : Value → World → Prop} (h : Does P o ρ w K) : ∀ c, o.op ≠ .defer c := by
  intro c hc
  have key : ∀ nx w', (execOp ρ o).run P w = .ok nx w' → ∃ d, nx = .defer d := by
    intro nx w' h
    unfold execOp at h
    rw [hc] at h
    simp only [Sem.run_bind] at h
    cases hr : (resolve ρ c o.type).run P w with
    | ok d w1 =>
      simp only [hr, Result.andThen_ok, Sem.run_pure, Result.ok.injEq] at h
      exact ⟨d, h.1.symm⟩
    | halt x w1 => simp [hr, Result.andThen] at h
  rcases h with ⟨v, w', h, h'⟩ | ⟨w', h, h'⟩ | ⟨f, args, w1, h, h'⟩ | ⟨l, f, tmps, as, bd, w1, h, h'⟩
  · obtain ⟨_, e⟩ := key _ _ h; cases e
  · obtain ⟨_, e⟩ := key _ _ h; cases e
  · obtain ⟨_, e⟩ := key _ _ h; cases e
  · obtain ⟨_, e⟩ := key _ _ h; cases e
theorem callsIn_FF {r : Option Nat} {n : Nat} {f : FuncId} {args : Array Value} {w : World} {R : Ending → World → Prop} (h : Calls P f args w R) : CallsIn (FF r) n P f args w R := by
  have := (callsIn_wide (n := n)).2 h
  exact ⟨trivial, this.2⟩
theorem roundIn_FF {r : Option Nat} {n : Nat} {l : Nat} {f : FuncId} {tmps : Array Value} {as bd : Code} {w : World} {R : Ending → World → Prop} (h : RoundIn Fence.wide 0 P l f tmps as bd w R) : RoundIn (FF r) n P l f tmps as bd w R :=
  ⟨trivial, fun c cs _ => h.2 c cs (room_wide _)⟩
theorem wp_of_does {r : Option Nat} {n : Nat} {o : Oper} {a : Act} {w : World} {K : Act → World → Prop} {Q' : Exit → Act → World → Prop} (h : Does P o a.eval w (fun v w' => K (a.put o.dst v) w')) : o.wpIn (FF r) n P a w K Q' := by
  have hs : o.semAt (FF r).round a.eval = execOp a.eval o := by
    cases r with
    | none => rfl
    | some l => exact Oper.semAt_some l _ _ (does_no_defer h)
  have hd : (FF r).depth.isSome = true → 1 ≤ n := by intro h; simp [FF, Fence.wide] at h
  refine ⟨fun _ _ => trivial, ?_⟩
  rw [hs]
  rcases h with ⟨v, w', h, h'⟩ | ⟨w', h, h'⟩ | ⟨f, args, w1, h, h'⟩ | ⟨l, f, tmps, as, bd, w1, h, h'⟩
  · rw [h]; exact h'
  · rw [h]; exact h'
  · rw [h, Oper.uponIn_enter]
    exact ⟨hd, callsIn_FF (h'.mono fun e w'' ⟨v, he, hk⟩ => by subst he; exact hk)⟩
  · rw [h, Oper.uponIn_round]
    exact ⟨hd, roundIn_FF (h'.mono fun e w'' ⟨v, he, hk⟩ => by subst he; exact hk)⟩
theorem wpOp_of_stepD {r : Option Nat} {n : Nat} {j : Nat} {K : Act → World → Prop} {Q' : Exit → Act → World → Prop} {a : Act} {w : World} (h : stepD P ops j K a w) : wpOpIn (FF r) n P ops Q' j K a w := by
  unfold stepD at h
  unfold wpOpIn
  split
  · rename_i ho; simpa only [ho] using h
  · rename_i o ho
    simp only [ho] at h
    split
    · rename_i hw; simp only [hw, if_true] at h; exact wp_of_does h
    · rename_i hw; rw [if_neg hw] at h; exact ⟨fun _ _ => trivial, h⟩

/-- j waits for p, by edges that bind in every mode. -/
inductive Dep (ops : Array Oper) : Nat → Nat → Prop
  | edge {j p : Nat} {o : Oper} {e : Edge} (ho : ops[j]? = some o) (he : e ∈ o.after) (hb : Region.binds .any e = true) (hp : e.on = p) : Dep ops j p
  | via {j k p : Nat} {o : Oper} {e : Edge} (ho : ops[j]? = some o) (he : e ∈ o.after) (hb : Region.binds .any e = true) (hk : e.on = k) (h : Dep ops k p) : Dep ops j p
/-- What is listed is listed with all that it waits for. -/
def DC (ops : Array Oper) (listed : Array Bool) : Prop :=
  ∀ j, listed.getD j false = true → ∀ o, ops[j]? = some o → ∀ e ∈ o.after, Region.binds .any e = true → listed.getD e.on false = true
theorem getD_set_cases {listed : Array Bool} {i j : Nat} (h : (listed.setIfInBounds i true).getD j false = true) : j = i ∨ listed.getD j false = true := by
  by_cases e : j = i
  · exact .inl e
  · right
    rw [Array.getD_eq_getD_getElem?, Array.getElem?_setIfInBounds_ne (Ne.symm e)] at h
    rw [Array.getD_eq_getD_getElem?]
    exact h
theorem DC.set {listed : Array Bool} {i : Nat} (h : DC ops listed) (hr : i ∈ Region.ready .any ops listed) : DC ops (listed.setIfInBounds i true) := by
  intro j hj o ho e he hb
  rcases getD_set_cases hj with rfl | hj
  · rw [mem_ready] at hr
    obtain ⟨_, o', ho', hall⟩ := hr
    rw [ho] at ho'
    cases ho'
    exact getD_set_true (hall e he hb)
  · exact getD_set_true (h j hj o ho e he hb)
theorem dep_listed {listed : Array Bool} (hd : DC ops listed) {j p : Nat} (h : Dep ops j p) (hr : ∀ o, ops[j]? = some o → ∀ e ∈ o.after, Region.binds .any e = true → listed.getD e.on false = true) :
    listed.getD p false = true := by
  induction h with
  | edge ho he hb hp => subst hp; exact hr _ ho _ he hb
  | via ho he hb hk h ih =>
    subst hk
    have := hr _ ho _ he hb
    exact ih fun o ho' e he' hb' => hd _ this o ho' e he' hb'

/-- Operation p yields v now. -/
def Ynow (P : Program) (ops : Array Oper) (p : Nat × Value) (a : Act) (w : World) : Prop := ∃ o, ops[p.1]? = some o ∧ YieldsAt P ops w o p.2 a

/-- Whatever order is picked from here on; behind each step the reads of 'pd' that need not have come up are as they were. -/
def wpAnyP (P : Program) (ops : Array Oper) (Q : Act → World → Prop) : Nat → (Nat × Value → Prop) → Array Bool → Act → World → Prop
  | 0, _, listed, a, w => Region.ready .any ops listed = [] ∧ Q a w
  | fuel + 1, pd, listed, a, w =>
    (Region.ready .any ops listed = [] → Q a w) ∧
    ∀ j ∈ Region.ready .any ops listed, stepD P ops j (fun a' w' => (∀ p, pd p ∧ ¬ Dep ops j p.1 → Ynow P ops p a' w') ∧ wpAnyP P ops Q fuel (fun p => pd p ∧ ¬ Dep ops j p.1) (listed.setIfInBounds j true) a' w') a w
theorem wpAny_of_P {r : Option Nat} {n : Nat} {Q' : Exit → Act → World → Prop} (hQ : ∀ a w, Q a w → Q' .normal a w) : ∀ (fuel : Nat) (pd : Nat × Value → Prop) (listed : Array Bool) (a : Act) (w : World), wpAnyP P ops Q fuel pd listed a w → wpAnyIn (FF r) n P .any ops Q' fuel listed a w
  | 0, _, _, _, _, h => ⟨h.1, hQ _ _ h.2⟩
  | fuel + 1, _, _, _, _, h => ⟨fun h0 => hQ _ _ (h.1 h0), fun i hi => wpOpIn_mono (fun a w h => wpAny_of_P hQ fuel _ _ a w h.2) (wpOp_of_stepD (h.2 i hi))⟩
theorem wpAnyP_sub : ∀ (fuel : Nat) {pd pd' : Nat × Value → Prop} (_ : ∀ x, pd' x → pd x) (listed : Array Bool) (a : Act) (w : World), wpAnyP P ops Q fuel pd listed a w → wpAnyP P ops Q fuel pd' listed a w
  | 0, _, _, _, _, _, _, h => h
  | fuel + 1, _, _, hs, _, _, _, h => ⟨h.1, fun j hj => stepD_mono (h.2 j hj) fun a w h => ⟨fun p hp => h.1 p ⟨hs _ hp.1, hp.2⟩, wpAnyP_sub fuel (fun _ hp => ⟨hs _ hp.1, hp.2⟩) _ a w h.2⟩⟩

theorem stepD_of_yields {i : Nat} {o : Oper} {v : Value} {a : Act} {w : World} (hi : ops[i]? = some o) (hy : YieldsAt P ops w o v a) {K : Act → World → Prop} (h : K (a.put o.dst v) w) : stepD P ops i K a w := by
  unfold Fw.stepD
  simp only [hi]
  rcases hy with ⟨hw, hv⟩ | ⟨hw, rfl⟩
  · simp only [hw, if_true]
    exact Yq.does (v := v) hv h
  · simp only [hw, Bool.false_eq_true, if_false]; exact h

theorem Ynow.put {p : Nat × Value} {a : Act} {w : World} {d : Option Tmp} {v : Value} (hs : ∀ (j : Nat) (o : Oper) cs b, ops[j]? = some o → o.op ≠ .select cs b) (h : Ynow P ops p a w)
    (hd : ∀ o, ops[p.1]? = some o → ∀ t, d = some t → t ∉ o.looksAt ops) : Ynow P ops p (a.put d v) w := by
  obtain ⟨o, ho, hy⟩ := h
  exact ⟨o, ho, hy.of_same (execOp_put o (fun cs b => hs _ _ cs b ho) a d v (hd o ho)) (wanted_put o a d v (hd o ho))⟩
theorem Ynow.unput {p : Nat × Value} {a : Act} {w : World} {d : Option Tmp} {v : Value} (hs : ∀ (j : Nat) (o : Oper) cs b, ops[j]? = some o → o.op ≠ .select cs b) (h : Ynow P ops p (a.put d v) w)
    (hd : ∀ o, ops[p.1]? = some o → ∀ t, d = some t → t ∉ o.looksAt ops) : Ynow P ops p a w := by
  obtain ⟨o, ho, hy⟩ := h
  exact ⟨o, ho, hy.of_same (execOp_put o (fun cs b => hs _ _ cs b ho) a d v (hd o ho)).symm (wanted_put o a d v (hd o ho)).symm⟩

theorem execOp_does_put {j : Nat} {oj : Oper} (hs : ∀ (j : Nat) (o : Oper) cs b, ops[j]? = some o → o.op ≠ .select cs b) (hj : ops[j]? = some oj) {a : Act} {d : Option Tmp} {v : Value} {w : World}
    {K : Value → World → Prop} (h1 : ∀ t, d = some t → t ∉ oj.looksAt ops) : Does P oj (a.put d v).eval w K = Does P oj a.eval w K := by
  unfold Does
  rw [execOp_put oj (fun cs b => hs _ _ cs b hj) a d v h1]

/-- A step that is apart from an operation already done. -/
theorem stepD_unput {j : Nat} {oi oj : Oper} {v : Value} (hs : ∀ (j : Nat) (o : Oper) cs b, ops[j]? = some o → o.op ≠ .select cs b) (hj : ops[j]? = some oj) (hap : oi.apart ops oj = true)
    {K : Act → World → Prop} {a : Act} {w : World} (h : stepD P ops j K (a.put oi.dst v) w) : stepD P ops j (fun a' w' => K (a'.put oi.dst v) w') a w := by
  obtain ⟨h1, h2, _⟩ := Oper.apart_spec hap
  unfold stepD at *
  simp only [hj] at h ⊢
  rw [wanted_put oj a oi.dst v h1, execOp_does_put hs hj h1] at h
  split
  · rename_i hw
    simp only [hw, if_true] at h
    exact h.mono fun u w' hk => by rw [← Act.put_comm a v u h2]; exact hk
  · rename_i hw
    rw [if_neg hw] at h
    rw [← Act.put_comm a v undef h2]; exact h

theorem set_comm {listed : Array Bool} {i j : Nat} : (listed.setIfInBounds i true).setIfInBounds j true = (listed.setIfInBounds j true).setIfInBounds i true := by
  by_cases h : i = j
  · subst h; rfl
  · exact Array.setIfInBounds_comm _ _ h

/-- A read that may come up now may be taken first. -/
theorem take_first {i : Nat} {oi : Oper} {v : Value} (hi : ops[i]? = some oi) (hs : ∀ (j : Nat) (o : Oper) cs b, ops[j]? = some o → o.op ≠ .select cs b)
    (hself : ∀ d, oi.dst = some d → d ∉ oi.looksAt ops) :
    ∀ (fuel : Nat) (pd : Nat × Value → Prop) (listed : Array Bool) (a : Act) (w : World), DC ops listed →
      (∀ j oj, ops[j]? = some oj → j ≠ i → listed.getD j true = false → (∀ e ∈ oj.after, Region.binds .any e = true → e.on ≠ i) → oi.apart ops oj = true) →
      (∀ p, pd p → ∀ o, ops[p.1]? = some o → ∀ d, oi.dst = some d → d ∉ o.looksAt ops) →
      i ∈ Region.ready .any ops listed → YieldsAt P ops w oi v a → (∀ p, pd p → Ynow P ops p a w) →
      wpAnyP P ops Q fuel (fun p => pd p ∨ p = (i, v)) (listed.setIfInBounds i true) (a.put oi.dst v) w → wpAnyP P ops Q (fuel + 1) pd listed a w := by
  intro fuel
  induction fuel with
  | zero =>
    intro pd listed a w hdc hap hpd hr hy hn H
    refine ⟨fun h => (by rw [h] at hr; cases hr), fun j hj => ?_⟩
    by_cases hji : j = i
    · subst hji
      exact stepD_of_yields hi hy ⟨fun p hp => (hn p hp.1).put hs (hpd p hp.1), wpAnyP_sub 0 (fun p hp => .inl hp.1) _ _ _ H⟩
    · have := ready_mono (i := i) hj hji
      rw [H.1] at this
      cases this
  | succ fuel ih =>
    intro pd listed a w hdc hap hpd hr hy hn H
    refine ⟨fun h => (by rw [h] at hr; cases hr), fun j hj => ?_⟩
    by_cases hji : j = i
    · subst hji
      exact stepD_of_yields hi hy ⟨fun p hp => (hn p hp.1).put hs (hpd p hp.1), wpAnyP_sub _ (fun p hp => .inl hp.1) _ _ _ H⟩
    · have hj' := ready_mono (i := i) hj hji
      have Hj := H.2 j hj'
      obtain ⟨hjl, oj, hoj, hall⟩ := mem_ready.1 hj
      have hil : listed.getD i true = false := (mem_ready.1 hr).1
      have hil' : listed.getD i false ≠ true := by
        intro h
        rw [Array.getD_eq_getD_getElem?] at h hil
        cases hx : listed[i]? with
        | none => rw [hx] at h; simp at h
        | some b => rw [hx] at h hil; simp at h hil; rw [h] at hil; cases hil
      have hnd : ¬ Dep ops j i := fun hd => hil' (dep_listed hdc hd fun o ho e he hb => by rw [hoj] at ho; cases ho; exact hall e he hb)
      have hne : ∀ e ∈ oj.after, Region.binds .any e = true → e.on ≠ i := fun e he hb h => hnd (.edge hoj he hb h)
      have hapj := hap j oj hoj hji hjl hne
      have hus := stepD_unput hs hoj hapj Hj
      refine stepD_mono hus fun a' w' hh => ?_
      obtain ⟨h1, h2⟩ := hh
      have hnow : ∀ p, pd p ∧ ¬ Dep ops j p.1 → Ynow P ops p a' w' := fun p hp => (h1 p ⟨.inl hp.1, hp.2⟩).unput hs (hpd p hp.1)
      refine ⟨hnow, ?_⟩
      obtain ⟨o', ho', hyi⟩ := (h1 (i, v) ⟨.inr rfl, hnd⟩).unput hs (by intro o ho; simp only [hi, Option.some.injEq] at ho; subst ho; exact hself)
      simp only [hi, Option.some.injEq] at ho'
      subst ho'
      refine ih (fun p => pd p ∧ ¬ Dep ops j p.1) _ a' w' (hdc.set hj) ?_ (fun p hp => hpd p hp.1) ?_ hyi hnow ?_
      · intro k ok hok hki hkl hke
        refine hap k ok hok hki ?_ hke
        by_cases hkj : j = k
        · subst hkj
          exact hjl
        · rw [getD_set_ne true hkj] at hkl; exact hkl
      · exact ready_mono hr (Ne.symm hji)
      · rw [set_comm]
        refine wpAnyP_sub _ ?_ _ _ _ h2
        rintro p (⟨hp, hd⟩ | rfl)
        · exact ⟨.inl hp, hd⟩
        · exact ⟨.inr rfl, hnd⟩

theorem stepD_info {j : Nat} {K : Act → World → Prop} {a : Act} {w : World} (h : stepD P ops j K a w) : stepD P ops j (fun a' w' => (∀ o, ops[j]? = some o → ∃ u, a' = a.put o.dst u) ∧ K a' w') a w := by
  unfold stepD at *
  split at h
  · rename_i hn; exact ⟨fun o ho => (by rw [hn] at ho; cases ho), h⟩
  · rename_i o ho
    split
    · rename_i hw
      rw [if_pos hw] at h
      exact h.mono fun v w' hk => ⟨fun o' ho' => (by rw [ho] at ho'; cases ho'; exact ⟨v, rfl⟩), hk⟩
    · rename_i hw
      rw [if_neg hw] at h
      exact ⟨fun o' ho' => (by rw [ho] at ho'; cases ho'; exact ⟨undef, rfl⟩), h⟩
/-- What a tree asks. -/
def wpT (P : Program) (ops : Array Oper) (Q : Act → World → Prop) (qt pt : Nat → Bool) : OT → List (Nat × Value) → Act → World → Prop
  | .done, _, a, w => Q a w
  | .op i re t, pend, a, w =>
    if qt i then ∃ o v, ops[i]? = some o ∧ YieldsAt P ops w o v a ∧ (pt i = true → ∀ w', YieldsAt P ops w' o v a) ∧ wpT P ops Q qt pt t ((i, v) :: pend) (a.put o.dst v) w
    else stepD P ops i (fun a' w' => (∀ p ∈ pend, p.1 ∈ re → Ynow P ops p a' w') ∧ wpT P ops Q qt pt t pend a' w') a w
  | .or x y, pend, a, w => wpT P ops Q qt pt x pend a w ∧ wpT P ops Q qt pt y pend a w

def OT.heads : OT → List Nat
  | .done => []
  | .op i _ _ => [i]
  | .or a b => a.heads ++ b.heads
def dependsOn (ops : Array Oper) (i : Nat) (p : Nat × List Nat) : Bool :=
  match ops[i]? with
  | some o => o.after.any fun e => Region.binds .any e && (Nat.beq e.on p.1 || memN e.on p.2)
  | none => false
def stepPds (ops : Array Oper) (qt : Nat → Bool) (i : Nat) (pds : List (Nat × List Nat)) : List (Nat × List Nat) :=
  let l := pds.map fun p => bif dependsOn ops i p then (p.1, i :: p.2) else p
  bif qt i then (i, []) :: l else l
/-- The operation's own slot is not read by it, nor by the reads of the list. -/
def clearOf (ops : Array Oper) (i : Nat) (pds : List (Nat × List Nat)) : Bool :=
  match ops[i]? with
  | some o => match o.dst with
    | none => true
    | some d => !(memN d (o.looksAt ops)) && pds.all fun p => match ops[p.1]? with
      | some q => !(memN d (q.looksAt ops))
      | none => true
  | none => false
/-- The operation's slot is not read by another one. -/
def clear1 (ops : Array Oper) (i p : Nat) : Bool :=
  match ops[i]?, ops[p]? with
  | some o, some q => match o.dst with
    | none => true
    | some d => !(memN d (q.looksAt ops))
  | _, _ => false
def isSingle (i : Nat) : List Nat → Bool
  | [j] => Nat.beq i j
  | _ => false
def okT (ops : Array Oper) (qt pt : Nat → Bool) : Bool → OT → Array Bool → List (Nat × List Nat) → Bool
  | top, .done, listed, _ => top && (Region.ready .any ops listed).isEmpty
  | top, .op i re t, listed, pds =>
    memN i (Region.ready .any ops listed) &&
    (bif qt i then (pds.all fun p => dependsOn ops i p || clear1 ops i p.1) else pds.all fun p => dependsOn ops i p || (bif pt p.1 then clear1 ops i p.1 else memN p.1 re)) &&
    (bif top then ((qt i && clearOf ops i pds && Region.free .any ops listed i) || isSingle i (Region.ready .any ops listed)) else true) &&
    okT ops qt pt true t (listed.setIfInBounds i true) (stepPds ops qt i pds)
  | top, .or x y, listed, pds =>
    (bif top then !(Region.ready .any ops listed).isEmpty && (Region.ready .any ops listed).all fun i => memN i (x.heads ++ y.heads) else true) && okT ops qt pt false x listed pds && okT ops qt pt false y listed pds

end
end Go.Fw
