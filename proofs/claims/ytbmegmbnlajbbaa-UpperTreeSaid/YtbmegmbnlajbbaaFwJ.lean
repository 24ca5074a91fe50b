/- The translation is sound: code, loops, functions. -/
import Derived.Test.YtbmegmbnlajbbaaFwI
namespace Go.Fw
open Go

theorem least0 {p : Nat → Prop} (h : ∃ n, p n) : ∃ n, p n ∧ ∀ m, p m → n ≤ m := by
  obtain ⟨n, hn⟩ := h
  induction n using Nat.strongRecOn with
  | _ n ih =>
    by_cases hm : ∃ m, m < n ∧ p m
    · obtain ⟨m, h1, h2⟩ := hm; exact ih m h1 h2
    · exact ⟨n, hn, fun m h => Nat.le_of_not_lt fun h' => hm ⟨m, h', h⟩⟩
theorem wp_loop_st {P : Program} {r : Option Nat} {m : Nat} {c : Code} {Q : Exit → Act → World → Prop} {σ : Type} (R : σ → Act → Prop) (I : σ → World → Prop) (μ : σ → World → Nat)
    (round : ∀ s a w, R s a → I s w → c.wpIn (FF r) m P (Exit.then (fun a' w' => ∃ s', R s' a' ∧ I s' w' ∧ μ s' w' < μ s w) Q) a w) :
    ∀ s a w, R s a → I s w → (Code.loop c).wpIn (FF r) m P Q a w := by
  intro s a w hR hI
  classical
  refine wpIn_loop (fun a w => ∃ s, R s a ∧ I s w) (fun a w => if h : ∃ n, ∃ s, R s a ∧ I s w ∧ μ s w = n then Classical.choose (least0 h) else 0) ⟨s, hR, hI⟩ ?_
  rintro a w ⟨s, hR, hI⟩
  have hp : ∃ n, ∃ s, R s a ∧ I s w ∧ μ s w = n := ⟨_, s, hR, hI, rfl⟩
  obtain ⟨s1, hR1, hI1, hμ1⟩ := (Classical.choose_spec (least0 hp)).1
  refine wpIn_mono (round s1 a w hR1 hI1) ?_
  intro e a' w' hq
  cases e with
  | normal =>
    obtain ⟨s', hR', hI', hlt'⟩ := hq
    refine ⟨⟨s', hR', hI'⟩, ?_⟩
    have hp' : ∃ n, ∃ s, R s a' ∧ I s w' ∧ μ s w' = n := ⟨_, s', hR', hI', rfl⟩
    show (if h : ∃ n, ∃ s, R s a' ∧ I s w' ∧ μ s w' = n then Classical.choose (least0 h) else 0) < (if h : ∃ n, ∃ s, R s a ∧ I s w ∧ μ s w = n then Classical.choose (least0 h) else 0)
    rw [dif_pos hp', dif_pos hp]
    refine Nat.lt_of_le_of_lt ((Classical.choose_spec (least0 hp')).2 _ ⟨s', hR', hI', rfl⟩) ?_
    rw [← hμ1]
    exact hlt'
  | exit id => exact hq
  | goto l => exact hq
  | ret => exact hq
  | panic ch => exact hq
  | outgrown => exact hq

theorem memN_append {t : Nat} {a b : List Nat} : memN t (a ++ b) = (memN t a || memN t b) := by
  induction a with
  | nil => simp [memN]
  | cons x r ih => simp [memN, ih, Bool.or_assoc]
theorem Keeps.sub {ws ws' : List Nat} {e e' : Env} (hs : ∀ t, memN t ws = true → memN t ws' = true) (h : Keeps ws e e') : Keeps ws' e e' := by
  intro t ht
  refine h t ?_
  cases hb : memN t ws with
  | false => rfl
  | true => rw [hs t hb] at ht; cases ht
theorem find_drop {ws : List Nat} {e : Env} {t : Nat} : (Env.drop ws e).find t = bif memN t ws then none else e.find t := by
  induction e with
  | nil => cases memN t ws <;> rfl
  | cons x r ih =>
    obtain ⟨s, v⟩ := x
    simp only [Env.drop]
    by_cases hst : s = t
    · subst hst
      cases hm : memN s ws with
      | true => simp only [hm, cond_true] at ih ⊢; exact ih
      | false => simp only [cond_false]; rw [find_cons_eq, find_cons_eq]
    · cases hs : memN s ws with
      | true => simp only [cond_true]; rw [ih, find_cons_ne hst]
      | false => simp only [cond_false]; rw [find_cons_ne hst, ih, find_cons_ne hst]
/-- The environment behind a join tells the truth. -/
theorem rep_join {ds : List Deferred} {n : Nat} {ws : List Nat} {e e' : Env} {a : Act} (hr : Rep ds n e' a) (hk : Keeps ws e e') : Rep ds n (Env.drop ws e) a := by
  refine ⟨hr.1, hr.2.1, fun t v h => ?_⟩
  rw [find_drop] at h
  cases hm : memN t ws with
  | true => rw [hm] at h; simp at h
  | false =>
    rw [hm] at h
    simp only [cond_false] at h
    exact hr.2.2 t v ((hk t hm).trans h)
theorem rep_putT {ds : List Deferred} {n : Nat} {e' : Env} {a : Act} (hr : Rep ds n e' a) : ∀ (l : Vars) (s : Tup l.shs) (e : Env), getT l e' = some s → knowsT l e' = true → Rep ds n e a → Rep ds n (putT l s e) a
  | [], _, _, _, _, h => h
  | [(t, s)], x, e, hg, hk, h => by
    simp only [knowsT, List.all_cons, List.all_nil, Bool.and_true] at hk
    obtain ⟨v, hv⟩ := Option.isSome_iff_exists.1 hk
    simp only [getT, Env.get, hv] at hg
    have hu := Sh.un_val hg
    refine ⟨h.1, h.2.1, fun u y hy => ?_⟩
    simp only [putT] at hy
    by_cases htu : t = u
    · subst htu
      rw [find_cons_eq] at hy
      cases hy
      rw [hr.2.2 t v hv, hu]
      rfl
    · rw [find_cons_ne htu] at hy
      exact h.2.2 u y hy
  | (t, s) :: u :: r, x, e, hg, hk, h => by
    simp only [knowsT, List.all_cons, Bool.and_eq_true] at hk
    obtain ⟨v, hv⟩ := Option.isSome_iff_exists.1 hk.1
    simp only [getT, Env.get, hv] at hg
    split at hg
    · rename_i y z hy hz
      have hg := Option.some.inj hg
      subst hg
      have hu := Sh.un_val hy
      have hr' := rep_putT hr (u :: r) z e hz (by have := hk.2; simpa only [knowsT, List.all_cons, Bool.and_eq_true] using this) h
      refine ⟨hr'.1, hr'.2.1, fun q p hp => ?_⟩
      simp only [putT] at hp
      by_cases htu : t = q
      · subst htu
        rw [find_cons_eq] at hp
        cases hp
        rw [hr.2.2 t v hv, hu]
        rfl
      · rw [find_cons_ne htu] at hp
        exact hr'.2.2 q p hp
    · simp at hg
theorem keeps_putT {ws : List Nat} : ∀ (l : Vars) (s : Tup l.shs) (e : Env), (l.all fun v => memN v.1 ws) = true → Keeps ws e (putT l s e)
  | [], _, _, _ => Keeps.refl _ _
  | [(t, s)], x, e, h => by
    simp only [List.all_cons, List.all_nil, Bool.and_true] at h
    exact Keeps.cons h
  | (t, s) :: u :: r, x, e, h => by
    simp only [List.all_cons, Bool.and_eq_true] at h
    exact (keeps_putT (u :: r) x.2 e (by have := h.2; simpa only [List.all_cons, Bool.and_eq_true] using this)).trans (Keeps.cons h.1)
theorem keeps_drop {ws : List Nat} {e : Env} : Keeps ws e (Env.drop ws e) := by
  intro t ht
  rw [find_drop, ht]
  rfl

section
variable {P : Program} {qs : List FuncId} {ds : List Deferred} {n : Nat}

/-- The continuation says what the postcondition wants, of environments that keep what the code does not write. -/
structure KQ (ds : List Deferred) (n : Nat) (ws : List Nat) (e : Env) (K : Kont) (Q : Exit → Act → World → Prop) : Prop where
  nrm : ∀ e' a w, Rep ds n e' a → Keeps ws e e' → K.nrm e' w → Q .normal a w
  ext : ∀ id e' a w, Rep ds n e' a → Keeps ws e e' → K.ext id e' w → Q (.exit id) a w
  ret : ∀ e' a w, Rep ds n e' a → Keeps ws e e' → K.ret e' w → Q .ret a w

theorem give_spec {l : Vars} {e : Env} {w : World} {k : Tup l.shs → World → Prop} (h : bif knowsT l e then give l e w k else False) : ∃ s, getT l e = some s ∧ knowsT l e = true ∧ k s w := by
  cases hk : knowsT l e with
  | false => rw [hk] at h; exact h.elim
  | true =>
    rw [hk] at h
    simp only [cond_true, give] at h
    split at h
    · exact ⟨_, ‹_›, rfl, h⟩
    · exact h.elim

theorem tr_sound {r : Option Nat} {m : Nat} (hm : P.follows .mixedOrders = true) : ∀ (c : Code) (ann : Ann) (e : Env) (K : Kont) (w : World) (a : Act) (Q : Exit → Act → World → Prop),
    okC P qs n c ann = true → Rep ds n e a → KQ ds n (writes c) e K Q → tr P qs c ann e K w → c.wpIn (FF r) m P Q a w := by
  intro c
  induction c with
  | skip => intro ann e K w a Q _ hr hK h; exact wpIn_skip (hK.nrm _ _ _ hr (Keeps.refl _ _) h)
  | label l => intro ann e K w a Q _ hr hK h; exact wpIn_label (hK.nrm _ _ _ hr (Keeps.refl _ _) h)
  | region id ops draw =>
    intro ann e K w a Q hok hr hK h
    simp only [okC, Bool.and_eq_true] at hok
    simp only [tr] at h
    have hd := dstsOk_spec hok.1
    cases draw with
    | false =>
      simp only [cond_false] at h
      exact wpIn_region_list (trOps_sound ops.toList e a w K.nrm (fun _ h => h) hd hr (Keeps.refl _ _) h fun e' a w hr hk h => hK.nrm e' a w hr hk h)
    | true =>
      simp only [cond_true] at h hok
      split at h
      · rename_i t
        simp only [Bool.and_eq_true] at hok
        obtain ⟨_, ⟨⟨h1, h2⟩, h3⟩, h4⟩ := hok
        exact region_tree hm h1 h3 h4 (fun a w ⟨e', hr', hk', hK'⟩ => hK.nrm e' a w hr' hk' hK') (trT_sound hd t e [] a _ h2 hr (Keeps.refl _ _) (h _ rfl))
      · exact h.elim
  | seq x y ihx ihy =>
    intro ann e K w a Q hok hr hK h
    have sx : ∀ t, memN t (writes x) = true → memN t (writes (.seq x y)) = true := fun t ht => by simp [writes, memN_append, ht]
    have sy : ∀ t, memN t (writes y) = true → memN t (writes (.seq x y)) = true := fun t ht => by simp [writes, memN_append, ht]
    simp only [tr] at h
    simp only [okC] at hok
    split at h
    · rename_i ax ay
      simp only [Bool.and_eq_true] at hok
      refine wpIn_seq (ihx ax e _ w a _ hok.1 hr ⟨?_, ?_, ?_⟩ h)
      · intro e' a' w' hr' hk' h'
        exact ihy ay e' K w' a' Q hok.2 hr' ⟨fun e'' a'' w'' r k h => hK.nrm _ _ _ r ((hk'.sub sx).trans (k.sub sy)) h, fun id e'' a'' w'' r k h => hK.ext _ _ _ _ r ((hk'.sub sx).trans (k.sub sy)) h,
          fun e'' a'' w'' r k h => hK.ret _ _ _ r ((hk'.sub sx).trans (k.sub sy)) h⟩ h'
      · intro id e' a' w' hr' hk' h'; exact hK.ext id e' a' w' hr' (hk'.sub sx) h'
      · intro e' a' w' hr' hk' h'; exact hK.ret e' a' w' hr' (hk'.sub sx) h'
    · rename_i vars ax ay
      simp only [Bool.and_eq_true] at hok
      obtain ⟨J, h1, h2⟩ := h
      refine wpIn_seq (ihx ax e _ w a _ hok.1.2 hr ⟨?_, ?_, ?_⟩ h1)
      · intro e' a' w' hr' hk' h'
        obtain ⟨s, hg, hkn, hJ⟩ := give_spec h'
        have hr'' := rep_putT (n := n) hr' vars s (Env.drop (writes x) e) hg hkn (rep_join hr' hk')
        have hkk : Keeps (writes x) e (putT vars s (Env.drop (writes x) e)) := keeps_drop.trans (keeps_putT vars s _ hok.1.1)
        exact ihy ay _ K w' a' Q hok.2 hr'' ⟨fun e'' a'' w'' r k h => hK.nrm _ _ _ r ((hkk.sub sx).trans (k.sub sy)) h, fun id e'' a'' w'' r k h => hK.ext _ _ _ _ r ((hkk.sub sx).trans (k.sub sy)) h,
          fun e'' a'' w'' r k h => hK.ret _ _ _ r ((hkk.sub sx).trans (k.sub sy)) h⟩ (h2 s w' hJ)
      · intro id e' a' w' hr' hk' h'; exact hK.ext id e' a' w' hr' (hk'.sub sx) h'
      · intro e' a' w' hr' hk' h'; exact hK.ret e' a' w' hr' (hk'.sub sx) h'
    · exact h.elim
  | cond c x y ihx ihy =>
    intro ann e K w a Q hok hr hK h
    have sx : ∀ t, memN t (writes x) = true → memN t (writes (.cond c x y)) = true := fun t ht => by simp [writes, memN_append, ht]
    have sy : ∀ t, memN t (writes y) = true → memN t (writes (.cond c x y)) = true := fun t ht => by simp [writes, memN_append, ht]
    simp only [tr] at h
    simp only [okC] at hok
    split at h
    · rename_i ax ay
      simp only [Bool.and_eq_true] at hok
      cases hk : e.knows c with
      | false => rw [hk] at h; exact h.elim
      | true =>
        rw [hk] at h
        simp only [cond_true] at h
        have wx : tr P qs x ax e K w → x.wpIn (FF r) m P Q a w := fun h => ihx ax e K w a Q hok.1 hr ⟨fun _ _ _ r k h => hK.nrm _ _ _ r (k.sub sx) h, fun _ _ _ _ r k h => hK.ext _ _ _ _ r (k.sub sx) h, fun _ _ _ r k h => hK.ret _ _ _ r (k.sub sx) h⟩ h
        have wy : tr P qs y ay e K w → y.wpIn (FF r) m P Q a w := fun h => ihy ay e K w a Q hok.2 hr ⟨fun _ _ _ r k h => hK.nrm _ _ _ r (k.sub sy) h, fun _ _ _ _ r k h => hK.ext _ _ _ _ r (k.sub sy) h, fun _ _ _ r k h => hK.ret _ _ _ r (k.sub sy) h⟩ h
        have hev := hr.ev hk
        split at h
        · rename_i tag t he
          rw [he] at hev
          cases ht : Nat.beq tag 2 with
          | true =>
            rw [ht] at h
            cases t with
            | true => exact wpIn_cond_true hev (wx h)
            | false => exact wpIn_cond_false hev (wy h)
          | false =>
            rw [ht] at h
            exact wpIn_cond_split hev (fun ht => wx (h.1 ht)) (fun ht => wy (h.2 ht))
        · exact h.elim
    · exact h.elim
  | block id x ih =>
    intro ann e K w a Q hok hr hK h
    simp only [tr] at h
    simp only [okC] at hok
    split at h
    · rename_i ax
      refine wpIn_block (ih ax e _ w a _ hok hr ⟨?_, ?_, ?_⟩ h)
      · intro e' a' w' hr' hk' h'; exact hK.nrm e' a' w' hr' hk' h'
      · intro i e' a' w' hr' hk' h'
        simp only [Exit.inBlock]
        by_cases hi : i = id
        · subst hi
          simp only [Nat.beq_refl, cond_true] at h'
          rw [if_pos rfl]
          exact hK.nrm e' a' w' hr' hk' h'
        · have : Nat.beq i id = false := by
            cases hb : Nat.beq i id with
            | true => exact absurd (Nat.eq_of_beq_eq_true hb) hi
            | false => rfl
          simp only [this, cond_false] at h'
          rw [if_neg hi]
          exact hK.ext i e' a' w' hr' hk' h'
      · intro e' a' w' hr' hk' h'; exact hK.ret e' a' w' hr' hk' h'
    · rename_i vars ax
      simp only [Bool.and_eq_true] at hok
      obtain ⟨J, h1, h2⟩ := h
      have meet : ∀ e' a' w', Rep ds n e' a' → Keeps (writes x) e e' → (bif knowsT vars e' then give vars e' w' J else False) → Q .normal a' w' := by
        intro e' a' w' hr' hk' h'
        obtain ⟨s, hg, hkn, hJ⟩ := give_spec h'
        exact hK.nrm _ _ _ (rep_putT hr' vars s _ hg hkn (rep_join hr' hk')) (keeps_drop.trans (keeps_putT vars s _ hok.1)) (h2 s w' hJ)
      refine wpIn_block (ih ax e _ w a _ hok.2 hr ⟨?_, ?_, ?_⟩ h1)
      · intro e' a' w' hr' hk' h'; exact meet e' a' w' hr' hk' h'
      · intro i e' a' w' hr' hk' h'
        simp only [Exit.inBlock]
        by_cases hi : i = id
        · subst hi
          simp only [Nat.beq_refl, cond_true] at h'
          rw [if_pos rfl]
          exact meet e' a' w' hr' hk' h'
        · have : Nat.beq i id = false := by
            cases hb : Nat.beq i id with
            | true => exact absurd (Nat.eq_of_beq_eq_true hb) hi
            | false => rfl
          simp only [this, cond_false] at h'
          rw [if_neg hi]
          exact hK.ext i e' a' w' hr' hk' h'
      · intro e' a' w' hr' hk' h'; exact hK.ret e' a' w' hr' hk' h'
    · exact h.elim
  | loop x ih =>
    intro ann e K w a Q hok hr hK h
    simp only [tr] at h
    simp only [okC] at hok
    split at h
    · rename_i vars ax
      simp only [Bool.and_eq_true] at hok
      cases hkn : knowsT vars e with
      | false => rw [hkn] at h; exact h.elim
      | true =>
        rw [hkn] at h
        simp only [cond_true] at h
        split at h
        · rename_i s0 hs0
          obtain ⟨I, μ, hI, hround⟩ := h
          have hdr : Keeps (writes x) e (Env.drop (writes x) e) := keeps_drop
          have hkk : ∀ s, Keeps (writes x) e (putT vars s (Env.drop (writes x) e)) := fun s => hdr.trans (keeps_putT vars s _ hok.1)
          refine wp_loop_st (fun s a => Rep ds n (putT vars s (Env.drop (writes x) e)) a) I μ ?_ s0 a w (rep_putT hr vars s0 _ hs0 hkn (rep_join hr (Keeps.refl _ _))) hI
          intro s a' w' hR hI'
          refine ih ax _ _ w' a' _ hok.2 hR ⟨?_, ?_, ?_⟩ (hround s w' hI')
          · intro e' a'' w'' hr' hk' h'
            obtain ⟨s', hg, hkn', hJ⟩ := give_spec h'
            exact ⟨s', rep_putT hr' vars s' _ hg hkn' (rep_join hr' ((hkk s).trans hk')), hJ.1, hJ.2⟩
          · intro i e' a'' w'' hr' hk' h'; exact hK.ext i e' a'' w'' hr' ((hkk s).trans hk') h'
          · intro e' a'' w'' hr' hk' h'; exact hK.ret e' a'' w'' hr' ((hkk s).trans hk') h'
        · exact h.elim
    · exact h.elim
  | exit id => intro ann e K w a Q _ hr hK h; exact wpIn_exit (hK.ext _ _ _ _ hr (Keeps.refl _ _) h)
  | ret => intro ann e K w a Q _ hr hK h; exact wpIn_ret (hK.ret _ _ _ hr (Keeps.refl _ _) h)
  | rangeFunc f p x y _ _ => intro ann e K w a Q _ hr hK h; exact h.elim
  | scope x _ => intro ann e K w a Q _ hr hK h; exact h.elim
  | goto l => intro ann e K w a Q _ hr hK h; exact h.elim
  | refuse s => intro ann e K w a Q _ hr hK h; exact h.elim

theorem ldQ_sound {t : TypeId} {v : Value} {w : World} {K : EV → Prop} (h : ldQ P t v w K) : ∃ tag u, (Instr.loadAt t v).run P w = .ok u w ∧ K (tag, u) ∧ ∃ a, v = .pointer (some a) := by
  unfold ldQ at h
  split at h
  · rename_i d p hd
    obtain ⟨a', rfl, h⟩ := run_addr h
    split at h
    · rename_i m hn
      obtain ⟨cs, h1, h2⟩ := h
      exact ⟨_, _, loadA_ok hn h1, h2, _, rfl⟩
    · rename_i hn
      obtain ⟨x, h1, h2⟩ := h
      exact ⟨_, _, load_ok ⟨d, hd⟩ hn h1, h2, _, rfl⟩
  · exact h.elim
def resM (tmps : Array Value) : ResultVar → Sem Value
  | .tmp t => pure (tmps.getD t undef)
  | .cell b t => do loadVar t (← asAddr (tmps.getD b undef))
theorem results_eq (fn : Func) (tmps : Array Value) : results fn tmps = (do let vs ← fn.results.mapM (resM tmps); pure (if h : vs.size = 1 then vs[0] else .tuple vs)) := rfl
theorem resQ_sound {w : World} {a : Act} {e : Env} (hr : Rep ds n e a) : ∀ (l : List ResultVar) (K : List EV → Prop), resQ P w l e K →
    ∃ vs, (l.mapM (resM a.tmps)).run P w = .ok (vs.map (·.2)) w ∧ K vs := by
  intro l
  induction l with
  | nil => intro K h; exact ⟨[], rfl, h⟩
  | cons r l ih =>
    intro K h
    cases r with
    | tmp t =>
      simp only [resQ] at h
      cases hf : e.find t with
      | none => rw [hf] at h; exact h.elim
      | some v =>
        rw [hf] at h
        simp only [Option.isSome_some, cond_true] at h
        obtain ⟨vs, h1, h2⟩ := ih _ h
        refine ⟨_, ?_, h2⟩
        simp only [List.mapM_cons, resM, Sem.run_bind, Sem.run_pure, Result.andThen_ok, h1]
        rw [hr.get hf]
        simp [Env.get, hf]
    | cell b t =>
      simp only [resQ] at h
      cases hf : e.find b with
      | none => rw [hf] at h; exact h.elim
      | some v =>
        rw [hf] at h
        simp only [Option.isSome_some, cond_true] at h
        obtain ⟨tag, u, h1, h2, ad, h3⟩ := ldQ_sound h
        obtain ⟨vs, h4, h5⟩ := ih _ h2
        refine ⟨_, ?_, h5⟩
        have hg : (e.get b).2 = v.2 := by simp [Env.get, hf]
        rw [hg] at h1 h3
        simp only [List.mapM_cons, resM, Sem.run_bind]
        rw [hr.get hf, h3]
        rw [h3] at h1
        simp only [Instr.loadAt, Instr.sureAddr, Sem.run_bind, Sem.run_pure, Result.andThen_ok] at h1
        have ha : (asAddr (.pointer (some ad))).run P w = .ok ad w := rfl
        simp only [ha, Sem.run_pure, Result.andThen_ok, h1, h4, List.map_cons]

theorem results_ok {fn : Func} {w : World} {a : Act} {e : Env} {R : Ending → World → Prop} (hr : Rep ds n e a) (h : resQ P w fn.results.toList e fun vs => R (.returned (resV vs)) w) :
    a.defers = ds ∧ ∃ v, (results fn a.tmps).run P w = .ok v w ∧ R (.returned v) w := by
  refine ⟨hr.1, ?_⟩
  obtain ⟨vs, h1, h2⟩ := resQ_sound hr _ _ h
  refine ⟨resV vs, ?_, h2⟩
  rw [results_eq, Array.mapM_eq_mapM_toList]
  simp only [Sem.run_bind, Sem.run_map, h1, Result.andThen_ok, Sem.run_pure]
  match vs with
  | [] => rfl
  | [v] => rfl
  | v :: u :: r => simp [resV]

theorem rep_env0 {args : List EV} {n : Nat} (hn : args.length ≤ n) : Rep [] n (env0 0 args) { tmps := (args.map (·.2)).toArray ++ Array.replicate (n - (args.map (·.2)).toArray.size) undef, defers := [] } := by
  refine ⟨rfl, by simp; omega, ?_⟩
  have key : ∀ (l : List EV) (i t : Nat) (v : EV), (env0 i l).find t = some v → i ≤ t ∧ l[t - i]? = some v := by
    intro l
    induction l with
    | nil => intro i t v h; simp [env0, Env.find] at h
    | cons x r ih =>
      intro i t v h
      simp only [env0] at h
      by_cases hit : i = t
      · subst hit
        rw [find_cons_eq] at h
        cases h
        exact ⟨Nat.le_refl _, by simp⟩
      · rw [find_cons_ne hit] at h
        obtain ⟨h1, h2⟩ := ih _ _ _ h
        refine ⟨by omega, ?_⟩
        have : t - i = (t - (i + 1)) + 1 := by omega
        rw [this]
        simpa using h2
  intro t v h
  obtain ⟨_, h2⟩ := key args 0 t v h
  simp only [Nat.sub_zero] at h2
  have hlt := (List.getElem?_eq_some_iff.1 h2).1
  rw [Array.getElem?_append_left (by simpa using hlt)]
  simp [h2]

/-- A function by its translation. -/
theorem fn_of_tr {f : FuncId} {fn : Func} {c : Code} {ann : Ann} {args : List EV} {w : World} {R : Ending → World → Prop} (hm : P.follows .mixedOrders = true) (hf : P.funcs[f]? = some fn) (hb : fn.body = some c)
    (hname : (fn.name == "runtime.NumGoroutine") = false) (hn : Nat.ble args.length fn.ntmps = true) (hok : okC P qs fn.ntmps c ann = true)
    (h : tr P qs c ann (env0 0 args) (topK P fn.results.toList R) w) : CallF P f (args.map (·.2)).toArray w R := by
  refine ⟨by simp [callFunc, hf, hb]; simpa using hname, ?_⟩
  refine calls_of_wp hf hb ?_
  refine wpIn_wide (n := 0).1 ?_
  refine tr_sound (r := none) hm c ann _ _ w _ _ hok (rep_env0 (Nat.le_of_ble_eq_true hn)) ⟨?_, ?_, ?_⟩ (tr_mono (topK_calm w) (.refl w) h)
  · intro e' a w' hr _ h'; exact results_ok (R := fun e w' => R e w' ∧ Calm w w') hr h'
  · intro id e' a w' _ _ h'; exact h'.elim
  · intro e' a w' hr _ h'; exact results_ok (R := fun e w' => R e w' ∧ Calm w w') hr h'
end
end Go.Fw
