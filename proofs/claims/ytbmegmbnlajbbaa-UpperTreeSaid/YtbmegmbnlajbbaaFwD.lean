/- Each operation does what the combinators ask: the other kinds of operations. -/
import Derived.Test.YtbmegmbnlajbbaaFwC
namespace Go.Fw
open Go

theorem run_sizeOf_info {P : Program} {w : World} {e : TypeId} {s : Nat} (h : (P.info? e).map (·.size) = some s) : (sizeOf e).run P w = .ok s w := by
  cases hi : P.info? e with
  | none => rw [hi] at h; simp at h
  | some i => rw [hi] at h; simp at h; simp [sizeOf, typeInfo, hi, h]
theorem run_sizeOf_cells {P : Program} {w : World} {e : TypeId} (h : P.cellsOf e ≠ 0) : (sizeOf e).run P w = .ok (P.cellsOf e) w := by
  unfold Program.cellsOf at *
  cases hi : P.info? e with
  | none => rw [hi] at h; simp at h
  | some i => simp [sizeOf, typeInfo, hi]
theorem litIx_spec {i : Operand} {n : Int} (h : litIx i = some n) : ∃ k, i = .const (.int k n) := by
  unfold litIx at h
  split at h
  · simp at h; subst h; exact ⟨_, rfl⟩
  · simp at h

theorem ixQ_sound {P : Program} {w : World} {t : TypeId} {x i : Operand} {ρ : Operand → EV} {K : EV → Prop} {o : Oper} (ho : o.op = .indexAddr t x i)
    (hc : ∀ v, (ρ (.const v)).2 = v) (h : ixQ P t x i ρ K) : ∃ f v, Yq P o (fun x => (ρ x).2) v w ∧ (isPure P o = true → ∀ w', Yq P o (fun x => (ρ x).2) v w') ∧ K (f, v) := by
  have key : ∀ f v, (∀ w, (Instr.indexAt t (ρ x).2 (ρ i).2).run P w = .ok v w) → K (f, v) → ∃ f v, Yq P o (fun x => (ρ x).2) v w ∧ (isPure P o = true → ∀ w', Yq P o (fun x => (ρ x).2) v w') ∧ K (f, v) := by
    intro f v h1 h2
    have one : ∀ w, Yq P o (fun x => (ρ x).2) v w := by
      intro w
      refine yq_value ?_
      simp only [execOp, ho]
      simp only [Sem.run_bind, h1, Result.andThen_ok, Sem.run_pure]
    exact ⟨f, v, one w, fun _ w' => one w', h2⟩
  have key2 : ∀ (a : Addr) (m e s : Nat) (n : Int) (k : IntKind), P.underlying t = some (.array m e) → (P.info? e).map (·.size) = some s → (ρ x).2 = .pointer (some a) → (ρ i).2 = .int k n →
      0 ≤ n → n < (m : Int) → ∀ w, (Instr.indexAt t (ρ x).2 (ρ i).2).run P w = .ok (.pointer (some (a.add (n.toNat * s)))) w := by
    intro a m e s n k hd hs hx hi h0 h1 w
    rw [hx, hi]
    simp [Instr.indexAt, asIntOf, run_underlying' hd, h0, h1, run_sizeOf_info hs, Instr.sureAddr]
  unfold ixQ at h
  split at h
  · rename_i e hd
    split at h
    · rename_i s a l c k n hs hx hi
      obtain ⟨p, rfl, h0, h1, h2⟩ := h
      refine key _ _ (fun w => ?_) h2
      rw [hx, hi]
      simp [Instr.indexAt, asIntOf, run_underlying' hd, h0, h1, run_sizeOf_info hs]
    · exact h.elim
  · rename_i m e hd
    split at h
    · rename_i s p k n hs hx hi
      obtain ⟨a, rfl, h⟩ := run_addr h
      split at h
      · rename_i n' hl
        obtain ⟨k', rfl⟩ := litIx_spec hl
        rw [hc] at hi
        simp only [Value.int.injEq] at hi
        obtain ⟨rfl, rfl⟩ := hi
        simp only [hl] at h
        by_cases hb : 0 ≤ n' ∧ n' < (m : Int)
        · rw [if_pos hb] at h
          exact key _ _ (key2 a m e s n' k' hd hs hx (hc _) hb.1 hb.2) h
        · rw [if_neg hb] at h
          exact h.elim
      · obtain ⟨h0, h1, h2⟩ := h
        exact key _ _ (key2 a m e s n k hd hs hx hi h0 h1) h2
    · exact h.elim
  · exact h.elim

theorem tupQ_sound {P : Program} {w : World} {m : Sem Value} {t : TypeId} {K : EV → Prop} (h : tupQ P m t w K) : ∃ f v, m.run P w = .ok v w ∧ K (f, v) := by
  unfold tupQ at h
  cases hb : isTup P t with
  | true => rw [hb] at h; obtain ⟨x, h1, h2⟩ := h; exact ⟨_, _, h1, h2⟩
  | false => rw [hb] at h; obtain ⟨x, h1, h2⟩ := h; exact ⟨_, _, h1, h2⟩

theorem fieldAt_ok {P : Program} {w : World} {s : TypeId} {f off : Nat} {a : Addr} (h : fieldOff P s f = some off) : (Instr.fieldAt s (.pointer (some a)) f).run P w = .ok (.pointer (some (a.add off))) w := by
  unfold fieldOff at h
  split at h
  · rename_i fs hd
    split at h
    · rename_i x hx
      split at h
      · simp at h
      · rename_i hz
        simp at h
        subst h
        simp [Instr.fieldAt, run_underlying' hd, hx, Instr.sureAddr, fieldPlace, run_sizeOf_cells hz, hz]
    · simp at h
  · simp at h

theorem call_enter {P : Program} {w : World} {o : Oper} {ρ : Operand → EV} {c : Call} {f : FuncId} (ho : o.op = .call c) (hcal : c.callee = .value (.func f))
    (hf : ∀ f, (ρ (.func f)).2 = .func (.func f) #[] #[]) (h : (callFunc f (c.args.map fun x => (ρ x).2)).run P w = .ok (.enter f (c.args.map fun x => (ρ x).2)) w) :
    (execOp (fun x => (ρ x).2) o).run P w = .ok (.enter f (c.args.map fun x => (ρ x).2)) w := by
  simp only [execOp, ho, resolve, hcal, hf, Deferred.ofValue, Sem.run_bind, Sem.run_pure, Result.andThen_ok, invoke, Array.empty_append, Array.append_empty, h]

theorem call_value {P : Program} {w : World} {o : Oper} {ρ : Operand → EV} {c : Call} {f : FuncId} {v : Value} {w1 : World} (ho : o.op = .call c) (hcal : c.callee = .value (.func f))
    (hf : ∀ f, (ρ (.func f)).2 = .func (.func f) #[] #[]) (h : (callFunc f (c.args.map fun x => (ρ x).2)).run P w = .ok (.value v) w1) :
    (execOp (fun x => (ρ x).2) o).run P w = .ok (.value v) w1 := by
  simp only [execOp, ho, resolve, hcal, hf, Deferred.ofValue, Sem.run_bind, Sem.run_pure, Result.andThen_ok, invoke, Array.empty_append, Array.append_empty, h]

theorem mem_of_memN {n : Nat} {l : List Nat} : memN n l = true → n ∈ l := by
  induction l with
  | nil => intro h; simp [memN] at h
  | cons m r ih =>
    intro h
    simp only [memN, Bool.or_eq_true] at h
    rcases h with h | h
    · have := Nat.eq_of_beq_eq_true h; subst this; simp
    · simp [ih h]


theorem opQ_gen {P : Program} {w : World} {o : Oper} {ρ : Operand → Value} {K : EV → Prop} {m : Sem Value} {s : Sh} (g : s.T → EV) (hg : ∀ x, (g x).2 = s.val x) (he : execOp ρ o = do pure (.value (← m)))
    (hp : isPure P o = false) (h : genQ P m s w (fun x => K (g x))) : ∃ f v, Yq P o ρ v w ∧ (isPure P o = true → ∀ w', Yq P o ρ v w') ∧ K (f, v) := by
  obtain ⟨x, h1, h2⟩ := h
  refine ⟨(g x).1, (g x).2, yq_value ?_, (by intro h; rw [hp] at h; cases h), h2⟩
  rw [he, hg]
  simp [h1]
theorem opQ_val {P : Program} {w : World} {o : Oper} {ρ : Operand → Value} {K : EV → Prop} {m : Sem Value} {f : Nat} {v : Value} (he : execOp ρ o = do pure (.value (← m)))
    (h : ∀ w, m.run P w = .ok v w) (hk : K (f, v)) : ∃ f v, Yq P o ρ v w ∧ (isPure P o = true → ∀ w', Yq P o ρ v w') ∧ K (f, v) :=
  ⟨f, v, yq_value (by rw [he]; simp [h]), fun _ w' => yq_value (by rw [he]; simp [h]), hk⟩
theorem opQ_val1 {P : Program} {w : World} {o : Oper} {ρ : Operand → Value} {K : EV → Prop} {m : Sem Value} {f : Nat} {v : Value} (he : execOp ρ o = do pure (.value (← m)))
    (hp : isPure P o = false) (h : m.run P w = .ok v w) (hk : K (f, v)) : ∃ f v, Yq P o ρ v w ∧ (isPure P o = true → ∀ w', Yq P o ρ v w') ∧ K (f, v) :=
  ⟨f, v, yq_value (by rw [he]; simp [h]), (by intro h; rw [hp] at h; cases h), hk⟩
theorem sh_ev (s : Sh) (x : s.T) : (s.ev x).2 = s.val x := rfl

set_option maxHeartbeats 1000000 in
theorem opQ_sound {P : Program} {qs : List FuncId} {o : Oper} {ρ : Operand → EV} {w : World} {K : EV → Prop} (hc : ∀ v, (ρ (.const v)).2 = v)
    (hf : ∀ f, (ρ (.func f)).2 = .func (.func f) #[] #[]) (hq : isQ P qs o = true) (h : opQ P o ρ w K) : ∃ f v, Yq P o (fun x => (ρ x).2) v w ∧ (isPure P o = true → ∀ w', Yq P o (fun x => (ρ x).2) v w') ∧ K (f, v) := by
  obtain ⟨dst, op, type, pos, after, guard⟩ := o
  cases op <;> simp only [isQ, Bool.false_eq_true] at hq <;> simp only [opQ, mapL_eq] at h
  case move x => exact ⟨_, _, yq_value rfl, fun _ _ => yq_value rfl, h⟩
  case assign x => exact ⟨_, _, yq_value rfl, fun _ _ => yq_value rfl, h⟩
  case pick c a b =>
    split at h
    · rename_i b' hb
      have one : ∀ w, Yq P ⟨dst, .pick c a b, type, pos, after, guard⟩ (fun x => (ρ x).2) (cond b' (ρ a) (ρ b)).2 w := by
        intro w
        refine yq_value ?_
        simp only [execOp, hb, asBool, Sem.run_bind, Sem.run_pure, Result.andThen_ok]
        cases b' <;> rfl
      exact ⟨_, _, one w, fun _ w' => one w', h⟩
    · exact h.elim
  case load t a =>
    unfold ldQ at h
    split at h
    · rename_i d p hd hp
      obtain ⟨a', rfl, h⟩ := run_addr h
      split at h
      · rename_i n hn
        obtain ⟨cs, h1, h2⟩ := h
        exact ⟨_, _, yq_value (by simp only [execOp, hp, Sem.run_bind, loadA_ok hn h1, Result.andThen_ok, Sem.run_pure]), (by intro h; cases h), h2⟩
      · rename_i hn
        obtain ⟨x, h1, h2⟩ := h
        exact ⟨_, _, yq_value (by simp only [execOp, hp, Sem.run_bind, load_ok ⟨d, hd⟩ hn h1, Result.andThen_ok, Sem.run_pure]), (by intro h; cases h), h2⟩
    · exact h.elim
  case nilCheck x =>
    have nn : ∀ v, (ρ x).2 = v → notNil v = true → ∀ w, (execOp (fun x => (ρ x).2) ⟨dst, .nilCheck x, type, pos, after, guard⟩).run P w = .ok (.value v) w := by
      intro v hv hn w
      simp only [execOp, hv]
      unfold notNil at hn
      split at hn <;> first | (simp at hn; done) | skip
      split <;> first | rfl | (exfalso; simp_all; done)
    cases hb : Nat.beq (ρ x).1 1 with
    | true =>
      rw [hb] at h
      obtain ⟨h1, h2⟩ := h
      exact ⟨_, _, yq_value (nn _ rfl h1 w), fun _ w' => yq_value (nn _ rfl h1 w'), h2⟩
    | false =>
      rw [hb] at h
      simp only [cond_false] at h
      split at h
      · rename_i p hp
        obtain ⟨a', rfl, h⟩ := run_addr h
        exact ⟨_, _, yq_value (nn _ hp rfl w), fun _ w' => yq_value (nn _ hp rfl w'), h⟩
      · obtain ⟨h1, h2⟩ := h
        exact ⟨_, _, yq_value (nn _ rfl h1 w), fun _ w' => yq_value (nn _ rfl h1 w'), h2⟩
  case binOp op t x y yt => exact binQ_sound rfl hc h
  case unOp op t x =>
    unfold unQ at h
    split at h
    · rename_i b hx
      exact opQ_val (m := Op.unary .not (ρ x).2) rfl (fun w => by rw [hx]; rfl) h
    · rename_i k n hx
      obtain ⟨m, rfl, h⟩ := h
      exact opQ_val (m := Op.unary .neg (ρ x).2) rfl (fun w => by rw [hx]; rfl) h
    · rename_i k n hx
      obtain ⟨m, rfl, h⟩ := h
      exact opQ_val (m := Op.unary .xor (ρ x).2) rfl (fun w => by rw [hx]; rfl) h
    · exact h.elim
  case convert s d x =>
    split at h
    · rename_i k1 k hs hd
      split at h
      · rename_i k2 n hx
        obtain ⟨m, rfl, h⟩ := h
        refine opQ_val (m := convert s d (ρ x).2) rfl (fun w => ?_) h
        obtain ⟨d1, hd1, rfl⟩ := shOf_und hs (by simp)
        obtain ⟨d2, hd2, rfl⟩ := shOf_und hd (by simp)
        rw [hx]
        simp [convert, run_underlying' hd1, run_underlying' hd2, Conv.intToInt]
      · exact h.elim
    · rename_i hs hd; exact opQ_gen _ (fun _ => rfl) rfl (by simp only [isPure, hs, hd]) h
    · rename_i hs hd; exact opQ_gen _ (fun _ => rfl) rfl (by simp only [isPure, hs, hd]) h
    · exact h.elim
  case makeInterface t x => exact opQ_gen _ (fun _ => rfl) rfl rfl h
  case makeFunc fn a b => exact opQ_gen _ (fun _ => rfl) rfl rfl h
  case slice t x lo hi mx => exact opQ_gen _ (sh_ev _) rfl rfl h
  case fieldAddr s x f =>
    split at h
    · rename_i p off hp ho
      obtain ⟨a, rfl, h⟩ := run_addr h
      exact opQ_val (m := Instr.fieldAt s (ρ x).2 f) rfl (fun w => by rw [hp]; exact fieldAt_ok ho) h
    · exact h.elim
  case indexAddr t x i => exact ixQ_sound rfl hc h
  case index t x i =>
    split at h
    · rename_i hs
      obtain ⟨d1, hd1, rfl⟩ := shOf_und hs (by simp)
      split at h
      · rename_i s k n hx hi
        obtain ⟨h0, b, h1, h2⟩ := h
        exact opQ_val (m := Instr.index t (ρ x).2 (ρ i).2) rfl (fun w => by rw [hx, hi]; simp [Instr.index, asIntOf, run_underlying' hd1, h0, h1]) h2
      · exact h.elim
    · rename_i hns
      refine opQ_gen _ (sh_ev _) rfl ?_ h
      simp only [isPure]
  case field t x f => exact opQ_gen _ (sh_ev _) rfl rfl h
  case build t parts => exact opQ_gen _ (fun _ => rfl) rfl rfl h
  case lookup t x i ok =>
    obtain ⟨f, v, h1, h2⟩ := tupQ_sound h
    exact opQ_val1 (m := Instr.lookup t (ρ x).2 (ρ i).2 ok) rfl rfl h1 h2
  case typeAssert x t a ok =>
    obtain ⟨f, v, h1, h2⟩ := tupQ_sound h
    exact opQ_val1 (m := Instr.typeAssert (ρ x).2 t a ok) rfl rfl h1 h2
  case entry x => exact opQ_gen _ (fun _ => rfl) rfl rfl h
  case extract t i =>
    cases hb : Nat.beq (ρ t).1 1 with
    | true =>
      rw [hb] at h
      obtain ⟨vs, x, h0, h1, h2⟩ := h
      exact opQ_val (m := Instr.extract (ρ t).2 i) rfl (fun w => by rw [h0]; simp [Instr.extract, h1]) h2
    | false =>
      rw [hb] at h
      simp only [cond_false] at h
      split at h
      · rename_i vs hv
        split at h
        · rename_i v h1
          exact opQ_val (m := Instr.extract (ρ t).2 i) rfl (fun w => by rw [hv]; simp [Instr.extract, h1]) h
        · exact h.elim
      · exact h.elim
  case call c =>
    obtain ⟨cal, args, argTypes⟩ := c
    cases cal with
    | value f =>
      cases f <;> simp only [Bool.false_eq_true] at hq
      case func f =>
        obtain ⟨t, ⟨h0, h1⟩, h2⟩ := h
        exact ⟨_, _, .inr (.inr ⟨f, _, call_enter rfl rfl hf h0, h1.mono fun _ _ h => h.1⟩), (by intro h; cases h), h2⟩
    | invoke r m => simp at hq
    | builtin b =>
      cases b <;> simp only [Bool.false_eq_true] at hq
      case len =>
        simp only [lenQ, mapL_eq] at h
        have hm : execOp (fun x => (ρ x).2) ⟨dst, .call ⟨.builtin .len, args, argTypes⟩, type, pos, after, guard⟩ = (do pure (.value (← Builtin.len_ argTypes type (args.map fun x => (ρ x).2)))) := rfl
        split at h
        · rename_i h1
          split at h
          · rename_i s h2
            refine opQ_val hm (fun w => ?_) h
            simp only [Option.map_eq_some_iff] at h1 h2
            obtain ⟨t, ht, hs⟩ := h1
            obtain ⟨x, hx, hv⟩ := h2
            obtain ⟨d, hd, rfl⟩ := shOf_und hs (by simp)
            simp [Builtin.len_, ht, hx, hv, run_underlying' hd, goInt]
          · exact h.elim
        · rename_i h1
          split at h
          · rename_i a n c h2
            refine opQ_val hm (fun w => ?_) h
            simp only [Option.map_eq_some_iff] at h1 h2
            obtain ⟨t, ht, hs⟩ := h1
            obtain ⟨x, hx, hv⟩ := h2
            obtain ⟨d, hd, e, rfl⟩ := shOf_und hs (by simp)
            simp [Builtin.len_, ht, hx, hv, run_underlying' hd, goInt]
          · exact h.elim
        · refine opQ_gen _ (fun _ => rfl) hm ?_ h
          simp only [isPure]
      case cap => exact opQ_gen _ (fun _ => rfl) rfl rfl h
      case max => exact opQ_gen _ (sh_ev _) rfl rfl h
      case min => exact opQ_gen _ (sh_ev _) rfl rfl h
end Go.Fw
