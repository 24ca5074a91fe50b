/- Each operation does what the combinators ask. -/
import Derived.Test.YtbmegmbnlajbbaaFwB
namespace Go.Fw
open Go

/-- An operation yields v and leaves the world alone. -/
def Yq (P : Program) (o : Oper) (ρ : Operand → Value) (v : Value) (w : World) : Prop :=
  (execOp ρ o).run P w = .ok (.value v) w ∨ ((execOp ρ o).run P w = .ok .skip w ∧ v = undef) ∨
    ∃ f args, (execOp ρ o).run P w = .ok (.enter f args) w ∧ Calls P f args w (fun e w'' => e = .returned v ∧ w'' = w)
/-- An operation does something, and K holds of what it yields. -/
def Does (P : Program) (o : Oper) (ρ : Operand → Value) (w : World) (K : Value → World → Prop) : Prop :=
  (∃ v w', (execOp ρ o).run P w = .ok (.value v) w' ∧ K v w') ∨ (∃ w', (execOp ρ o).run P w = .ok .skip w' ∧ K undef w') ∨
    (∃ f args w1, (execOp ρ o).run P w = .ok (.enter f args) w1 ∧ Calls P f args w1 (fun e w' => ∃ v, e = .returned v ∧ K v w')) ∨
    ∃ l f tmps assign body w1, (execOp ρ o).run P w = .ok (.round l f tmps assign body) w1 ∧ RoundIn Fence.wide 0 P l f tmps assign body w1 (fun e w' => ∃ v, e = .returned v ∧ K v w')

theorem Yq.does {P : Program} {o : Oper} {ρ : Operand → Value} {v : Value} {w : World} {K : Value → World → Prop} (h : Yq P o ρ v w) (hk : K v w) : Does P o ρ w K := by
  rcases h with h | ⟨h, rfl⟩ | ⟨f, args, h, hc⟩
  · exact .inl ⟨v, w, h, hk⟩
  · exact .inr (.inl ⟨w, h, hk⟩)
  · exact .inr (.inr (.inl ⟨f, args, w, h, hc.mono fun e w' ⟨he, hw⟩ => ⟨v, he, hw ▸ hk⟩⟩))

section
variable {P : Program} {w : World}

theorem run_underlying' {t : TypeId} {d : TypeDesc} (h : P.underlying t = some d) : (underlying t).run P w = .ok d w := by
  simp [underlying, h]
theorem run_sizeOf' {t : TypeId} {d : TypeDesc} (h : P.underlying t = some d) : (sizeOf t).run P w = .ok (P.cellsOf t) w := by
  unfold Program.underlying at h
  unfold sizeOf typeInfo Program.cellsOf
  cases hi : P.info? t with
  | none => simp [hi] at h
  | some i => simp [hi]
theorem shOf_und {t : TypeId} {s : Sh} (h : shOf P t = s) (hs : s ≠ .any) : ∃ d, P.underlying t = some d ∧
    (match s with | .int k => d = .int k | .bool => d = .bool | .str => d = .string | .ptr => ∃ e, d = .pointer e | .slc => ∃ e, d = .slice e | .map => ∃ k e, d = .map k e | .any => False) := by
  unfold shOf at h
  split at h <;> (subst h) <;> first | exact absurd rfl hs | (refine ⟨_, ‹_›, ?_⟩; first | exact rfl | exact ⟨_, rfl⟩ | exact ⟨_, _, rfl⟩)

theorem run_addr {p : Option Addr} {K : Addr → Prop} (h : withAddr p K) : ∃ a, p = some a ∧ K a := by
  cases p with
  | none => exact h.elim
  | some a => exact ⟨a, rfl, h⟩

theorem load_ok {t : TypeId} {a : Addr} {v : Value} (hi : ∃ d, P.underlying t = some d) (hn : aggOf P t = none) (hc : w.cell? a = some v) : (Instr.loadAt t (.pointer (some a))).run P w = .ok v w := by
  obtain ⟨d, hd⟩ := hi
  unfold aggOf at hn
  rw [hd] at hn
  have : (isAgg t).run P w = .ok false w := by
    unfold isAgg
    simp only [Sem.run_bind, run_underlying' hd, Result.andThen_ok]
    cases d <;> first | rfl | simp at hn
  simp [Instr.loadAt, Instr.sureAddr, loadVar, this, hc]
theorem loadA_ok {t : TypeId} {a : Addr} {n : Nat} {cs : Array Value} (hn : aggOf P t = some n) (hc : (loadCells a n).run P w = .ok cs w) : (Instr.loadAt t (.pointer (some a))).run P w = .ok (.agg cs) w := by
  unfold aggOf at hn
  cases hd : P.underlying t with
  | none => rw [hd] at hn; simp at hn
  | some d =>
    rw [hd] at hn
    have h1 : (isAgg t).run P w = .ok true w := by
      unfold isAgg
      simp only [Sem.run_bind, run_underlying' hd, Result.andThen_ok]
      cases d <;> first | rfl | simp at hn
    have h2 : P.cellsOf t = n := by cases d <;> simp at hn <;> exact hn
    simp [Instr.loadAt, Instr.sureAddr, loadVar, h1, run_sizeOf' hd, h2, hc]

theorem shOf_some_of {t : TypeId} (h : shOf P t ≠ .any) : ∃ d, P.underlying t = some d := by
  unfold shOf at h
  cases hd : P.underlying t with
  | none => rw [hd] at h; simp at h
  | some d => exact ⟨d, rfl⟩
end

/-- Result of the value kind. -/
theorem yq_value {P : Program} {o : Oper} {ρ : Operand → Value} {v : Value} {w : World} (h : (execOp ρ o).run P w = .ok (.value v) w) : Yq P o ρ v w := .inl h

theorem intQ_sound {P : Program} {op : BinOp} {k k2 : IntKind} {a b : Int} {K : EV → Prop} {t : TypeId} (hk : k2 = k ∨ op = .shl ∨ op = .shr) (h : intQ op k a b K) :
    ∃ f v, (∀ w, (binOp op t (.int k a) (.int k2 b)).run P w = .ok v w) ∧ K (f, v) := by
  cases op
  case shl => obtain ⟨h0, n, rfl, h⟩ := h; exact ⟨_, _, fun w => by simp [binOp, Op.shift, Int.not_lt.2 h0], h⟩
  case shr => obtain ⟨h0, n, rfl, h⟩ := h; exact ⟨_, _, fun w => by simp [binOp, Op.shift, Int.not_lt.2 h0], h⟩
  all_goals
    have hk' : k2 = k := by rcases hk with h | h | h <;> first | exact h | cases h
    subst hk'
  case quo => obtain ⟨h0, n, rfl, h⟩ := h; exact ⟨_, _, fun w => by simp [binOp, Op.intDiv, h0], h⟩
  case rem => obtain ⟨h0, n, rfl, h⟩ := h; exact ⟨_, _, fun w => by simp [binOp, Op.intDiv, h0], h⟩
  all_goals first
    | (obtain ⟨n, rfl, h⟩ := h; exact ⟨_, _, fun w => by simp [binOp, Op.intArith, Op.intBits], h⟩)
    | exact ⟨_, _, fun w => by simp [binOp, Op.intCmp], h⟩
theorem strQ_sound {P : Program} {op : BinOp} {x y : ByteArray} {K : EV → Prop} {t : TypeId} (h : strQ op x y K) :
    ∃ f v, (∀ w, (binOp op t (.string x) (.string y)).run P w = .ok v w) ∧ K (f, v) := by
  cases op
  case add =>
    obtain ⟨h1, h⟩ := h
    refine ⟨_, _, ?_, h⟩
    have : ¬ (IntKind.i64.max < ((x.size + y.size : Nat) : Int)) := by
      have : IntKind.i64.max = 9223372036854775807 := by decide
      omega
    intro w
    simp only [binOp, Op.stringOp]
    rw [if_neg this]
    rfl
  all_goals first | exact h.elim | exact ⟨_, _, fun w => by simp [binOp, Op.stringOp], h⟩
theorem eqGuard_int {P : Program} {w : World} {op : BinOp} {t : TypeId} {x y : Operand} {k k2 : IntKind} {a b : Int} : (eqGuard op t x y (.int k a) (.int k2 b)).run P w = .ok () w := by
  unfold eqGuard; split <;> rfl
theorem eqGuard_str {P : Program} {w : World} {op : BinOp} {t : TypeId} {x y : Operand} {a b : ByteArray} : (eqGuard op t x y (.string a) (.string b)).run P w = .ok () w := by
  unfold eqGuard; split <;> rfl
theorem eqGuard_ptr {P : Program} {w : World} {op : BinOp} {t : TypeId} {x y : Operand} {a b : Option Addr} : (eqGuard op t x y (.pointer a) (.pointer b)).run P w = .ok () w := by
  unfold eqGuard; split <;> rfl
theorem eqGuard_slc {P : Program} {w : World} {op : BinOp} {t : TypeId} {x y : Operand} {a b : Option Addr} {n m c d : Nat} : (eqGuard op t x y (.slice a n c) (.slice b m d)).run P w = .ok () w := by
  unfold eqGuard; split <;> rfl
theorem eqIn_nil_ptr {P : Program} {w : World} {t : TypeId} {p : Option Addr} {e : TypeId} (d : Nat) (hd : P.underlying t = some (.pointer e)) : (Op.equalIn (d + 1) t (.pointer p) (.pointer none)).run P w = .ok p.isNone w := by
  cases p <;> simp [Op.equalIn, run_underlying' hd]
theorem eqIn_nil_slc {P : Program} {w : World} {t : TypeId} {p : Option Addr} {n m c d : Nat} {e : TypeId} (k : Nat) (hd : P.underlying t = some (.slice e)) : (Op.equalIn (k + 1) t (.slice p n c) (.slice none m d)).run P w = .ok p.isNone w := by
  cases p <;> simp [Op.equalIn, run_underlying' hd]
theorem eq_nil_ptr {P : Program} {w : World} {t : TypeId} {p : Option Addr} {e : TypeId} (hd : P.underlying t = some (.pointer e)) : (Op.equal t (.pointer p) (.pointer none)).run P w = .ok p.isNone w := by
  exact eqIn_nil_ptr 9999 hd
theorem eq_nil_slc {P : Program} {w : World} {t : TypeId} {p : Option Addr} {n m c d : Nat} {e : TypeId} (hd : P.underlying t = some (.slice e)) : (Op.equal t (.slice p n c) (.slice none m d)).run P w = .ok p.isNone w := by
  exact eqIn_nil_slc 9999 hd

theorem binQ_sound {P : Program} {w : World} {op : BinOp} {t yt : TypeId} {x y : Operand} {ρ : Operand → EV} {K : EV → Prop} {o : Oper} (ho : o.op = .binOp op t x y yt)
    (hc : ∀ v, (ρ (.const v)).2 = v) (h : binQ P op t x y ρ w K) : ∃ f v, Yq P o (fun x => (ρ x).2) v w ∧ (isPure P o = true → ∀ w', Yq P o (fun x => (ρ x).2) v w') ∧ K (f, v) := by
  have one : ∀ v w, (eqM op t x y (ρ x).2 (ρ y).2).run P w = .ok v w → Yq P o (fun x => (ρ x).2) v w := by
    intro v w h1
    refine yq_value ?_
    simp only [execOp, ho]
    simp only [eqM, Sem.run_bind] at h1
    simp only [Sem.run_bind, h1, Result.andThen_ok, Sem.run_pure]
  have key : ∀ f v, (∀ w, (eqM op t x y (ρ x).2 (ρ y).2).run P w = .ok v w) → K (f, v) → ∃ f v, Yq P o (fun x => (ρ x).2) v w ∧ (isPure P o = true → ∀ w', Yq P o (fun x => (ρ x).2) v w') ∧ K (f, v) :=
    fun f v h1 h2 => ⟨f, v, one v w (h1 w), fun _ w' => one v w' (h1 w'), h2⟩
  have key1 : ∀ f v, isPure P o = false → (eqM op t x y (ρ x).2 (ρ y).2).run P w = .ok v w → K (f, v) → ∃ f v, Yq P o (fun x => (ρ x).2) v w ∧ (isPure P o = true → ∀ w', Yq P o (fun x => (ρ x).2) v w') ∧ K (f, v) :=
    fun f v h0 h1 h2 => ⟨f, v, one v w h1, (by intro h; rw [h0] at h; cases h), h2⟩
  unfold binQ at h
  split at h
  · split at h
    · rename_i k k1 a k2 b hx hy
      split at h
      · rename_i hk
        obtain ⟨rfl, hk⟩ := hk
        obtain ⟨f, v, h1, h2⟩ := intQ_sound (P := P) (t := t) hk h
        refine key f v (fun w => ?_) h2
        rw [hx, hy]
        simp only [eqM, Sem.run_bind, eqGuard_int, Result.andThen_ok, h1]
      · exact h.elim
    · exact h.elim
  · split at h
    · rename_i a b hx hy
      obtain ⟨f, v, h1, h2⟩ := strQ_sound (P := P) (t := t) h
      refine key f v (fun w => ?_) h2
      rw [hx, hy]
      simp only [eqM, Sem.run_bind, eqGuard_str, Result.andThen_ok, h1]
    · exact h.elim
  · rename_i hs
    obtain ⟨d, hd, e, rfl⟩ := shOf_und hs (by simp)
    cases hy : isNilC y with
    | true =>
      rw [hy] at h
      simp only [cond_true] at h
      have hyv : (ρ y).2 = .pointer none := by
        unfold isNilC at hy
        split at hy
        · exact hc _
        · simp at hy
      split at h
      · rename_i p hx
        refine key _ _ (fun w => ?_) h
        rw [hx, hyv]
        simp only [eqM, Sem.run_bind, eqGuard_ptr, Result.andThen_ok, binOp, eq_nil_ptr hd, Sem.run_pure]
      · rename_i p hx
        refine key _ _ (fun w => ?_) h
        rw [hx, hyv]
        simp only [eqM, Sem.run_bind, eqGuard_ptr, Result.andThen_ok, binOp, eq_nil_ptr hd, Sem.run_pure]
      · exact h.elim
    | false =>
      rw [hy] at h
      simp only [cond_false] at h
      obtain ⟨b, h1, h2⟩ := h
      exact key1 _ _ (by simp only [isPure, ho, hs, hy]) h1 h2
  · rename_i hs
    obtain ⟨d, hd, e, rfl⟩ := shOf_und hs (by simp)
    cases hy : isNilS y with
    | true =>
      rw [hy] at h
      simp only [cond_true] at h
      obtain ⟨m, d, hyv⟩ : ∃ m d, (ρ y).2 = .slice none m d := by
        unfold isNilS at hy
        split at hy
        · exact ⟨_, _, hc _⟩
        · simp at hy
      split at h
      · rename_i p _ _ hx
        refine key _ _ (fun w => ?_) h
        rw [hx, hyv]
        simp only [eqM, Sem.run_bind, eqGuard_slc, Result.andThen_ok, binOp, eq_nil_slc hd, Sem.run_pure]
      · rename_i p _ _ hx
        refine key _ _ (fun w => ?_) h
        rw [hx, hyv]
        simp only [eqM, Sem.run_bind, eqGuard_slc, Result.andThen_ok, binOp, eq_nil_slc hd, Sem.run_pure]
      · exact h.elim
    | false =>
      rw [hy] at h
      exact h.elim
  · obtain ⟨b, h1, h2⟩ := h
    refine key1 _ _ ?_ h1 h2
    simp only [isPure, ho]
end Go.Fw
