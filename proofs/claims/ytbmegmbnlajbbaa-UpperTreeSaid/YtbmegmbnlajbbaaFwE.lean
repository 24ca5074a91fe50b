/- Operations that touch the world. -/
import Derived.Test.YtbmegmbnlajbbaaFwD
namespace Go.Fw
open Go

section
variable {P : Program} {w : World} {o : Oper} {ρ : Operand → Value} {K : EV → World → Prop}
theorem does_val {m : Sem Value} {f : Nat} {v : Value} {w' : World} (he : execOp ρ o = do pure (.value (← m)))
    (h : m.run P w = .ok v w') (hk : K (f, v) w') : Does P o ρ w fun v w' => ∃ f, K (f, v) w' :=
  .inl ⟨v, w', by rw [he]; simp [h], f, hk⟩
theorem does_gen {m : Sem Value} {s : Sh} (g : s.T → EV) (hg : ∀ x, (g x).2 = s.val x) (he : execOp ρ o = do pure (.value (← m)))
    (h : genL P m s w (fun x w' => K (g x) w')) : Does P o ρ w fun v w' => ∃ f, K (f, v) w' := by
  obtain ⟨x, w', h1, _, h2⟩ := h
  refine .inl ⟨(g x).2, w', ?_, (g x).1, h2⟩
  rw [he, hg]
  simp [h1]
theorem does_unit {m : Sem Unit} (he : execOp ρ o = do m; pure .skip) (h : genU P m w (fun w' => K (0, undef) w')) : Does P o ρ w fun v w' => ∃ f, K (f, v) w' := by
  obtain ⟨w', h1, _, h2⟩ := h
  refine .inr (.inl ⟨w', ?_, 0, h2⟩)
  rw [he]
  simp [h1]
theorem does_ret {l : List Sh} {tup : Bool} {f : FuncId} {args : Array Value} {w1 : World} (he : (execOp ρ o).run P w = .ok (.enter f args) w1)
    (h : Calls P f args w1 (fun e w' => ∃ t, e = .returned (retEV l tup t).2 ∧ K (retEV l tup t) w')) : Does P o ρ w fun v w' => ∃ f, K (f, v) w' :=
  .inr (.inr (.inl ⟨f, args, w1, he, h.mono fun _ _ ⟨_, h1, h2⟩ => ⟨_, h1, _, h2⟩⟩))
end

theorem run_store_cell {P : Program} {w : World} {t : TypeId} {a : Addr} {v : Value} (hs : P.cellsOf t = 1) (hv : v.oneCell' = true) (hc : ∃ x, w.cell? a = some x) (hf : w.frozen? a = false) :
    (storeVar t a v).run P w = .ok () (w.setCell a v) := by
  obtain ⟨x, hx⟩ := hc
  have h0 : (sizeOf t).run P w = .ok 1 w := by rw [run_sizeOf_cells (by rw [hs]; simp), hs]
  have hcells : v.cells = #[v] := by cases v <;> first | rfl | simp [Value.oneCell'] at hv
  have ha : a.add 0 = a := by simp [Addr.add]
  simp [storeVar, h0, hcells, storeCells, ha, run_store P w a v .plain hv, hx, hf]

theorem zero_of {P : Program} {t : TypeId} {w : World} (h : ((P.info? t).bind (·.zero)).isSome = true) : ∃ z, (zeroValue t).run P w = .ok z w ∧ z.cells = zc P t := by
  cases hi : P.info? t with
  | none => rw [hi] at h; simp at h
  | some i =>
    rw [hi] at h
    cases hz : i.zero with
    | none => simp [hz] at h
    | some z => exact ⟨z, by simp [zeroValue, typeInfo, hi, hz], by simp [zc, hi, hz]⟩

set_option maxHeartbeats 1000000 in
theorem opL_sound {P : Program} {o : Oper} {ρ : Operand → EV} {w : World} {K : EV → World → Prop}
    (hf : ∀ f, (ρ (.func f)).2 = .func (.func f) #[] #[]) (h : opL P o ρ w K) : Does P o (fun x => (ρ x).2) w fun v w' => ∃ f, K (f, v) w' := by
  obtain ⟨dst, op, type, pos, after, guard⟩ := o
  cases op <;> simp only [opL, mapL_eq] at h
  case alloc t =>
    cases hz : ((P.info? t).bind (·.zero)).isSome with
    | false => rw [hz] at h; exact h.elim
    | true =>
      rw [hz] at h
      simp only [cond_true] at h
      obtain ⟨z, h1, h2⟩ := zero_of (w := w) hz
      refine does_val (m := Instr.alloc t true (.tuple #[])) (w' := { w with heap := w.heap.push (.cells (zc P t) t) }) rfl ?_ (h w.heap.size _ ⟨rfl, rfl⟩)
      simp [Instr.alloc, h1, newVar, newRow, h2]
  case box t x =>
    refine does_val (m := Instr.box t (ρ x).2) (w' := { w with heap := w.heap.push (.cells (ρ x).2.cells t) }) rfl ?_ (h w.heap.size _ ⟨rfl, rfl⟩)
    simp [Instr.box, newVar, newRow]
  case store t a x =>
    split at h
    · rename_i p hp
      obtain ⟨a', rfl, h⟩ := run_addr h
      cases hb : ((aggOf P t).isNone && !(Nat.beq (ρ x).1 1) && Nat.beq (P.cellsOf t) 1 && (ρ x).2.oneCell') with
      | true =>
        rw [hb] at h
        simp only [cond_true] at h
        obtain ⟨h1, h2, h3⟩ := h
        simp only [Bool.and_eq_true] at hb
        refine does_unit (m := Instr.storeAt t (ρ a).2 (ρ x).2) rfl ⟨w.setCell a' (ρ x).2, ?_, ⟨rfl, rfl, rfl, Nat.le_refl _⟩, h3 _ rfl⟩
        rw [hp]
        simp only [Instr.storeAt, Instr.sureAddr, Sem.run_bind, Sem.run_pure, Result.andThen_ok]
        exact run_store_cell (Nat.eq_of_beq_eq_true hb.1.2) hb.2 h1 h2
      | false =>
        rw [hb] at h
        simp only [cond_false] at h
        obtain ⟨w', h1, h3, h2⟩ := h
        refine does_unit (m := Instr.storeAt t (ρ a).2 (ρ x).2) rfl ⟨w', ?_, h3, h2⟩
        rw [hp]
        simp only [Instr.storeAt, Instr.sureAddr, Sem.run_bind, Sem.run_pure, Result.andThen_ok, h1]
    · exact h.elim
  case mapUpdate t m k x => exact does_unit rfl h
  case insert t m k x => exact does_unit rfl h
  case makeMap t r => exact does_gen _ (fun _ => rfl) rfl h
  case makeSlice t l c => exact does_gen _ (sh_ev _) rfl h
  case buildSlice t n parts => exact does_gen _ (sh_ev _) rfl h
  case convert s d x => exact does_gen _ (sh_ev _) rfl h
  case range t x => exact does_gen _ (fun _ => rfl) rfl h
  case next it b => exact does_gen _ (fun _ => rfl) rfl h
  case call c =>
    obtain ⟨cal, args, argTypes⟩ := c
    cases cal with
    | builtin b =>
      cases b <;> first | exact h.elim | skip
      case append => exact does_gen _ (sh_ev _) rfl h
      case copy => exact does_gen _ (fun _ => rfl) rfl h
      case delete => exact does_gen _ (fun _ => rfl) rfl h
      case unsafeSliceData => exact does_gen _ (fun _ => rfl) rfl h
      case unsafeString => exact does_gen _ (fun _ => rfl) rfl h
    | invoke r m =>
      obtain ⟨f, args', w1, h1, _, h2⟩ := h
      refine does_ret (w1 := w1) ?_ (h2.mono fun _ _ h => h.1)
      simp only [execOp, resolve, Sem.run_bind, Sem.run_pure, Result.andThen_ok, invoke]
      have e1 : (#[(ρ r).2] ++ Array.map (fun x => (ρ x).2) args)[0]? = some (ρ r).2 := by
        rw [Array.getElem?_append_left (by simp)]; rfl
      have e2 : (#[(ρ r).2] ++ Array.map (fun x => (ρ x).2) args).extract 1 (#[(ρ r).2] ++ Array.map (fun x => (ρ x).2) args).size = Array.map (fun x => (ρ x).2) args := by
        apply Array.ext'
        simp
        rw [List.take_of_length_le (by simp)]
      simp only [e1, e2]
      exact h1
    | value x =>
      have hv : ∀ x, callV P (ρ x).2 (args.map fun x => (ρ x).2) (retShs P type) (isTup P type) w (fun t w' => K (retEV (retShs P type) (isTup P type) t) w') →
          Does P ⟨dst, .call ⟨.value x, args, argTypes⟩, type, pos, after, guard⟩ (fun x => (ρ x).2) w fun v w' => ∃ f, K (f, v) w' := by
        intro x h
        rcases h with ⟨f, first, cap, hx, ⟨h0, h1⟩⟩ | ⟨l0, hx, fn, tmps, assign, body, h0, h1⟩
        · refine does_ret (w1 := w) (f := f) (args := first ++ args.map (fun x => (ρ x).2) ++ cap) ?_ (h1.mono fun _ _ h => h.1)
          simp only [execOp, resolve, hx, Deferred.ofValue, Sem.run_bind, Sem.run_pure, Result.andThen_ok, invoke, h0]
        · refine .inr (.inr (.inr ⟨l0, fn, tmps, assign, body, w, ?_, h1.mono fun _ _ ⟨⟨_, h1, h2⟩, _⟩ => ⟨_, h1, _, h2⟩⟩))
          simp only [execOp, resolve, hx, Deferred.ofValue, Sem.run_bind, Sem.run_pure, Result.andThen_ok, invoke, Array.empty_append, Array.append_empty, h0]
      cases x
      case func f =>
        rcases h with ⟨h0, h1⟩ | ⟨v, w1, h0, hc, t, h1, h2⟩
        · exact does_ret (w1 := w) (call_enter rfl rfl hf h0) (h1.mono fun _ _ h => h.1)
        · cases h1
          exact .inl ⟨_, w1, call_value rfl rfl hf h0, _, h2⟩
      case tmp t => exact hv _ h
      case const v => exact hv _ h
      case global g => exact hv _ h
end Go.Fw
