/- The propositions are monotone, and no operation touches the system. -/
import Derived.Test.YtbmegmbnlajbbaaFwH
namespace Go.Fw
open Go
theorem Calm.refl (w : World) : Calm w w := ⟨rfl, rfl, rfl, Nat.le_refl _⟩
theorem Calm.trans {a b c : World} (h : Calm a b) (h' : Calm b c) : Calm a c := ⟨h'.1.trans h.1, h'.2.1.trans h.2.1, h'.2.2.1.trans h.2.2.1, Nat.le_trans h.2.2.2 h'.2.2.2⟩
section
variable {P : Program}
theorem iteP_mono {b : Bool} {A B A' B' : Prop} (hA : A → A') (hB : B → B') (h : iteP b A B) : iteP b A' B' := ⟨fun e => hA (h.1 e), fun e => hB (h.2 e)⟩
theorem intQ_mono {op : BinOp} {k : IntKind} {a b : Int} {K K' : EV → Prop} (hK : ∀ v, K v → K' v) (h : intQ op k a b K) : intQ op k a b K' := by
  cases op <;> simp only [intQ] at h ⊢ <;> first
    | exact hK _ h
    | (obtain ⟨n, h1, h2⟩ := h; exact ⟨n, h1, hK _ h2⟩)
    | (obtain ⟨h0, n, h1, h2⟩ := h; exact ⟨h0, n, h1, hK _ h2⟩)
theorem strQ_mono {op : BinOp} {a b : ByteArray} {K K' : EV → Prop} (hK : ∀ v, K v → K' v) (h : strQ op a b K) : strQ op a b K' := by
  cases op <;> simp only [strQ] at h ⊢ <;> first
    | exact hK _ h
    | exact ⟨h.1, hK _ h.2⟩
theorem withAddr_mono {p : Option Addr} {K K' : Addr → Prop} (hK : ∀ v, K v → K' v) (h : withAddr p K) : withAddr p K' := by
  unfold withAddr at h ⊢
  first
    | (obtain ⟨a, e, h⟩ := h; exact ⟨a, e, hK _ h⟩)
    | (cases p <;> simp_all)
theorem genQ_mono {m : Sem Value} {s : Sh} {w : World} {K K' : s.T → Prop} (hK : ∀ v, K v → K' v) (h : genQ P m s w K) : genQ P m s w K' := by
  obtain ⟨t, h1, h2⟩ := h; exact ⟨t, h1, hK _ h2⟩
theorem genT_mono {m : Sem Value} {s : List Sh} {w : World} {K K' : Tup s → Prop} (hK : ∀ v, K v → K' v) (h : genT P m s w K) : genT P m s w K' := by
  obtain ⟨t, h1, h2⟩ := h; exact ⟨t, h1, hK _ h2⟩
theorem binQ_mono {op : BinOp} {t : TypeId} {x y : Operand} {ρ : Operand → EV} {w : World} {K K' : EV → Prop} (hK : ∀ v, K v → K' v) (h : binQ P op t x y ρ w K) : binQ P op t x y ρ w K' := by
  unfold binQ at h ⊢
  split at h
  · split at h
    · split at h
      · rename_i hc; rw [if_pos hc]; exact intQ_mono hK h
      · exact h.elim
    · exact h.elim
  · split at h
    · exact strQ_mono hK h
    · exact h.elim
  · cases hn : isNilC y <;> simp only [hn, cond_true, cond_false] at h ⊢
    · exact genQ_mono (fun _ => hK _) h
    · split at h
      · exact hK _ h
      · exact hK _ h
      · exact h.elim
  · cases hn : isNilS y <;> simp only [hn, cond_true, cond_false] at h ⊢
    · split at h
      · exact hK _ h
      · exact hK _ h
      · exact h.elim
  · exact genQ_mono (fun _ => hK _) h
theorem unQ_mono {op : UnOp} {v : Value} {K K' : EV → Prop} (hK : ∀ v, K v → K' v) (h : unQ op v K) : unQ op v K' := by
  unfold unQ at h ⊢
  split at h
  · exact hK _ h
  · obtain ⟨n, h1, h2⟩ := h; exact ⟨n, h1, hK _ h2⟩
  · obtain ⟨n, h1, h2⟩ := h; exact ⟨n, h1, hK _ h2⟩
  · exact h.elim
theorem ixQ_mono {t : TypeId} {x i : Operand} {ρ : Operand → EV} {K K' : EV → Prop} (hK : ∀ v, K v → K' v) (h : ixQ P t x i ρ K) : ixQ P t x i ρ K' := by
  unfold ixQ at h ⊢
  split at h
  · split at h
    · obtain ⟨p, h1, h2, h3, h4⟩ := h; exact ⟨p, h1, h2, h3, hK _ h4⟩
    · exact h.elim
  · split at h
    · refine withAddr_mono (fun a h => ?_) h
      split at h
      · split at h
        · rename_i hc; rw [if_pos hc]; exact hK _ h
        · exact h.elim
      · obtain ⟨h1, h2, h3⟩ := h; exact ⟨h1, h2, hK _ h3⟩
    · exact h.elim
  · exact h.elim
theorem ldQ_mono {t : TypeId} {v : Value} {w : World} {K K' : EV → Prop} (hK : ∀ v, K v → K' v) (h : ldQ P t v w K) : ldQ P t v w K' := by
  unfold ldQ at h ⊢
  split at h
  · refine withAddr_mono (fun a h => ?_) h
    split at h
    · obtain ⟨x, h1, h2⟩ := h; exact ⟨x, h1, hK _ h2⟩
    · obtain ⟨x, h1, h2⟩ := h; exact ⟨x, h1, hK _ h2⟩
  · exact h.elim
theorem tupQ_mono {m : Sem Value} {t : TypeId} {w : World} {K K' : EV → Prop} (hK : ∀ v, K v → K' v) (h : tupQ P m t w K) : tupQ P m t w K' := by
  unfold tupQ at h ⊢
  cases hn : isTup P t <;> simp only [hn, cond_true, cond_false] at h ⊢
  · exact genQ_mono (fun _ => hK _) h
  · exact genT_mono (fun _ => hK _) h
theorem lenQ_mono {c : Call} {ty : TypeId} {ρ : Operand → EV} {w : World} {K K' : EV → Prop} (hK : ∀ v, K v → K' v) (h : lenQ P c ty ρ w K) : lenQ P c ty ρ w K' := by
  unfold lenQ at h ⊢
  split at h
  · split at h
    · exact hK _ h
    · exact h.elim
  · split at h
    · exact hK _ h
    · exact h.elim
  · exact genQ_mono (fun _ => hK _) h
theorem exV_mono {v : Value} {i : Nat} {s : Sh} {K K' : s.T → Prop} (hK : ∀ v, K v → K' v) (h : exV v i s K) : exV v i s K' := by
  obtain ⟨vs, t, h1, h2, h3⟩ := h; exact ⟨vs, t, h1, h2, hK _ h3⟩
theorem opQ_mono {o : Oper} {ρ : Operand → EV} {w : World} {K K' : EV → Prop} (hK : ∀ v, K v → K' v) (h : opQ P o ρ w K) : opQ P o ρ w K' := by
  unfold opQ at h ⊢
  split at h
  · exact hK _ h
  · exact hK _ h
  · split at h
    · exact hK _ h
    · exact h.elim
  · exact ldQ_mono hK h
  · rename_i x _
    cases hn : Nat.beq (ρ x).1 1 <;> simp only [hn, cond_true, cond_false] at h ⊢
    · split at h
      · exact withAddr_mono (fun _ => hK _) h
      · exact ⟨h.1, hK _ h.2⟩
    · exact ⟨h.1, hK _ h.2⟩
  · exact binQ_mono hK h
  · exact unQ_mono hK h
  · split at h
    · split at h
      · obtain ⟨n, h1, h2⟩ := h; exact ⟨n, h1, hK _ h2⟩
      · exact h.elim
    · exact genQ_mono (fun _ => hK _) h
    · exact genQ_mono (fun _ => hK _) h
    · exact h.elim
  · exact genQ_mono (fun _ => hK _) h
  · exact genQ_mono (fun _ => hK _) h
  · exact genQ_mono (fun _ => hK _) h
  · split at h
    · exact withAddr_mono (fun _ => hK _) h
    · exact h.elim
  · exact ixQ_mono hK h
  · split at h
    · split at h
      · obtain ⟨h1, b, h2, h3⟩ := h; exact ⟨h1, b, h2, hK _ h3⟩
      · exact h.elim
    · exact genQ_mono (fun _ => hK _) h
  · exact genQ_mono (fun _ => hK _) h
  · exact genQ_mono (fun _ => hK _) h
  · exact tupQ_mono hK h
  · exact tupQ_mono hK h
  · exact genQ_mono (fun _ => hK _) h
  · rename_i t i _
    cases hn : Nat.beq (ρ t).1 1 <;> simp only [hn, cond_true, cond_false] at h ⊢
    · split at h
      · split at h
        · exact hK _ h
        · exact h.elim
      · exact h.elim
    · exact exV_mono (fun _ => hK _) h
  · split at h
    · exact lenQ_mono hK h
    · exact genQ_mono (fun _ => hK _) h
    · exact genQ_mono (fun _ => hK _) h
    · exact genQ_mono (fun _ => hK _) h
    · obtain ⟨t, h1, h2⟩ := h; exact ⟨t, h1, hK _ h2⟩
    · exact h.elim
  · exact h.elim
theorem genL_mono {m : Sem Value} {s : Sh} {w : World} {K K' : s.T → World → Prop} (hK : ∀ v w', Calm w w' → K v w' → K' v w') (h : genL P m s w K) : genL P m s w K' := by
  obtain ⟨t, w', h1, h2, h3⟩ := h; exact ⟨t, w', h1, h2, hK _ _ h2 h3⟩
theorem genU_mono {m : Sem Unit} {w : World} {K K' : World → Prop} (hK : ∀ w', Calm w w' → K w' → K' w') (h : genU P m w K) : genU P m w K' := by
  obtain ⟨w', h1, h2, h3⟩ := h; exact ⟨w', h1, h2, hK _ h2 h3⟩
theorem callF_mono {f : FuncId} {args : Array Value} {l : List Sh} {tup : Bool} {w : World} {K K' : Tup l → World → Prop} (hK : ∀ v w', Calm w w' → K v w' → K' v w') (h : callF P f args l tup w K) : callF P f args l tup w K' := by
  rcases h with h | ⟨v, w1, h0, hc, t, h1, h2⟩
  · exact .go ⟨h.1, h.2.mono fun _ _ ⟨⟨t, h1, h2⟩, h3⟩ => ⟨⟨t, h1, hK _ _ h3 h2⟩, h3⟩⟩
  · exact .own v w1 h0 hc ⟨t, h1, hK _ _ hc h2⟩
theorem opL_mono {o : Oper} {ρ : Operand → EV} {w : World} {K K' : EV → World → Prop} (hK : ∀ v w', Calm w w' → K v w' → K' v w') (h : opL P o ρ w K) : opL P o ρ w K' := by
  unfold opL at h ⊢
  split at h
  · rename_i t _
    cases hn : ((P.info? t).bind (·.zero)).isSome <;> simp only [hn, cond_true, cond_false] at h ⊢
    exact fun b w' hN => hK _ _ (by rw [hN.2]; exact ⟨rfl, rfl, rfl, Nat.le_refl _⟩) (h b w' hN)
  · exact fun b w' hN => hK _ _ (by rw [hN.2]; exact ⟨rfl, rfl, rfl, Nat.le_refl _⟩) (h b w' hN)
  · rename_i t a x _
    split at h
    · refine withAddr_mono (fun a h => ?_) h
      cases hn : ((aggOf P t).isNone && !(Nat.beq (ρ x).1 1) && Nat.beq (P.cellsOf t) 1 && (ρ x).2.oneCell') <;> simp only [hn, cond_true, cond_false] at h ⊢
      · exact genU_mono (fun _ => hK _ _) h
      · exact ⟨h.1, h.2.1, fun w' hN => hK _ _ (by rw [hN]; exact ⟨rfl, rfl, rfl, Nat.le_refl _⟩) (h.2.2 w' hN)⟩
    · exact h.elim
  · exact genU_mono (fun _ => hK _ _) h
  · exact genU_mono (fun _ => hK _ _) h
  · exact genL_mono (fun _ _ => hK _ _) h
  · exact genL_mono (fun _ _ => hK _ _) h
  · exact genL_mono (fun _ _ => hK _ _) h
  · exact genL_mono (fun _ _ => hK _ _) h
  · exact genL_mono (fun _ _ => hK _ _) h
  · exact genL_mono (fun _ _ => hK _ _) h
  · split at h
    · exact genL_mono (fun _ _ => hK _ _) h
    · exact genL_mono (fun _ _ => hK _ _) h
    · exact genL_mono (fun _ _ => hK _ _) h
    · exact genL_mono (fun _ _ => hK _ _) h
    · exact genL_mono (fun _ _ => hK _ _) h
    · exact h.elim
    · exact callF_mono (fun _ _ => hK _ _) h
    · rcases h with ⟨f, first, cap, h1, h2⟩ | ⟨l0, h1, fn, tmps, as, bd, h2, h3⟩
      · exact .func f first cap h1 ⟨h2.1, h2.2.mono fun _ _ ⟨⟨t, h1, h2⟩, h3⟩ => ⟨⟨t, h1, hK _ _ h3 h2⟩, h3⟩⟩
      · exact .yield l0 h1 ⟨fn, tmps, as, bd, h2, h3.mono fun _ _ ⟨⟨t, h1, h2⟩, h3⟩ => ⟨⟨t, h1, hK _ _ h3 h2⟩, h3⟩⟩
    · obtain ⟨f, args, w1, h1, h2, h3⟩ := h
      exact ⟨f, args, w1, h1, h2, h3.mono fun _ _ ⟨⟨t, h4, h5⟩, h6⟩ => ⟨⟨t, h4, hK _ _ (h2.trans h6) h5⟩, h6⟩⟩
  · exact h.elim
variable {qs : List FuncId}
theorem run1_mono {o : Oper} {e : Env} {w : World} {K K' : EV → World → Prop} (hK : ∀ v w', Calm w w' → K v w' → K' v w') (h : run1 P qs o e w K) : run1 P qs o e w K' := by
  unfold run1 at h ⊢
  cases h1 : knowsAll e o <;> simp only [h1, cond_true, cond_false] at h ⊢
  cases h2 : isQ P qs o <;> simp only [h2, cond_true, cond_false] at h ⊢
  · exact opL_mono hK h
  · exact opQ_mono (fun v => hK v w (.refl w)) h
theorem trOp_mono {all : Array Oper} {o : Oper} {e : Env} {w : World} {K K' : Env → EV → World → Prop} (hK : ∀ e v w', Calm w w' → K e v w' → K' e v w') (h : trOp P qs all o e w K) : trOp P qs all o e w K' := by
  unfold trOp at h ⊢
  split at h
  · exact run1_mono (fun _ _ => hK _ _ _) h
  · split at h
    · exact h.elim
    · split at h
      · rename_i tag b _
        cases h1 : Nat.beq tag 2 <;> simp only [h1, cond_true, cond_false] at h ⊢
        · rename_i want _ _ _ _ _ _
          cases want <;> simp only [cond_true, cond_false] at h ⊢
          · exact iteP_mono (hK _ _ _ (.refl w)) (run1_mono fun _ _ => hK _ _ _) h
          · exact iteP_mono (run1_mono fun _ _ => hK _ _ _) (hK _ _ _ (.refl w)) h
        · rename_i want _ _ _ _ _ _
          cases h2 : (b == want) <;> simp only [h2, cond_true, cond_false] at h ⊢
          · exact hK _ _ _ (.refl w) h
          · exact run1_mono (fun _ _ => hK _ _ _) h
      · exact hK _ _ _ (.refl w) h
      · exact h.elim
theorem trOps_mono {all : Array Oper} : ∀ {l : List Oper} {e : Env} {w : World} {K K' : Env → World → Prop}, (∀ e w', Calm w w' → K e w' → K' e w') → trOps P qs all l e w K → trOps P qs all l e w K'
  | [], _, w, _, _, hK, h => hK _ _ (.refl w) h
  | _ :: _, _, _, _, _, hK, h => trOp_mono (fun _ _ _ hc h => trOps_mono (fun _ _ hc' => hK _ _ (hc.trans hc')) h) h
theorem reOK_mono {ops : Array Oper} {e : Env} {w : World} {re : List Nat} {K K' : Prop} (hK : K → K') : ∀ {pend : List (Nat × EV)}, reOK P ops e w re pend K → reOK P ops e w re pend K'
  | [], h => hK h
  | (i, v) :: pend, h => by
    simp only [reOK] at h ⊢
    cases h1 : memN i re <;> simp only [h1, cond_true, cond_false] at h ⊢
    · exact reOK_mono hK h
    · split at h
      · rename_i o _
        cases h2 : knowsAll e o <;> simp only [h2, cond_true, cond_false] at h ⊢
        split at h
        · exact ⟨h.1, reOK_mono hK h.2⟩
        · exact ⟨h.1, reOK_mono hK h.2⟩
        · exact h.elim
      · exact h.elim
theorem trT_mono {ops : Array Oper} : ∀ {t : OT} {e : Env} {pend : List (Nat × EV)} {w : World} {K K' : Env → World → Prop}, (∀ e w', Calm w w' → K e w' → K' e w') → trT P qs ops t e pend w K → trT P qs ops t e pend w K'
  | .done, _, _, w, _, _, hK, h => hK _ _ (.refl w) h
  | .op i re t, e, pend, w, K, K', hK, h => by
    simp only [trT] at h ⊢
    split at h
    · rename_i o _
      refine trOp_mono (fun e' v w' hc h => ?_) h
      cases h2 : isQ P qs o <;> simp only [h2, cond_true, cond_false] at h ⊢
      · exact reOK_mono (trT_mono fun _ _ hc' => hK _ _ (hc.trans hc')) h
      · exact trT_mono (fun _ _ hc' => hK _ _ (hc.trans hc')) h
    · exact h.elim
  | .or _ _, _, _, _, _, _, hK, h => ⟨trT_mono hK h.1, trT_mono hK h.2⟩
theorem give_mono {l : Vars} {e : Env} {w : World} {k k' : Tup l.shs → World → Prop} (hk : ∀ s, k s w → k' s w) (h : bif knowsT l e then give l e w k else False) : bif knowsT l e then give l e w k' else False := by
  cases h1 : knowsT l e <;> simp only [h1, cond_true, cond_false] at h ⊢
  unfold give at h ⊢
  split at h
  · exact hk _ h
  · exact h.elim
/-- What is behind, from a world on that the system did not see change. -/
def Kont.le (w0 : World) (K K' : Kont) : Prop := (∀ e w, Calm w0 w → K.nrm e w → K'.nrm e w) ∧ (∀ i e w, Calm w0 w → K.ext i e w → K'.ext i e w) ∧ ∀ e w, Calm w0 w → K.ret e w → K'.ret e w
theorem tr_mono {w0 : World} : ∀ {c : Code} {ann : Ann} {e : Env} {K K' : Kont} {w : World}, K.le w0 K' → Calm w0 w → tr P qs c ann e K w → tr P qs c ann e K' w
  | .skip, _, _, _, _, _, hK, hc, h => hK.1 _ _ hc h
  | .label _, _, _, _, _, _, hK, hc, h => hK.1 _ _ hc h
  | .region _ ops draw, ann, e, K, K', w, hK, hc, h => by
    cases draw with
    | false =>
      simp only [tr, cond_false] at h ⊢
      exact trOps_mono (fun _ _ hc' => hK.1 _ _ (hc.trans hc')) h
    | true =>
      simp only [tr, cond_true] at h ⊢
      split at h
      · intro w' hD
        have hc1 : Calm w0 w' := by rw [hD]; exact ⟨hc.1, hc.2.1, hc.2.2.1, Nat.le_succ_of_le hc.2.2.2⟩
        exact trT_mono (fun _ _ hc' => hK.1 _ _ (hc1.trans hc')) (h w' hD)
      · exact h.elim
  | .seq a b, ann, e, K, K', w, hK, hc, h => by
    simp only [tr] at h ⊢
    split at h
    · refine tr_mono (c := a) ?_ hc h
      exact ⟨fun _ _ hc' h => tr_mono (c := b) hK hc' h, hK.2.1, hK.2.2⟩
    · obtain ⟨J, hJ, hk⟩ := h
      refine ⟨fun s w' => J s w' ∧ Calm w0 w', tr_mono (c := a) ?_ hc hJ, fun s w' h => tr_mono (c := b) hK h.2 (hk s w' h.1)⟩
      exact ⟨fun _ _ hc' h => give_mono (fun s h => ⟨h, hc'⟩) h, hK.2.1, hK.2.2⟩
    · exact h.elim
  | .cond c a b, ann, e, K, K', w, hK, hc, h => by
    simp only [tr] at h ⊢
    split at h
    · cases h1 : e.knows c <;> simp only [h1, cond_true, cond_false] at h ⊢
      split at h
      · rename_i tag t _
        cases h2 : Nat.beq tag 2 <;> simp only [h2, cond_true, cond_false] at h ⊢
        · exact iteP_mono (tr_mono (c := a) hK hc) (tr_mono (c := b) hK hc) h
        · cases t <;> simp only [cond_true, cond_false] at h ⊢
          · exact tr_mono (c := b) hK hc h
          · exact tr_mono (c := a) hK hc h
      · exact h.elim
    · exact h.elim
  | .block id a, ann, e, K, K', w, hK, hc, h => by
    simp only [tr] at h ⊢
    split at h
    · refine tr_mono (c := a) ?_ hc h
      refine ⟨hK.1, fun i _ _ hc' h => ?_, hK.2.2⟩
      simp only at h ⊢
      cases h2 : Nat.beq i id <;> simp only [h2, cond_true, cond_false] at h ⊢
      · exact hK.2.1 _ _ _ hc' h
      · exact hK.1 _ _ hc' h
    · obtain ⟨J, hJ, hk⟩ := h
      refine ⟨fun s w' => J s w' ∧ Calm w0 w', tr_mono (c := a) ?_ hc hJ, fun s w' h => hK.1 _ _ h.2 (hk s w' h.1)⟩
      refine ⟨fun _ _ hc' h => give_mono (fun s h => ⟨h, hc'⟩) h, fun i _ _ hc' h => ?_, hK.2.2⟩
      simp only at h ⊢
      cases h2 : Nat.beq i id <;> simp only [h2, cond_true, cond_false] at h ⊢
      · exact hK.2.1 _ _ _ hc' h
      · exact give_mono (fun s h => ⟨h, hc'⟩) h
    · exact h.elim
  | .loop a, ann, e, K, K', w, hK, hc, h => by
    simp only [tr] at h ⊢
    split at h
    · rename_i vars x
      cases h1 : knowsT vars e <;> simp only [h1, cond_true, cond_false] at h ⊢
      split at h
      · obtain ⟨I, μ, h0, hr⟩ := h
        refine ⟨fun s w' => I s w' ∧ Calm w0 w', μ, ⟨h0, hc⟩, fun s w' hI => ?_⟩
        refine tr_mono (c := a) ?_ hI.2 (hr s w' hI.1)
        exact ⟨fun _ _ hc' h => give_mono (fun s h => ⟨⟨h.1, hc'⟩, h.2⟩) h, hK.2.1, hK.2.2⟩
      · exact h.elim
    · exact h.elim
  | .exit _, _, _, _, _, _, hK, hc, h => hK.2.1 _ _ _ hc h
  | .ret, _, _, _, _, _, hK, hc, h => hK.2.2 _ _ hc h
  | .scope .., _, _, _, _, _, _, _, h => by first | exact h.elim | (simp [tr] at h)
  | .goto .., _, _, _, _, _, _, _, h => by first | exact h.elim | (simp [tr] at h)
theorem resQ_mono {w : World} : ∀ {rs : List ResultVar} {e : Env} {K K' : List EV → Prop}, (∀ v, K v → K' v) → resQ P w rs e K → resQ P w rs e K'
  | [], _, _, _, hK, h => hK _ h
  | .tmp t :: r, e, K, K', hK, h => by
    simp only [resQ] at h ⊢
    cases h1 : (e.find t).isSome <;> simp only [h1, cond_true, cond_false] at h ⊢
    exact resQ_mono (fun _ => hK _) h
  | .cell a t :: r, e, K, K', hK, h => by
    simp only [resQ] at h ⊢
    cases h1 : (e.find a).isSome <;> simp only [h1, cond_true, cond_false] at h ⊢
    exact ldQ_mono (fun _ => resQ_mono fun _ => hK _) h
theorem topK_calm {rs : List ResultVar} {R : Ending → World → Prop} (w : World) : (topK P rs R).le w (topK P rs fun e w' => R e w' ∧ Calm w w') :=
  ⟨fun _ _ hc => resQ_mono fun _ h => ⟨h, hc⟩, fun _ _ _ _ h => h.elim, fun _ _ hc => resQ_mono fun _ h => ⟨h, hc⟩⟩
end
end Go.Fw
