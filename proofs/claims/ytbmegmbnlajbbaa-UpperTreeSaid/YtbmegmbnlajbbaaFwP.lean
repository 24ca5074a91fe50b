/- Functions that range over a function: a layer above the translation of code. -/
import Derived.Test.YtbmegmbnlajbbaaFwJ
import Derived.Laws.Externs
namespace Go.Fw
open Go

/-- An object that is no row of cells. -/
def NoCells (o : Obj) : Prop := ∀ c T fr, o ≠ .cells c T fr
/-- A function leaves: the marks of its loops are taken. -/
def leaveP : List Nat → World → (World → Prop) → Prop
  | [], w, K => K w
  | D :: ds, w, K => w.heap[D]? = some (.deferred (some [])) ∧ ∀ w', w' = w.putObj D (.deferred none) → leaveP ds w' K
/-- A round begins: the loop's record was ready. -/
def begP (l : Nat) (oL oB : Obj) (w : World) (K : World → Prop) : Prop := w.heap[l]? = some oL ∧ ∀ w', w' = w.putObj l oB → K w'
/-- A round ends: the loop's record is as it was laid for it. -/
def endP (l : Nat) (oB o : Obj) (b : Bool) (R : Ending → World → Prop) (w : World) : Prop := w.heap[l]? = some oB ∧ R (.returned (.bool b)) (w.putObj l o)
/-- A loop over a function. 'body x w beg kc kr kx': a round: its beginning, its end, its return, its exits. -/
def rangeP (P : Program) (l : List Sh) (gv : Value) (w : World) (body : Tup l → World → (World → (World → Prop) → Prop) → (World → Prop) → (World → Prop) → (Nat → World → Prop) → Prop)
    (done ret : Nat → World → Prop) (ext : Nat → Nat → World → Prop) : Prop :=
  ∃ gf lb, gv = .func (.func gf) #[] lb ∧ ∀ (oD oL oB : Obj) (oX : Code → Obj) (oE : Option Code → Obj), oD = .deferred (some []) → (NoCells oL ∧ NoCells oB ∧ (∀ c, NoCells (oX c)) ∧ ∀ o, NoCells (oE o)) →
    ∀ w1, w1 = { w with heap := (w.heap.push oD).push oL } →
    (∀ (x : Tup l) (W : World) (R : Ending → World → Prop), W.heap[w.heap.size + 1]? = some oL →
      body x W (begP (w.heap.size + 1) oL oB)
        (endP (w.heap.size + 1) oB oL true R) (endP (w.heap.size + 1) oB (oX .ret) false R) (fun i => endP (w.heap.size + 1) oB (oX (.exit i)) false R) →
      YieldF P (w.heap.size + 1) (Tup.vals l x).toArray W R) →
    CallF P gf (#[.func (.yield (w.heap.size + 1)) #[] #[]] ++ lb) w1 fun e W => (∃ v, e = .returned v) ∧
      ((W.heap[w.heap.size + 1]? = some oL ∧ done w.heap.size (W.putObj (w.heap.size + 1) (oE none))) ∨
       (W.heap[w.heap.size + 1]? = some (oX .ret) ∧ ret w.heap.size (W.putObj (w.heap.size + 1) (oE (some .ret)))) ∨
       ∃ i, W.heap[w.heap.size + 1]? = some (oX (.exit i)) ∧ ext i w.heap.size (W.putObj (w.heap.size + 1) (oE (some (.exit i)))))

/-- What stands behind, with the marks of the loops so far. -/
structure Kont2 where
  nrm : List Nat → Env → World → Prop
  ext : Nat → List Nat → Env → World → Prop
  ret : List Nat → Env → World → Prop
inductive Ann2 where
  | pure (a : Ann)
  | seq (a b : Ann2)
  | cond (a b : Ann2)
  | blk (a : Ann2)
  | rng (vars : Vars) (rets : Bool) (exits : List Nat) (as bd : Ann)
def fstsL : Vars → List Nat
  | [] => []
  | v :: r => v.1 :: fstsL r
def sameL : List Nat → List Nat → Bool
  | [], [] => true
  | a :: r, b :: s => Nat.beq a b && sameL r s
  | _, _ => false
def nodupL : List Nat → Bool
  | [] => true
  | a :: r => !(memN a r) && nodupL r
/-- One of some exits. -/
def exitsP (i : Nat) : List Nat → (Nat → Prop) → Prop
  | [], _ => False
  | j :: r, f => bif Nat.beq i j then f j else exitsP i r f
theorem exitsP_iff {i : Nat} {f : Nat → Prop} : ∀ {l : List Nat}, exitsP i l f → memN i l = true ∧ f i
  | [], h => h.elim
  | j :: r, h => by
    simp only [exitsP] at h
    cases hb : Nat.beq i j with
    | true =>
      rw [hb] at h
      obtain rfl := Nat.eq_of_beq_eq_true hb
      exact ⟨by simp [memN], h⟩
    | false =>
      rw [hb] at h
      have := exitsP_iff (l := r) h
      exact ⟨by simp [memN, this.1], this.2⟩
theorem exitsP_mk {i : Nat} {f : Nat → Prop} (h : f i) : ∀ {l : List Nat}, memN i l = true → exitsP i l f
  | [], hm => by simp [memN] at hm
  | j :: r, hm => by
    simp only [exitsP]
    cases hb : Nat.beq i j with
    | true => obtain rfl := Nat.eq_of_beq_eq_true hb; exact h
    | false =>
      simp only [memN, Bool.or_eq_true] at hm
      rcases hm with hm | hm
      · obtain rfl := Nat.eq_of_beq_eq_true hm; simp at hb
      · exact exitsP_mk h hm
/-- How a round is left. -/
def kontR (rets : Bool) (exits : List Nat) (kc kr : World → Prop) (kx : Nat → World → Prop) : Kont where
  nrm := fun _ w => kc w
  ext := fun i _ w => bif memN i exits then kx i w else False
  ret := fun _ w => bif rets then kr w else False
def tr2 (P : Program) (qs : List FuncId) : Code → Ann2 → List Nat → Env → Kont2 → World → Prop
  | c, .pure ann, ds, e, K, w => tr P qs c ann e { nrm := K.nrm ds, ext := fun i => K.ext i ds, ret := K.ret ds } w
  | .seq a b, .seq x y, ds, e, K, w => tr2 P qs a x ds e { K with nrm := fun ds' e' w' => tr2 P qs b y ds' e' K w' } w
  | .cond c a b, .cond x y, ds, e, K, w =>
    bif e.knows c then
      (match e.ev c with
      | (tag, .bool t) => bif Nat.beq tag 2 then (bif t then tr2 P qs a x ds e K w else tr2 P qs b y ds e K w) else iteP t (tr2 P qs a x ds e K w) (tr2 P qs b y ds e K w)
      | _ => False)
    else False
  | .block id a, .blk x, ds, e, K, w => tr2 P qs a x ds e { K with ext := fun i ds' e' w' => bif Nat.beq i id then K.nrm ds' e' w' else K.ext i ds' e' w' } w
  | .rangeFunc g ps as bd, .rng vars rets exits xa xb, ds, e, K, w =>
    bif e.knows g && sameL (fstsL vars) ps.toList then
      rangeP P vars.shs (e.ev g).2 w
        (fun x W beg kc kr kx => tr P qs as xa (putT vars x e) { nrm := fun e1 W1 => beg W1 fun W2 => tr P qs bd xb e1 (kontR rets exits kc kr kx) W2, ext := fun _ _ _ => False, ret := fun _ _ => False } W)
        (fun D W => K.nrm (D :: ds) e W) (fun D W => bif rets then K.ret (D :: ds) e W else False)
        (fun i D W => exitsP i exits fun j => K.ext j (D :: ds) e W)
    else False
  | _, _, _, _, _, _ => False
/-- A round's code, at what it is to show. -/
def bodyK (P : Program) (qs : List FuncId) (bd : Code) (xb : Ann) (rets : Bool) (exits : List Nat) (l : Nat) (oL oB : Obj) (oX : Code → Obj) (R : Ending → World → Prop) : Kont where
  nrm := fun e1 W1 => begP l oL oB W1 fun W2 => tr P qs bd xb e1 (kontR rets exits (endP l oB oL true R) (endP l oB (oX .ret) false R) fun i => endP l oB (oX (.exit i)) false R) W2
  ext := fun _ _ _ => False
  ret := fun _ _ => False
def okC2 (P : Program) (qs : List FuncId) (n : Nat) : Code → Ann2 → Bool
  | c, .pure ann => okC P qs n c ann
  | .seq a b, .seq x y => okC2 P qs n a x && okC2 P qs n b y
  | .cond _ a b, .cond x y => okC2 P qs n a x && okC2 P qs n b y
  | .block _ a, .blk x => okC2 P qs n a x
  | .rangeFunc _ ps as bd, .rng vars _ _ xa xb => ps.toList.all (fun t => Nat.blt t n) && nodupL (fstsL vars) && sameL (fstsL vars) ps.toList && okC P qs n as xa && okC P qs n bd xb
  | _, _ => false
def writes2 : Code → Ann2 → List Nat
  | c, .pure _ => writes c
  | .seq a b, .seq x y => writes2 a x ++ writes2 b y
  | .cond _ a b, .cond x y => writes2 a x ++ writes2 b y
  | .block _ a, .blk x => writes2 a x
  | _, _ => []
def topK2 (P : Program) (rs : List ResultVar) (R : Ending → World → Prop) : Kont2 where
  nrm := fun ds e w => leaveP ds w fun w' => resQ P w' rs e fun vs => R (.returned (resV vs)) w'
  ext := fun _ _ _ _ => False
  ret := fun ds e w => leaveP ds w fun w' => resQ P w' rs e fun vs => R (.returned (resV vs)) w'

/- ---------- nothing touches the system ---------- -/
theorem leaveP_mono {w0 : World} : ∀ {ds : List Nat} {w : World} {K K' : World → Prop}, (∀ w, Calm w0 w → K w → K' w) → Calm w0 w → leaveP ds w K → leaveP ds w K'
  | [], _, _, _, hK, hc, h => hK _ hc h
  | D :: ds, w, K, K', hK, hc, h => ⟨h.1, fun w' hw' => leaveP_mono hK (by rw [hw']; exact ⟨hc.1, hc.2.1, hc.2.2.1, hc.2.2.2⟩) (h.2 w' hw')⟩
def Kont2.le (w0 : World) (K K' : Kont2) : Prop := (∀ ds e w, Calm w0 w → K.nrm ds e w → K'.nrm ds e w) ∧ (∀ i ds e w, Calm w0 w → K.ext i ds e w → K'.ext i ds e w) ∧ ∀ ds e w, Calm w0 w → K.ret ds e w → K'.ret ds e w
theorem topK2_calm {P : Program} {rs : List ResultVar} {R : Ending → World → Prop} (w : World) : (topK2 P rs R).le w (topK2 P rs fun e w' => R e w' ∧ Calm w w') :=
  ⟨fun _ _ _ hc => leaveP_mono (fun _ hc => resQ_mono fun _ h => ⟨h, hc⟩) hc, fun _ _ _ _ _ h => h.elim, fun _ _ _ hc => leaveP_mono (fun _ hc => resQ_mono fun _ h => ⟨h, hc⟩) hc⟩
theorem tr2_mono {P : Program} {qs : List FuncId} {w0 : World} : ∀ {ann : Ann2} {c : Code} {ds : List Nat} {e : Env} {K K' : Kont2} {w : World}, K.le w0 K' → Calm w0 w → tr2 P qs c ann ds e K w → tr2 P qs c ann ds e K' w := by
  intro ann
  induction ann with
  | pure a =>
    intro c ds e K K' w hK hc h
    simp only [tr2] at h ⊢
    exact tr_mono ⟨fun e w hc h => hK.1 _ _ _ hc h, fun i e w hc h => hK.2.1 _ _ _ _ hc h, fun e w hc h => hK.2.2 _ _ _ hc h⟩ hc h
  | seq x y ihx ihy =>
    intro c ds e K K' w hK hc h
    cases c <;> simp only [tr2] at h ⊢
    rename_i a b
    exact ihx (K := { nrm := fun ds' e' w' => tr2 P qs b y ds' e' K w', ext := K.ext, ret := K.ret }) ⟨fun _ _ _ hc' h => ihy hK hc' h, hK.2.1, hK.2.2⟩ hc h
  | cond x y ihx ihy =>
    intro c ds e K K' w hK hc h
    cases c <;> simp only [tr2] at h ⊢
    rename_i cc a b
    cases h1 : e.knows cc <;> simp only [h1, cond_true, cond_false] at h ⊢
    split at h
    · rename_i tag t _
      cases h2 : Nat.beq tag 2 <;> simp only [h2, cond_true, cond_false] at h ⊢
      · exact iteP_mono (ihx hK hc) (ihy hK hc) h
      · cases t <;> simp only [cond_true, cond_false] at h ⊢
        · exact ihy hK hc h
        · exact ihx hK hc h
    · exact h.elim
  | blk x ih =>
    intro c ds e K K' w hK hc h
    cases c <;> simp only [tr2] at h ⊢
    rename_i id a
    refine ih (K := { nrm := K.nrm, ext := fun i ds' e' w' => bif Nat.beq i id then K.nrm ds' e' w' else K.ext i ds' e' w', ret := K.ret }) ⟨hK.1, fun i _ _ _ hc' h => ?_, hK.2.2⟩ hc h
    simp only at h ⊢
    cases h2 : Nat.beq i id <;> simp only [h2, cond_true, cond_false] at h ⊢
    · exact hK.2.1 _ _ _ _ hc' h
    · exact hK.1 _ _ _ hc' h
  | rng vars rets exits xa xb =>
    intro c ds e K K' w hK hc h
    cases c <;> simp only [tr2] at h ⊢
    rename_i g ps as bd
    cases h1 : (e.knows g && sameL (fstsL vars) ps.toList) <;> simp only [h1, cond_true, cond_false] at h ⊢
    obtain ⟨gf, lb, hg, h⟩ := h
    refine ⟨gf, lb, hg, fun oD oL oB oX oE hD hno w1 hw1 hY => ?_⟩
    have hcall := h oD oL oB oX oE hD hno w1 hw1 hY
    refine ⟨hcall.1, hcall.2.mono ?_⟩
    rintro e' W ⟨⟨hv, h⟩, hcW⟩
    have hcl : ∀ oE, Calm w0 (W.putObj (w.heap.size + 1) oE) := fun oE => by
      have h0 : Calm w w1 := by rw [hw1]; exact ⟨rfl, rfl, rfl, Nat.le_refl _⟩
      have := (hc.trans h0).trans hcW
      exact ⟨this.1, this.2.1, this.2.2.1, this.2.2.2⟩
    refine ⟨⟨hv, ?_⟩, hcW⟩
    rcases h with ⟨hl, h⟩ | ⟨hl, h⟩ | ⟨i, hl, h⟩
    · exact .inl ⟨hl, hK.1 _ _ _ (hcl _) h⟩
    · refine .inr (.inl ⟨hl, ?_⟩)
      cases rets <;> simp only [cond_true, cond_false] at h ⊢
      exact hK.2.2 _ _ _ (hcl _) h
    · refine .inr (.inr ⟨i, hl, ?_⟩)
      obtain ⟨hm, h⟩ := exitsP_iff h
      exact exitsP_mk (hK.2.1 _ _ _ _ (hcl _) h) hm

/- ---------- it is sound ---------- -/
def marks (ds : List Nat) : List Deferred := ds.map fun D => { target := .collected D, args := #[] }
structure KQ2 (n : Nat) (ws : List Nat) (e : Env) (K : Kont2) (Q : Exit → Act → World → Prop) : Prop where
  nrm : ∀ ds e' a w, Rep (marks ds) n e' a → Keeps ws e e' → K.nrm ds e' w → Q .normal a w
  ext : ∀ id ds e' a w, Rep (marks ds) n e' a → Keeps ws e e' → K.ext id ds e' w → Q (.exit id) a w
  ret : ∀ ds e' a w, Rep (marks ds) n e' a → Keeps ws e e' → K.ret ds e' w → Q .ret a w
theorem sameL_eq : ∀ {a b : List Nat}, sameL a b = true → a = b
  | [], [], _ => rfl
  | a :: r, b :: s, h => by
    simp only [sameL, Bool.and_eq_true] at h
    rw [Nat.eq_of_beq_eq_true h.1, sameL_eq h.2]
theorem fstsL_length : ∀ {l : Vars}, (fstsL l).length = l.length
  | [] => rfl
  | _ :: r => by simp [fstsL, fstsL_length (l := r)]
theorem vals_length : ∀ (l : List Sh) (x : Tup l), (Tup.vals l x).length = l.length
  | [], _ => rfl
  | [_], _ => rfl
  | _ :: b :: r, x => by simp [Tup.vals, vals_length (b :: r) x.2]
def setPs (ps : List Nat) (vs : List Value) (tmps : Array Value) : Array Value := (ps.zip vs).foldl (fun t p => t.setIfInBounds p.1 p.2) tmps
theorem size_setPs : ∀ {ps : List Nat} {vs : List Value} {tmps : Array Value}, (setPs ps vs tmps).size = tmps.size
  | [], _, _ => by simp [setPs]
  | _ :: _, [], _ => by simp [setPs]
  | p :: ps, v :: vs, tmps => by
    have := size_setPs (ps := ps) (vs := vs) (tmps := tmps.setIfInBounds p v)
    simpa [setPs] using this
theorem setPs_no {t : Nat} : ∀ {ps : List Nat} {vs : List Value} {tmps : Array Value}, memN t ps = false → (setPs ps vs tmps)[t]? = tmps[t]?
  | [], _, _, _ => by simp [setPs]
  | _ :: _, [], _, _ => by simp [setPs]
  | p :: ps, v :: vs, tmps, h => by
    simp only [memN, Bool.or_eq_false_iff] at h
    have := setPs_no (ps := ps) (vs := vs) (tmps := tmps.setIfInBounds p v) h.2
    have hp : p ≠ t := by rintro rfl; simp at h
    rw [Array.getElem?_setIfInBounds_ne hp] at this
    simpa [setPs] using this
theorem find_putT_no {t : Nat} : ∀ (vars : Vars) (x : Tup vars.shs) (e : Env), memN t (fstsL vars) = false → (putT vars x e).find t = e.find t
  | [], _, _, _ => rfl
  | [(p, s)], x, e, h => by
    simp only [fstsL, memN, Bool.or_false] at h
    exact find_cons_ne (by rintro rfl; simp at h)
  | (p, s) :: u :: r, x, e, h => by
    simp only [fstsL, memN, Bool.or_eq_false_iff] at h
    rw [show putT ((p, s) :: u :: r) x e = (p, s.ev x.1) :: putT (u :: r) x.2 e from rfl, find_cons_ne (by rintro rfl; simp at h)]
    exact find_putT_no (u :: r) x.2 e (by simp only [fstsL, memN, Bool.or_eq_false_iff]; exact h.2)
theorem setPs_in {t : Nat} {v : EV} : ∀ (vars : Vars) (x : Tup vars.shs) (e : Env) (tmps : Array Value), nodupL (fstsL vars) = true → (∀ t ∈ fstsL vars, t < tmps.size) → memN t (fstsL vars) = true → (putT vars x e).find t = some v →
    (setPs (fstsL vars) (Tup.vals vars.shs x) tmps)[t]? = some v.2
  | [], _, _, _, _, _, h, _ => by simp [fstsL, memN] at h
  | [(p, s)], x, e, tmps, hd, hn, h, hf => by
    simp only [fstsL, memN, Bool.or_false] at h
    obtain rfl := Nat.eq_of_beq_eq_true h
    rw [show putT [(p, s)] x e = (p, s.ev x) :: e from rfl, find_cons_eq] at hf
    cases hf
    have := hn p (by simp [fstsL])
    show (setPs [p] [s.val x] tmps)[p]? = _
    simp [setPs, this, Sh.ev]
  | (p, s) :: u :: r, x, e, tmps, hd, hn, h, hf => by
    simp only [nodupL, fstsL, Bool.and_eq_true, Bool.not_eq_true'] at hd
    rw [show putT ((p, s) :: u :: r) x e = (p, s.ev x.1) :: putT (u :: r) x.2 e from rfl] at hf
    show (setPs (fstsL (u :: r)) (Tup.vals (Vars.shs (u :: r)) x.2) (tmps.setIfInBounds p (s.val x.1)))[t]? = _
    by_cases hpt : p = t
    · subst hpt
      rw [find_cons_eq] at hf
      cases hf
      have := hn p (by simp [fstsL])
      refine (setPs_no hd.1).trans ?_
      simp [this, Sh.ev]
    · rw [find_cons_ne hpt] at hf
      refine setPs_in (u :: r) x.2 e _ (by simp only [fstsL, nodupL, Bool.and_eq_true, Bool.not_eq_true']; exact hd.2) (fun q hq => by simpa using hn q (by simp only [fstsL, List.mem_cons] at hq ⊢; exact .inr hq)) ?_ hf
      simp only [fstsL, memN, Bool.or_eq_true] at h
      rcases h with h | h
      · exact absurd (Nat.eq_of_beq_eq_true h) hpt
      · simp only [fstsL, memN, Bool.or_eq_true]; exact h
/-- The frame of a round. -/
theorem rep_round {ds : List Deferred} {n : Nat} {e : Env} {a : Act} (vars : Vars) (x : Tup vars.shs) (h : Rep ds n e a) (hd : nodupL (fstsL vars) = true) (hn : ∀ t ∈ fstsL vars, t < n) :
    Rep [] n (putT vars x e) { tmps := setPs (fstsL vars) (Tup.vals vars.shs x) a.tmps, defers := [] } := by
  refine ⟨rfl, by rw [size_setPs]; exact h.2.1, fun t v hf => ?_⟩
  cases hm : memN t (fstsL vars) with
  | true => exact setPs_in vars x e a.tmps hd (by rw [h.2.1]; exact hn) hm hf
  | false =>
    rw [find_putT_no vars x e hm] at hf
    simp only
    rw [setPs_no hm]
    exact h.2.2 t v hf
theorem zip_setPs {ps : Array Tmp} {vs : List Value} {tmps : Array Value} : (ps.zip vs.toArray).foldl (fun (tmps : Array Value) (x : Tmp × Value) => tmps.setIfInBounds x.1 x.2) tmps = setPs ps.toList vs tmps := by
  unfold setPs
  rw [← Array.foldl_toList]
  congr 1
  rw [Array.toList_zip]

section
variable {P : Program} {qs : List FuncId} {n : Nat}
theorem tr2_sound (hm : P.follows .mixedOrders = true) : ∀ (ann : Ann2) (c : Code) (ds : List Nat) (e : Env) (K : Kont2) (w : World) (a : Act) (Q : Exit → Act → World → Prop),
    okC2 P qs n c ann = true → Rep (marks ds) n e a → KQ2 n (writes2 c ann) e K Q → tr2 P qs c ann ds e K w → c.wpIn (FF none) 0 P Q a w := by
  intro ann
  induction ann with
  | pure x =>
    intro c ds e K w a Q hok hr hK h
    simp only [tr2] at h
    simp only [okC2] at hok
    simp only [writes2] at hK
    exact tr_sound hm c x e _ w a Q hok hr ⟨fun e' a w hr hk h => hK.nrm ds e' a w hr hk h, fun i e' a w hr hk h => hK.ext i ds e' a w hr hk h, fun e' a w hr hk h => hK.ret ds e' a w hr hk h⟩ h
  | seq ax ay ihx ihy =>
    intro c ds e K w a Q hok hr hK h
    cases c <;> simp only [tr2] at h
    rename_i x y
    simp only [okC2, Bool.and_eq_true] at hok
    have sx : ∀ t, memN t (writes2 x ax) = true → memN t (writes2 (.seq x y) (.seq ax ay)) = true := fun t ht => by simp [writes2, memN_append, ht]
    have sy : ∀ t, memN t (writes2 y ay) = true → memN t (writes2 (.seq x y) (.seq ax ay)) = true := fun t ht => by simp [writes2, memN_append, ht]
    refine wpIn_seq (ihx x ds e _ w a _ hok.1 hr ⟨?_, ?_, ?_⟩ h)
    · intro ds' e' a' w' hr' hk' h'
      exact ihy y ds' e' K w' a' Q hok.2 hr' ⟨fun d e'' a'' w'' r k h => hK.nrm _ _ _ _ r ((hk'.sub sx).trans (k.sub sy)) h, fun id d e'' a'' w'' r k h => hK.ext _ _ _ _ _ r ((hk'.sub sx).trans (k.sub sy)) h,
        fun d e'' a'' w'' r k h => hK.ret _ _ _ _ r ((hk'.sub sx).trans (k.sub sy)) h⟩ h'
    · intro id d e' a' w' hr' hk' h'; exact hK.ext id d e' a' w' hr' (hk'.sub sx) h'
    · intro d e' a' w' hr' hk' h'; exact hK.ret d e' a' w' hr' (hk'.sub sx) h'
  | cond ax ay ihx ihy =>
    intro cc ds e K w a Q hok hr hK h
    cases cc <;> simp only [tr2] at h
    rename_i c x y
    simp only [okC2, Bool.and_eq_true] at hok
    have sx : ∀ t, memN t (writes2 x ax) = true → memN t (writes2 (.cond c x y) (.cond ax ay)) = true := fun t ht => by simp [writes2, memN_append, ht]
    have sy : ∀ t, memN t (writes2 y ay) = true → memN t (writes2 (.cond c x y) (.cond ax ay)) = true := fun t ht => by simp [writes2, memN_append, ht]
    cases hk : e.knows c with
    | false => rw [hk] at h; exact h.elim
    | true =>
      rw [hk] at h
      simp only [cond_true] at h
      have wx : tr2 P qs x ax ds e K w → x.wpIn (FF none) 0 P Q a w := fun h => ihx x ds e K w a Q hok.1 hr ⟨fun _ _ _ _ r k h => hK.nrm _ _ _ _ r (k.sub sx) h, fun _ _ _ _ _ r k h => hK.ext _ _ _ _ _ r (k.sub sx) h, fun _ _ _ _ r k h => hK.ret _ _ _ _ r (k.sub sx) h⟩ h
      have wy : tr2 P qs y ay ds e K w → y.wpIn (FF none) 0 P Q a w := fun h => ihy y ds e K w a Q hok.2 hr ⟨fun _ _ _ _ r k h => hK.nrm _ _ _ _ r (k.sub sy) h, fun _ _ _ _ _ r k h => hK.ext _ _ _ _ _ r (k.sub sy) h, fun _ _ _ _ r k h => hK.ret _ _ _ _ r (k.sub sy) h⟩ h
      have hev := hr.ev hk
      split at h
      · rename_i tag t he
        rw [he] at hev
        cases ht : Nat.beq tag 2 with
        | true =>
          rw [ht] at h
          cases t with
          | true => exact wpIn_cond_true hev (wx h)
          | false => exact wpIn_cond_false hev (wy h)
        | false =>
          rw [ht] at h
          exact wpIn_cond_split hev (fun ht => wx (h.1 ht)) (fun ht => wy (h.2 ht))
      · exact h.elim
  | blk ax ih =>
    intro c ds e K w a Q hok hr hK h
    cases c <;> simp only [tr2] at h
    rename_i id x
    simp only [okC2] at hok
    refine wpIn_block (ih x ds e _ w a _ hok hr ⟨?_, ?_, ?_⟩ h)
    · intro d e' a' w' hr' hk' h'; exact hK.nrm d e' a' w' hr' hk' h'
    · intro i d e' a' w' hr' hk' h'
      simp only [Exit.inBlock]
      by_cases hi : i = id
      · subst hi
        simp only [Nat.beq_refl, cond_true] at h'
        rw [if_pos rfl]
        exact hK.nrm d e' a' w' hr' hk' h'
      · have : Nat.beq i id = false := by
          cases hb : Nat.beq i id with
          | true => exact absurd (Nat.eq_of_beq_eq_true hb) hi
          | false => rfl
        simp only [this, cond_false] at h'
        rw [if_neg hi]
        exact hK.ext i d e' a' w' hr' hk' h'
    · intro d e' a' w' hr' hk' h'; exact hK.ret d e' a' w' hr' hk' h'
  | rng vars rets exits xa xb =>
    intro c ds e K w a Q hok hr hK h
    cases c <;> simp only [tr2] at h
    rename_i g ps as bd
    simp only [okC2, Bool.and_eq_true] at hok
    obtain ⟨⟨⟨⟨hlt, hnd⟩, hsame⟩, hoka⟩, hokb⟩ := hok
    have hfs := sameL_eq hsame
    have hltn : ∀ t ∈ fstsL vars, t < n := fun t ht => by
      rw [hfs] at ht
      have := List.all_eq_true.1 hlt t ht
      exact Nat.lt_of_lt_of_le (Nat.lt_succ_self _) (Nat.le_of_ble_eq_true this)
    cases hkn : (e.knows g && sameL (fstsL vars) ps.toList) with
    | false => rw [hkn] at h; exact h.elim
    | true =>
      rw [hkn] at h
      simp only [cond_true, Bool.and_eq_true] at h hkn
      obtain ⟨gf, lb, hg, h⟩ := h
      have hev : a.eval g = .func (.func gf) #[] lb := (hr.ev hkn.1).trans hg
      refine wpIn_rangeFunc fun fn _ => ?_
      obtain ⟨rec, hrec⟩ : ∃ rec : LoopState → Option Code → Loop, rec = fun st pe => { state := st, pending := pe, fn, tmps := a.tmps, params := ps, assign := as, body := bd, defers := w.heap.size } := ⟨_, rfl⟩
      have hst : Rep (marks (w.heap.size :: ds)) n e { a with defers := [{ target := .collected w.heap.size, args := #[] }] ++ a.defers } := ⟨by simp [marks, hr.1], hr.2.1, hr.2.2⟩
      have hcall := h (.deferred (some [])) (.loop (rec .ready none)) (.loop { rec .ready none with state := .busy }) (fun c => .loop (rec .done (some c))) (fun o => .loop { rec .ready o with state := .exhausted }) rfl ⟨(by intro c T fr h; cases h), (by intro c T fr h; cases h), (by intro _ c T fr h; cases h), (by intro _ c T fr h; cases h)⟩
        { w with heap := (w.heap.push (.deferred (some []))).push (.loop (rec .ready none)) } rfl ?_
      · obtain ⟨W1, hW1⟩ : ∃ W1, (w.alloc (.deferred (some []))).alloc (.loop { state := .ready, pending := none, fn, tmps := a.tmps, params := ps, assign := as, body := bd, defers := w.heap.size }) = W1 := ⟨_, rfl⟩
        have hW1' : ({ w with heap := (w.heap.push (.deferred (some []))).push (.loop (rec .ready none)) } : World) = W1 := by rw [← hW1, hrec]; rfl
        rw [hW1'] at hcall
        refine ⟨w.heap.size + 1, [{ target := .collected w.heap.size, args := #[] }], W1, { target := .fn (.func gf) lb, args := #[.func (.yield (w.heap.size + 1)) #[] #[]] }, W1, gf,
          #[.func (.yield (w.heap.size + 1)) #[] #[]] ++ lb, W1, by rw [← hW1]; exact run_enterLoop_outer _ _ _ _ _, ?_, fun _ _ => trivial, ?_, fun h => by simp [FF, Fence.wide] at h, ?_⟩
        · simp only [resolve, hev]
          simp [go_sem]
        · have := hcall.1
          simp only [invoke]
          simp [callFunc] at this ⊢
          exact this
        · refine callsIn_FF (hcall.2.mono ?_)
          rintro e' W ⟨⟨⟨v, rfl⟩, h⟩, _⟩
          rcases h with ⟨hl, h⟩ | ⟨hl, h⟩ | ⟨i, hl, h⟩
          · subst hrec
            exact ⟨none, _, run_endLoop (P := P) hl (by simp), hK.nrm _ _ _ _ hst (Keeps.refl _ _) h⟩
          · subst hrec
            refine ⟨some .ret, _, run_endLoop (P := P) hl (by simp), ?_⟩
            cases rets with
            | false => exact h.elim
            | true => exact wpIn_ret (hK.ret _ _ _ _ hst (Keeps.refl _ _) h)
          · subst hrec
            refine ⟨some (.exit i), _, run_endLoop (P := P) hl (by simp), ?_⟩
            obtain ⟨hm, h⟩ := exitsP_iff h
            exact wpIn_exit (hK.ext _ _ _ _ _ hst (Keeps.refl _ _) h)
      · -- a round
        intro x W R hl hb
        have hy := run_yield (P := P) (args := (Tup.vals vars.shs x).toArray) hl (by
          have : ps.size = vars.length := by rw [← Array.length_toList, ← hfs, fstsL_length]
          rw [hrec]
          show (Tup.vals vars.shs x).toArray.size = ps.size
          rw [this, List.size_toArray, vals_length]
          simp [Vars.shs])
        refine ⟨_, _, _, _, hy, ?_⟩
        rw [hrec]
        simp only
        rw [zip_setPs, ← hfs]
        refine roundIn_of_wpIn trivial ?_
        have hrr := rep_round vars x hr hnd hltn
        have hb' := tr_mono (w0 := W) (K := bodyK P qs bd xb rets exits (w.heap.size + 1) (.loop (rec .ready none)) (.loop { rec .ready none with state := .busy }) (fun c => .loop (rec .done (some c))) R) (K' := bodyK P qs bd xb rets exits (w.heap.size + 1) (.loop (rec .ready none)) (.loop { rec .ready none with state := .busy }) (fun c => .loop (rec .done (some c))) fun e w' => R e w' ∧ Calm W w')
          ⟨?_, fun _ _ _ _ h => False.elim h, fun _ _ _ h => False.elim h⟩ (.refl W) hb
        · refine tr_sound (r := some (w.heap.size + 1)) (m := 0) hm as xa _ _ W _ _ hoka hrr ⟨?_, fun _ _ _ _ _ _ h => False.elim h, fun _ _ _ _ _ h => False.elim h⟩ hb'
          rintro e1 a1 W1 hr1 _ ⟨hl1, h1⟩
          refine ⟨_, run_beginRound hl1 (by rw [hrec]), ?_⟩
          refine tr_sound (r := some (w.heap.size + 1)) (m := 0) hm bd xb e1 _ _ a1 _ hokb hr1 ⟨?_, ?_, ?_⟩ (h1 _ rfl)
          · rintro e2 a2 W2 _ _ ⟨hl2, h2⟩
            exact ⟨_, _, run_endRound (P := P) none hl2, by subst hrec; exact h2⟩
          · intro i e2 a2 W2 _ _ h2
            cases hmi : memN i exits with
            | false => simp only [kontR, hmi] at h2; exact h2.elim
            | true =>
              simp only [kontR, hmi, cond_true] at h2
              obtain ⟨hl2, h2⟩ := h2
              exact ⟨_, _, run_endRound (P := P) (some (.exit i)) hl2, by subst hrec; exact h2⟩
          · intro e2 a2 W2 _ _ h2
            cases rets with
            | false => exact h2.elim
            | true =>
              obtain ⟨hl2, h2⟩ := h2
              exact ⟨_, _, run_endRound (P := P) (some .ret) hl2, by subst hrec; exact h2⟩
        · rintro e1 W1 hc1 ⟨hl1, h1⟩
          refine ⟨hl1, fun w' hw' => ?_⟩
          have hc2 : Calm W w' := by rw [hw']; exact ⟨hc1.1, hc1.2.1, hc1.2.2.1, hc1.2.2.2⟩
          refine tr_mono (w0 := W) ⟨?_, ?_, ?_⟩ hc2 (h1 w' hw')
          · rintro _ W2 hc ⟨a, b⟩
            exact ⟨a, b, hc.1, hc.2.1, hc.2.2.1, hc.2.2.2⟩
          · intro i _ W2 hc h2
            cases hmi : memN i exits with
            | false => simp only [kontR, hmi] at h2; exact h2.elim
            | true =>
              simp only [kontR, hmi, cond_true] at h2 ⊢
              exact ⟨h2.1, h2.2, hc.1, hc.2.1, hc.2.2.1, hc.2.2.2⟩
          · intro _ W2 hc h2
            cases rets with
            | false => exact h2.elim
            | true => exact ⟨h2.1, h2.2, hc.1, hc.2.1, hc.2.2.1, hc.2.2.2⟩

theorem leaves_of {fn : Func} {tmps : Array Value} {R : Ending → World → Prop} : ∀ (ds : List Nat) (w : World), leaveP ds w (fun w' => ∃ v, (results fn tmps).run P w' = .ok v w' ∧ R (.returned v) w') →
    LeavesInM (FF none) 0 P fn tmps R (marks ds) .returning w
  | [], w, ⟨v, h1, h2⟩ => ⟨v, h1, h2⟩
  | D :: ds, w, h => ⟨by simp, .inl ⟨D, _, rfl, run_takeDeferred h.1, leaves_of ds _ (h.2 _ rfl)⟩⟩
theorem leaveP_imp : ∀ {ds : List Nat} {w : World} {K K' : World → Prop}, (∀ w, K w → K' w) → leaveP ds w K → leaveP ds w K'
  | [], _, _, _, hK, h => hK _ h
  | _ :: _, _, _, _, hK, h => ⟨h.1, fun w' hw' => leaveP_imp hK (h.2 w' hw')⟩
/-- A function by its translation. -/
theorem fn_of_tr2 {f : FuncId} {fn : Func} {c : Code} {ann : Ann2} {args : List EV} {w : World} {R : Ending → World → Prop} (hm : P.follows .mixedOrders = true) (hf : P.funcs[f]? = some fn) (hb : fn.body = some c)
    (hname : (fn.name == "runtime.NumGoroutine") = false) (hn : Nat.ble args.length fn.ntmps = true) (hok : okC2 P qs fn.ntmps c ann = true)
    (h : tr2 P qs c ann [] (env0 0 args) (topK2 P fn.results.toList R) w) : CallF P f (args.map (·.2)).toArray w R := by
  refine ⟨by simp [callFunc, hf, hb]; simpa using hname, ?_⟩
  refine callsIn_wide.1 (callsIn_of_wp_marks (n := 0) hf hb trivial ?_)
  refine tr2_sound (n := fn.ntmps) hm ann c [] _ _ w _ _ hok (rep_env0 (Nat.le_of_ble_eq_true hn)) ⟨?_, ?_, ?_⟩ (tr2_mono (topK2_calm w) (.refl w) h)
  · intro ds e' a w' hr _ h'
    have hd := hr.1
    show LeavesInM _ _ _ _ _ _ a.defers _ _
    rw [hd]
    exact leaves_of ds _ (leaveP_imp (fun w h => (results_ok (R := fun e w' => R e w' ∧ Calm _ w') hr h).2) h')
  · intro id ds e' a w' _ _ h'; exact h'.elim
  · intro ds e' a w' hr _ h'
    have hd := hr.1
    show LeavesInM _ _ _ _ _ _ a.defers _ _
    rw [hd]
    exact leaves_of ds _ (leaveP_imp (fun w h => (results_ok (R := fun e w' => R e w' ∧ Calm _ w') hr h).2) h')
end
end Go.Fw
