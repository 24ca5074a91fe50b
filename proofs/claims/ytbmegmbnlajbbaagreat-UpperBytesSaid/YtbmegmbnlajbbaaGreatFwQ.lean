/- Sequences: what an iterator is asked for, and what a loop over one does. -/
import Derived.Test.YtbmegmbnlajbbaaGreatFwL
import Derived.Test.YtbmegmbnlajbbaaGreatFwM
import Derived.Test.YtbmegmbnlajbbaaGreatFwF
namespace Go.Fw
open Go

/-- A step that changes one block from B on, and no row of cells; and blocks may be new. -/
def Beside (B : Nat) (W W' : World) : Prop := ∃ r, B ≤ r ∧ (∀ o, W.heap[r]? = some o → NoCells o) ∧ Ext [r] W.heap W'.heap
theorem Beside.new {B : Nat} {W W' : World} (hB : B ≤ W.heap.size) (hx : Ext [] W.heap W'.heap) : Beside B W W' :=
  ⟨W.heap.size, hB, fun o h => by have := (Array.getElem?_eq_some_iff.1 h).1; omega, hx.mono (by simp)⟩
theorem Beside.size {B : Nat} {W W' : World} (h : Beside B W W') : W.heap.size ≤ W'.heap.size := by
  obtain ⟨r, _, _, h⟩ := h; exact h.1
theorem Beside.cells {B : Nat} {W W' : World} (h : Beside B W W') {b : Nat} {c : Array Value} {T : TypeId} {fr : Nat × Nat} (hb : W.heap[b]? = some (.cells c T fr)) : W'.heap[b]? = some (.cells c T fr) := by
  obtain ⟨r, _, hn, hx⟩ := h
  refine hx.get hb fun hm => ?_
  simp only [List.mem_singleton] at hm
  subst hm
  exact hn _ hb c T fr rfl
theorem Beside.old {B : Nat} {W W' : World} (h : Beside B W W') {b : Nat} (hb : b < B) (hlt : b < W.heap.size) : W'.heap[b]? = W.heap[b]? := by
  obtain ⟨r, hB, _, hx⟩ := h
  exact hx.2 b hlt (by simp; omega)
theorem Beside.ext {B : Nat} {W W' : World} (h : Beside B W W') {M : List Nat} {H : Heap} (hH : H.size ≤ B) (hx : Ext M H W.heap) : Ext M H W'.heap :=
  ⟨Nat.le_trans hx.1 h.size, fun b hb hn => (h.old (Nat.lt_of_lt_of_le hb hH) (Nat.lt_of_lt_of_le hb hx.1)).trans (hx.2 b hb hn)⟩
theorem Beside.mine {B B' : Nat} {W W' : World} (h : Beside B' W W') {T : TypeId} {sz : Nat} {x : Option Addr × Nat × Nat} {vs : List Value} (hM : Mine W.heap B T sz x vs) : Mine W'.heap B T sz x vs := by
  rcases hM with h0 | ⟨b, c, h1, h2, h3, h4⟩
  · exact .inl h0
  · exact .inr ⟨b, c, h1, h2, h.cells h3, h4⟩
theorem Beside.own {B : Nat} {W W' : World} (h : Beside B W W') {a : Option Addr} {vs : List Value} (hM : Cells W.heap a vs) : Cells W'.heap a vs := by
  rcases hM with h0 | ⟨b, o, c, T, fr, h1, h2, h3⟩
  · exact .inl h0
  · exact .inr ⟨b, o, c, T, fr, h1, h.cells h2, h3⟩
theorem Beside.mono {B B' : Nat} {W W' : World} (h : Beside B W W') (hB : B' ≤ B) : Beside B' W W' := by
  obtain ⟨r, h2, h3⟩ := h; exact ⟨r, Nat.le_trans hB h2, h3⟩
theorem heap_putObj {W : World} {l : Nat} {o : Obj} : (W.putObj l o).heap = W.heap.setIfInBounds l o := by
  apply Array.ext_getElem?
  intro i
  by_cases h : l = i
  · subst h
    by_cases hl : l < W.heap.size
    · rw [World.putObj_heap_same hl, Array.getElem?_setIfInBounds_self_of_lt hl]
    · rw [Array.getElem?_eq_none (by simp; omega), Array.getElem?_eq_none (by simpa [World.putObj] using hl)]
  · rw [World.putObj_heap_other (by omega), Array.getElem?_setIfInBounds_ne h]
theorem Beside.put {B : Nat} {W : World} {l : Nat} {o o' : Obj} (hB : B ≤ l) (hl : W.heap[l]? = some o) (ho : NoCells o) : Beside B W (W.putObj l o') := by
  refine ⟨l, hB, fun x hx => ?_, ?_⟩
  · rw [hl] at hx; cases hx; exact ho
  · rw [heap_putObj]
    exact ⟨by simp, fun b _ hn => Array.getElem?_setIfInBounds_ne (by rintro rfl; exact hn (by simp))⟩

/-- What a round keeps: the blocks below B but those of M, and beyond B whatever is no row of cells. -/
def Keep (M : List Nat) (B : Nat) (H H' : Heap) : Prop := H.size ≤ H'.size ∧ (∀ b, b < B → b < H.size → b ∉ M → H'[b]? = H[b]?) ∧ ∀ b o, B ≤ b → H[b]? = some o → NoCells o → H'[b]? = some o
theorem Keep.refl (M : List Nat) (B : Nat) (H : Heap) : Keep M B H H := ⟨Nat.le_refl _, fun _ _ _ _ => rfl, fun _ _ _ h _ => h⟩
theorem Keep.trans {M : List Nat} {B : Nat} {H H' H'' : Heap} (h : Keep M B H H') (h' : Keep M B H' H'') : Keep M B H H'' :=
  ⟨Nat.le_trans h.1 h'.1, fun b hb hl hn => (h'.2.1 b hb (Nat.lt_of_lt_of_le hl h.1) hn).trans (h.2.1 b hb hl hn), fun b o hb ho hn => h'.2.2 b o hb (h.2.2 b o hb ho hn) hn⟩
theorem Keep.of {M M' : List Nat} {B : Nat} {H H' : Heap} (h : Ext M' H H') (hM : ∀ b ∈ M', b ∈ M ∨ (B ≤ b ∧ ∃ c T fr, H[b]? = some (.cells c T fr))) (hlt : ∀ b ∈ M, b < B) : Keep M B H H' := by
  refine ⟨h.1, fun b hb hl hn => h.2 b hl fun hm => ?_, fun b o hb ho hn => ?_⟩
  · rcases hM b hm with h1 | ⟨h1, _⟩
    · exact hn h1
    · omega
  · refine h.get ho fun hm => ?_
    rcases hM b hm with h1 | ⟨_, c, T, fr, h1⟩
    · have := hlt b h1; omega
    · rw [ho] at h1; cases h1; exact hn c T fr rfl
theorem Keep.new {M : List Nat} {B : Nat} {H H' : Heap} (h : Ext [] H H') : Keep M B H H' := ⟨h.1, fun b _ hl _ => h.2 b hl (by simp), fun b o _ ho _ => h.get ho (by simp)⟩
theorem Keep.get {M : List Nat} {B : Nat} {H H' : Heap} (h : Keep M B H H') {b : Nat} {o : Obj} (hb : H[b]? = some o) (hB : b < B) (hM : b ∉ M) : H'[b]? = some o := (h.2.1 b hB (lt_of_get hb) hM).trans hb
theorem Keep.ext {M M0 : List Nat} {B : Nat} {H0 H H' : Heap} (h : Keep M B H H') (h0 : Ext M0 H0 H) (hB : H0.size ≤ B) (hM : ∀ b, b < H0.size → b ∈ M → b ∈ M0) : Ext M0 H0 H' :=
  ⟨Nat.le_trans h0.1 h.1, fun b hb hn => (h.2.1 b (Nat.lt_of_lt_of_le hb hB) (Nat.lt_of_lt_of_le hb h0.1) fun hm => hn (hM b hb hm)).trans (h0.2 b hb hn)⟩

/-- What an iterator does: it yields, in an order that 'nx' allows, and reads blocks of fp alone. -/
def SeqC (P : Program) {α : Type} (gv : Value) (S : List α → Prop) (nx : List α → α → Prop) (enc : α → Array Value) (fp : List Nat) (w : World) : Prop :=
  ∃ gf lb, gv = .func (.func gf) #[] lb ∧ ∀ (l : Nat) (I : List α → World → Prop) (J : World → Prop) (w1 : World) (M : List Nat),
    Ext [] w.heap w1.heap → (∀ b ∈ M, b < w1.heap.size ∧ b ∉ fp) → (∀ pre W W', I pre W → Beside w1.heap.size W W' → I pre W') → I [] w1 →
    (∀ pre x W, nx pre x → I pre W → YieldF P l (enc x) W fun e W' => Keep M w1.heap.size W.heap W'.heap ∧ ((e = .returned (.bool true) ∧ I (pre ++ [x]) W') ∨ (e = .returned (.bool false) ∧ J W'))) →
    CallF P gf (#[.func (.yield l) #[] #[]] ++ lb) w1 fun e W => (∃ v, e = .returned v) ∧ ((∃ xs, S xs ∧ I xs W) ∨ J W)
theorem SeqC.later {P : Program} {α : Type} {gv : Value} {S : List α → Prop} {nx : List α → α → Prop} {enc : α → Array Value} {fp : List Nat} {w w' : World} (h : SeqC P gv S nx enc fp w) (hx : Ext [] w.heap w'.heap) : SeqC P gv S nx enc fp w' := by
  obtain ⟨gf, lb, hg, h⟩ := h
  exact ⟨gf, lb, hg, fun l I J w1 M h1 => h l I J w1 M (hx.trans h1)⟩

theorem YieldF.mono {P : Program} {l : Nat} {args : Array Value} {w : World} {R R' : Ending → World → Prop} (h : YieldF P l args w R) (hr : ∀ e w', R e w' → R' e w') : YieldF P l args w R' := by
  obtain ⟨fn, tm, as, bd, h1, h2⟩ := h
  exact ⟨fn, tm, as, bd, h1, h2.mono fun e w' ⟨h, hc⟩ => ⟨hr e w' h, hc⟩⟩
theorem callV_yield {P : Program} {l : Nat} {args : Array Value} {shs : List Sh} {tup : Bool} {w : World} {K : Tup shs → World → Prop} (h : YieldF P l args w fun e w' => ∃ t, e = .returned (retEV shs tup t).2 ∧ K t w') :
    callV P (.func (.yield l) #[] #[]) args shs tup w K := .yield l rfl h
theorem callV_func {P : Program} {f : Nat} {args cap : Array Value} {shs : List Sh} {tup : Bool} {w : World} {K : Tup shs → World → Prop} (h : CallF P f (args ++ cap) w fun e w' => ∃ t, e = .returned (retEV shs tup t).2 ∧ K t w') :
    callV P (.func (.func f) #[] cap) args shs tup w K := .func f #[] cap rfl (by simpa using h)

/-- A loop over an iterator. -/
theorem range_of {P : Program} {α : Type} {gv : Value} {S : List α → Prop} {nx : List α → α → Prop} {shs : List Sh} {tv : α → Tup shs} {fp : List Nat} {w : World}
    {body : Tup shs → World → (World → (World → Prop) → Prop) → (World → Prop) → (World → Prop) → (Nat → World → Prop) → Prop} {done ret : Nat → World → Prop} {ext : Nat → Nat → World → Prop}
    (hseq : SeqC P gv S nx (fun x => (Tup.vals shs (tv x)).toArray) fp w) (M : List Nat) (hM : ∀ b ∈ M, b < w.heap.size ∧ b ∉ fp) (hfp : ∀ b ∈ fp, b < w.heap.size)
    (I : List α → World → Prop) (Jr : World → Prop) (Jx : Nat → World → Prop)
    (hI : ∀ pre W W', I pre W → Beside w.heap.size W W' → I pre W') (hJr : ∀ W W', Jr W → Beside w.heap.size W W' → Jr W') (hJx : ∀ i W W', Jx i W → Beside w.heap.size W W' → Jx i W')
    (h0 : I [] w)
    (hbody : ∀ pre x W, nx pre x → I pre W → w.heap.size + 2 ≤ W.heap.size → ∀ (beg : World → (World → Prop) → Prop) (kc kr : World → Prop) (kx : Nat → World → Prop),
      (∀ W1 (K : World → Prop), Ext [] W.heap W1.heap → (∀ W2, Beside w.heap.size W1 W2 → W2.heap.size = W1.heap.size →
        (∀ W3, Keep M w.heap.size W2.heap W3.heap → I (pre ++ [x]) W3 → kc W3) → (∀ W3, Keep M w.heap.size W2.heap W3.heap → Jr W3 → kr W3) → (∀ i W3, Keep M w.heap.size W2.heap W3.heap → Jx i W3 → kx i W3) → K W2) → beg W1 K) →
      body (tv x) W beg kc kr kx)
    (hdone : ∀ xs W, S xs → I xs W → W.heap[w.heap.size]? = some (.deferred (some [])) → done w.heap.size W)
    (hret : ∀ W, Jr W → W.heap[w.heap.size]? = some (.deferred (some [])) → ret w.heap.size W)
    (hext : ∀ i W, Jx i W → W.heap[w.heap.size]? = some (.deferred (some [])) → ext i w.heap.size W) :
    rangeP P shs gv w body done ret ext := by
  obtain ⟨gf, lb, hg, hseq⟩ := hseq
  refine ⟨gf, lb, hg, fun oD oL oB oX oE hD hno w1 hw1 hY => ?_⟩
  obtain ⟨hnL, hnB, hnX, hnE⟩ := hno
  have hx1 : Ext [] w.heap w1.heap := by rw [hw1]; exact (Ext.push _).trans (Ext.push _)
  have hs1 : w1.heap.size = w.heap.size + 2 := by rw [hw1]; simp
  have hD1 : w1.heap[w.heap.size]? = some oD := by rw [hw1]; exact push_old push_new
  have hL1 : w1.heap[w.heap.size + 1]? = some oL := by
    rw [hw1]
    have := push_new (H := w.heap.push oD) (o := oL)
    simpa using this
  have hDc : NoCells oD := by rw [hD]; intro c T fr h; cases h
  have key : ∀ {W W' : World} {r : Nat} {o : Obj}, (∀ o, W.heap[r]? = some o → NoCells o) → w1.heap.size ≤ r → Ext [r] W.heap W'.heap → ∀ b, b < w.heap.size + 2 → W.heap[b]? = some o → W'.heap[b]? = some o :=
    fun _ hr hx b hb hbo => hx.get hbo (by simp; omega)
  refine (hseq (w.heap.size + 1)
    (fun pre W => I pre W ∧ W.heap[w.heap.size]? = some oD ∧ W.heap[w.heap.size + 1]? = some oL)
    (fun W => W.heap[w.heap.size]? = some oD ∧ ((Jr W ∧ W.heap[w.heap.size + 1]? = some (oX .ret)) ∨ ∃ i, Jx i W ∧ W.heap[w.heap.size + 1]? = some (oX (.exit i))))
    w1 ((w.heap.size + 1) :: M) hx1 ?_ ?_ ⟨hI _ _ _ h0 (.new (Nat.le_refl _) hx1), hD1, hL1⟩ ?_).mono ?_
  · intro b hb
    rcases List.mem_cons.1 hb with rfl | hb
    · exact ⟨by omega, fun h => by have := hfp _ h; omega⟩
    · exact ⟨by have := (hM b hb).1; omega, (hM b hb).2⟩
  · rintro pre W W' ⟨h1, h2, h3⟩ hA
    have hA' := hA
    obtain ⟨r, hr, hn, hx⟩ := hA'
    exact ⟨hI _ _ _ h1 (hA.mono (by omega)), key hn hr hx _ (by omega) h2, key hn hr hx _ (by omega) h3⟩
  · rintro pre x W hnx ⟨h1, h2, h3⟩
    have hlt : w.heap.size + 1 < W.heap.size := (Array.getElem?_eq_some_iff.1 h3).1
    refine hY (tv x) W _ h3 (hbody pre x W hnx h1 (by omega) _ _ _ _ ?_)
    intro W1 K hxW1 hK
    have h31 : W1.heap[w.heap.size + 1]? = some oL := hxW1.get h3 (by simp)
    have h21 : W1.heap[w.heap.size]? = some oD := hxW1.get h2 (by simp)
    refine ⟨h31, fun W2 hW2 => ?_⟩
    have hlt1 : w.heap.size + 1 < W1.heap.size := (Array.getElem?_eq_some_iff.1 h31).1
    have hh2 : W2.heap = W1.heap.setIfInBounds (w.heap.size + 1) oB := by rw [hW2, heap_putObj]
    have h32 : W2.heap[w.heap.size + 1]? = some oB := by rw [hh2]; exact Array.getElem?_setIfInBounds_self_of_lt hlt1
    have h22 : W2.heap[w.heap.size]? = some oD := by rw [hh2, Array.getElem?_setIfInBounds_ne (by omega)]; exact h21
    have fin : ∀ (o' : Obj) (W3 : World), Keep M w.heap.size W2.heap W3.heap → W3.heap[w.heap.size + 1]? = some oB ∧ Keep ((w.heap.size + 1) :: M) w1.heap.size W.heap (W3.putObj (w.heap.size + 1) o').heap ∧ (W3.putObj (w.heap.size + 1) o').heap[w.heap.size]? = some oD ∧
        (W3.putObj (w.heap.size + 1) o').heap[w.heap.size + 1]? = some o' ∧ Beside w.heap.size W3 (W3.putObj (w.heap.size + 1) o') := by
      intro o' W3 hx3
      have h33 : W3.heap[w.heap.size + 1]? = some oB := hx3.2.2 _ _ (by omega) h32 hnB
      have h23 : W3.heap[w.heap.size]? = some oD := hx3.2.2 _ _ (Nat.le_refl _) h22 hDc
      have hlt3 : w.heap.size + 1 < W3.heap.size := (Array.getElem?_eq_some_iff.1 h33).1
      have hn2 : ∀ b, b ≠ w.heap.size + 1 → W2.heap[b]? = W1.heap[b]? := fun b hb => by rw [hh2]; exact Array.getElem?_setIfInBounds_ne (Ne.symm hb)
      have hn4 : ∀ b, b ≠ w.heap.size + 1 → (W3.putObj (w.heap.size + 1) o').heap[b]? = W3.heap[b]? := fun b hb => by rw [heap_putObj]; exact Array.getElem?_setIfInBounds_ne (Ne.symm hb)
      have hs2 : W2.heap.size = W1.heap.size := by rw [hh2]; simp
      refine ⟨h33, ⟨?_, ?_, ?_⟩, ?_, ?_, .put (by omega) h33 hnB⟩
      · rw [heap_putObj]
        have := hxW1.1; have := hx3.1
        simp; omega
      · intro b hb hl hn
        simp only [List.mem_cons, not_or] at hn
        rw [hn4 b hn.1]
        by_cases hbD : b = w.heap.size
        · rw [hbD, h23, h2]
        · rw [hx3.2.1 b (by omega) (by have := hxW1.1; omega) hn.2, hn2 b hn.1]
          exact hxW1.2 b hl (by simp)
      · intro b o hb ho hno
        rw [hn4 b (by omega)]
        exact hx3.2.2 b o (by omega) (by rw [hn2 b (by omega)]; exact hxW1.get ho (by simp)) hno
      · rw [hn4 _ (by omega)]; exact h23
      · rw [heap_putObj]; exact Array.getElem?_setIfInBounds_self_of_lt hlt3
    refine hK W2 (by rw [hW2]; exact .put (by omega) h31 hnL) (by rw [hh2]; simp) (fun W3 hx3 h => ?_) (fun W3 hx3 h => ?_) (fun i W3 hx3 h => ?_)
    · obtain ⟨a, b, c, d, e⟩ := fin oL W3 hx3
      exact ⟨a, b, .inl ⟨rfl, hI _ _ _ h e, c, d⟩⟩
    · obtain ⟨a, b, c, d, e⟩ := fin (oX .ret) W3 hx3
      exact ⟨a, b, .inr ⟨rfl, c, .inl ⟨hJr _ _ h e, d⟩⟩⟩
    · obtain ⟨a, b, c, d, e⟩ := fin (oX (.exit i)) W3 hx3
      exact ⟨a, b, .inr ⟨rfl, c, .inr ⟨i, hJx _ _ _ h e, d⟩⟩⟩
  · have put : ∀ {W : World} {o o' : Obj}, W.heap[w.heap.size]? = some oD → (W.putObj (w.heap.size + 1) o').heap[w.heap.size]? = some (.deferred (some [])) := by
      intro W o o' h
      rw [heap_putObj, Array.getElem?_setIfInBounds_ne (by omega), h, hD]
    rintro e W ⟨hv, ⟨xs, hS, h1, h2, h3⟩ | ⟨h2, ⟨h1, h3⟩ | ⟨i, h1, h3⟩⟩⟩
    · exact ⟨hv, .inl ⟨h3, hdone xs _ hS (hI _ _ _ h1 (.put (by omega) h3 hnL)) (put (o := oD) h2)⟩⟩
    · exact ⟨hv, .inr (.inl ⟨h3, hret _ (hJr _ _ h1 (.put (by omega) h3 (hnX _))) (put (o := oD) h2)⟩)⟩
    · exact ⟨hv, .inr (.inr ⟨i, h3, hext i _ (hJx _ _ _ h1 (.put (by omega) h3 (hnX _))) (put (o := oD) h2)⟩)⟩
end Go.Fw
