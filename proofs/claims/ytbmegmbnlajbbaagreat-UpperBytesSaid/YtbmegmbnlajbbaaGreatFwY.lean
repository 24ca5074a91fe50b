/- A loop over an iterator that keeps its own place in a cell. -/
import Derived.Test.YtbmegmbnlajbbaaGreatFwQ
namespace Go.Fw
open Go

/-- As SeqC; the iterator may change the blocks A of its own as well. -/
def SeqA (P : Program) {α : Type} (gv : Value) (S : List α → Prop) (nx : List α → α → Prop) (enc : α → Array Value) (fp A : List Nat) (w : World) : Prop :=
  ∃ gf lb, gv = .func (.func gf) #[] lb ∧ ∀ (l : Nat) (I : List α → World → Prop) (J : World → Prop) (w1 : World) (M : List Nat),
    Ext [] w.heap w1.heap → (∀ b ∈ M, b < w1.heap.size ∧ b ∉ fp) → (∀ pre W W', I pre W → Beside w1.heap.size W W' → I pre W') → (∀ pre W W', I pre W → Ext A W.heap W'.heap → I pre W') → I [] w1 →
    (∀ pre x W, nx pre x → I pre W → YieldF P l (enc x) W fun e W' => Keep M w1.heap.size W.heap W'.heap ∧ ((e = .returned (.bool true) ∧ I (pre ++ [x]) W') ∨ (e = .returned (.bool false) ∧ J W'))) →
    CallF P gf (#[.func (.yield l) #[] #[]] ++ lb) w1 fun e W => (∃ v, e = .returned v) ∧ ((∃ xs, S xs ∧ I xs W) ∨ J W)
theorem SeqA.later {P : Program} {α : Type} {gv : Value} {S : List α → Prop} {nx : List α → α → Prop} {enc : α → Array Value} {fp A : List Nat} {w w' : World} (h : SeqA P gv S nx enc fp A w) (hx : Ext [] w.heap w'.heap) : SeqA P gv S nx enc fp A w' := by
  obtain ⟨gf, lb, hg, h⟩ := h
  exact ⟨gf, lb, hg, fun l I J w1 M h1 => h l I J w1 M (hx.trans h1)⟩
theorem range_ofA {P : Program} {α : Type} {gv : Value} {S : List α → Prop} {nx : List α → α → Prop} {shs : List Sh} {tv : α → Tup shs} {fp : List Nat} {w : World}
    {body : Tup shs → World → (World → (World → Prop) → Prop) → (World → Prop) → (World → Prop) → (Nat → World → Prop) → Prop} {done ret : Nat → World → Prop} {ext : Nat → Nat → World → Prop}
    {A : List Nat} (hseq : SeqA P gv S nx (fun x => (Tup.vals shs (tv x)).toArray) fp A w) (hA : ∀ b ∈ A, b ∈ fp) (M : List Nat) (hM : ∀ b ∈ M, b < w.heap.size ∧ b ∉ fp) (hfp : ∀ b ∈ fp, b < w.heap.size)
    (I : List α → World → Prop) (Jr : World → Prop) (Jx : Nat → World → Prop)
    (hI : ∀ pre W W', I pre W → Beside w.heap.size W W' → I pre W') (hJr : ∀ W W', Jr W → Beside w.heap.size W W' → Jr W') (hJx : ∀ i W W', Jx i W → Beside w.heap.size W W' → Jx i W')
    (hIA : ∀ pre W W', I pre W → Ext A W.heap W'.heap → I pre W') (h0 : I [] w)
    (hbody : ∀ pre x W, nx pre x → I pre W → w.heap.size + 2 ≤ W.heap.size → ∀ (beg : World → (World → Prop) → Prop) (kc kr : World → Prop) (kx : Nat → World → Prop),
      (∀ W1 (K : World → Prop), Ext [] W.heap W1.heap → (∀ W2, Beside w.heap.size W1 W2 → W2.heap.size = W1.heap.size →
        (∀ W3, Keep M w.heap.size W2.heap W3.heap → I (pre ++ [x]) W3 → kc W3) → (∀ W3, Keep M w.heap.size W2.heap W3.heap → Jr W3 → kr W3) → (∀ i W3, Keep M w.heap.size W2.heap W3.heap → Jx i W3 → kx i W3) → K W2) → beg W1 K) →
      body (tv x) W beg kc kr kx)
    (hdone : ∀ xs W, S xs → I xs W → W.heap[w.heap.size]? = some (.deferred (some [])) → done w.heap.size W)
    (hret : ∀ W, Jr W → W.heap[w.heap.size]? = some (.deferred (some [])) → ret w.heap.size W)
    (hext : ∀ i W, Jx i W → W.heap[w.heap.size]? = some (.deferred (some [])) → ext i w.heap.size W) :
    rangeP P shs gv w body done ret ext := by
  obtain ⟨gf, lb, hg, hseq⟩ := hseq
  refine ⟨gf, lb, hg, fun oD oL oB oX oE hD hno w1 hw1 hY => ?_⟩
  obtain ⟨hnL, hnB, hnX, hnE⟩ := hno
  have hx1 : Ext [] w.heap w1.heap := by rw [hw1]; exact (Ext.push _).trans (Ext.push _)
  have hs1 : w1.heap.size = w.heap.size + 2 := by rw [hw1]; simp
  have hD1 : w1.heap[w.heap.size]? = some oD := by rw [hw1]; exact push_old push_new
  have hL1 : w1.heap[w.heap.size + 1]? = some oL := by
    rw [hw1]
    have := push_new (H := w.heap.push oD) (o := oL)
    simpa using this
  have hDc : NoCells oD := by rw [hD]; intro c T fr h; cases h
  have key : ∀ {W W' : World} {r : Nat} {o : Obj}, (∀ o, W.heap[r]? = some o → NoCells o) → w1.heap.size ≤ r → Ext [r] W.heap W'.heap → ∀ b, b < w.heap.size + 2 → W.heap[b]? = some o → W'.heap[b]? = some o :=
    fun _ hr hx b hb hbo => hx.get hbo (by simp; omega)
  refine (hseq (w.heap.size + 1)
    (fun pre W => I pre W ∧ W.heap[w.heap.size]? = some oD ∧ W.heap[w.heap.size + 1]? = some oL)
    (fun W => W.heap[w.heap.size]? = some oD ∧ ((Jr W ∧ W.heap[w.heap.size + 1]? = some (oX .ret)) ∨ ∃ i, Jx i W ∧ W.heap[w.heap.size + 1]? = some (oX (.exit i))))
    w1 ((w.heap.size + 1) :: M) hx1 ?_ ?_ ?_ ⟨hI _ _ _ h0 (.new (Nat.le_refl _) hx1), hD1, hL1⟩ ?_).mono ?_
  · intro b hb
    rcases List.mem_cons.1 hb with rfl | hb
    · exact ⟨by omega, fun h => by have := hfp _ h; omega⟩
    · exact ⟨by have := (hM b hb).1; omega, (hM b hb).2⟩
  · rintro pre W W' ⟨h1, h2, h3⟩ hA
    have hA' := hA
    obtain ⟨r, hr, hn, hx⟩ := hA'
    exact ⟨hI _ _ _ h1 (hA.mono (by omega)), key hn hr hx _ (by omega) h2, key hn hr hx _ (by omega) h3⟩
  · rintro pre W W' ⟨h1, h2, h3⟩ hx
    exact ⟨hIA _ _ _ h1 hx, hx.get h2 (fun h => by have := hfp _ (hA _ h); omega), hx.get h3 (fun h => by have := hfp _ (hA _ h); omega)⟩
  · rintro pre x W hnx ⟨h1, h2, h3⟩
    have hlt : w.heap.size + 1 < W.heap.size := (Array.getElem?_eq_some_iff.1 h3).1
    refine hY (tv x) W _ h3 (hbody pre x W hnx h1 (by omega) _ _ _ _ ?_)
    intro W1 K hxW1 hK
    have h31 : W1.heap[w.heap.size + 1]? = some oL := hxW1.get h3 (by simp)
    have h21 : W1.heap[w.heap.size]? = some oD := hxW1.get h2 (by simp)
    refine ⟨h31, fun W2 hW2 => ?_⟩
    have hlt1 : w.heap.size + 1 < W1.heap.size := (Array.getElem?_eq_some_iff.1 h31).1
    have hh2 : W2.heap = W1.heap.setIfInBounds (w.heap.size + 1) oB := by rw [hW2, heap_putObj]
    have h32 : W2.heap[w.heap.size + 1]? = some oB := by rw [hh2]; exact Array.getElem?_setIfInBounds_self_of_lt hlt1
    have h22 : W2.heap[w.heap.size]? = some oD := by rw [hh2, Array.getElem?_setIfInBounds_ne (by omega)]; exact h21
    have fin : ∀ (o' : Obj) (W3 : World), Keep M w.heap.size W2.heap W3.heap → W3.heap[w.heap.size + 1]? = some oB ∧ Keep ((w.heap.size + 1) :: M) w1.heap.size W.heap (W3.putObj (w.heap.size + 1) o').heap ∧ (W3.putObj (w.heap.size + 1) o').heap[w.heap.size]? = some oD ∧
        (W3.putObj (w.heap.size + 1) o').heap[w.heap.size + 1]? = some o' ∧ Beside w.heap.size W3 (W3.putObj (w.heap.size + 1) o') := by
      intro o' W3 hx3
      have h33 : W3.heap[w.heap.size + 1]? = some oB := hx3.2.2 _ _ (by omega) h32 hnB
      have h23 : W3.heap[w.heap.size]? = some oD := hx3.2.2 _ _ (Nat.le_refl _) h22 hDc
      have hlt3 : w.heap.size + 1 < W3.heap.size := (Array.getElem?_eq_some_iff.1 h33).1
      have hn2 : ∀ b, b ≠ w.heap.size + 1 → W2.heap[b]? = W1.heap[b]? := fun b hb => by rw [hh2]; exact Array.getElem?_setIfInBounds_ne (Ne.symm hb)
      have hn4 : ∀ b, b ≠ w.heap.size + 1 → (W3.putObj (w.heap.size + 1) o').heap[b]? = W3.heap[b]? := fun b hb => by rw [heap_putObj]; exact Array.getElem?_setIfInBounds_ne (Ne.symm hb)
      have hs2 : W2.heap.size = W1.heap.size := by rw [hh2]; simp
      refine ⟨h33, ⟨?_, ?_, ?_⟩, ?_, ?_, .put (by omega) h33 hnB⟩
      · rw [heap_putObj]
        have := hxW1.1; have := hx3.1
        simp; omega
      · intro b hb hl hn
        simp only [List.mem_cons, not_or] at hn
        rw [hn4 b hn.1]
        by_cases hbD : b = w.heap.size
        · rw [hbD, h23, h2]
        · rw [hx3.2.1 b (by omega) (by have := hxW1.1; omega) hn.2, hn2 b hn.1]
          exact hxW1.2 b hl (by simp)
      · intro b o hb ho hno
        rw [hn4 b (by omega)]
        exact hx3.2.2 b o (by omega) (by rw [hn2 b (by omega)]; exact hxW1.get ho (by simp)) hno
      · rw [hn4 _ (by omega)]; exact h23
      · rw [heap_putObj]; exact Array.getElem?_setIfInBounds_self_of_lt hlt3
    refine hK W2 (by rw [hW2]; exact .put (by omega) h31 hnL) (by rw [hh2]; simp) (fun W3 hx3 h => ?_) (fun W3 hx3 h => ?_) (fun i W3 hx3 h => ?_)
    · obtain ⟨a, b, c, d, e⟩ := fin oL W3 hx3
      exact ⟨a, b, .inl ⟨rfl, hI _ _ _ h e, c, d⟩⟩
    · obtain ⟨a, b, c, d, e⟩ := fin (oX .ret) W3 hx3
      exact ⟨a, b, .inr ⟨rfl, c, .inl ⟨hJr _ _ h e, d⟩⟩⟩
    · obtain ⟨a, b, c, d, e⟩ := fin (oX (.exit i)) W3 hx3
      exact ⟨a, b, .inr ⟨rfl, c, .inr ⟨i, hJx _ _ _ h e, d⟩⟩⟩
  · have put : ∀ {W : World} {o o' : Obj}, W.heap[w.heap.size]? = some oD → (W.putObj (w.heap.size + 1) o').heap[w.heap.size]? = some (.deferred (some [])) := by
      intro W o o' h
      rw [heap_putObj, Array.getElem?_setIfInBounds_ne (by omega), h, hD]
    rintro e W ⟨hv, ⟨xs, hS, h1, h2, h3⟩ | ⟨h2, ⟨h1, h3⟩ | ⟨i, h1, h3⟩⟩⟩
    · exact ⟨hv, .inl ⟨h3, hdone xs _ hS (hI _ _ _ h1 (.put (by omega) h3 hnL)) (put (o := oD) h2)⟩⟩
    · exact ⟨hv, .inr (.inl ⟨h3, hret _ (hJr _ _ h1 (.put (by omega) h3 (hnX _))) (put (o := oD) h2)⟩)⟩
    · exact ⟨hv, .inr (.inr ⟨i, h3, hext i _ (hJx _ _ _ h1 (.put (by omega) h3 (hnX _))) (put (o := oD) h2)⟩)⟩
end Go.Fw
