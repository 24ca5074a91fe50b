/- The library's sort with a function, over slices that one owns. -/
import Derived.Test.YtbmegmbnlajbbaaGreatFwF
import Derived.Test.YtbmegmbnlajbbaaGreatFwL
import Derived.Shelf.SlSortCmp.WholeK
import Derived.Shelf.SlSortCmp.NoneTotal
namespace Go.Fw
open Go Go.Proofs Go.Shelf Go.RowKit Go.Lib Go.Sort

theorem getElem_flatMap {α : Type} {k : Nat} (enc : α → List Value) (hk : ∀ x, (enc x).length = k) (h0 : 0 < k) : ∀ (xs : List α) (t : Nat), (xs.flatMap enc)[t]? = (xs[t / k]?).bind fun x => (enc x)[t % k]?
  | [], t => by simp
  | x :: xs, t => by
    rw [List.flatMap_cons]
    by_cases ht : t < k
    · rw [List.getElem?_append_left (by rw [hk]; exact ht), Nat.div_eq_of_lt ht, Nat.mod_eq_of_lt ht]
      simp
    · rw [List.getElem?_append_right (by rw [hk]; omega), hk, getElem_flatMap enc hk h0 xs (t - k)]
      have h1 : t / k = (t - k) / k + 1 := by
        rw [Nat.div_eq_sub_div h0 (by omega)]
      have h2 : t % k = (t - k) % k := by rw [Nat.mod_eq_sub_mod (by omega)]
      rw [h1, h2]
      simp
theorem length_flatMap_k {α : Type} {k : Nat} (enc : α → List Value) (hk : ∀ x, (enc x).length = k) (xs : List α) : (xs.flatMap enc).length = xs.length * k := by
  induction xs with
  | nil => simp
  | cons x r ih => rw [List.flatMap_cons, List.length_append, hk, ih, List.length_cons, Nat.add_mul]; omega
theorem flatK_get {α : Type} [Inhabited α] {k : Nat} (enc : α → List Value) (hk : ∀ x, (enc x).length = k) (h0 : 0 < k) (d : Array α) (t : Nat) (h : t < d.size * k) : (d.toList.flatMap enc)[t]? = some (flatK enc k d)[t]! := by
  rw [getElem_flatMap enc hk h0, get_flatK enc k d t h]
  have h1 : t / k < d.size := (Nat.div_lt_iff_lt_mul h0).2 h
  have h2 : t % k < k := Nat.mod_lt _ h0
  simp only [Array.getElem?_toList]
  rw [Array.getElem?_eq_getElem h1, Option.bind_some, List.getElem?_eq_getElem (by rw [hk]; exact h2), getElem!_pos d _ h1, getElem!_pos _ _ (by rw [hk]; exact h2)]

/-- A world that has grown, and has drawn. -/
theorem grown_of {W W' : World} (hx : Ext [] W.heap W'.heap) (hc : Calm W W') : ∃ q os', W' = grow (W.drewN q) os' := by
  refine ⟨W'.drawn - W.drawn, W'.heap.extract W.heap.size W'.heap.size, ?_⟩
  obtain ⟨h1, h2⟩ := hx
  have hh : W'.heap = W.heap ++ W'.heap.extract W.heap.size W'.heap.size := by
    apply Array.ext_getElem?
    intro i
    by_cases hi : i < W.heap.size
    · rw [Array.getElem?_append_left hi]; exact h2 i hi (by simp)
    · rw [Array.getElem?_append_right (by omega), Array.getElem?_extract]
      by_cases hi' : i < W'.heap.size
      · rw [if_pos (by omega)]; congr 1; omega
      · rw [if_neg (by omega), Array.getElem?_eq_none (by omega)]
  obtain ⟨c1, c2, c3, c4⟩ := hc
  cases W' with
  | mk h t d o u =>
    simp only at hh c1 c2 c3 c4
    subst c1 c2 c3
    unfold grow World.drewN
    simp only [World.mk.injEq, and_self, and_true]
    exact ⟨hh, trivial, (Nat.add_sub_cancel' c4).symm⟩

variable {P : Program} {ρ : Ren} {α : Type} [Inhabited α]
theorem sort_h (L : SlLaysF0.n6 P ρ) {k : Nat} (aE : ∀ w, (isAgg (ρ.t 24)).run P w = .ok true w) (zE : ∀ w, (Go.sizeOf (ρ.t 24)).run P w = .ok k w) (enc : α → List Value) (hk : ∀ x, (enc x).length = k) (h0 : 0 < k)
    (h1 : ∀ x, ∀ v ∈ enc x, v.oneCell' = true) (cf : α → α → Int) (hO : SWO (ltOf cf)) {g : Nat} (eg : ∀ args w, (callFunc g args).run P w = .ok (.enter g args) w) (e6 : ∀ args w, (callFunc (ρ.f 6) args).run P w = .ok (.enter (ρ.f 6) args) w)
    (hcmp : ∀ W x y, CallF P g #[.agg (enc x).toArray, .agg (enc y).toArray] W fun e W' => e = .returned (.int .i64 (cf x y)) ∧ Ext [] W.heap W'.heap)
    {w : World} {H : Heap} (hw : w.heap = H) {B : Nat} {T : TypeId} {x : Option Addr × Nat × Nat} {xs : List α} (hM : Mine H B T k x (xs.flatMap enc)) (hlen : xs.length < 4611686018427387904) :
    CallF P (ρ.f 6) #[.slice x.1 x.2.1 x.2.2, .func (.func g) #[] #[]] w fun e w' => e = .returned (.tuple #[]) ∧ ∃ ys : List α, ys.Perm xs ∧ ys.Pairwise (fun a b => ¬ cf b a < 0) ∧ Mine w'.heap B T k x (ys.flatMap enc) ∧ Ext (ownM x) H w'.heap := by
  subst hw
  have hl := hM.len
  rw [length_flatMap_k enc hk] at hl
  have hxl : x.2.1 = xs.length := (Nat.eq_of_mul_eq_mul_right h0 hl).symm
  refine ⟨e6 _ _, ?_⟩
  rcases hM with ⟨rfl, hnil⟩ | ⟨b, c, hx1, hB, hb, hc, hl2, hle, he⟩
  · clear hxl hl
    have hx0 : xs = [] := by
      have := congrArg List.length hnil
      rw [length_flatMap_k enc hk, List.length_nil] at this
      rcases Nat.mul_eq_zero.1 this with h | h
      · exact List.eq_nil_of_length_eq_zero h
      · omega
    refine (AnyF.slices_SortFunc_none L none 0 _ w).mono ?_
    rintro e w' ⟨he, hw'⟩
    subst hw'
    exact ⟨⟨he, [], by rw [hx0], .nil, .inl ⟨rfl, rfl⟩, .refl _ _⟩, .refl _⟩
  · obtain ⟨xa, xl, xc⟩ := x
    simp only at hx1 hxl hc hl2 hle
    subst hx1 hxl
    have hlt : b < w.heap.size := lt_of_get hb
    have hcl : xs.length * k ≤ c.size := by rw [hc]; exact Nat.mul_le_mul_right k hle
    have hget : ∀ t, t < xs.length * k → c[t]? = (xs.flatMap enc)[t]? := by
      intro t ht
      rw [← he, Array.getElem?_toList, Array.getElem?_extract]
      rw [if_pos (by rw [length_flatMap_k enc hk]; omega)]
      simp
    have hH : HoldsK enc k w b 0 xs.toArray := by
      intro j hj
      simp only [size_flatK, List.size_toArray] at hj
      have h2 := flatK_get enc hk h0 xs.toArray j (by simpa using hj)
      refine ⟨?_, ?_⟩
      · rw [Nat.zero_add, cell_h rfl hb, hget j hj]
        simpa using h2
      · exact frozen_h rfl hb
    have hcon := AnyQ.slices_SortFunc L k aE zE enc hk h1 cf hO g #[] b 0 xc xs.toArray w eg (fun m os dk _ x y => ?_) hH hlt (by simpa using hlen)
    · simp only [List.size_toArray] at hcon
      refine hcon.mono ?_
      rintro e w' ⟨rfl, d', n, os, hp, hs, rfl⟩
      obtain ⟨hps, _, hpp⟩ := hp
      have hps' : d'.size = xs.length := by simpa using hps
      have hperm : d'.toList.Perm xs := by
        have h3 : (d'.extract 0 xs.length).toList = d'.toList := by
          simp only [Array.toList_extract, List.extract_eq_take_drop, List.drop_zero, Nat.sub_zero]
          exact List.take_of_length_le (by simp [hps'])
        have h4 : ((xs.toArray).extract 0 xs.length).toList = xs := by simp
        rw [h3, h4] at hpp
        exact hpp
      have hsort : d'.toList.Pairwise (fun a b => ¬ cf b a < 0) := by
        rw [List.pairwise_iff_getElem]
        intro i j hi hj hij
        have := hs i j (Nat.zero_le _) hij (by simpa [hps'] using hj)
        simp only [ltOf, decide_eq_false_iff_not] at this
        rw [getElem!_pos d' j (by simpa using hj), getElem!_pos d' i (by simpa using hi)] at this
        simpa using this
      have hheap : (sortWorldK enc k w b 0 n d' os).heap = (w.heap.setIfInBounds b (.cells (putCells id 0 (flatK enc k d') c) T (0, 0))) ++ os := by
        unfold sortWorldK grow putRowK putRow mapBlock
        simp only [Sort.ahead]
        congr 1
        apply Array.ext_getElem?
        intro i
        rw [Array.getElem?_modify]
        by_cases hib : b = i
        · subst hib
          simp only [if_pos, Array.getElem?_setIfInBounds_self_of_lt hlt, hb, Option.map_some]
          rfl
        · rw [if_neg hib, Array.getElem?_setIfInBounds_ne hib]
      have hsz : (putCells id 0 (flatK enc k d') c).size = c.size := by simp [putCells]
      have hext : Ext (ownM (some ⟨b, 0, none⟩, xs.length, xc)) w.heap (sortWorldK enc k w b 0 n d' os).heap := by
        rw [hheap]
        refine ⟨by simp, fun i hi hn => ?_⟩
        rw [Array.getElem?_append_left (by simpa using hi)]
        exact Array.getElem?_setIfInBounds_ne (by rintro rfl; exact hn (by simp [ownM]))
      refine ⟨⟨rfl, d'.toList, hperm, hsort, .inr ⟨b, _, rfl, hB, ?_, hsz.trans hc, ?_, hle, ?_⟩, hext⟩, ?_⟩
      · rw [hheap, Array.getElem?_append_left (by simpa using hlt), Array.getElem?_setIfInBounds_self_of_lt hlt]
      · rw [length_flatMap_k enc hk]; simp [hps']
      · apply List.ext_getElem?
        intro t
        rw [Array.getElem?_toList, Array.getElem?_extract, length_flatMap_k enc hk]
        simp only [Array.length_toList, hps']
        by_cases ht : t < xs.length * k
        · rw [if_pos (by omega)]
          have h5 := flatK_get enc hk h0 d' t (by rw [hps']; exact ht)
          rw [h5]
          have h6 : t < c.size := by omega
          simp only [putCells, Nat.zero_add, Array.getElem?_mapIdx, Array.getElem?_eq_getElem h6, Option.map_some]
          rw [if_pos ⟨Nat.zero_le _, by simp [hps', ht]⟩]
          rfl
        · rw [if_neg (by omega), List.getElem?_eq_none (by rw [length_flatMap_k enc hk]; simp [hps']; omega)]
      · unfold sortWorldK grow putRowK putRow mapBlock
        exact ⟨rfl, rfl, rfl, by simp [Sort.ahead]⟩
    · have h := (hcmp (sortWorldK enc k w b 0 m dk os) x y).2
      exact h.mono fun e W' ⟨⟨he, hx⟩, hc⟩ => ⟨he, grown_of hx hc⟩
end Go.Fw
