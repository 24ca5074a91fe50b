/- From a contract over the heap to what a row asks. -/
import Derived.Test.YtbmegmbnlajbbaaGreatFwN
import Derived.Test.YtbmegmbnlajbbaaGreatFwF
import Derived.WalkKit
import Derived.ProofKit
import Derived.OpenShut
import Derived.Deep.DeepHandedRow
import Derived.Lib.LaidTab
import Derived.Carry
namespace Go.Fw
open Go Go.ChangeShapes Go.WideShapes Go.ChangeAt Go.RowKit

theorem cell_some {w : World} {b o : Nat} {s : Option _} {v : Value} (h : w.cell? ⟨b, o, s⟩ = some v) : s = none ∧ ∃ c T fr, w.heap[b]? = some (.cells c T fr) ∧ c[o]? = some v := by
  unfold World.cell? at h
  simp only at h
  split at h
  · rename_i c T fr hc
    split at h
    · cases h
    · rename_i hs
      refine ⟨by simpa using hs, c, T, fr, hc, h⟩
  · cases h

theorem bytes_of {H : Type} {enc : TypeId × Value → H} {P : Program} {t e : TypeId} (ht : P.underlying t = some (.slice e)) (he : P.underlying e = some (.int .u8)) (hc : P.cellsOf e = 1) {W : World} {v : Value} {d : DataW H} {p : List MemPlace}
    (hv : ∃ a l c, v = .slice a l c) (h0 : DataW.Trod enc P W 0 (fun _ => true) true t v d p) :
    ∃ a l c L, v = .slice a l c ∧ Cells W.heap a (byteCells L) ∧ l = L.length ∧ l ≤ c ∧ ((∀ n ∈ d.weights P t, n ≤ reachBytes) → P.bytesOf e = 1 → L.length ≤ reachBytes) := by
  obtain ⟨a, l, c, rfl⟩ := hv
  obtain ⟨fuel, hf⟩ := h0
  rcases open_ints ht he hc hf with ⟨hcs, _⟩ | ⟨a', len', cap', zs, hcs, _, hl, hm, hz, hxd, hcell, hwz⟩
  · simp [Value.cells] at hcs
    obtain ⟨rfl, rfl, rfl⟩ := hcs
    exact ⟨none, 0, 0, [], rfl, .inl rfl, rfl, Nat.le_refl _, fun _ _ => Nat.zero_le _⟩
  · simp [Value.cells] at hcs
    obtain ⟨rfl, rfl, rfl⟩ := hcs
    simp only [if_true] at hz
    have hby : ∀ x ∈ zs, 0 ≤ x ∧ x < 256 := by
      intro x hx
      have h := hwz x hx
      have h1 : IntKind.u8.min = 0 := rfl
      have h2 : IntKind.u8.max = 255 := rfl
      simp only [Lit.wf, Bool.and_eq_true, decide_eq_true_eq] at h
      omega
    refine ⟨some a', l, c, (zs.take l).map fun x => UInt8.ofNat x.toNat, rfl, ?_, by simp; omega, hl, ?_⟩
    rotate_left
    · intro hw hb1
      simp only [Prod.mk.injEq] at hxd
      rw [hxd.1] at hw
      have := hw _ (by simp only [DataW.weights, ht]; exact List.mem_cons_self)
      simp [lits, hb1] at this
      simp
      omega
    have hbc : byteCells ((zs.take l).map fun x => UInt8.ofNat x.toNat) = (zs.take l).map (Value.int .u8) := by
      simp only [byteCells, List.map_map]
      apply List.map_congr_left
      intro x hx
      have := hby x (List.mem_of_mem_take hx)
      simp only [Function.comp, Value.int.injEq, true_and]
      simp only [UInt8.toNat_ofNat']
      omega
    rw [hbc]
    by_cases h0 : l = 0
    · subst h0; exact .inl (by simp)
    · obtain ⟨b, o, s⟩ := a'
      have hs : s = none := by
        obtain ⟨hs, _⟩ := cell_some (hcell 0 (by omega))
        cases s with
        | none => rfl
        | some x => simp at hs
      subst hs
      have hcl : ∀ i, i < zs.length → W.cell? ⟨b, o + i, none⟩ = some (.int .u8 (zs.getD i 0)) := fun i hi => by rw [← add_none]; exact hcell i hi
      obtain ⟨_, cc, T, fr, hb, _⟩ := cell_some (hcl 0 (by omega))
      have hcc : ∀ i, i < zs.length → cc[o + i]? = some (.int .u8 (zs.getD i 0)) := by
        intro i hi
        obtain ⟨_, c2, T2, f2, h1, h2⟩ := cell_some (hcl i hi)
        rw [hb] at h1; cases h1; exact h2
      refine .inr ⟨b, o, cc, T, fr, rfl, hb, ?_, ?_⟩
      · have := (Array.getElem?_eq_some_iff.1 (hcc (l - 1) (by omega))).1
        simp; omega
      · apply List.ext_getElem?
        intro i
        rw [Array.getElem?_toList, Array.getElem?_extract]
        simp only [List.length_map, List.length_take, List.getElem?_map, List.getElem?_take]
        by_cases hi : i < l
        · have hiz : i < zs.length := by omega
          have := (Array.getElem?_eq_some_iff.1 (hcc i hiz)).1
          rw [if_pos (by omega), hcc i hiz, if_pos hi, List.getElem?_eq_getElem hiz]
          simp [List.getD_eq_getElem?_getD, List.getElem?_eq_getElem hiz]
        · rw [if_neg (by omega), if_neg hi]; rfl

/-- An argument that is a slice of bytes. -/
theorem open_bytes {H : Type} {enc : TypeId × Value → H} {P : Program} {t e : TypeId} (ht : P.underlying t = some (.slice e)) (he : P.underlying e = some (.int .u8)) (hc : P.cellsOf e = 1) {W : World} {r : Reach} {b0 : Nat} {v : Value} {d : DataW H} {p : List MemPlace}
    (hval : Value.okWide P W r b0 t v) (h0 : DataW.Trod enc P W 0 (fun _ => true) true t v d p) :
    ∃ a l c L, v = .slice a l c ∧ Cells W.heap a (byteCells L) ∧ l = L.length ∧ l ≤ c ∧ ((∀ n ∈ d.weights P t, n ≤ reachBytes) → P.bytesOf e = 1 → L.length ≤ reachBytes) := bytes_of ht he hc (okWide_slice ht hval) h0
/-- A slice of bytes that lies in a cell. -/
theorem cell_bytes {H : Type} {enc : TypeId × Value → H} {P : Program} {t e : TypeId} (ht : P.underlying t = some (.slice e)) (he : P.underlying e = some (.int .u8)) (hc : P.cellsOf e = 1) {W : World} {v : Value} {fuel : Nat} {x : DataW H × List MemPlace}
    (h : DataW.trod enc P W 0 (fun _ => true) true fuel t [v] = some x) : ∃ a l c L, v = .slice a l c ∧ Cells W.heap a (byteCells L) ∧ l = L.length ∧ l ≤ c ∧ ((∀ n ∈ x.1.weights P t, n ≤ reachBytes) → P.bytesOf e = 1 → L.length ≤ reachBytes) := by
  have hs : ∃ a l c, v = .slice a l c := by
    rcases open_ints ht he hc h with ⟨hcs, _⟩ | ⟨a', len', cap', zs, hcs, _⟩
    · simp at hcs; exact ⟨_, _, _, hcs⟩
    · simp at hcs; exact ⟨_, _, _, hcs⟩
  obtain ⟨a, l, c, rfl⟩ := hs
  exact bytes_of ht he hc (v := .slice a l c) ⟨a, l, c, rfl⟩ ⟨fuel, h⟩
theorem cells_one {w : World} {a : Addr} {cs : List Value} (h : w.cells? 0 a 1 = some cs) : ∃ v, cs = [v] ∧ w.cell? (a.add 0) = some v := by
  simp only [World.cells?, Nat.zero_le, if_true, List.range_one, List.mapM_cons, List.mapM_nil, Option.bind_eq_bind, Option.bind_eq_some_iff, Option.pure_def, Option.some.injEq] at h
  obtain ⟨v, hv, _, rfl, rfl⟩ := h
  exact ⟨v, rfl, hv⟩
theorem weights_mem {H : Type} {P : Program} {e : TypeId} : ∀ {ds : List (DataW H)} {d : DataW H} {n : Nat}, d ∈ ds → n ∈ d.weights P e → n ∈ DataW.weightsAll P e ds
  | x :: r, d, n, hd, hn => by
    simp only [DataW.weightsAll, List.mem_append]
    rcases List.mem_cons.1 hd with rfl | hd
    · exact .inl hn
    · exact .inr (weights_mem hd hn)
/-- An argument that is a slice of slices of bytes. -/
theorem open_rows {H : Type} {enc : TypeId × Value → H} {P : Program} {t t1 e : TypeId} (ht : P.underlying t = some (.slice t1)) (ht1 : P.underlying t1 = some (.slice e)) (he : P.underlying e = some (.int .u8)) (hc : P.cellsOf e = 1) (hc1 : P.cellsOf t1 = 1) {W : World} {r : Reach} {b0 : Nat} {v : Value} {d : DataW H} {p : List MemPlace}
    (hval : Value.okWide P W r b0 t v) (h0 : DataW.Trod enc P W 0 (fun _ => true) true t v d p) :
    ∃ (a : Option Addr) (n nc : Nat) (Ls : List (List UInt8)), v = .slice a n nc ∧ (n = Ls.length ∧ ∀ i (h : i < Ls.length), ∃ (b o : Nat) (c : Array Value) (T : TypeId) (fr : Nat × Nat) (x : Option Addr × Nat × Nat), a = some ⟨b, o, none⟩ ∧ W.heap[b]? = some (.cells c T fr) ∧ c[o + i]? = some (.slice x.1 x.2.1 x.2.2) ∧ Cells W.heap x.1 (byteCells Ls[i]) ∧ x.2.1 = Ls[i].length ∧ x.2.1 ≤ x.2.2) ∧
      ((∀ m ∈ d.weights P t, m ≤ reachBytes) → P.bytesOf e = 1 → ∀ L ∈ Ls, L.length ≤ reachBytes) := by
  obtain ⟨a, n, nc, rfl⟩ := okWide_slice ht hval
  obtain ⟨fuel, hf⟩ := h0
  have key : ∀ i, i < n → ∃ L : List UInt8, (∃ (b o : Nat) (c : Array Value) (T : TypeId) (fr : Nat × Nat) (x : Option Addr × Nat × Nat), a = some ⟨b, o, none⟩ ∧ W.heap[b]? = some (.cells c T fr) ∧ c[o + i]? = some (.slice x.1 x.2.1 x.2.2) ∧ Cells W.heap x.1 (byteCells L) ∧ x.2.1 = L.length ∧ x.2.1 ≤ x.2.2) ∧
      ((∀ m ∈ d.weights P t, m ≤ reachBytes) → P.bytesOf e = 1 → L.length ≤ reachBytes) := by
    intro i hi
    rcases DataW.trod_slice ht hf with ⟨hcs, _⟩ | ⟨a', len, cap, elems, rest, m, _, hcs, hxd, _, _, _, hlen, hel, _⟩
    · simp [Value.cells] at hcs; omega
    · simp [Value.cells] at hcs
      obtain ⟨rfl, rfl, rfl⟩ := hcs
      have h := hel i hi
      rw [List.getElem?_eq_getElem (by omega)] at h
      simp only [Option.bind_eq_some_iff, hc1, Nat.mul_one] at h
      obtain ⟨cs, h1, h2⟩ := h
      obtain ⟨v, rfl, hv⟩ := cells_one h1
      obtain ⟨b, o, s⟩ := a'
      obtain ⟨xa, xl, xc, L, rfl, hC, hL1, hL2, hLw⟩ := cell_bytes ht1 he hc h2
      have hs : s = none := by
        have h := hel 0 (by omega)
        rw [List.getElem?_eq_getElem (by omega)] at h
        simp only [Option.bind_eq_some_iff, hc1, Nat.mul_one] at h
        obtain ⟨cs, h1, _⟩ := h
        obtain ⟨v, rfl, hv⟩ := cells_one h1
        obtain ⟨hs, _⟩ := cell_some hv
        simpa [Addr.add] using hs
      subst hs
      rw [add_none, add_none] at hv
      obtain ⟨_, cc, T, fr, hb, hcv⟩ := cell_some hv
      refine ⟨L, ⟨b, o, cc, T, fr, (xa, xl, xc), rfl, hb, hcv, hC, hL1, hL2⟩, fun hw hb1 => hLw (fun m hm => hw m ?_) hb1⟩
      simp only [Prod.mk.injEq] at hxd
      rw [hxd.1]
      simp only [DataW.weights, ht, List.mem_cons, List.mem_append]
      exact .inr (.inl (weights_mem (List.mem_map_of_mem (List.getElem_mem (by omega))) hm))
  classical
  refine ⟨a, n, nc, (List.range n).map fun i => if h : i < n then Classical.choose (key i h) else [], rfl, ⟨by simp, fun i hi => ?_⟩, fun hw hb1 L hL => ?_⟩
  · have hi' : i < n := by simpa using hi
    have := (Classical.choose_spec (key i hi')).1
    simpa [hi'] using this
  · simp only [List.mem_map, List.mem_range] at hL
    obtain ⟨i, hi, rfl⟩ := hL
    rw [dif_pos hi]
    exact (Classical.choose_spec (key i hi)).2 hw hb1
theorem same_at {W W' : World} (h : ∀ i, i < W.heap.size → W'.heap[i]? = W.heap[i]?) {p : MemPlace} (hp : p.block < W.heap.size) : W.sameAt W' p := by
  cases p with
  | cell b off => simp only [World.sameAt, World.cell?]; rw [h b hp]
  | map b => exact h b hp
theorem trodAll_stays {H : Type} {enc : TypeId × Value → H} {P : Program} (hl : laidOutB P = true) {W W' : World} {sp' : Nat → Bool} (h : ∀ i, i < W.heap.size → W'.heap[i]? = W.heap[i]?) :
    ∀ {ts : List TypeId} {vs : List Value} {ds : List (DataW H)} {ps : List MemPlace}, (∀ t ∈ ts, P.readableRec t = true ∧ t < P.types.size) → (∀ p ∈ ps, p.block < W.heap.size ∧ sp' p.block = true) →
    DataW.TrodAll enc P W 0 (fun _ => true) true ts vs ds ps → DataW.TrodAll enc P W' 0 sp' true ts vs ds ps
  | [], vs, ds, ps, _, _, ht => by
    obtain ⟨rfl, rfl, rfl⟩ := trodAll_nil ht
    rfl
  | t :: ts, vs, ds, ps, hr, hp, ht => by
    obtain ⟨v, vs', d, ds', p, q, rfl, rfl, rfl, h1, h2⟩ := trodAll_cons ht
    refine ⟨p, q, ?_, trodAll_stays hl h (fun t ht => hr t (by simp [ht])) (fun x hx => hp x (by simp [hx])) h2, rfl⟩
    exact WideElems.Trod_stays hl (hr t (by simp)).1 (hr t (by simp)).2 h1 (fun x hx => same_at h (hp x (by simp [hx])).1) fun x hx => (hp x (by simp [hx])).2

/-- A law whose arguments read behind the call as they did, and that has no variables. -/
theorem post_calm {H : Type} {enc : TypeId × Value → H} {P : Program} {f : Func} {s : ChangeSpec} {apart fresh handsOn again : Bool} {W W' : World} {args : Array Value} {v : Value} {ds gs : List (DataW H)} {before : List MemPlace}
    (hl : laidOutB P = true) (hpar : ∀ t ∈ f.params.toList, P.readableRec t = true ∧ t < P.types.size) (hvars : s.vars = [])
    (hW : DataW.Whole enc P f.params.toList s.vars apart W args.toList ds gs before) (hfa : (s.fn H (ds ++ gs)).args = ds) (hfv : (s.fn H (ds ++ gs)).vars = [])
    (hres : ∀ (b : Nat) (sp : Nat → Bool) (hd : Bool), DataW.TrodAll enc P W' b sp hd f.resultTypes.toList (v.resultList f.resultTypes.size) (s.fn H (ds ++ gs)).results [])
    (hx : Ext [] W.heap W'.heap) (hc : Calm W W')
    (hok : ∀ (j : Nat) (t : TypeId) (r : Value), f.resultTypes[j]? = some t → (v.resultList f.resultTypes.size)[j]? = some r → Value.okWide P W' .any 0 t r) :
    s.post enc P f apart fresh handsOn again W args v W' := by
  have hsame : ∀ i, i < W.heap.size → W'.heap[i]? = W.heap[i]? := fun i hi => hx.2 i hi (by simp)
  have hlt : ∀ p ∈ before, p.block < W.heap.size := fun p hp => hW.lt p hp
  have hW0 := hW
  obtain ⟨pa, pv, hA, hV, rfl, hz, hn⟩ := hW
  rw [hvars] at hV
  obtain ⟨rfl, rfl⟩ := trodVars_none hV
  rw [List.append_nil] at hlt hz hn
  have hargs : ∀ sp : Nat → Bool, (∀ p ∈ pa, sp p.block = true) → DataW.TrodAll enc P W' 0 sp true f.params.toList args.toList (s.fn H (ds ++ [])).args pa := by
    intro sp hsp
    rw [hfa]
    exact trodAll_stays hl hsame hpar (fun p hp => ⟨hlt p hp, hsp p hp⟩) hA
  have hvs : ∀ sp : Nat → Bool, DataW.TrodVars enc P W' sp s.vars (s.fn H (ds ++ [])).vars [] := by
    intro sp
    rw [hvars, hfv]
    rfl
  refine ⟨ds, [], pa ++ [], [], pa, [], hW0, hres _ _ _, hargs _ (fun p hp => by simpa using hlt p hp), hvs _, ⟨hc.1, hc.2.1, fun i hi => ?_⟩, fun _ => ⟨hok, _, _, ([] ++ pa) ++ [], ⟨[] ++ pa, [], trodAll_append (hargs _ (fun _ _ => rfl)) (hres _ _ _), hvs _, rfl, ?_, ?_⟩, ?_⟩⟩
  · rw [hsame i hi]
    cases W.heap[i]? with
    | none => rfl
    | some o => cases o <;> first | exact ⟨rfl, rfl, rfl, fun _ _ => rfl⟩ | exact .inr ⟨rfl, rfl⟩ | rfl
  · intro b off hp
    have hp : MemPlace.cell b off ∈ pa := by simpa using hp
    have h1 := hz b off (by simpa using hp)
    have h2 := hsame b (hlt _ hp)
    unfold World.frozen? at h1 ⊢
    rw [h2]
    exact h1
  · intro ha
    simpa using hn ha
  · intro p hp _
    simpa using hp
end Go.Fw
