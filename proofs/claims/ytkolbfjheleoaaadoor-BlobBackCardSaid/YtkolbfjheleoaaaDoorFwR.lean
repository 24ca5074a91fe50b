/- From a contract over the heap to what a row asks. -/
import Derived.Test.YtkolbfjheleoaaaDoorFwN
import Derived.WalkKit
import Derived.ProofKit
import Derived.OpenShut
import Derived.Deep.DeepHandedRow
import Derived.Lib.LaidTab
import Derived.Carry
namespace Go.Fw
open Go Go.ChangeShapes Go.WideShapes Go.ChangeAt Go.RowKit

theorem cell_some {w : World} {b o : Nat} {s : Option _} {v : Value} (h : w.cell? ⟨b, o, s⟩ = some v) : s = none ∧ ∃ c T fr, w.heap[b]? = some (.cells c T fr) ∧ c[o]? = some v := by
  unfold World.cell? at h
  simp only at h
  split at h
  · rename_i c T fr hc
    split at h
    · cases h
    · rename_i hs
      refine ⟨by simpa using hs, c, T, fr, hc, h⟩
  · cases h

/-- An argument that is a slice of bytes. -/
theorem open_bytes {H : Type} {enc : TypeId × Value → H} {P : Program} {t e : TypeId} (ht : P.underlying t = some (.slice e)) (he : P.underlying e = some (.int .u8)) (hc : P.cellsOf e = 1) {W : World} {r : Reach} {b0 : Nat} {v : Value} {d : DataW H} {p : List MemPlace}
    (hval : Value.okWide P W r b0 t v) (h0 : DataW.Trod enc P W 0 (fun _ => true) true t v d p) :
    ∃ a l c L, v = .slice a l c ∧ Cells W.heap a (byteCells L) ∧ l = L.length ∧ l ≤ c := by
  obtain ⟨a, l, c, rfl⟩ := okWide_slice ht hval
  obtain ⟨fuel, hf⟩ := h0
  rcases open_ints ht he hc hf with ⟨hcs, _⟩ | ⟨a', len', cap', zs, hcs, _, hl, hm, hz, _, hcell, hwz⟩
  · simp [Value.cells] at hcs
    obtain ⟨rfl, rfl, rfl⟩ := hcs
    exact ⟨none, 0, 0, [], rfl, .inl rfl, rfl, Nat.le_refl _⟩
  · simp [Value.cells] at hcs
    obtain ⟨rfl, rfl, rfl⟩ := hcs
    simp only [if_true] at hz
    have hby : ∀ x ∈ zs, 0 ≤ x ∧ x < 256 := by
      intro x hx
      have h := hwz x hx
      have h1 : IntKind.u8.min = 0 := rfl
      have h2 : IntKind.u8.max = 255 := rfl
      simp only [Lit.wf, Bool.and_eq_true, decide_eq_true_eq] at h
      omega
    refine ⟨some a', l, c, (zs.take l).map fun x => UInt8.ofNat x.toNat, rfl, ?_, by simp; omega, hl⟩
    have hbc : byteCells ((zs.take l).map fun x => UInt8.ofNat x.toNat) = (zs.take l).map (Value.int .u8) := by
      simp only [byteCells, List.map_map]
      apply List.map_congr_left
      intro x hx
      have := hby x (List.mem_of_mem_take hx)
      simp only [Function.comp, Value.int.injEq, true_and]
      simp only [UInt8.toNat_ofNat']
      omega
    rw [hbc]
    by_cases h0 : l = 0
    · subst h0; exact .inl (by simp)
    · obtain ⟨b, o, s⟩ := a'
      have hs : s = none := by
        obtain ⟨hs, _⟩ := cell_some (hcell 0 (by omega))
        cases s with
        | none => rfl
        | some x => simp at hs
      subst hs
      have hcl : ∀ i, i < zs.length → W.cell? ⟨b, o + i, none⟩ = some (.int .u8 (zs.getD i 0)) := fun i hi => by rw [← add_none]; exact hcell i hi
      obtain ⟨_, cc, T, fr, hb, _⟩ := cell_some (hcl 0 (by omega))
      have hcc : ∀ i, i < zs.length → cc[o + i]? = some (.int .u8 (zs.getD i 0)) := by
        intro i hi
        obtain ⟨_, c2, T2, f2, h1, h2⟩ := cell_some (hcl i hi)
        rw [hb] at h1; cases h1; exact h2
      refine .inr ⟨b, o, cc, T, fr, rfl, hb, ?_, ?_⟩
      · have := (Array.getElem?_eq_some_iff.1 (hcc (l - 1) (by omega))).1
        simp; omega
      · apply List.ext_getElem?
        intro i
        rw [Array.getElem?_toList, Array.getElem?_extract]
        simp only [List.length_map, List.length_take, List.getElem?_map, List.getElem?_take]
        by_cases hi : i < l
        · have hiz : i < zs.length := by omega
          have := (Array.getElem?_eq_some_iff.1 (hcc i hiz)).1
          rw [if_pos (by omega), hcc i hiz, if_pos hi, List.getElem?_eq_getElem hiz]
          simp [List.getD_eq_getElem?_getD, List.getElem?_eq_getElem hiz]
        · rw [if_neg (by omega), if_neg hi]; rfl

theorem same_at {W W' : World} (h : ∀ i, i < W.heap.size → W'.heap[i]? = W.heap[i]?) {p : MemPlace} (hp : p.block < W.heap.size) : W.sameAt W' p := by
  cases p with
  | cell b off => simp only [World.sameAt, World.cell?]; rw [h b hp]
  | map b => exact h b hp
theorem trodAll_stays {H : Type} {enc : TypeId × Value → H} {P : Program} (hl : laidOutB P = true) {W W' : World} {sp' : Nat → Bool} (h : ∀ i, i < W.heap.size → W'.heap[i]? = W.heap[i]?) :
    ∀ {ts : List TypeId} {vs : List Value} {ds : List (DataW H)} {ps : List MemPlace}, (∀ t ∈ ts, P.readableRec t = true ∧ t < P.types.size) → (∀ p ∈ ps, p.block < W.heap.size ∧ sp' p.block = true) →
    DataW.TrodAll enc P W 0 (fun _ => true) true ts vs ds ps → DataW.TrodAll enc P W' 0 sp' true ts vs ds ps
  | [], vs, ds, ps, _, _, ht => by
    obtain ⟨rfl, rfl, rfl⟩ := trodAll_nil ht
    rfl
  | t :: ts, vs, ds, ps, hr, hp, ht => by
    obtain ⟨v, vs', d, ds', p, q, rfl, rfl, rfl, h1, h2⟩ := trodAll_cons ht
    refine ⟨p, q, ?_, trodAll_stays hl h (fun t ht => hr t (by simp [ht])) (fun x hx => hp x (by simp [hx])) h2, rfl⟩
    exact WideElems.Trod_stays hl (hr t (by simp)).1 (hr t (by simp)).2 h1 (fun x hx => same_at h (hp x (by simp [hx])).1) fun x hx => (hp x (by simp [hx])).2

/-- A law whose arguments read behind the call as they did, and that has no variables. -/
theorem post_calm {H : Type} {enc : TypeId × Value → H} {P : Program} {f : Func} {s : ChangeSpec} {apart fresh handsOn again : Bool} {W W' : World} {args : Array Value} {v : Value} {ds gs : List (DataW H)} {before : List MemPlace}
    (hl : laidOutB P = true) (hpar : ∀ t ∈ f.params.toList, P.readableRec t = true ∧ t < P.types.size) (hvars : s.vars = [])
    (hW : DataW.Whole enc P f.params.toList s.vars apart W args.toList ds gs before) (hfa : (s.fn H (ds ++ gs)).args = ds) (hfv : (s.fn H (ds ++ gs)).vars = [])
    (hres : ∀ (b : Nat) (sp : Nat → Bool) (hd : Bool), DataW.TrodAll enc P W' b sp hd f.resultTypes.toList (v.resultList f.resultTypes.size) (s.fn H (ds ++ gs)).results [])
    (hx : Ext [] W.heap W'.heap) (hc : Calm W W')
    (hok : ∀ (j : Nat) (t : TypeId) (r : Value), f.resultTypes[j]? = some t → (v.resultList f.resultTypes.size)[j]? = some r → Value.okWide P W' .any 0 t r) :
    s.post enc P f apart fresh handsOn again W args v W' := by
  have hsame : ∀ i, i < W.heap.size → W'.heap[i]? = W.heap[i]? := fun i hi => hx.2 i hi (by simp)
  have hlt : ∀ p ∈ before, p.block < W.heap.size := fun p hp => hW.lt p hp
  have hW0 := hW
  obtain ⟨pa, pv, hA, hV, rfl, hz, hn⟩ := hW
  rw [hvars] at hV
  obtain ⟨rfl, rfl⟩ := trodVars_none hV
  rw [List.append_nil] at hlt hz hn
  have hargs : ∀ sp : Nat → Bool, (∀ p ∈ pa, sp p.block = true) → DataW.TrodAll enc P W' 0 sp true f.params.toList args.toList (s.fn H (ds ++ [])).args pa := by
    intro sp hsp
    rw [hfa]
    exact trodAll_stays hl hsame hpar (fun p hp => ⟨hlt p hp, hsp p hp⟩) hA
  have hvs : ∀ sp : Nat → Bool, DataW.TrodVars enc P W' sp s.vars (s.fn H (ds ++ [])).vars [] := by
    intro sp
    rw [hvars, hfv]
    rfl
  refine ⟨ds, [], pa ++ [], [], pa, [], hW0, hres _ _ _, hargs _ (fun p hp => by simpa using hlt p hp), hvs _, ⟨hc.1, hc.2, fun i hi => ?_⟩, fun _ => ⟨hok, _, _, ([] ++ pa) ++ [], ⟨[] ++ pa, [], trodAll_append (hargs _ (fun _ _ => rfl)) (hres _ _ _), hvs _, rfl, ?_, ?_⟩, ?_⟩⟩
  · rw [hsame i hi]
    cases W.heap[i]? with
    | none => rfl
    | some o => cases o <;> first | exact ⟨rfl, rfl, rfl, fun _ _ => rfl⟩ | exact .inr ⟨rfl, rfl⟩ | rfl
  · intro b off hp
    have hp : MemPlace.cell b off ∈ pa := by simpa using hp
    have h1 := hz b off (by simpa using hp)
    have h2 := hsame b (hlt _ hp)
    unfold World.frozen? at h1 ⊢
    rw [h2]
    exact h1
  · intro ha
    simpa using hn ha
  · intro p hp _
    simpa using hp
end Go.Fw
