/- Digests in order: what a store tells of all its digests. -/
import Derived.Test.YtkolbfjheleoaaaDoorSi
import Derived.Test.YtkolbfjheleoaaaDoorTc
import Derived.Test.YtkolbfjheleoaaaDoorFwV
import Derived.Test.YtkolbfjheleoaaaDoorFwO
import Derived.Test.YtkolbfjheleoaaaDoorLay
namespace Go.Proofs.YtkolbfjheleoaaaDoor
open Go Go.Fw Go.Proofs

theorem uS27 : P.underlying y_S_api_Digest = some (.slice y_api_Digest) := by kernel_rfl
theorem E27 : Elem P y_api_Digest 32 32 := elem_of (z := arr (List.replicate 32 0)) (by kernel_rfl) rfl
theorem sz5 : (P.info? y_uint8).map (·.size) = some 1 := by kernel_rfl
theorem bcompare_c {w : World} {H : Heap} {a a' : Option Addr} {l c l' c' : Nat} {L L' : List UInt8} (hw : w.heap = H) (hL : Cells H a (byteCells L)) (hl : l = L.length) (hL' : Cells H a' (byteCells L')) (hl' : l' = L'.length) :
    CallF P F_bytes_Compare #[.slice a l c, .slice a' l' c'] w fun e w' => e = .returned (.int .i64 (Lib.compareBytes L L')) ∧ w' = w := by
  refine fn_bytes_Compare ?_
  unfold T_bytes_Compare
  refine callF_ext (l := [.int .i64]) (t := Lib.compareBytes L L') ?_ ⟨rfl, rfl⟩
  rw [x_internal_bytealg_Compare (e := Extern.BytealgCompare.compare) (by kernel_rfl), run_compare_sl hw hL hl hL' hl']
  rfl
theorem oneCells_arr {k : List UInt8} : oneCells (Value.cells (arr k)).toList := one_byteCells
theorem compare_c {w : World} {k k' : List UInt8} (hk : k.length = 32) (hk' : k'.length = 32) :
    CallF P F_sha_Compare #[arr k, arr k'] w fun e w' => e = .returned (.int .i64 (Lib.compareBytes k k')) ∧ Ext [] w.heap w'.heap := by
  refine fn_sha_Compare ?_
  unfold T_sha_Compare
  refine newB_h rfl fun w1 hw1 => ?_
  refine newB_h hw1 fun w2 hw2 => ?_
  refine drewP_h hw2 fun w3 hw3 => ?_
  refine genQ_of (s := .slc) (some ⟨w.heap.size, 0, none⟩, 32, 32) (run_slice_arr u27 sz5 .no .no (Nat.zero_le _) (Nat.le_refl _)) ?_
  refine genQ_of (s := .slc) (some ⟨(w.heap.push (.cells (Value.cells (arr k)) y_api_Digest)).size, 0, none⟩, 32, 32) (run_slice_arr u27 sz5 .no .no (Nat.zero_le _) (Nat.le_refl _)) ?_
  refine callF_of (bcompare_c (L := k) (L' := k') hw3 ?_ hk.symm ?_ hk'.symm) ?_
  · exact .inr ⟨_, 0, _, _, _, rfl, push_old push_new, by simp [arr, Value.cells, byteCells], by rw [Nat.zero_add]; simp [arr, Value.cells, byteCells, List.take_of_length_le]⟩
  · exact .inr ⟨_, 0, _, _, _, rfl, push_new, by simp [arr, Value.cells, byteCells], by rw [Nat.zero_add]; simp [arr, Value.cells, byteCells, List.take_of_length_le]⟩
  rintro e w4 ⟨rfl, rfl⟩
  exact ⟨_, rfl, rfl, by rw [hw3]; exact (Ext.push _).trans (Ext.push _)⟩

/-- The keys of a map, one by one, in whatever order. -/
theorem seq_keys {w : World} {H : Heap} {b m : Nat} {r : SM} {c : Nat} (hw : w.heap = H) (hb : H[b]? = some (.cells #[.map (some m)] y_M_api_Digest_S_uint8 (0, 0))) (hm : H[m]? = some (.map (ents arr (vl bv r)) c)) (hr : MOk (fun L => L.length = 32) r c) :
    SeqC P (.func (.func F_maps_Keys_M_api_Digest_S_byte_api_Digest_S_byte_1) #[] #[.pointer (some ⟨b, 0, none⟩)]) (fun xs => xs.Perm (r.map (·.1))) (fun pre x => x ∈ r.map (·.1) ∧ pre.length < r.length) (fun x => #[arr x]) [b, m] w := by
  refine ⟨_, _, rfl, fun l I J w1 M hx1 hM hst h0 hY => ?_⟩
  have hb1 := (hw ▸ hx1).get hb (by simp)
  have hm1 := (hw ▸ hx1).get hm (by simp)
  refine fn_maps_Keys_M_api_Digest_S_byte_api_Digest_S_byte_1 ?_
  unfold T_maps_Keys_M_api_Digest_S_byte_api_Digest_S_byte_1
  simp only [withAddr_some]
  refine ld_h (s := .map) (t := some m) rfl hb1 rfl ?_
  refine genL_of (s := .ptr) (some ⟨w1.heap.size, 0, none⟩) _ (range_h u57 rfl hm1) ?_
  have hlt : m < w1.heap.size := lt_of_get hm1
  -- the loop
  refine loopP_ix (fun n _ W => ∃ pre seen last, I pre W ∧ W.heap[m]? = some (.map (ents arr (vl bv r)) c) ∧ W.heap[w1.heap.size]? = some (.mapIter (some m) c seen last) ∧ c ≤ last ∧
      pre.Perm ((r.filter fun y => seen.contains y.2.2).map (·.1)) ∧ n = (r.filter fun y => !seen.contains y.2.2).length) (r.filter fun y => !(#[] : Array Nat).contains y.2.2).length ?_ ?_
  · refine ⟨[], #[], c, hst _ _ _ h0 (.new (Nat.le_refl _) (.push _)), push_old hm1, push_new, Nat.le_refl _, ?_, rfl⟩
    simp
  rintro n _ W ⟨pre, seen, last, hI, hmW, hrW, hcl, hpre, rfl⟩ K hK
  rcases next_v (P := P) (ty := y_tuple_bcd8b0) rfl hmW hrW (fun x hx => hr.old x hx) hcl with ⟨hall, W1, hn, hc1, hh1⟩ | ⟨x, hx, hns, W1, hn, hc1, hh1⟩
  · refine genL_of (s := .any) _ W1 hn ?_ hc1
    refine exV_of (s := .bool) false rfl rfl ?_
    refine iteP_f rfl ?_
    refine ⟨⟨_, rfl⟩, .inl ⟨pre, ?_, hst _ _ _ hI (.new (by have := lt_of_get hrW; omega) (by rw [hh1]; exact .refl _ _))⟩⟩
    have : (r.filter fun y => seen.contains y.2.2) = r := List.filter_eq_self.2 fun y hy => by simpa using hall y hy
    rw [this] at hpre
    exact hpre
  · refine genL_of (s := .any) _ W1 hn ?_ hc1
    refine exV_of (s := .bool) true rfl rfl ?_
    refine iteP_t rfl ?_
    have hrlt := lt_of_get hrW
    have hr1 : W1.heap[w1.heap.size]? = some (.mapIter (some m) c (seen.push x.2.2) c) := by rw [hh1]; exact Array.getElem?_setIfInBounds_self_of_lt hrlt
    have hm2 : W1.heap[m]? = some (.map (ents arr (vl bv r)) c) := by rw [hh1, Array.getElem?_setIfInBounds_ne (by omega)]; exact hmW
    refine genQ_of (s := .any) _ (entry_v (last := c) rfl hm2 hr1 hx hr) ?_
    refine exV_of (s := .any) (arr x.1) rfl rfl ?_
    have hxl : x.1.length = 32 := hr.fine x hx
    refine var_g (P := P) (H := W1.heap) (size27.trans (by rw [cells_arr, hxl])) (by rw [zc27, cells_arr, hxl]; simp) (by rw [cells_arr, hxl]; omega) oneCells_arr rfl fun W2 hW2 => ?_
    refine ldA_all hW2 push_new (by rw [cells_arr, hxl]) ?_
    have hA : Beside w1.heap.size W W1 := ⟨w1.heap.size, Nat.le_refl _, (fun o ho => by rw [hrW] at ho; cases ho; intro _ _ _ h; cases h), (by rw [hh1]; exact ⟨by simp, fun b _ hn => Array.getElem?_setIfInBounds_ne (by rintro rfl; exact hn (by simp))⟩)⟩
    have hs1 : W1.heap.size = W.heap.size := by rw [hh1]; simp
    have hx12 : Ext [] W1.heap W2.heap := by rw [hW2]; exact .push _
    have hI2 : I pre W2 := hst _ _ _ (hst _ _ _ hI hA) (.new (by omega) hx12)
    have hm3 : W2.heap[m]? = some (.map (ents arr (vl bv r)) c) := hx12.get hm2 (by simp)
    have hr2 : W2.heap[w1.heap.size]? = some (.mapIter (some m) c (seen.push x.2.2) c) := hx12.get hr1 (by simp)
    have hplen : pre.length < r.length := by
      rw [hpre.length_eq, List.length_map]
      have h1 := left_lt hx hns
      have h2 : (r.filter fun y => seen.contains y.2.2).length + (r.filter fun y => !seen.contains y.2.2).length = r.length := by
        rw [← List.length_append]
        exact (List.filter_append_perm (fun y : List UInt8 × BV × Nat => seen.contains y.2.2) r).length_eq
      omega
    refine callV_yield ((hY pre x.1 W2 ⟨List.mem_map_of_mem hx, hplen⟩ hI2).mono ?_)
    rintro e W3 ⟨hx3, ⟨rfl, hI3⟩ | ⟨rfl, hJ3⟩⟩
    · refine ⟨true, rfl, ?_⟩
      refine iteP_f rfl ?_
      refine hK _ _ _ (left_lt hx hns) ⟨pre ++ [x.1], seen.push x.2.2, c, hI3, hx3.get hm3 hlt (fun h => (hM _ h).2 (by simp)), hx3.2.2 _ _ (Nat.le_refl _) hr2 (by intro _ _ _ h; cases h), Nat.le_refl _, ?_, rfl⟩
      refine .trans ?_ ((seen_perm hr.born hx hns).map _).symm
      rw [List.map_append]
      exact hpre.append_right _
    · refine ⟨false, rfl, ?_⟩
      exact iteP_t rfl ⟨⟨_, rfl⟩, .inr hJ3⟩

/-- Any bytes as a digest's: the first 32, noughts behind. -/
def pad (L : List UInt8) : List UInt8 := (L ++ List.replicate 32 0).take 32
theorem len_pad (L : List UInt8) : (pad L).length = 32 := by simp [pad]
theorem pad_eq {L : List UInt8} (h : L.length = 32) : pad L = L := by unfold pad; rw [← h]; simp
def enc32 (L : List UInt8) : List Value := byteCells (pad L)
theorem len_enc32 (L : List UInt8) : (enc32 L).length = 32 := by rw [enc32, length_byteCells, len_pad]
theorem enc32_eq {L : List UInt8} (h : L.length = 32) : enc32 L = byteCells L := by rw [enc32, pad_eq h]
theorem agg32 {L : List UInt8} (h : L.length = 32) : Value.agg (enc32 L).toArray = arr L := by rw [enc32_eq h]; rfl
theorem cells_agg32 {L : List UInt8} : (Value.agg (enc32 L).toArray).cells = (enc32 L).toArray := rfl
theorem one_enc32 {L : List UInt8} : oneCells (enc32 L) := one_byteCells

/-- What an iterator yields is collected. -/
theorem appendseq_c {w : World} {H : Heap} {gv : Value} {S : List (List UInt8) → Prop} {nx : List (List UInt8) → List UInt8 → Prop} {fp : List Nat} {n : Nat} (hw : w.heap = H) (hseq : SeqC P gv S nx (fun x => #[arr x]) fp w) (hfp : ∀ b ∈ fp, b < H.size)
    (hnx : ∀ pre x, nx pre x → x.length = 32 ∧ pre.length < n) (hn : n ≤ 1099511627776) :
    CallF P F_slices_AppendSeq_S_api_Digest_api_Digest #[.slice none 0 0, gv] w fun e w' => ∃ x xs, e = .returned (slcV x) ∧ S xs ∧ xs.length ≤ n ∧ (∀ L ∈ xs, L.length = 32) ∧ Mine w'.heap H.size y_api_Digest 32 x (xs.flatMap enc32) ∧ Ext [] H w'.heap := by
  refine fn_slices_AppendSeq_S_api_Digest_api_Digest ?_
  unfold T_slices_AppendSeq_S_api_Digest_api_Digest
  refine newB_h hw fun w1 hw1 => ?_
  have hx1 : Ext [] H w1.heap := by rw [hw1]; exact .push _
  have hs1 : w1.heap.size = H.size + 1 := by rw [hw1]; simp
  refine range_of (α := List UInt8) (shs := [.any]) (tv := fun x => arr x) (fp := fp) (hseq.later (by rw [hw]; exact hx1)) [H.size] (fun b hb => by simp only [List.mem_singleton] at hb; subst hb; exact ⟨by omega, fun h => by have := hfp _ h; omega⟩) (fun b hb => by have := hfp b hb; omega)
    (fun pre W => ∃ x, Ext [] H W.heap ∧ W.heap[H.size]? = some (.cells #[slcV x] y_S_api_Digest (0, 0)) ∧ Mine W.heap (H.size + 1) y_api_Digest 32 x (pre.flatMap enc32) ∧ pre.length ≤ n ∧ ∀ L ∈ pre, L.length = 32)
    (fun _ => False) (fun _ _ => False) ?_ (fun _ _ h _ => h.elim) (fun _ _ _ h _ => h.elim) ?_ ?_ ?_ (fun _ h => h.elim) (fun _ _ h => h.elim)
  · rintro pre W W' ⟨x, h1, h2, h3, h4⟩ hB
    exact ⟨x, hB.ext (by omega) h1, hB.cells h2, hB.mine h3, h4⟩
  · exact ⟨(none, 0, 0), hx1, by rw [hw1]; exact push_new, .inl ⟨rfl, rfl⟩, Nat.zero_le _, by simp⟩
  · rintro pre k W hk ⟨x, h1, h2, h3, h4, h5⟩ hsz beg kc kr kx hbeg
    obtain ⟨hk32, hpl⟩ := hnx pre k hk
    have hlx : x.2.1 = pre.length := by
      have := h3.len
      rw [length_flatMap_k enc32 len_enc32] at this
      omega
    refine var_g (P := P) (v := arr k) (size27.trans (by rw [cells_arr, hk32])) (by rw [zc27, cells_arr, hk32]; simp) (by rw [cells_arr, hk32]; omega) oneCells_arr rfl fun W1 hW1 => ?_
    have hx01 : Ext [] W.heap W1.heap := by rw [hW1]; exact .push _
    refine hbeg W1 _ hx01 fun W2 hB2 hs2 hkc _ _ => ?_
    have hb2 : W2.heap[H.size]? = some (.cells #[slcV x] y_S_api_Digest (0, 0)) := hB2.cells (hx01.get h2 (by simp))
    have hv2 : W2.heap[W.heap.size]? = some (.cells (arr k).cells y_api_Digest (0, 0)) := hB2.cells (by rw [hW1]; exact push_new)
    have hm2 : Mine W2.heap (H.size + 1) y_api_Digest 32 x (pre.flatMap enc32) := hB2.mine (h3.ext hx01 (by simp))
    have he2 : Ext [] H W2.heap := hB2.ext (by omega) (h1.trans hx01)
    refine ld_h (s := .slc) (t := x) rfl hb2 rfl ?_
    refine ldA_all rfl hv2 (by rw [cells_arr, hk32]) ?_
    refine genL_of (s := .slc) (some ⟨W2.heap.size, 0, none⟩, 1, 1) _ (build1_g E27 uS27 (v := .agg (arr k).cells) (by show (arr k).cells.size = 32; rw [cells_arr, hk32]) (by omega) (by omega)) ?_
    have hxp : Ext [] W2.heap (W2.heap.push (.cells (Value.agg (arr k).cells).cells y_api_Digest)) := .push _
    have hc1 : (Value.agg (arr k).cells).cells = (enc32 k).toArray := by rw [enc32_eq hk32]; rfl
    refine append_g (bts := 32) (n := 1) (us := enc32 k) (H := W2.heap.push (.cells (Value.agg (arr k).cells).cells y_api_Digest)) E27 (by omega) uS27 (slice_noint uS27) rfl (hm2.ext hxp (by simp)) (by have := he2.1; simp; omega)
      (Src.slc rfl (.inr ⟨W2.heap.size, 0, _, _, _, rfl, push_new, by rw [hc1]; simp, by rw [hc1, Nat.zero_add]; simp⟩) (by rw [len_enc32])) one_enc32 (by omega) ?_
    intro x' W4 hm4 hl4 hx4 _
    have hb4 : W4.heap[H.size]? = some (.cells #[slcV x] y_S_api_Digest (0, 0)) := hx4.get (hxp.get hb2 (by simp)) (fun h => by have := ownM_ge hm2 _ h; omega)
    refine stC_h rfl hb4 (by simp) fun W5 hW5 => ?_
    have hg4 : ∀ b ∈ ownM x', H.size + 1 ≤ b := ownM_ge hm4
    have hx45 : Ext [H.size] W4.heap W5.heap := by rw [hW5]; exact ⟨by simp, fun b _ hn => Array.getElem?_setIfInBounds_ne (by rintro rfl; exact hn (by simp))⟩
    have hx25 : Ext (H.size :: ownM x) W2.heap W5.heap := (hxp.mono (by simp)).trans ((hx4.mono (by intro b hb; exact List.mem_cons_of_mem _ hb)).trans (hx45.mono (by simp)))
    have hK25 : Keep [H.size] w1.heap.size W2.heap W5.heap := by
      refine .of hx25 (fun b hb => ?_) (by simp; omega)
      rcases List.mem_cons.1 hb with rfl | hb
      · exact .inl (by simp)
      · right
        refine ⟨by have := ownM_ge hm2 b hb; omega, ?_⟩
        rcases hm2 with ⟨rfl, _⟩ | ⟨b', c, hx1', _, hbb, _⟩
        · simp [ownM] at hb
        · simp [ownM, hx1'] at hb; subst hb; exact ⟨_, _, _, hbb⟩
    refine hkc W5 hK25 ⟨x', ?_, ?_, ?_, by rw [List.length_append, List.length_singleton]; omega, ?_⟩
    · exact hK25.ext he2 (by omega) (by intro b hb hm; simp only [List.mem_singleton] at hm; omega)
    · rw [hW5]; exact set_new hb4
    · rw [List.flatMap_append, List.flatMap_singleton]
      exact hm4.ext hx45 (fun b hb => by have := hg4 b hb; simp; omega)
    · intro L hL
      rcases List.mem_append.1 hL with hL | hL
      · exact h5 L hL
      · simp only [List.mem_singleton] at hL; rw [hL]; exact hk32
  · rintro xs W hS ⟨x, h1, h2, h3, h4, h5⟩ hD
    refine ld_h (s := .slc) (t := x) rfl h2 rfl ?_
    refine ⟨hD, fun W' hW' => ⟨x, xs, rfl, hS, h4, h5, ?_, ?_⟩⟩
    · have hB : Beside w1.heap.size W W' := by rw [hW']; exact .put (Nat.le_refl _) hD (by intro _ _ _ h; cases h)
      exact (hB.mine h3).mono (by omega)
    · have hB : Beside w1.heap.size W W' := by rw [hW']; exact .put (Nat.le_refl _) hD (by intro _ _ _ h; cases h)
      exact hB.ext (by omega) h1

theorem collect_c {w : World} {H : Heap} {gv : Value} {S : List (List UInt8) → Prop} {nx : List (List UInt8) → List UInt8 → Prop} {fp : List Nat} {n : Nat} (hw : w.heap = H) (hseq : SeqC P gv S nx (fun x => #[arr x]) fp w) (hfp : ∀ b ∈ fp, b < H.size)
    (hnx : ∀ pre x, nx pre x → x.length = 32 ∧ pre.length < n) (hn : n ≤ 1099511627776) :
    CallF P F_slices_Collect_api_Digest #[gv] w fun e w' => ∃ x xs, e = .returned (slcV x) ∧ S xs ∧ xs.length ≤ n ∧ (∀ L ∈ xs, L.length = 32) ∧ Mine w'.heap H.size y_api_Digest 32 x (xs.flatMap enc32) ∧ Ext [] H w'.heap := by
  refine fn_slices_Collect_api_Digest ?_
  unfold T_slices_Collect_api_Digest
  refine callF_of (appendseq_c hw hseq hfp hnx hn) ?_
  rintro e w' ⟨x, xs, rfl, h⟩
  exact ⟨x, rfl, x, xs, rfl, h⟩
/-- Digests in order. -/
def InOrder (xs : List (List UInt8)) : Prop := xs.Pairwise fun a b => ¬ Lib.compareBytes (pad b) (pad a) < 0
theorem sortfunc_c {w : World} {H : Heap} {B : Nat} {x : Option Addr × Nat × Nat} {xs : List (List UInt8)} (hw : w.heap = H) (hM : Mine H B y_api_Digest 32 x (xs.flatMap enc32)) (hn : xs.length ≤ 1099511627776) :
    CallF P F_slices_SortFunc_S_api_Digest_api_Digest #[.slice x.1 x.2.1 x.2.2, .func (.func F_sha_Compare) #[] #[]] w fun e w' => e = .returned (.tuple #[]) ∧ ∃ ys : List (List UInt8), ys.Perm xs ∧ InOrder ys ∧ Mine w'.heap B y_api_Digest 32 x (ys.flatMap enc32) ∧ Ext (ownM x) H w'.heap :=
  sort_h (α := List UInt8) Tryd.sortD (k := 32) (fun w => by kernel_rfl) (fun w => by kernel_rfl) enc32 len_enc32 (by omega) (fun x => one_enc32) (fun x y => Lib.compareBytes (pad x) (pad y)) (swo_cmpB pad) (g := F_sha_Compare) (fun args w => by kernel_rfl) (fun args w => by kernel_rfl)
    (fun W x y => compare_c (len_pad x) (len_pad y)) hw hM (by omega)
theorem sortedfunc_c {w : World} {H : Heap} {gv : Value} {S : List (List UInt8) → Prop} {nx : List (List UInt8) → List UInt8 → Prop} {fp : List Nat} {n : Nat} (hw : w.heap = H) (hseq : SeqC P gv S nx (fun x => #[arr x]) fp w) (hfp : ∀ b ∈ fp, b < H.size)
    (hnx : ∀ pre x, nx pre x → x.length = 32 ∧ pre.length < n) (hn : n ≤ 1099511627776) :
    CallF P F_slices_SortedFunc_api_Digest #[gv, .func (.func F_sha_Compare) #[] #[]] w fun e w' => ∃ x xs ys, e = .returned (slcV x) ∧ S xs ∧ ys.Perm xs ∧ InOrder ys ∧ xs.length ≤ n ∧ (∀ L ∈ xs, L.length = 32) ∧ Mine w'.heap H.size y_api_Digest 32 x (ys.flatMap enc32) ∧ Ext [] H w'.heap := by
  refine fn_slices_SortedFunc_api_Digest ?_
  unfold T_slices_SortedFunc_api_Digest
  refine callF_of (collect_c hw hseq hfp hnx hn) ?_
  rintro e w1 ⟨x, xs, rfl, hS, hl, h32, hM, hx⟩
  refine ⟨x, rfl, ?_⟩
  refine callF_of (l := []) (sortfunc_c rfl hM (by omega)) ?_
  rintro e w2 ⟨rfl, ys, hp, ho, hM2, hx2⟩
  exact ⟨(), rfl, x, xs, ys, rfl, hS, hp, ho, hl, h32, hM2, hx.own hx2 (by intro b hb; have := ownM_ge hM b hb; omega)⟩

/-- The digests of a list, one by one. -/
theorem seq_values {w : World} {H : Heap} {b : Nat} {x : Option Addr × Nat × Nat} {xs : List (List UInt8)} {B : Nat} (hw : w.heap = H) (hb : H[b]? = some (.cells #[slcV x] y_S_api_Digest (0, 0))) (hM : Mine H B y_api_Digest 32 x (xs.flatMap enc32)) (h32 : ∀ L ∈ xs, L.length = 32) (hn : xs.length ≤ 1099511627776) :
    SeqC P (.func (.func F_slices_Values_S_api_Digest_api_Digest_1) #[] #[.pointer (some ⟨b, 0, none⟩)]) (fun ys => ys = xs) (fun pre y => ∃ rest, xs = pre ++ y :: rest) (fun x => #[arr x]) (b :: ownM x) w := by
  refine ⟨_, _, rfl, fun l I J w1 M hx1 hMM hst h0 hY => ?_⟩
  have hx1 := hw ▸ hx1
  have hb1 := hx1.get hb (by simp)
  have hM1 : Mine w1.heap B y_api_Digest 32 x (xs.flatMap enc32) := hM.ext hx1 (by simp)
  have hlx : x.2.1 = xs.length := by
    have := hM.len
    rw [length_flatMap_k enc32 len_enc32] at this
    omega
  refine fn_slices_Values_S_api_Digest_api_Digest_1 ?_
  unfold T_slices_Values_S_api_Digest_api_Digest_1
  simp only [withAddr_some]
  refine ld_h (s := .slc) (t := x) rfl hb1 rfl ?_
  refine loopP_of (fun s W => ∃ i : Nat, s = (i : Int) ∧ i ≤ xs.length ∧ I (xs.take i) W ∧ Mine W.heap B y_api_Digest 32 x (xs.flatMap enc32) ∧ w1.heap.size ≤ W.heap.size ∧ ∀ b ∈ ownM x, b < w1.heap.size) (fun s _ => (xs.length - s).toNat)
    ⟨0, rfl, Nat.zero_le _, h0, hM1, Nat.le_refl _, ?_⟩ ?_
  · intro b hb
    rcases hM1 with ⟨rfl, _⟩ | ⟨b', c, hx1', _, hbb, _⟩
    · simp [ownM] at hb
    · simp [ownM, hx1'] at hb; subst hb; exact lt_of_get hbb
  rintro _ W ⟨i, rfl, hi, hI, hMW, hsz, hlt⟩
  refine iteP_dec (fun hil => ?_) (fun hil => ?_)
  · have hil : i < xs.length := by rw [hlx] at hil; omega
    have hk32 : xs[i].length = 32 := h32 _ (List.getElem_mem hil)
    refine elem_ld (i := i) len_enc32 (by omega) rfl hMW.cells hlx (List.getElem?_eq_getElem hil) rfl ?_
    rw [agg32 hk32]
    refine var_g (P := P) (v := arr xs[i]) (size27.trans (by rw [cells_arr, hk32])) (by rw [zc27, cells_arr, hk32]; simp) (by rw [cells_arr, hk32]; omega) oneCells_arr rfl fun W1 hW1 => ?_
    have hx01 : Ext [] W.heap W1.heap := by rw [hW1]; exact .push _
    refine ldA_all (c := (arr xs[i]).cells) hW1 push_new (by rw [cells_arr, hk32]) ?_
    refine callV_yield ((hY (xs.take i) xs[i] W1 ⟨xs.drop (i + 1), by simp⟩ (hst _ _ _ hI (.new hsz hx01))).mono ?_)
    rintro e W2 ⟨hK, ⟨rfl, hI2⟩ | ⟨rfl, hJ2⟩⟩
    · refine ⟨true, rfl, ?_⟩
      refine iteP_f rfl ?_
      refine addI_to ((i + 1 : Nat) : Int) (by omega) (by omega) (by omega) ?_
      refine ⟨⟨i + 1, rfl, by omega, ?_, ?_, ?_, hlt⟩, by omega⟩
      · rw [List.take_add_one, List.getElem?_eq_getElem hil]
        exact hI2
      · have hM01 := hMW.ext hx01 (by simp)
        rcases hM01 with h | ⟨b', c, hx1', h2, hbb, h4⟩
        · exact .inl h
        · exact .inr ⟨b', c, hx1', h2, hK.get hbb (hlt _ (by simp [ownM, hx1'])) (fun h => (hMM _ h).2 (by simp [ownM, hx1'])), h4⟩
      · exact Nat.le_trans hsz (Nat.le_trans hx01.1 hK.1)
    · refine ⟨false, rfl, ?_⟩
      exact iteP_t rfl ⟨⟨_, rfl⟩, .inr hJ2⟩
  · have hil : i = xs.length := by rw [hlx] at hil; omega
    refine ⟨⟨_, rfl⟩, .inl ⟨xs, rfl, ?_⟩⟩
    rw [hil, List.take_length] at hI
    exact hI
end Go.Proofs.YtkolbfjheleoaaaDoor
