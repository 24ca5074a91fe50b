/- A store tells its digests; a store is cloned; without a store there is nothing. -/
import Derived.Test.YtkolbfjheleoaaaDoorSo
namespace Go.Proofs.YtkolbfjheleoaaaDoor
open Go Go.Fw Go.Proofs

theorem keys_c {w : World} {H : Heap} (m : Option Nat) (hw : w.heap = H) : CallF P F_maps_Keys_M_api_Digest_S_byte_api_Digest_S_byte #[.map m] w fun e w' =>
    e = .returned (.func (.func F_maps_Keys_M_api_Digest_S_byte_api_Digest_S_byte_1) #[] #[.pointer (some ⟨H.size, 0, none⟩)]) ∧ w'.heap = H.push (.cells #[.map m] y_M_api_Digest_S_uint8) := by
  refine fn_maps_Keys_M_api_Digest_S_byte_api_Digest_S_byte ?_
  unfold T_maps_Keys_M_api_Digest_S_byte_api_Digest_S_byte
  refine newB_h hw fun w1 hw1 => ?_
  exact genQ_of (s := .any) _ rfl ⟨rfl, hw1⟩
theorem values_c {w : World} {H : Heap} (x : Option Addr × Nat × Nat) (hw : w.heap = H) : CallF P F_slices_Values_S_api_Digest_api_Digest #[.slice x.1 x.2.1 x.2.2] w fun e w' =>
    e = .returned (.func (.func F_slices_Values_S_api_Digest_api_Digest_1) #[] #[.pointer (some ⟨H.size, 0, none⟩)]) ∧ w'.heap = H.push (.cells #[slcV x] y_S_api_Digest) := by
  refine fn_slices_Values_S_api_Digest_api_Digest ?_
  unfold T_slices_Values_S_api_Digest_api_Digest
  refine newB_h hw fun w1 hw1 => ?_
  exact genQ_of (s := .any) _ rfl ⟨rfl, hw1⟩
/-- What All hands back: a closure over the sorted digests. -/
def Listed (H : Heap) (B : Nat) (gv : Value) (ys : List (List UInt8)) : Prop := ∃ b x, gv = .func (.func F_slices_Values_S_api_Digest_api_Digest_1) #[] #[.pointer (some ⟨b, 0, none⟩)] ∧ B ≤ b ∧ H[b]? = some (.cells #[slcV x] y_S_api_Digest (0, 0)) ∧ Mine H B y_api_Digest 32 x (ys.flatMap enc32) ∧ ∀ L ∈ ys, L.length = 32
theorem all_c {w : World} {H : Heap} {fp : List Nat} {p : Nat} {q : Int} {r : SM} {c : Nat} (hw : w.heap = H) (hS : Store H fp p q r c) (hlen : r.length ≤ 1099511627776) :
    CallF P F_blob_Store_All #[.pointer (some ⟨p, 0, none⟩)] w fun e w' => ∃ gv ys, e = .returned gv ∧ Ext [] H w'.heap ∧ Listed w'.heap H.size gv ys ∧ ys.Perm (r.map (·.1)) ∧ InOrder ys := by
  obtain ⟨m, h1, h2, h3, _⟩ := hS
  refine fn_blob_Store_All ?_
  unfold T_blob_Store_All
  refine joinP_of (fun (x : Option Addr × Nat × Nat) W => ∃ ys, Ext [] H W.heap ∧ Mine W.heap H.size y_api_Digest 32 x (ys.flatMap enc32) ∧ (∀ L ∈ ys, L.length = 32) ∧ ys.Perm (r.map (·.1)) ∧ InOrder ys) ?_ ?_
  · refine iteP_t rfl ?_
    simp only [withAddr_some]
    refine ld_h (t := some m) hw h1 rfl ?_
    refine callF_of (keys_c _ hw) ?_
    rintro e w1 ⟨rfl, hw1⟩
    refine ⟨_, rfl, ?_⟩
    have hx1 : Ext [] H w1.heap := by rw [hw1]; exact .push _
    refine callF_of (sortedfunc_c (n := r.length) rfl (seq_keys (b := H.size) rfl (by rw [hw1]; exact push_new) (hx1.get h2 (by simp)) h3) ?_ ?_ hlen) ?_
    · intro b hb
      have := lt_of_get h2
      simp only [List.mem_cons, List.not_mem_nil, or_false] at hb
      rw [hw1]; simp
      rcases hb with rfl | rfl <;> omega
    · rintro pre x ⟨h, hl⟩
      obtain ⟨y, hy, rfl⟩ := List.mem_map.1 h
      exact ⟨h3.fine _ hy, hl⟩
    rintro e w2 ⟨x, xs, ys, rfl, hS, hp, ho, _, h32, hM, hx2⟩
    exact ⟨x, rfl, ys, hx1.trans hx2, hM.mono hx1.1, fun L hL => h32 L (hp.mem_iff.1 hL), hp.trans hS, ho⟩
  · rintro x w2 ⟨ys, hx2, hM, h32, hp, ho⟩
    refine callF_of (values_c x rfl) ?_
    rintro e w3 ⟨rfl, hw3⟩
    have hx3 : Ext [] w2.heap w3.heap := by rw [hw3]; exact .push _
    exact ⟨_, rfl, _, ys, rfl, hx2.trans hx3, ⟨_, x, rfl, hx2.1, by rw [hw3]; exact push_new, hM.ext hx3 (by simp), h32⟩, hp, ho⟩

/-- Without a store. -/
theorem nil_putall {w : World} (a : Option Addr) (l c : Nat) : CallF P F_blob_Store_PutAll #[.pointer none, .slice a l c] w fun e w' => e = .returned (.int .i64 7) ∧ w' = w := by
  refine fn_blob_Store_PutAll ?_
  unfold T_blob_Store_PutAll
  exact iteP_t rfl ⟨rfl, rfl⟩
theorem nil_get {w : World} (k : Value) : CallF P F_blob_Store_Get #[.pointer none, k] w fun e w' => e = .returned (.tuple #[.slice none 0 0, .int .i64 7]) ∧ Ext [] w.heap w'.heap := by
  refine fn_blob_Store_Get ?_
  unfold T_blob_Store_Get
  refine newB_h rfl fun w1 hw1 => ?_
  exact iteP_t rfl ⟨rfl, by rw [hw1]; exact .push _⟩
theorem nil_drop {w : World} (k : Value) : CallF P F_blob_Store_Drop #[.pointer none, k] w fun e w' => e = .returned (.int .i64 7) ∧ Ext [] w.heap w'.heap := by
  refine fn_blob_Store_Drop ?_
  unfold T_blob_Store_Drop
  refine newB_h rfl fun w1 hw1 => ?_
  exact iteP_t rfl ⟨rfl, by rw [hw1]; exact .push _⟩
theorem nil_spoil {w : World} (k : Value) (at_ t : Int) : CallF P F_blob_Store_Spoil #[.pointer none, k, .int .i64 at_, .int .u8 t] w fun e w' => e = .returned (.int .i64 7) ∧ Ext [] w.heap w'.heap := by
  refine fn_blob_Store_Spoil ?_
  unfold T_blob_Store_Spoil
  refine newB_h rfl fun w1 hw1 => ?_
  exact iteP_t rfl ⟨rfl, by rw [hw1]; exact .push _⟩
theorem nil_has {w : World} (k : Value) : CallF P F_blob_Store_Has #[.pointer none, k] w fun e w' => e = .returned (.bool false) ∧ Ext [] w.heap w'.heap := by
  refine fn_blob_Store_Has ?_
  unfold T_blob_Store_Has
  refine newB_h rfl fun w1 hw1 => ?_
  exact iteP_t rfl ⟨rfl, by rw [hw1]; exact .push _⟩
theorem nil_count {w : World} : CallF P F_blob_Store_Count #[.pointer none] w fun e w' => e = .returned (.int .i64 0) ∧ w' = w := by
  refine fn_blob_Store_Count ?_
  unfold T_blob_Store_Count
  exact iteP_t rfl ⟨rfl, rfl⟩
theorem nil_clone {w : World} : CallF P F_blob_Store_Clone #[.pointer none] w fun e w' => e = .returned (.pointer none) ∧ w' = w := by
  refine fn_blob_Store_Clone ?_
  unfold T_blob_Store_Clone
  exact iteP_t rfl ⟨rfl, rfl⟩
theorem nil_put {w : World} (a : Option Addr) (l c : Nat) : CallF P F_blob_Store_Put #[.pointer none, .slice a l c] w fun e w' => e = .returned (.tuple #[arr nought, .int .i64 7]) ∧ Ext [] w.heap w'.heap := by
  refine fn_blob_Store_Put ?_
  unfold T_blob_Store_Put
  refine newB_h rfl fun w1 hw1 => ?_
  refine genL_of (s := .slc) (some ⟨w1.heap.size, 0, none⟩, 1, 1) _ (by rw [bs37]; rfl) ?_
  refine callF_of (nil_putall _ _ _) ?_
  rintro e w3 ⟨rfl, rfl⟩
  refine ⟨7, rfl, ?_⟩
  refine iteP_t rfl ?_
  refine genQ_of (s := .any) (arr nought) (b27 _) ?_
  have hz : (w1.heap.push (.cells #[.slice a l c] 22 (0, 0)))[w.heap.size]? = some (.cells (zc P y_api_Digest) y_api_Digest (0, 0)) := push_old (by rw [hw1]; exact push_new)
  refine storeVar_h (size27.trans (by rw [cells_arr, len_nought])) (by rw [cells_arr, len_nought]; omega) one_byteCells rfl hz (by rw [zc27, cells_arr, len_nought]; simp) fun w5 hw5 => ?_
  rw [show setCells (zc P y_api_Digest) 0 (Value.cells (arr nought)).toList = (byteCells nought).toArray from by rw [setCells_all (by rw [zc27, Array.length_toList, cells_arr, len_nought]; simp)]; simp [Value.cells, arr]] at hw5
  refine ldA_all hw5 (set_new hz) (by simp [byteCells, nought]) ?_
  refine ⟨rfl, ?_⟩
  rw [hw5]
  have hx : Ext [] w.heap (w1.heap.push (.cells #[.slice a l c] 22 (0, 0))) := by rw [hw1]; exact (Ext.push _).trans (Ext.push _)
  exact hx.set_own (.inl (Nat.le_refl _))

/-- What holds while a store is cloned: the entries that have come so far. -/
def Cl (H : Heap) (p' m' : Nat) (q : Int) (r : SM) (seen : Array Nat) (W : World) (fr : SM) (cf : Nat) : Prop :=
  Ext [] H W.heap ∧ W.heap[p']? = some (.cells #[.int .i64 q, .int .i64 (total r : Int), .map (some m')] 59 (0, 0)) ∧ W.heap[m']? = some (.map (ents arr (vl bv fr)) cf) ∧ MOk (fun L => L.length = 32) fr cf ∧
    (∀ x ∈ fr, Mine W.heap H.size y_uint8 1 x.2.1.1 (byteCells x.2.1.2)) ∧ Apart fr ∧ (∀ y ∈ r, y.2.2 ∈ seen → vget fr y.1 = some y.2.1.2) ∧ ∀ x ∈ fr, ∃ y ∈ r, y.2.2 ∈ seen ∧ y.1 = x.1
theorem vget_mem {r : SM} (hk : (r.map (·.1)).Nodup) {y : List UInt8 × BV × Nat} (hy : y ∈ r) : vget r y.1 = some y.2.1.2 := by
  unfold vget
  rw [mget_of_mem hk hy]
  rfl
theorem same_key {r : SM} (hk : (r.map (·.1)).Nodup) {y z : List UInt8 × BV × Nat} (hy : y ∈ r) (hz : z ∈ r) (h : y.1 = z.1) : y = z := by
  induction r with
  | nil => cases hy
  | cons x r ih =>
    simp only [List.map_cons, List.nodup_cons] at hk
    rcases List.mem_cons.1 hy with e1 | hy' <;> rcases List.mem_cons.1 hz with e2 | hz'
    · first | rw [e1, e2] | (subst e1; exact e2.symm)
    · exact absurd (List.mem_map.2 ⟨z, hz', by rw [← h, e1]⟩) hk.1
    · exact absurd (List.mem_map.2 ⟨y, hy', by rw [h, e2]⟩) hk.1
    · exact ih hk.2 hy' hz'
theorem born_key {r : SM} (hb : (r.map (·.2.2)).Nodup) {y z : List UInt8 × BV × Nat} (hy : y ∈ r) (hz : z ∈ r) (h : y.2.2 = z.2.2) : y.1 = z.1 := by
  induction r with
  | nil => cases hy
  | cons x r ih =>
    simp only [List.map_cons, List.nodup_cons] at hb
    rcases List.mem_cons.1 hy with e1 | hy' <;> rcases List.mem_cons.1 hz with e2 | hz'
    · first | rw [e1, e2] | (subst e1; exact e2.symm)
    · exact absurd (List.mem_map.2 ⟨z, hz', by rw [← h, e1]⟩) hb.1
    · exact absurd (List.mem_map.2 ⟨y, hy', by rw [h, e2]⟩) hb.1
    · exact ih hb.2 hy' hz'
set_option maxHeartbeats 4000000 in
theorem clonestore_c {w : World} {H : Heap} {fp : List Nat} {p : Nat} {q : Int} {r : SM} {c : Nat} (hw : w.heap = H) (hS : Store H fp p q r c) (hq : 0 ≤ q) (hlen : ∀ k L, vget r k = some L → L.length < 1099511627776) :
    CallF P F_blob_Store_Clone #[.pointer (some ⟨p, 0, none⟩)] w fun e w' => ∃ p' fp' r' c', e = .returned (.pointer (some ⟨p', 0, none⟩)) ∧ Store w'.heap fp' p' q r' c' ∧ Ext [] H w'.heap ∧ (∀ b ∈ fp', H.size ≤ b ∧ b < w'.heap.size) ∧ ∀ k, vget r' k = vget r k := by
  obtain ⟨m, h1, h2, h3, h4, h5, h6, h7⟩ := hS
  refine fn_blob_Store_Clone ?_
  unfold T_blob_Store_Clone
  refine iteP_f rfl ?_
  simp only [withAddr_some]
  refine ld_h (t := q) hw h1 rfl ?_
  refine callF_of (new59_c q hw) ?_
  rintro e w1 ⟨p', fp', rfl, hS1, hx1, hfp1⟩
  refine ⟨some ⟨p', 0, none⟩, rfl, ?_⟩
  obtain ⟨m', g1, g2, g3, g4, g5, _, _⟩ := hS1
  rw [Int.max_eq_left hq] at g1
  have hp' := hfp1 _ g4
  have hm' := hfp1 _ g5
  refine ld_h (t := (total r : Int)) rfl (hx1.get h1 (by simp)) rfl ?_
  simp only [withAddr_some]
  refine stC_h rfl g1 (by simp) fun w2 hw2 => ?_
  have hx2 : Ext [] H w2.heap := by rw [hw2]; exact hx1.set_own (.inl hp'.1)
  have hg1 : w2.heap[p']? = some (.cells #[.int .i64 q, .int .i64 (total r : Int), .map (some m')] 59 (0, 0)) := by rw [hw2]; exact set_new g1
  have hg2 : w2.heap[m']? = some (.map (ents arr (vl bv ([] : SM))) 0) := by
    rw [hw2]
    exact set_old g2 (by rintro rfl; rw [g1] at g2; cases g2)
  have hs2 : w2.heap.size = w1.heap.size := by rw [hw2]; simp
  refine ld_h (t := some m) rfl (hx2.get h1 (by simp)) rfl ?_
  refine genL_of (s := .ptr) (some ⟨w2.heap.size, 0, none⟩) _ (range_h u57 rfl (hx2.get h2 (by simp))) ?_
  generalize hri : w2.heap.size = ri at *
  have hml := lt_of_get h2
  refine loopP_ix (fun n _ W => ∃ seen last fr cf, Cl H p' m' q r seen W fr cf ∧ W.heap[ri]? = some (.mapIter (some m) c seen last) ∧ c ≤ last ∧ n = (r.filter fun y => !seen.contains y.2.2).length) (r.filter fun y => !(#[] : Array Nat).contains y.2.2).length ?_ ?_
  · refine ⟨#[], c, [], 0, ⟨hx2.trans (.push _), push_old hg1, push_old hg2, .nil, (by intro x hx; cases hx), (by intro x hx; cases hx), by simp, (by intro x hx; cases hx)⟩, by rw [← hri]; exact push_new, Nat.le_refl _, rfl⟩
  rintro n _ W ⟨seen, last, fr, cf, ⟨hxW, hpW, hmW, hok, hmine, hap, hs1, hs2'⟩, hrW, hcl, rfl⟩ K hK
  have hmW0 := hxW.get h2 (by simp)
  have hV : ∀ x ∈ r, Mine W.heap 0 y_uint8 1 x.2.1.1 (byteCells x.2.1.2) := fun x hx => (h6 x hx).1.ext hxW (by simp)
  have hlt := lt_of_get hrW
  rcases next_v (P := P) (ty := y_tuple_bcd8b0) rfl hmW0 hrW (fun x hx => h3.old x hx) hcl with ⟨hall, W1, hn, hc1, hh1⟩ | ⟨x, hx, hns, W1, hn, hc1, hh1⟩
  · refine genL_of (s := .any) _ W1 hn ?_ hc1
    refine exV_of (s := .bool) false rfl rfl ?_
    refine iteP_f rfl ?_
    have hview : ∀ k, vget fr k = vget r k := by
      intro k
      cases hv : vget r k with
      | some L =>
        unfold vget at hv
        obtain ⟨v, hv1, rfl⟩ := Option.map_eq_some_iff.1 hv
        obtain ⟨b, hb⟩ := mget_some_mem hv1
        exact hs1 _ hb (hall _ hb)
      | none =>
        cases hv2 : vget fr k with
        | none => rfl
        | some L =>
          unfold vget at hv2
          obtain ⟨v, hv1, rfl⟩ := Option.map_eq_some_iff.1 hv2
          obtain ⟨b, hb⟩ := mget_some_mem hv1
          obtain ⟨y, hy, _, hyk⟩ := hs2' _ hb
          have := vget_mem h3.keys hy
          rw [show y.1 = k from hyk, hv] at this
          cases this
    obtain ⟨htot, _⟩ := same_view hok.keys h3.keys hview
    refine ⟨p', p' :: m' :: fr.flatMap (fun x => ownM x.2.1.1), fr, cf, rfl, ⟨m', by rw [hh1, hpW, htot], by rw [hh1]; exact hmW, hok, by simp, by simp, fun x hx => ⟨by rw [hh1]; exact (hmine x hx).mono (Nat.zero_le _), fun b hb => by simp only [List.mem_cons, List.mem_flatMap]; exact .inr (.inr ⟨x, hx, hb⟩)⟩, hap⟩, by rw [hh1]; exact hxW, ?_, hview⟩
    intro b hb
    rw [hh1]
    simp only [List.mem_cons, List.mem_flatMap] at hb
    rcases hb with rfl | rfl | ⟨x, hx, hb⟩
    · exact ⟨hp'.1, lt_of_get hpW⟩
    · exact ⟨hm'.1, lt_of_get hmW⟩
    · refine ⟨ownM_ge (hmine x hx) b hb, ?_⟩
      rcases hmine x hx with ⟨h, _⟩ | ⟨bb, cc, h, _, hbb, _⟩
      · simp [ownM, h] at hb
      · simp only [ownM, h, List.mem_singleton] at hb
        subst hb; exact lt_of_get hbb
  · refine genL_of (s := .any) _ W1 hn ?_ hc1
    refine exV_of (s := .bool) true rfl rfl ?_
    refine iteP_t rfl ?_
    have hmr : m ≠ ri := by have := hx2.1; omega
    have hr1 : W1.heap[ri]? = some (.mapIter (some m) c (seen.push x.2.2) c) := by rw [hh1]; exact Array.getElem?_setIfInBounds_self_of_lt hlt
    have hx01 : Ext [ri] W.heap W1.heap := by rw [hh1]; exact Ext.set _ (by simp)
    have hm1 : W1.heap[m]? = some (.map (ents arr (vl bv r)) c) := hx01.get hmW0 (by simpa using hmr)
    have hxl : x.1.length = 32 := h3.fine x hx
    refine genQ_of (s := .any) _ (entry_v (last := c) rfl hm1 hr1 hx h3) ?_
    refine exV_of (s := .any) (arr x.1) rfl rfl ?_
    refine exV_of (s := .slc) x.2.1.1 rfl rfl ?_
    refine var_g (P := P) (H := W1.heap) (size27.trans (by rw [cells_arr, hxl])) (by rw [zc27, cells_arr, hxl]; simp) (by rw [cells_arr, hxl]; omega) oneCells_arr rfl fun W2 hW2 => ?_
    refine drewP_h hW2 fun W3 hW3 => ?_
    have hx13 : Ext [] W1.heap W3.heap := by rw [hW3]; exact .push _
    have hk3 : W3.heap[W1.heap.size]? = some (.cells (arr x.1).cells y_api_Digest (0, 0)) := by rw [hW3]; exact push_new
    have hne : ∀ {b : Nat} {cc : Array Value} {T : TypeId} {f : Nat × Nat}, W.heap[b]? = some (.cells cc T f) → b ≠ ri := by rintro b cc T f h rfl; rw [hrW] at h; cases h
    have hp3 : W3.heap[p']? = some (.cells #[.int .i64 q, .int .i64 (total r : Int), .map (some m')] 59 (0, 0)) := hx13.get (hx01.get hpW (by simpa using hne hpW)) (by simp)
    have hm'r : m' ≠ ri := by omega
    have hm'3 : W3.heap[m']? = some (.map (ents arr (vl bv fr)) cf) := hx13.get (hx01.get hmW (by simpa using hm'r)) (by simp)
    have hr3 : W3.heap[ri]? = some (.mapIter (some m) c (seen.push x.2.2) c) := hx13.get hr1 (by simp)
    have hx03 : Ext [] H W3.heap := (hxW.own hx01 (by intro b hb hlt; simp at hb; have := hx2.1; omega)).trans hx13
    have hmine3 : ∀ {z : BV}, Mine W.heap H.size y_uint8 1 z.1 (byteCells z.2) → Mine W3.heap H.size y_uint8 1 z.1 (byteCells z.2) := by
      intro z hz
      rcases hz with h | ⟨b', c', a1, a2, a3, a4⟩
      · exact .inl h
      · exact .inr ⟨b', c', a1, a2, hx13.get (hx01.get a3 (by simpa using hne a3)) (by simp), a4⟩
    have hVx : Mine W3.heap 0 y_uint8 1 x.2.1.1 (byteCells x.2.1.2) := by
      rcases hV x hx with h | ⟨b', c', a1, a2, a3, a4⟩
      · exact .inl h
      · exact .inr ⟨b', c', a1, a2, hx13.get (hx01.get a3 (by simpa using hne a3)) (by simp), a4⟩
    refine ld_h (t := some m') rfl hp3 rfl ?_
    refine ldA_all (c := (arr x.1).cells) rfl hk3 (by rw [cells_arr, hxl]) ?_
    have hvl : x.2.1.1.2.1 = x.2.1.2.length := by have := hVx.len; rw [length_byteCells] at this; omega
    refine callF_of (clone_c rfl hVx.cells hvl (by have := hlen _ _ (vget_mem h3.keys hx); omega)) ?_
    rintro e W4 ⟨y, rfl, hyO, hx34⟩
    refine ⟨y, rfl, ?_⟩
    refine ⟨ldA_all (c := (arr x.1).cells) rfl (hx34.get hk3 (by simp)) (by rw [cells_arr, hxl]) rfl, ?_⟩
    refine ⟨ld_h (t := some m') rfl (hx34.get hp3 (by simp)) rfl rfl, ?_⟩
    have hm'4 := hx34.get hm'3 (by simp)
    have hfresh : mget fr x.1 = none := by
      refine mget_none_of fun z hz hzk => ?_
      obtain ⟨y', hy', hseen, hyk⟩ := hs2' z hz
      have := same_key h3.keys hy' hx (hyk.trans hzk)
      subst this
      exact hns hseen
    refine genU_of _ (update_v K27 u57 rfl hm'4 hok hxl (y, x.2.1.2) rfl) ?_
    have hx45 : Ext [m'] W4.heap (W4.heap.setIfInBounds m' (.map (ents arr (vl bv (mupd fr x.1 (y, x.2.1.2) cf))) (mclk fr x.1 cf))) := Ext.set _ (by simp)
    refine hK _ () _ (left_lt hx hns) ⟨seen.push x.2.2, c, mupd fr x.1 (y, x.2.1.2) cf, mclk fr x.1 cf, ⟨?_, ?_, ?_, hok.upd hxl _, ?_, ?_, ?_, ?_⟩, ?_, Nat.le_refl _, rfl⟩
    · exact (hx03.trans hx34).set_own (.inl hm'.1)
    · exact hx45.get (hx34.get hp3 (by simp)) (by simp only [List.mem_singleton]; rintro rfl; rw [hp3] at hm'3; cases hm'3)
    · exact set_new hm'4
    · intro z hz
      have hcell : ∀ {z : BV}, Mine W4.heap H.size y_uint8 1 z.1 (byteCells z.2) → Mine (W4.heap.setIfInBounds m' (.map (ents arr (vl bv (mupd fr x.1 (y, x.2.1.2) cf))) (mclk fr x.1 cf))) H.size y_uint8 1 z.1 (byteCells z.2) := by
        intro z hz
        rcases hz with h | ⟨b', c', a1, a2, a3, a4⟩
        · exact .inl h
        · exact .inr ⟨b', c', a1, a2, hx45.get a3 (by simp only [List.mem_singleton]; rintro rfl; rw [hm'4] at a3; cases a3), a4⟩
      rcases mem_upd hz with ⟨_, hz2⟩ | ⟨_, hz2⟩
      · rw [hz2]
        exact hcell (z := (y, x.2.1.2)) (hyO.mono (by have := hx03.1; omega))
      · exact hcell ((hmine3 (hmine z hz2)).ext hx34 (by simp))
    · have far : ∀ z ∈ fr, ∀ b ∈ ownM z.2.1.1, b < W3.heap.size := by
        intro z hz b hb
        rcases hmine3 (hmine z hz) with ⟨h, _⟩ | ⟨bb, cc, h, _, hbb, _⟩
        · simp [ownM, h] at hb
        · simp only [ownM, h, List.mem_singleton] at hb
          subst hb; exact lt_of_get hbb
      intro z hz z' hz' hne b hb hb'
      rcases mem_upd hz with ⟨hz1, hz2⟩ | ⟨hz1, hz2⟩ <;> rcases mem_upd hz' with ⟨hz1', hz2'⟩ | ⟨hz1', hz2'⟩
      · exact hne (hz1.trans hz1'.symm)
      · rw [hz2] at hb
        have := ownM_ge hyO b hb
        have := far z' hz2' b hb'
        omega
      · rw [hz2'] at hb'
        have := ownM_ge hyO b hb'
        have := far z hz2 b hb
        omega
      · exact hap z hz2 z' hz2' hne b hb hb'
    · intro z hz hzs
      rw [vget_upd]
      by_cases e : z.1 = x.1
      · rw [if_pos e, same_key h3.keys hz hx e]
      · rw [if_neg e]
        refine hs1 z hz ?_
        rcases Array.mem_push.1 hzs with h | h
        · exact h
        · exact absurd (by have hb := h3.born; exact born_key hb hz hx h) e
    · intro z hz
      rcases mem_upd hz with ⟨hz1, _⟩ | ⟨_, hz2⟩
      · exact ⟨x, hx, by simp, hz1.symm⟩
      · obtain ⟨y', a, b, d⟩ := hs2' z hz2
        exact ⟨y', a, Array.mem_push.2 (.inl b), d⟩
    · exact set_old (hx34.get hr3 (by simp)) (Ne.symm hm'r)
end Go.Proofs.YtkolbfjheleoaaaDoor
