/- The contracts of a store's smaller calls. -/
import Derived.Test.YtkolbfjheleoaaaDoorSe
import Derived.Test.YtkolbfjheleoaaaDoorTb
namespace Go.Proofs.YtkolbfjheleoaaaDoor
open Go Go.Fw Go.Proofs

theorem u27 : P.underlying y_api_Digest = some (.array 32 y_uint8) := by kernel_rfl
theorem u5 : P.underlying y_uint8 = some (.int .u8) := by kernel_rfl
theorem c5 : P.cellsOf y_uint8 = 1 := by kernel_rfl
theorem g27 : P.eqGuardType P.depth 27 = false := by kernel_rfl
theorem u57 : P.underlying y_M_api_Digest_S_uint8 = some (.map y_api_Digest y_S_uint8) := by kernel_rfl
theorem z22 (w : World) : (zeroValue y_S_uint8).run P w = .ok (.slice none 0 0) w := by kernel_rfl
theorem K27 : KeyOk P 27 (List UInt8) (fun L => L.length = 32) arr := .arr u27 u5 c5
theorem b27 (w : World) : (Instr.build y_api_Digest #[]).run P w = .ok (arr (List.replicate 32 0)) w := by kernel_rfl
theorem b59 (a : Int) (m : Option Nat) (w : World) : (Instr.build y_blob_Store #[(0, .int .i64 a), (2, .map m)]).run P w = .ok (.agg #[.int .i64 a, .int .i64 0, .map m]) w := by kernel_rfl

/-- A value of a store: a slice, and the bytes behind it. -/
abbrev BV := (Option Addr × Nat × Nat) × List UInt8
abbrev SM := ML (List UInt8) BV
def bv (x : BV) : Value := slcV x.1
def total (r : SM) : Nat := (r.map fun x => x.2.1.2.length).sum
def vget (r : SM) (k : List UInt8) : Option (List UInt8) := (mget r k).map (·.2)
/-- The values of a map of a store's type, in blocks of fp. -/
def Vals (H : Heap) (fp : List Nat) (r : SM) : Prop := ∀ x ∈ r, Mine H 0 y_uint8 1 x.2.1.1 (byteCells x.2.1.2) ∧ ∀ b ∈ ownM x.2.1.1, b ∈ fp
def Apart (r : SM) : Prop := ∀ x ∈ r, ∀ y ∈ r, x.1 ≠ y.1 → ∀ b ∈ ownM x.2.1.1, b ∉ ownM y.2.1.1
/-- A store lies at p. -/
def Store (H : Heap) (fp : List Nat) (p : Nat) (q : Int) (r : SM) (c : Nat) : Prop :=
  ∃ m, H[p]? = some (.cells #[.int .i64 q, .int .i64 (total r : Int), .map (some m)] 59 (0, 0)) ∧ H[m]? = some (.map (ents arr (vl bv r)) c) ∧ MOk (fun L => L.length = 32) r c ∧ p ∈ fp ∧ m ∈ fp ∧ Vals H fp r ∧ Apart r

theorem Vals.ext {M fp : List Nat} {H H' : Heap} {r : SM} (h : Vals H fp r) (hx : Ext M H H') (hM : ∀ b ∈ fp, b ∉ M) : Vals H' fp r :=
  fun x hxr => ⟨(h x hxr).1.ext hx fun b hb => hM b ((h x hxr).2 b hb), (h x hxr).2⟩
theorem Store.ext {M fp : List Nat} {H H' : Heap} {p : Nat} {q : Int} {r : SM} {c : Nat} (h : Store H fp p q r c) (hx : Ext M H H') (hM : ∀ b ∈ fp, b ∉ M) : Store H' fp p q r c := by
  obtain ⟨m, h1, h2, h3, h4, h5, h6, h7⟩ := h
  exact ⟨m, hx.get h1 (hM p h4), hx.get h2 (hM m h5), h3, h4, h5, h6.ext hx hM, h7⟩
theorem Store.lt {fp : List Nat} {H : Heap} {p : Nat} {q : Int} {r : SM} {c : Nat} (h : Store H fp p q r c) : p < H.size := by
  obtain ⟨m, h1, _⟩ := h; exact lt_of_get h1

theorem new59_c {w : World} {H : Heap} (q : Int) (hw : w.heap = H) : CallF P F_blob_New #[.int .i64 q] w fun e w' => ∃ p fp, e = .returned (.pointer (some ⟨p, 0, none⟩)) ∧ Store w'.heap fp p (max q 0) [] 0 ∧ Ext [] H w'.heap ∧ ∀ b ∈ fp, H.size ≤ b ∧ b < w'.heap.size := by
  refine fn_blob_New ?_
  unfold T_blob_New
  refine genQ_of (s := .int .i64) (max q 0) ?_ ?_
  · rw [run_max_int2]
    congr 2
    show (if (0 : Int) > q then 0 else q) = max q 0
    split <;> omega
  refine genL_of (s := .map) (some H.size) _ (makeMap_h hw) ?_
  refine genQ_of (s := .any) _ (b59 _ _ _) ?_
  refine newB_h (H := H.push (.map #[] 0)) rfl fun w2 hw2 => ?_
  refine ⟨(H.push (.map #[] 0)).size, [(H.push (.map #[] 0)).size, H.size], rfl, ⟨H.size, ?_, ?_, .nil, by simp, by simp, (by intro x hx; cases hx), (by intro x hx; cases hx)⟩, ?_, by rw [hw2]; simp; omega⟩
  · rw [hw2]; exact push_new
  · rw [hw2]; exact push_old push_new
  · rw [hw2]; exact (Ext.push _).push_own

theorem clone_c {w : World} {H : Heap} {a : Option Addr} {l lc : Nat} {L : List UInt8} (hw : w.heap = H) (hL : Cells H a (byteCells L)) (hl : l = L.length) (hlen : L.length < 140000000000000) :
    CallF P F_slices_Clone_S_byte_byte #[.slice a l lc] w fun e w' => ∃ x, e = .returned (slcV x) ∧ Mine w'.heap H.size y_uint8 1 x (byteCells L) ∧ Ext [] H w'.heap := by
  subst hl
  refine fn_slices_Clone_S_byte_byte ?_
  unfold T_slices_Clone_S_byte_byte
  cases a with
  | none =>
    refine iteP_t rfl ?_
    have : byteCells L = [] := by rcases hL with h | ⟨b, o, c, T, fr, h, _⟩; exact h; cases h
    exact ⟨(none, 0, 0), rfl, .inl ⟨rfl, this⟩, by rw [hw]; exact .refl _ _⟩
  | some a =>
    refine iteP_f rfl ?_
    refine genL_of (s := .slc) (some ⟨H.size, 0, none⟩, 0, 0) { w with heap := H.push (.cells #[] y_uint8) } (by rw [← hw]; kernel_rfl) ?_
    have hxp : Ext [] H (H.push (.cells #[] y_uint8)) := .push _
    have hO : Mine (H.push (.cells #[] y_uint8)) H.size y_uint8 1 (some ⟨H.size, 0, none⟩, 0, 0) [] := .inr ⟨H.size, #[], rfl, Nat.le_refl _, push_new, rfl, rfl, Nat.le_refl _, rfl⟩
    refine append22 (w := { w with heap := H.push (.cells #[] y_uint8) }) rfl hO (by simp) (Src.slc rfl (hL.ext hxp (by simp)) (by simp [byteCells])) one_byteCells (by simp only; omega) ?_
    intro x2 w2 hO2 hl2 hx2 hm2
    rw [List.nil_append] at hO2
    exact ⟨x2, rfl, hO2, hxp.own hx2 (by intro b hb; simp [ownM] at hb; omega)⟩

theorem count_c {w : World} {H : Heap} {fp : List Nat} {p : Nat} {q : Int} {r : SM} {c : Nat} (hw : w.heap = H) (hS : Store H fp p q r c) : CallF P F_blob_Store_Count #[.pointer (some ⟨p, 0, none⟩)] w fun e w' => e = .returned (.int .i64 (r.length : Int)) ∧ w' = w := by
  obtain ⟨m, h1, h2, _⟩ := hS
  refine fn_blob_Store_Count ?_
  unfold T_blob_Store_Count
  refine iteP_f rfl ?_
  simp only [withAddr_some]
  refine ld_h (t := some m) hw h1 rfl ?_
  refine genQ_of (s := .int .i64) _ (len_map_v u57 hw h2) ?_
  exact ⟨rfl, trivial⟩
theorem bytes_c {w : World} {H : Heap} {fp : List Nat} {p : Nat} {q : Int} {r : SM} {c : Nat} (hw : w.heap = H) (hS : Store H fp p q r c) : CallF P F_blob_Store_Bytes #[.pointer (some ⟨p, 0, none⟩)] w fun e w' => e = .returned (.int .i64 (total r : Int)) ∧ w' = w := by
  obtain ⟨m, h1, h2, _⟩ := hS
  refine fn_blob_Store_Bytes ?_
  unfold T_blob_Store_Bytes
  refine iteP_f rfl ?_
  simp only [withAddr_some]
  exact ld_h (t := (total r : Int)) hw h1 rfl ⟨rfl, trivial⟩
theorem has_c {w : World} {H : Heap} {fp : List Nat} {p : Nat} {q : Int} {r : SM} {c : Nat} {k : List UInt8} (hw : w.heap = H) (hS : Store H fp p q r c) (hk : k.length = 32) : CallF P F_blob_Store_Has #[.pointer (some ⟨p, 0, none⟩), arr k] w fun e w' => e = .returned (.bool (vget r k).isSome) ∧ Ext [] H w'.heap := by
  obtain ⟨m, h1, h2, h3, _⟩ := hS
  refine fn_blob_Store_Has ?_
  unfold T_blob_Store_Has
  refine newB_h hw fun w1 hw1 => ?_
  refine iteP_f rfl ?_
  refine drewP_h hw1 fun w2 hw2 => ?_
  simp only [withAddr_some]
  refine ld_h (t := some m) hw2 (push_old h1) rfl ?_
  refine ldA_all hw2 push_new (by simp [arr, Value.cells, byteCells, hk]) ?_
  refine genT_of (l := [.slc, .bool]) (((mget r k).map (·.1)).getD (none, 0, 0), (mget r k).isSome) ?_ ?_
  · refine (lookup_v K27 u57 z22 hw2 (push_old h2) h3 hk).trans ?_
    cases mget r k <;> rfl
  · refine ⟨?_, by rw [hw2]; exact .push _⟩
    unfold vget; cases mget r k <;> rfl

theorem one_arr {k : List UInt8} : ((Value.cells (arr k)) : Array Value) = (byteCells k).toArray := rfl
theorem mget_ok {r : SM} {c : Nat} (h : MOk (fun L => L.length = 32) r c) {k : List UInt8} {v : BV} (hg : mget r k = some v) : ∃ b, (k, v, b) ∈ r ∧ k.length = 32 := by
  obtain ⟨b, hb⟩ := mget_some_mem hg
  exact ⟨b, hb, h.fine _ hb⟩

/-- Get: what a store tells of a digest. -/
def got (o : Option (List UInt8)) (k : List UInt8) : Int := match o with | none => 50 | some L => if Sha.sum L = k then 0 else 51
theorem get_c {w : World} {H : Heap} {fp : List Nat} {p : Nat} {q : Int} {r : SM} {c : Nat} {k : List UInt8} (hw : w.heap = H) (hS : Store H fp p q r c) (hk : k.length = 32) (hR : Rounds H) (hlen : ∀ L, vget r k = some L → L.length < 1099511627776) :
    CallF P F_blob_Store_Get #[.pointer (some ⟨p, 0, none⟩), arr k] w fun e w' => ∃ x, e = .returned (.tuple #[slcV x, .int .i64 (got (vget r k) k)]) ∧ Ext [] H w'.heap ∧
      (got (vget r k) k = 0 → ∃ L, vget r k = some L ∧ Mine w'.heap H.size y_uint8 1 x (byteCells L)) ∧ (got (vget r k) k ≠ 0 → x = (none, 0, 0)) := by
  obtain ⟨m, h1, h2, h3, h4, h5, h6, h7⟩ := hS
  refine fn_blob_Store_Get ?_
  unfold T_blob_Store_Get
  refine newB_h hw fun w1 hw1 => ?_
  have hx1 : Ext [] H (H.push (.cells (Value.cells (arr k)) y_api_Digest (0, 0))) := .push _
  generalize hH1 : H.push (.cells (Value.cells (arr k)) y_api_Digest (0, 0)) = H1 at *
  have hk1 : H1[H.size]? = some (.cells (byteCells k).toArray y_api_Digest (0, 0)) := by rw [← hH1]; exact push_new
  refine iteP_f rfl ?_
  refine drewP_h hw1 fun w2 hw2 => ?_
  simp only [withAddr_some]
  refine ld_h (t := some m) hw2 (hx1.get h1 (by simp)) rfl ?_
  refine ldA_all hw2 hk1 (by simp [byteCells, hk]) ?_
  cases hg : mget r k with
  | none =>
    have hv : vget r k = none := by simp [vget, hg]
    rw [hv]
    refine genT_of (l := [.slc, .bool]) ((none, 0, 0), false) (by refine (lookup_v K27 u57 z22 hw2 (hx1.get h2 (by simp)) h3 hk).trans ?_; rw [hg]; rfl) ?_
    refine iteP_t rfl ?_
    exact ⟨(none, 0, 0), rfl, by rw [hw2]; exact hx1, (by intro h; simp [got] at h), fun _ => rfl⟩
  | some v =>
    have hv : vget r k = some v.2 := by simp [vget, hg]
    obtain ⟨b, hb, _⟩ := mget_ok h3 hg
    obtain ⟨hO, hOf⟩ := h6 _ hb
    have hO : Mine H 0 y_uint8 1 v.1 (byteCells v.2) := hO
    have hlv := hlen _ hv
    rw [hv]
    refine genT_of (l := [.slc, .bool]) (v.1, true) (by refine (lookup_v K27 u57 z22 hw2 (hx1.get h2 (by simp)) h3 hk).trans ?_; rw [hg]; rfl) ?_
    refine iteP_f rfl ?_
    refine drewP_h hw2 fun w3 hw3 => ?_
    refine ldA_all hw3 hk1 (by simp [byteCells, hk]) ?_
    have hO1 := hO.ext hx1 (by simp)
    have hlen1 := hO.len
    have hle : v.1.2.1 ≤ v.1.2.2 := by
      rcases hO with ⟨h, _⟩ | ⟨_, _, _, _, _, _, _, h, _⟩
      · rw [h]; exact Nat.le_refl _
      · exact h
    refine callF_of (sum_c hw3 hO1.cells (by rw [← length_byteCells, hlen1, Nat.mul_one]) hle (hR.ext hx1 (by simp)) (by omega)) ?_
    rintro e w4 ⟨rfl, hx4⟩
    refine ⟨arr (Sha.sum v.2), rfl, ?_⟩
    refine ⟨ldA_all rfl (hx4.get hk1 (by simp)) (by simp [byteCells, hk]) rfl, ?_⟩
    refine genQ_of (s := .bool) _ (neqM_arr u27 u5 c5 g27 len_sum hk) ?_
    by_cases hs : Sha.sum v.2 = k
    · refine iteP_f (by simp [hs]) ?_
      refine callF_of (clone_c rfl (hO1.ext hx4 (by simp)).cells (by rw [← length_byteCells, hlen1, Nat.mul_one]) (by omega)) ?_
      rintro e w5 ⟨x, rfl, hxO, hx5⟩
      refine ⟨x, rfl, ?_⟩
      have hgot : got (some v.2) k = 0 := by simp [got, hs]
      refine ⟨x, by rw [hgot]; rfl, (hx1.trans hx4).trans hx5, fun _ => ⟨_, rfl, hxO.mono (hx1.trans hx4).1⟩, fun h => absurd hgot h⟩
    · refine iteP_t (by simp [hs]) ?_
      have hgot : got (some v.2) k = 51 := by simp [got, hs]
      exact ⟨(none, 0, 0), by rw [hgot]; rfl, hx1.trans hx4, (fun h => by rw [hgot] at h; cases h), fun _ => rfl⟩

theorem total_del {r : SM} {c : Nat} (h : MOk (fun L => L.length = 32) r c) {k : List UInt8} {v : BV} (hg : mget r k = some v) : total (mdel r k) + v.2.length = total r := by
  have hk := h.keys
  clear h
  induction r with
  | nil => simp [mget] at hg
  | cons x r ih =>
    simp only [List.map_cons, List.nodup_cons] at hk
    by_cases e : x.1 = k
    · rw [mget_cons_eq e, Option.some.injEq] at hg
      rw [mdel_cons_eq e, mdel_none fun y hy h => hk.1 (by rw [e, ← h]; exact List.mem_map.2 ⟨y, hy, rfl⟩), ← hg]
      simp [total, Nat.add_comm]
    · rw [mget_cons_ne e] at hg
      have := ih hg hk.2
      rw [mdel_cons_ne e]
      simp only [total, List.map_cons, List.sum_cons] at this ⊢
      omega
theorem mdel_mem {r : SM} {k : List UInt8} {x : List UInt8 × BV × Nat} (h : x ∈ mdel r k) : x ∈ r := (List.mem_filter.1 h).1
theorem vget_del {r : SM} {k k' : List UInt8} : vget (mdel r k) k' = if k' = k then none else vget r k' := by
  unfold vget; rw [mget_del]; split <;> rfl

theorem drop_c {w : World} {H : Heap} {fp : List Nat} {p : Nat} {q : Int} {r : SM} {c : Nat} {k : List UInt8} (hw : w.heap = H) (hS : Store H fp p q r c) (hk : k.length = 32) (ht : total r < 1125899906842624) :
    CallF P F_blob_Store_Drop #[.pointer (some ⟨p, 0, none⟩), arr k] w fun e w' => e = .returned (.int .i64 (if (vget r k).isSome then 0 else 50)) ∧ Store w'.heap fp p q (mdel r k) c ∧ Ext fp H w'.heap := by
  have hS0 := hS
  obtain ⟨m, h1, h2, h3, h4, h5, h6, h7⟩ := hS
  refine fn_blob_Store_Drop ?_
  unfold T_blob_Store_Drop
  refine newB_h hw fun w1 hw1 => ?_
  have hx1 : Ext [] H (H.push (.cells (Value.cells (arr k)) y_api_Digest (0, 0))) := .push _
  generalize hH1 : H.push (.cells (Value.cells (arr k)) y_api_Digest (0, 0)) = H1 at *
  have hk1 : H1[H.size]? = some (.cells (byteCells k).toArray y_api_Digest (0, 0)) := by rw [← hH1]; exact push_new
  refine iteP_f rfl ?_
  refine drewP_h hw1 fun w2 hw2 => ?_
  simp only [withAddr_some]
  refine ld_h (t := some m) hw2 (hx1.get h1 (by simp)) rfl ?_
  refine ldA_all hw2 hk1 (by simp [byteCells, hk]) ?_
  cases hg : mget r k with
  | none =>
    have hv : vget r k = none := by simp [vget, hg]
    rw [hv]
    refine genT_of (l := [.slc, .bool]) ((none, 0, 0), false) (by refine (lookup_v K27 u57 z22 hw2 (hx1.get h2 (by simp)) h3 hk).trans ?_; rw [hg]; rfl) ?_
    refine iteP_t rfl ?_
    have : mdel r k = r := mdel_none (mget_none hg)
    exact ⟨rfl, by rw [hw2, this]; exact hS0.ext hx1 (by simp), by rw [hw2]; exact hx1.mono (by simp)⟩
  | some v =>
    have hv : vget r k = some v.2 := by simp [vget, hg]
    obtain ⟨b, hb, _⟩ := mget_ok h3 hg
    obtain ⟨hO, hOf⟩ := h6 _ hb
    have hO : Mine H 0 y_uint8 1 v.1 (byteCells v.2) := hO
    have htd := total_del h3 hg
    have hvl : v.2.length = v.1.2.1 := by have := hO.len; rw [length_byteCells] at this; omega
    rw [hv]
    refine genT_of (l := [.slc, .bool]) (v.1, true) (by refine (lookup_v K27 u57 z22 hw2 (hx1.get h2 (by simp)) h3 hk).trans ?_; rw [hg]; rfl) ?_
    refine iteP_f rfl ?_
    have hp1 := hx1.get h1 (by simp)
    refine ld_h (t := (total r : Int)) hw2 hp1 rfl ?_
    refine subI_to ((total (mdel r k) : Nat) : Int) (by simp only; omega) (by omega) (by omega) ?_
    refine stC_h hw2 hp1 (by simp) fun w3 hw3 => ?_
    refine drewP_h hw3 fun w4 hw4 => ?_
    have hpH : p < H.size := lt_of_get h1
    have hpm : p ≠ m := by
      intro e; rw [e] at h1; rw [h1] at h2; cases h2
    have hp3 : w3.heap[p]? = some (.cells #[Value.int .i64 q, .int .i64 (total (mdel r k) : Int), .map (some m)] 59 (0, 0)) := by rw [hw3]; exact set_new hp1
    have hm3 : w3.heap[m]? = some (.map (ents arr (vl bv r)) c) := by rw [hw3]; exact set_old (hx1.get h2 (by simp)) (Ne.symm hpm)
    have hk3 : w3.heap[H.size]? = some (.cells (byteCells k).toArray y_api_Digest (0, 0)) := by rw [hw3]; exact set_old hk1 (show H.size ≠ p by omega)
    have hx3 : Ext [p] H w3.heap := by rw [hw3]; exact (hx1.mono (by simp)).trans (Ext.set _ (by simp))
    rw [← hw3] at hw4
    generalize w3.heap = H3 at *
    refine ld_h (t := some m) hw4 hp3 rfl ?_
    refine ldA_all hw4 hk3 (by simp [byteCells, hk]) ?_
    refine genL_of (s := .any) _ _ (delete_v K27 u57 hw4 hm3 h3 hk) ?_
    have hx5 : Ext [p, m] H (H3.setIfInBounds m (.map (ents arr (vl bv (mdel r k))) c)) := (hx3.mono (by simp)).trans (Ext.set _ (by simp))
    refine ⟨rfl, ⟨m, set_old hp3 hpm, set_new hm3, h3.del k, h4, h5, ?_, ?_⟩, hx5.mono (by simp [h4, h5])⟩
    · intro x hx
      obtain ⟨hO', hf'⟩ := h6 x (mdel_mem hx)
      refine ⟨hO'.ext hx5 ?_, hf'⟩
      intro b hb
      rcases hO' with ⟨h, _⟩ | ⟨bb, cc, h, _, hbb, _⟩
      · simp [ownM, h] at hb
      · simp only [ownM, h, List.mem_singleton] at hb
        subst hb
        simp only [List.mem_cons, List.not_mem_nil, or_false, not_or]
        exact ⟨fun e => (by rw [e, h1] at hbb; cases hbb), fun e => (by rw [e, h2] at hbb; cases hbb)⟩
    · intro x hx y hy
      exact h7 x (mdel_mem hx) y (mdel_mem hy)

def spoilt (L : List UInt8) (at_ : Int) (t : UInt8) : List UInt8 := L.set at_.toNat (L.getD at_.toNat 0 ^^^ t)
def spoilCode (o : Option (List UInt8)) (at_ : Int) (t : UInt8) : Int := match o with | none => 50 | some L => if at_ < 0 ∨ (L.length : Int) ≤ at_ ∨ t = 0 then 1 else 0
theorem spoil_c {w : World} {H : Heap} {fp : List Nat} {p : Nat} {q : Int} {r : SM} {c : Nat} {k : List UInt8} {at_ : Int} {t : UInt8} (hw : w.heap = H) (hS : Store H fp p q r c) (hk : k.length = 32) :
    CallF P F_blob_Store_Spoil #[.pointer (some ⟨p, 0, none⟩), arr k, .int .i64 at_, .int .u8 (t.toNat : Int)] w fun e w' => e = .returned (.int .i64 (spoilCode (vget r k) at_ t)) ∧ ∃ r', Store w'.heap fp p q r' c ∧ Ext fp H w'.heap ∧
      total r' = total r ∧ r'.length = r.length ∧ ∀ k', vget r' k' = if spoilCode (vget r k) at_ t = 0 ∧ k' = k then (vget r k).map fun L => spoilt L at_ t else vget r k' := by
  have hS0 := hS
  obtain ⟨m, h1, h2, h3, h4, h5, h6, h7⟩ := hS
  refine fn_blob_Store_Spoil ?_
  unfold T_blob_Store_Spoil
  refine newB_h hw fun w1 hw1 => ?_
  have hx1 : Ext [] H (H.push (.cells (Value.cells (arr k)) y_api_Digest (0, 0))) := .push _
  generalize hH1 : H.push (.cells (Value.cells (arr k)) y_api_Digest (0, 0)) = H1 at *
  have hk1 : H1[H.size]? = some (.cells (byteCells k).toArray y_api_Digest (0, 0)) := by rw [← hH1]; exact push_new
  refine iteP_f rfl ?_
  refine drewP_h hw1 fun w2 hw2 => ?_
  simp only [withAddr_some]
  refine ld_h (t := some m) hw2 (hx1.get h1 (by simp)) rfl ?_
  refine ldA_all hw2 hk1 (by simp [byteCells, hk]) ?_
  have keep : ∀ (C : Int), C ≠ 0 → spoilCode (vget r k) at_ t = C → (Ending.returned (.int .i64 C) = Ending.returned (.int .i64 (spoilCode (vget r k) at_ t)) ∧ ∃ r', Store w2.heap fp p q r' c ∧ Ext fp H w2.heap ∧
      total r' = total r ∧ r'.length = r.length ∧ ∀ k', vget r' k' = if spoilCode (vget r k) at_ t = 0 ∧ k' = k then (vget r k).map fun L => spoilt L at_ t else vget r k') := by
    intro C hC hs
    refine ⟨by rw [hs], r, by rw [hw2]; exact hS0.ext hx1 (by simp), by rw [hw2]; exact hx1.mono (by simp), rfl, rfl, fun k' => ?_⟩
    rw [if_neg (by rw [hs]; exact fun h => hC h.1)]
  cases hg : mget r k with
  | none =>
    have hv : vget r k = none := by simp [vget, hg]
    refine genT_of (l := [.slc, .bool]) ((none, 0, 0), false) (by refine (lookup_v K27 u57 z22 hw2 (hx1.get h2 (by simp)) h3 hk).trans ?_; rw [hg]; rfl) ?_
    refine iteP_t rfl ?_
    exact keep 50 (by omega) (by rw [hv]; rfl)
  | some v =>
    have hv : vget r k = some v.2 := by simp [vget, hg]
    obtain ⟨b, hb, _⟩ := mget_ok h3 hg
    obtain ⟨hO, hOf⟩ := h6 _ hb
    have hO : Mine H 0 y_uint8 1 v.1 (byteCells v.2) := hO
    have hvl : v.2.length = v.1.2.1 := by have := hO.len; rw [length_byteCells] at this; omega
    refine genT_of (l := [.slc, .bool]) (v.1, true) (by refine (lookup_v K27 u57 z22 hw2 (hx1.get h2 (by simp)) h3 hk).trans ?_; rw [hg]; rfl) ?_
    refine iteP_f rfl ?_
    have one : ∀ h : at_ < 0 ∨ (v.2.length : Int) ≤ at_ ∨ t = 0, spoilCode (vget r k) at_ t = 1 := by intro h; rw [hv]; simp only [spoilCode, if_pos h]
    refine joinP_in ?_
    refine iteP_dec (fun h => keep 1 (by omega) (one (.inl h))) (fun ha0 => ?_)
    refine iteP_dec (fun h => keep 1 (by omega) (one (.inr (.inl (by simp only at h; omega))))) (fun hal => ?_)
    refine iteP_eq (fun h => keep 1 (by omega) (one (.inr (.inr (UInt8.toNat_inj.1 (by simpa using h)))))) (fun ht => ?_)
    obtain ⟨i, rfl⟩ : ∃ i : Nat, at_ = (i : Int) := ⟨at_.toNat, by omega⟩
    have hil : i < v.2.length := by simp only at hal; omega
    have hs0 : spoilCode (vget r k) (i : Int) t = 0 := by
      rw [hv]
      simp only [spoilCode]
      rw [if_neg]
      rintro (h | h | h)
      · omega
      · omega
      · subst h; exact ht rfl
    obtain ⟨bb, cc, hxa, hbb, hic, hci, hput⟩ := (hO.ext hx1 (by simp)).put (i := i) (by simpa using hil) (.int .u8 ((v.2.getD i 0 ^^^ t).toNat : Int))
    have hva : v.1.1 = some ⟨bb, 0, none⟩ := hxa
    simp only
    rw [hva]
    refine ixS_1 i rfl (by omega) ?_
    rw [Nat.zero_add]
    refine ld_h (t := ((v.2.getD i 0).toNat : Int)) hw2 hbb (by rw [hci, byteCells_get hil]; rfl) ?_
    refine xor8 _ _ ?_
    refine ixS_1 i rfl (by omega) ?_
    rw [Nat.zero_add]
    refine stC_h hw2 hbb hic fun w3 hw3 => ?_
    rw [← hw3] at hput
    have hbf : bb ∈ fp := hOf bb (by simp only [ownM]; rw [hva]; simp)
    have hx3 : Ext [bb] H w3.heap := by rw [hw3]; exact (hx1.mono (by simp)).trans (Ext.set _ (by simp))
    have hbl : bb < H.size := by
      rcases hO with ⟨h, _⟩ | ⟨b2, c2, h, _, hb2, _⟩
      · rw [h] at hva; cases hva
      · rw [hva] at h; cases h; exact lt_of_get hb2
    have hbb0 : H[bb]? = some (.cells cc y_uint8 (0, 0)) := by
      have := hx1.2 bb hbl (by simp)
      rw [← this, hbb]
    have hmd : (mget r k).isSome = true := by rw [hg]; rfl
    have hvb : vl bv (mupd r k (v.1, spoilt v.2 (i : Int) t) c) = vl bv r := by
      rw [mupd_some hmd]
      simp only [vl, List.map_map]
      apply List.map_congr_left
      intro x hx
      simp only [Function.comp]
      by_cases e : x.1 = k
      · have := mget_of_mem h3.keys (k := x.1) (v := x.2.1) (c := x.2.2) hx
        rw [e, hg] at this
        simp only [if_pos e]
        cases this
        rfl
      · simp only [if_neg e]
    have hmemr : ∀ x ∈ mupd r k (v.1, spoilt v.2 (i : Int) t) c, (x.1 = k ∧ x.2.1 = (v.1, spoilt v.2 (i : Int) t)) ∨ (x.1 ≠ k ∧ x ∈ r) := by
      intro x hx
      rw [mupd_some hmd] at hx
      obtain ⟨y, hy, rfl⟩ := List.mem_map.1 hx
      by_cases e : y.1 = k
      · rw [if_pos e]; exact .inl ⟨e, rfl⟩
      · rw [if_neg e]; exact .inr ⟨e, hy⟩
    have hok := h3.upd (k := k) hk (v.1, spoilt v.2 (i : Int) t)
    rw [show mclk r k c = c from by simp [mclk, hg]] at hok
    have hlen : (spoilt v.2 (i : Int) t).length = v.2.length := by simp [spoilt]
    have hsp : byteCells (spoilt v.2 (i : Int) t) = (byteCells v.2).set i (.int .u8 ((v.2.getD i 0 ^^^ t).toNat : Int)) := by
      simp only [spoilt, byteCells, Int.toNat_natCast, List.map_set]
    refine ⟨by rw [hs0], mupd r k (v.1, spoilt v.2 (i : Int) t) c, ?_, hx3.mono (by simpa using hbf), ?_, ?_, ?_⟩
    · have htot : total (mupd r k (v.1, spoilt v.2 (i : Int) t) c) = total r := by
        rw [mupd_some hmd]
        simp only [total, List.map_map]
        congr 1
        apply List.map_congr_left
        intro x hx
        simp only [Function.comp]
        by_cases e : x.1 = k
        · have := mget_of_mem h3.keys (k := x.1) (v := x.2.1) (c := x.2.2) hx
          rw [e, hg] at this
          simp only [if_pos e]
          cases this
          exact hlen
        · simp only [if_neg e]
      refine ⟨m, ?_, ?_, hok, h4, h5, ?_, ?_⟩
      · rw [htot]
        exact hx3.get h1 (by simp only [List.mem_singleton]; intro e; rw [← e, h1] at hbb0; cases hbb0)
      · rw [hvb]
        exact hx3.get h2 (by simp only [List.mem_singleton]; intro e; rw [← e, h2] at hbb0; cases hbb0)
      · intro x hx
        rcases hmemr x hx with ⟨e, hx2⟩ | ⟨e, hx2⟩
        · rw [hx2]
          refine ⟨?_, hOf⟩
          rw [hsp]; exact hput
        · refine ⟨(h6 x hx2).1.ext hx3 fun b' hb' => ?_, (h6 x hx2).2⟩
          simp only [List.mem_singleton]
          intro e'
          exact h7 x hx2 _ hb e b' hb' (by simp only [ownM]; rw [hva]; simp [e'])
      · intro x hx y hy hne
        have sl : ∀ z ∈ mupd r k (v.1, spoilt v.2 (i : Int) t) c, ∃ z' ∈ r, z'.1 = z.1 ∧ z'.2.1.1 = z.2.1.1 := by
          intro z hz
          rcases hmemr z hz with ⟨e, hz2⟩ | ⟨e, hz2⟩
          · exact ⟨_, hb, e.symm, by rw [hz2]⟩
          · exact ⟨z, hz2, rfl, rfl⟩
        obtain ⟨x', hx', ex1, ex2⟩ := sl x hx
        obtain ⟨y', hy', ey1, ey2⟩ := sl y hy
        rw [← ex2, ← ey2]
        exact h7 x' hx' y' hy' (by rw [ex1, ey1]; exact hne)
    · rw [mupd_some hmd]
      simp only [total, List.map_map]
      congr 1
      apply List.map_congr_left
      intro x hx
      simp only [Function.comp]
      by_cases e : x.1 = k
      · have := mget_of_mem h3.keys (k := x.1) (v := x.2.1) (c := x.2.2) hx
        rw [e, hg] at this
        simp only [if_pos e]
        cases this
        exact hlen
      · simp only [if_neg e]
    · rw [mupd_some hmd]; simp
    · intro k'
      rw [hs0]
      simp only [vget, mget_upd, true_and]
      by_cases e : k' = k
      · subst e; simp [hg]
      · simp [e]
end Go.Proofs.YtkolbfjheleoaaaDoor
