/- Part 6 of the texts below the card, joined. -/
import Derived.Test.YtbmegmbnlajbbaaGreatDoorTCre
import Derived.Test.YtbmegmbnlajbbaaGreatDoorTCrc
import Derived.Test.YtbmegmbnlajbbaaGreatDoorTCra
import Derived.WalkKit
import Derived.ProofKit
import Derived.OpenShut
import Derived.Deep.DeepHandedRow
import Derived.Lib.LaidTab
import Derived.Carry
import Derived.Test.YtbmegmbnlajbbaaGreatDoorCards
import Derived.Test.YtbmegmbnlajbbaaGreatDoorTie
import Derived.Laws.Runes
namespace Go.Proofs.YtbmegmbnlajbbaaGreatDoor
open Go Go.Fw Go.Proofs Go.Sort
theorem bNk (n : Int) (w : World) : (Instr.build y_api_Node #[(0, .int .i64 n)]).run P w = .ok (.agg #[.int .i64 n, .string .empty, .int .i64 0, .slice none 0 0, .slice none 0 0]) w := by kernel_rfl
theorem bT3' (s : ByteArray) (n : Int) (a0 a1 a2 a3 a4 a5 a6 a7 a8 a9 a10 a11 a12 a13 a14 a15 a16 a17 a18 a19 a20 a21 a22 a23 a24 a25 a26 a27 a28 a29 a30 a31 : UInt8) (w : World) : (Instr.build y_api_Item #[(0, .string s), (1, .int .i64 n), (2, arr [a0, a1, a2, a3, a4, a5, a6, a7, a8, a9, a10, a11, a12, a13, a14, a15, a16, a17, a18, a19, a20, a21, a22, a23, a24, a25, a26, a27, a28, a29, a30, a31])]).run P w = .ok (.agg ([Value.string s, Value.int .i64 n] ++ byteCells [a0, a1, a2, a3, a4, a5, a6, a7, a8, a9, a10, a11, a12, a13, a14, a15, a16, a17, a18, a19, a20, a21, a22, a23, a24, a25, a26, a27, a28, a29, a30, a31]).toArray) w := by kernel_rfl
theorem bT3 (s : ByteArray) (n : Int) {k : List UInt8} (hk : k.length = 32) (w : World) : (Instr.build y_api_Item #[(0, .string s), (1, .int .i64 n), (2, arr k)]).run P w = .ok (.agg ([Value.string s, Value.int .i64 n] ++ byteCells k).toArray) w := by
 match k, hk with
 | [a0, a1, a2, a3, a4, a5, a6, a7, a8, a9, a10, a11, a12, a13, a14, a15, a16, a17, a18, a19, a20, a21, a22, a23, a24, a25, a26, a27, a28, a29, a30, a31], _ => exact bT3' s n a0 a1 a2 a3 a4 a5 a6 a7 a8 a9 a10 a11 a12 a13 a14 a15 a16 a17 a18 a19 a20 a21 a22 a23 a24 a25 a26 a27 a28 a29 a30 a31 w
theorem minU (m : Nat) (n : Nat) (w : World) : (Builtin.min_ #[y_uint64, y_uint64] y_uint64 #[.int .u64 (n : Int), .int .u64 (m : Int)]).run P w = .ok (.int .u64 ((min n m : Nat) : Int)) w := by
 rw [run_min_int2]
 congr 2
 split <;> omega
def rdParts : Nat → Rest → List (List UInt8) × Rest
 | 0, s => ([], s)
 | k + 1, s => ((rdParts k s).1 ++ [(dgS (rdParts k s).2).1], (dgS (rdParts k s).2).2)
def rdItm (s : Rest) : Itm × Rest := (⟨(txS 16 s).1, ((min (nmS (txS 16 s).2).1 9 : Nat) : Int), (dgS (nmS (txS 16 s).2).2).1⟩, (dgS (nmS (txS 16 s).2).2).2)
def rdItms : Nat → Rest → List Itm × Rest
 | 0, s => ([], s)
 | k + 1, s => ((rdItms k s).1 ++ [(rdItm (rdItms k s).2).1], (rdItm (rdItms k s).2).2)
def rdNode (s : Rest) : Nod × Rest :=
 if min (nmS s).1 9 = 1 then (⟨1, (txS 64 (nmS s).2).1, 0, [], []⟩, (txS 64 (nmS s).2).2)
 else if min (nmS s).1 9 = 2 then (⟨2, [], ((min (nmS (nmS s).2).1 1025 : Nat) : Int), (rdParts ((min (nmS (nmS s).2).1 1025 + 63) / 64) (nmS (nmS s).2).2).1, []⟩, (rdParts ((min (nmS (nmS s).2).1 1025 + 63) / 64) (nmS (nmS s).2).2).2)
 else if min (nmS s).1 9 = 3 then (⟨3, [], 0, [], (rdItms (min (nmS (nmS s).2).1 65) (nmS (nmS s).2).2).1⟩, (rdItms (min (nmS (nmS s).2).1 65) (nmS (nmS s).2).2).2)
 else (⟨((min (nmS s).1 9 : Nat) : Int), [], 0, [], []⟩, (nmS s).2)
theorem rdParts_len {s : Rest} : ∀ {k : Nat}, (rdParts k s).1.length = k
 | 0 => rfl
 | k + 1 => by rw [rdParts, List.length_append, rdParts_len]; rfl
theorem rdParts_32 {s : Rest} : ∀ {k : Nat}, ∀ p ∈ (rdParts k s).1, p.length = 32
 | 0, p, h => by cases h
 | k + 1, p, h => by
  simp only [rdParts, List.mem_append, List.mem_singleton] at h
  rcases h with h | rfl
  ·exact rdParts_32 p h
  ·exact dgS_32
theorem rdItms_len {s : Rest} : ∀ {k : Nat}, (rdItms k s).1.length = k
 | 0 => rfl
 | k + 1 => by rw [rdItms, List.length_append, rdItms_len]; rfl
theorem rdItms_32 {s : Rest} : ∀ {k : Nat}, ∀ p ∈ (rdItms k s).1, p.sum.length = 32
 | 0, p, h => by cases h
 | k + 1, p, h => by
  simp only [rdItms, List.mem_append, List.mem_singleton] at h
  rcases h with h | rfl
  ·exact rdItms_32 p h
  ·exact dgS_32
theorem rdNode_32 {s : Rest} : (∀ p ∈ (rdNode s).1.parts, p.length = 32) ∧ ∀ i ∈ (rdNode s).1.items, i.sum.length = 32 := by
 unfold rdNode
 split
 ·simp
 ·split
  ·exact ⟨rdParts_32, by simp⟩
  ·split
   ·exact ⟨by simp, rdItms_32⟩
   ·simp
structure NodM (H : Heap) (B : Nat) (n : Nod) (xp xi : Option Addr × Nat × Nat) : Prop where
 parts : Mine H B y_api_Digest 32 xp (n.parts.flatMap Bl.enc32)
 items : Mine H B y_api_Item 34 xi (n.items.flatMap encT)
 p32 : ∀ p ∈ n.parts, p.length = 32
 i32 : ∀ i ∈ n.items, i.sum.length = 32
theorem NodM.nodW {H : Heap} {B : Nat} {n : Nod} {xp xi : Option Addr × Nat × Nat} (h : NodM H B n xp xi) : NodW H n xp xi := by
 have l1 := h.parts.len
 have l2 := h.items.len
 rw [length_flatMap_k Bl.enc32 Bl.len_enc32] at l1
 rw [length_flatMap_k encT len_encT] at l2
 exact ⟨h.parts.cells, by omega, h.items.cells, by omega, h.p32, h.i32⟩
theorem NodM.ext {H H' : Heap} {B : Nat} {n : Nod} {xp xi : Option Addr × Nat × Nat} {M : List Nat} (h : NodM H B n xp xi) (hx : Ext M H H') (hM : ∀ m ∈ M, m < B) : NodM H' B n xp xi :=
 ⟨h.parts.ext hx (fun c hc hm => by have := ownM_ge h.parts c hc; have := hM c hm; omega), h.items.ext hx (fun c hc hm => by have := ownM_ge h.items c hc; have := hM c hm; omega), h.p32, h.i32⟩
theorem NodM.mono {H : Heap} {B B' : Nat} {n : Nod} {xp xi : Option Addr × Nat × Nat} (h : NodM H B n xp xi) (hB : B' ≤ B) : NodM H B' n xp xi :=
 ⟨h.parts.mono hB, h.items.mono hB, h.p32, h.i32⟩
theorem NodM.bare {H : Heap} {B : Nat} {n : Nod} (hp : n.parts = []) (hi : n.items = []) : NodM H B n (none, 0, 0) (none, 0, 0) :=
 ⟨by rw [hp]; exact .inl ⟨rfl, rfl⟩, by rw [hi]; exact .inl ⟨rfl, rfl⟩, by rw [hp]; simp, by rw [hi]; simp⟩
theorem app_itm_h {w : World} {H : Heap} {B : Nat} {x : Option Addr × Nat × Nat} {T : List Itm} {i : Itm} {Q : World → Prop} (hw : w.heap = H) (hm : Mine H B y_api_Item 34 x (T.flatMap encT)) (hBs : B ≤ H.size) (hlen : T.length ≤ 1073741824) (hQ : ∀ w', Ext [] H w'.heap → Q w') {K : (Option Addr × Nat × Nat) → World → Prop}
  (hK : ∀ x' w', Mine w'.heap B y_api_Item 34 x' ((T ++ [i]).flatMap encT) → Ext (ownM x) H w'.heap → (∀ c ∈ ownM x', c ∈ ownM x ∨ H.size ≤ c) → K x' w') :
  genL P (Instr.buildSlice y_S_api_Item 1 #[(0, .agg (encT i).toArray)]) .slc w fun (t27 : (Option Addr × Nat × Nat)) w_13 => Q w_13 ∧
  genL P (Builtin.append_ #[y_S_api_Item, y_S_api_Item] y_S_api_Item #[(Value.slice x.1 x.2.1 x.2.2), (Value.slice t27.1 t27.2.1 t27.2.2)]) .slc w_13 K := by
 have hlx : x.2.1 = T.length := by
  have := hm.len
  rw [length_flatMap_k encT len_encT] at this
  omega
 refine genL_of (s := .slc) (some ⟨w.heap.size, 0, none⟩, 1, 1) _ (build1_g ET uST (v := .agg (encT i).toArray) (by simp [Value.cells, len_encT]) (by omega) (by omega)) ?_
 subst hw
 have hxp : Ext [] w.heap (w.heap.push (.cells (Value.agg (encT i).toArray).cells y_api_Item)) := .push _
 refine ⟨hQ _ hxp, ?_⟩
 refine append_g (bts := 56) (n := 1) (us := encT i) (H := w.heap.push (.cells (Value.agg (encT i).toArray).cells y_api_Item)) ET (by omega) uST (slice_noint uST) rfl (hm.ext hxp (by simp)) (by simp; omega)
  (Src.slc rfl (.inr ⟨w.heap.size, 0, _, _, _, rfl, push_new, by simp [agg_cells], by simp [agg_cells, List.take_of_length_le]⟩) (by rw [len_encT])) one_encT (by omega) ?_
 intro x' w4 hm4 hl4 hx4 hs4
 refine hK x' w4 (by rw [List.flatMap_append, List.flatMap_singleton]; exact hm4) ((hxp.mono (by simp)).trans hx4) (fun c hc => ?_)
 rcases hs4 c hc with h | h
 ·exact .inl h
 ·right; have := hxp.1; omega
set_option maxHeartbeats 8000000 in
theorem nread_c {w : World} {H : Heap} {b : Nat} {F : List Nat} {s : Rest} (hw : w.heap = H) (hI : InW H b F s) (hF : ∀ c ∈ F, c < H.size) :
  CallF P F_node_read #[.pointer (some ⟨b, 0, none⟩)] w fun e w' => ∃ xp xi, e = .returned (.agg (nodC (rdNode s).1 xp xi).toArray) ∧ NodM w'.heap H.size (rdNode s).1 xp xi ∧ InW w'.heap b F (rdNode s).2 ∧ Ext [b] H w'.heap := by
 have hbl := hI.lt
 refine fn_node_read ?_
 unfold T_node_read
 refine newB_h hw fun w1 hw1 => ?_
 have hx1 : Ext [] H w1.heap := by rw [hw1]; exact .push _
 have hd1 : w1.heap[H.size]? = some (.cells (zc P y_api_Node) y_api_Node (0, 0)) := by rw [hw1]; exact push_new
 have s1 := lt_of_get hd1
 refine callF_of (inum_c rfl (hI.ext hx1 (by simp) (by simp))) ?_
 rintro e w2 ⟨rfl, hI2, hx2⟩
 refine ⟨((nmS s).1 : Int), rfl, ?_⟩
 have s2 := hx2.1
 refine genQ_of (s := .int .u64) ((min (nmS s).1 9 : Nat) : Int) (minU 9 _ _) ?_
 refine cvI_i64 (by omega) (by omega) ?_
 refine genQ_of (s := .any) _ (bNk _ _) ?_
 refine varN ⟨((min (nmS s).1 9 : Nat) : Int), [], 0, [], []⟩ (none, 0, 0) (none, 0, 0) rfl fun w4 hw4 => ?_
 have hx4 : Ext [] w2.heap w4.heap := by rw [hw4]; exact .push _
 have hn4 : w4.heap[w2.heap.size]? = some (.cells (nodC ⟨((min (nmS s).1 9 : Nat) : Int), [], 0, [], []⟩ (none, 0, 0) (none, 0, 0)).toArray y_api_Node (0, 0)) := by rw [hw4]; exact push_new
 have s4 := lt_of_get hn4
 have hd4 := hx4.get (hx2.get hd1 (by simp; omega)) (by simp)
 have hI4 := hI2.ext hx4 (by simp) (by simp)
 have hx04 : Ext [b] H w4.heap := ((hx1.mono (by simp)).trans hx2).trans (hx4.mono (by simp))
 refine Go.Fw.joinP_of (fun _ W => ∃ xp xi, W.heap[w2.heap.size]? = some (.cells (nodC (rdNode s).1 xp xi).toArray y_api_Node (0, 0)) ∧ (Mine W.heap w4.heap.size y_api_Digest 32 xp ((rdNode s).1.parts.flatMap Bl.enc32) ∧ Mine W.heap w4.heap.size y_api_Item 34 xi ((rdNode s).1.items.flatMap encT)) ∧ InW W.heap b F (rdNode s).2 ∧ Ext [b] H W.heap ∧ W.heap[H.size]? = some (.cells (zc P y_api_Node) y_api_Node (0, 0))) ?_ ?_
 rotate_left
 ·rintro _ W ⟨xp, xi, h1, h2, h3, h4, hd⟩
  refine ldA_all rfl h1 rfl ?_
  refine storeVar_h (v := .agg (nodC (rdNode s).1 xp xi).toArray) (by rw [szN]; rfl) (by simp [Value.cells, nodC]) (by
   intro v hv
   simp only [Value.cells, nodC, List.mem_cons, List.not_mem_nil, or_false] at hv
   rcases hv with rfl | rfl | rfl | rfl | rfl <;> rfl) rfl hd (by rw [zcN]; simp [Value.cells, nodC]) fun w5 hw5 => ?_
  rw [setCells_all (by rw [zcN]; simp [Value.cells, nodC])] at hw5
  have hx5 : Ext [H.size] W.heap w5.heap := by rw [hw5]; exact Ext.set _ (by simp)
  have hd5 : w5.heap[H.size]? = some (.cells (nodC (rdNode s).1 xp xi).toArray y_api_Node (0, 0)) := by rw [hw5]; exact set_new hd
  refine ldA_all rfl hd5 rfl ?_
  have hnod : NodM w5.heap H.size (rdNode s).1 xp xi := by
   obtain ⟨m1, m2⟩ := h2
   exact (NodM.ext ⟨m1, m2, rdNode_32.1, rdNode_32.2⟩ hx5 (fun c hc => by simp at hc; omega)).mono (by omega)
  refine ⟨xp, xi, rfl, hnod, h3.ext hx5 (by simp; omega) (fun c hc h => by simp at h; subst h; have := hF _ hc; omega), h4.own hx5 (fun c hc hlt => by simp at hc; omega)⟩
 refine ld_h (s := .int .i64) (t := ((min (nmS s).1 9 : Nat) : Int)) rfl hn4 rfl ?_
 refine joinP_in ?_
 have nil2 : ∀ {W : World}, Mine W.heap w4.heap.size y_api_Digest 32 (none, 0, 0) (([] : List (List UInt8)).flatMap Bl.enc32) ∧ Mine W.heap w4.heap.size y_api_Item 34 (none, 0, 0) (([] : List Itm).flatMap encT) := ⟨.inl ⟨rfl, rfl⟩, .inl ⟨rfl, rfl⟩⟩
 have bn : w2.heap.size ≠ b := by have := hx2.1; have := hx1.1; omega
 have fn : ∀ c ∈ F, w2.heap.size ≠ c := fun c hc => by have := hF c hc; have := hx2.1; have := hx1.1; omega
 refine iteP_eq (fun h1 => ?_) (fun h1 => ?_)
 ·have h1 : min (nmS s).1 9 = 1 := by omega
  have hr : rdNode s = (⟨1, (txS 64 (nmS s).2).1, 0, [], []⟩, (txS 64 (nmS s).2).2) := by unfold rdNode; rw [if_pos h1]
  rw [h1] at hn4
  refine callF_of (itext_c (most := 64) rfl hI4 (by omega)) ?_
  rintro e w5 ⟨rfl, hI5, hx5⟩
  refine ⟨strOf (txS 64 (nmS s).2).1, rfl, ?_⟩
  have hn5 := hx5.get hn4 (by simp; exact bn)
  refine stC_h rfl hn5 (by simp [nodC]) fun w6 hw6 => ?_
  have hx6 : Ext [w2.heap.size] w5.heap w6.heap := by rw [hw6]; exact Ext.set _ (by simp)
  rw [hr]
  refine ⟨(none, 0, 0), (none, 0, 0), by rw [hw6]; exact set_new hn5, nil2, hI5.ext hx6 (by simp; exact bn.symm) (fun c hc h => by simp at h; exact fn c hc h.symm), (hx04.trans hx5).own hx6 (fun c hc hlt => by simp at hc; omega), hx6.get (hx5.get hd4 (by simp; omega)) (by simp; omega)⟩
 refine iteP_eq (fun h2 => ?_) (fun h2 => ?_)
 ·have h1 : min (nmS s).1 9 ≠ 1 := by omega
  have h2 : min (nmS s).1 9 = 2 := by omega
  generalize hs2 : nmS (nmS s).2 = a2 at *
  have hr : rdNode s = (⟨2, [], ((min a2.1 1025 : Nat) : Int), (rdParts ((min a2.1 1025 + 63) / 64) a2.2).1, []⟩, (rdParts ((min a2.1 1025 + 63) / 64) a2.2).2) := by unfold rdNode; rw [if_neg h1, if_pos h2, hs2]
  rw [h2] at hn4
  refine callF_of (inum_c rfl hI4) ?_
  rintro e w5 ⟨rfl, hI5, hx5⟩
  refine ⟨((nmS (nmS s).2).1 : Int), rfl, ?_⟩
  rw [hs2] at hI5 ⊢
  refine genQ_of (s := .int .u64) ((min a2.1 1025 : Nat) : Int) (minU 1025 _ _) ?_
  generalize hK : min a2.1 1025 = K at *
  have hK2 : K ≤ 1025 := by omega
  refine cvI_i64 (by omega) (by omega) ?_
  have hn5 := hx5.get hn4 (by simp; exact bn)
  refine stC_h rfl hn5 (by simp [nodC]) fun w6 hw6 => ?_
  have hx6 : Ext [w2.heap.size] w5.heap w6.heap := by rw [hw6]; exact Ext.set _ (by simp)
  have hn6 : w6.heap[w2.heap.size]? = some (.cells (nodC ⟨2, [], (K : Int), [], []⟩ (none, 0, 0) (none, 0, 0)).toArray y_api_Node (0, 0)) := by rw [hw6]; exact set_new hn5
  refine ld_h (s := .int .i64) (t := (K : Int)) rfl hn6 rfl ?_
  have hparts : CallF P F_node_parts #[.int .i64 (K : Int)] w6 fun e w' => e = .returned (.int .i64 (((K + 63) / 64 : Nat) : Int)) ∧ w' = w6 := by
   refine fn_node_parts ?_
   unfold T_node_parts
   refine addI_to ((K : Int) + 64) rfl (by omega) (by omega) ?_
   refine subI_to ((K : Int) + 63) (by omega) (by omega) (by omega) ?_
   refine quoI_n (K + 63) 64 (by omega) rfl (by omega) (by omega) ?_
   exact ⟨rfl, rfl⟩
  refine callF_of hparts ?_
  rintro e w7 ⟨rfl, rfl⟩
  refine ⟨(((K + 63) / 64 : Nat) : Int), rfl, ?_⟩
  have hI6 := hI5.ext hx6 (by simp; exact bn.symm) (fun c hc h => by simp at h; exact fn c hc h.symm)
  have hx06 := (hx04.trans hx5).own hx6 (fun c hc hlt => by simp at hc; omega)
  have hd6 := hx6.get (hx5.get hd4 (by simp; omega)) (by simp; omega)
  have s46 : w4.heap.size ≤ w7.heap.size := Nat.le_trans hx5.1 hx6.1
  generalize hM : (K + 63) / 64 = M at *
  rw [hr]
  refine loopP_of (fun (t : Int) W => ∃ (i : Nat) (xp : Option Addr × Nat × Nat), t = (i : Int) ∧ i ≤ M ∧ W.heap[w2.heap.size]? = some (.cells (nodC ⟨2, [], (K : Int), (rdParts i a2.2).1, []⟩ xp (none, 0, 0)).toArray y_api_Node (0, 0)) ∧ Mine W.heap w4.heap.size y_api_Digest 32 xp ((rdParts i a2.2).1.flatMap Bl.enc32) ∧
   InW W.heap b F (rdParts i a2.2).2 ∧ Ext [b] H W.heap ∧ W.heap[H.size]? = some (.cells (zc P y_api_Node) y_api_Node (0, 0)) ∧ w4.heap.size ≤ W.heap.size) (fun t _ => (M - t).toNat) ⟨0, (none, 0, 0), rfl, Nat.zero_le _, hn6, .inl ⟨rfl, rfl⟩, hI6, hx06, hd6, s46⟩ ?_
  rintro _ W ⟨i, xp, rfl, hi, g1, g2, g3, g4, g5, g6⟩
  refine iteP_dec (fun hlt => ?_) (fun hge => ?_)
  ·refine drewP_h rfl fun w8 hw8 => ?_
   rw [← hw8] at g1 g2 g3 g4 g5 g6
   refine ld_h (s := .slc) (t := xp) rfl g1 rfl ?_
   refine callF_of (idig_c rfl g3 (fun c hc => by have := hF c hc; have := g4.1; omega)) ?_
   rintro e w9 ⟨rfl, hI9, hx9⟩
   refine ⟨arr (dgS (rdParts i a2.2).2).1, rfl, ?_⟩
   have k1 := hx9.get g1 (by simp; exact bn)
   have k2 := g2.ext hx9 (fun c hc h => by simp at h; subst h; have := ownM_ge g2 _ hc; omega)
   have s9 := hx9.1
   refine ⟨ld_h (s := .slc) (o := 3) (t := xp) (K := fun z => Value.slice z.1 z.2.1 z.2.2 = Value.slice xp.1 xp.2.1 xp.2.2) rfl k1 rfl rfl, ?_⟩
   refine app_dig_h rfl k2 (by omega) dgS_32 (by rw [rdParts_len]; omega) (fun w10 hx10 => ld_h (s := .slc) (o := 3) (t := xp) (K := fun z => Value.slice z.1 z.2.1 z.2.2 = Value.slice xp.1 xp.2.1 xp.2.2) rfl (hx10.get k1 (by simp)) rfl rfl) fun xp2 w11 hm11 hx11 hs11 => ?_
   have own3 : ∀ {c : Nat}, c < w4.heap.size → c ∉ ownM xp := fun h hc => by have := ownM_ge g2 _ hc; omega
   have k11 := hx11.get k1 (own3 s4)
   refine stC_h rfl k11 (by simp [nodC]) fun w12 hw12 => ?_
   have hx12 : Ext [w2.heap.size] w11.heap w12.heap := by rw [hw12]; exact Ext.set _ (by simp)
   have s11 := hx11.1
   have s12 := hx12.1
   refine addI_to ((i + 1 : Nat) : Int) (by simp) (by omega) (by omega) ?_
   refine ⟨⟨i + 1, xp2, rfl, by omega, by rw [hw12]; exact set_new k11, hm11.ext hx12 (fun c hc h => by simp at h; subst h; have := ownM_ge hm11 _ hc; omega), ?_, ?_, ?_, by omega⟩, by omega⟩
   ·refine (hI9.ext hx11 (own3 (by omega)) fun c hc => own3 (by have := hF c hc; omega)).ext hx12 (by simp; exact bn.symm) (fun c hc h => by simp at h; exact fn c hc h.symm)
   ·exact ((g4.trans hx9).own hx11 (fun c hc hlt => by have := ownM_ge g2 _ hc; omega)).own hx12 (fun c hc hlt => by simp at hc; omega)
   ·exact hx12.get (hx11.get (hx9.get g5 (by simp; omega)) (own3 (by omega))) (by simp; omega)
  ·obtain rfl : i = M := by omega
   exact ⟨xp, (none, 0, 0), g1, ⟨g2, .inl ⟨rfl, rfl⟩⟩, g3, g4, g5⟩
 refine iteP_eq (fun h3 => ?_) (fun h3 => ?_)
 ·have h1 : min (nmS s).1 9 ≠ 1 := by omega
  have h2 : min (nmS s).1 9 ≠ 2 := by omega
  have h3 : min (nmS s).1 9 = 3 := by omega
  generalize hs2 : nmS (nmS s).2 = a2 at *
  have hr : rdNode s = (⟨3, [], 0, [], (rdItms (min a2.1 65) a2.2).1⟩, (rdItms (min a2.1 65) a2.2).2) := by unfold rdNode; rw [if_neg h1, if_neg h2, if_pos h3, hs2]
  rw [h3] at hn4
  refine callF_of (inum_c rfl hI4) ?_
  rintro e w7 ⟨rfl, hI6, hx5⟩
  refine ⟨((nmS (nmS s).2).1 : Int), rfl, ?_⟩
  rw [hs2] at hI6 ⊢
  refine genQ_of (s := .int .u64) ((min a2.1 65 : Nat) : Int) (minU 65 _ _) ?_
  generalize hM : min a2.1 65 = M at *
  have hn6 := hx5.get hn4 (by simp; exact bn)
  have hx06 := hx04.trans hx5
  have hd6 := hx5.get hd4 (by simp; omega)
  have s46 : w4.heap.size ≤ w7.heap.size := hx5.1
  rw [hr]
  refine loopP_of (fun (t : Int) W => ∃ (i : Nat) (xi : Option Addr × Nat × Nat), t = (i : Int) ∧ i ≤ M ∧ W.heap[w2.heap.size]? = some (.cells (nodC ⟨3, [], 0, [], (rdItms i a2.2).1⟩ (none, 0, 0) xi).toArray y_api_Node (0, 0)) ∧ Mine W.heap w4.heap.size y_api_Item 34 xi ((rdItms i a2.2).1.flatMap encT) ∧
   InW W.heap b F (rdItms i a2.2).2 ∧ Ext [b] H W.heap ∧ W.heap[H.size]? = some (.cells (zc P y_api_Node) y_api_Node (0, 0)) ∧ w4.heap.size ≤ W.heap.size) (fun t _ => (M - t).toNat) ⟨0, (none, 0, 0), rfl, Nat.zero_le _, hn6, .inl ⟨rfl, rfl⟩, hI6, hx06, hd6, s46⟩ ?_
  rintro _ W ⟨i, xi, rfl, hi, g1, g2, g3, g4, g5, g6⟩
  refine iteP_dec (fun hlt => ?_) (fun hge => ?_)
  ·refine drewP_h rfl fun w8 hw8 => ?_
   rw [← hw8] at g1 g2 g3 g4 g5 g6
   have re : ∀ {W' : World}, W'.heap[w2.heap.size]? = some (.cells (nodC ⟨3, [], 0, [], (rdItms i a2.2).1⟩ (none, 0, 0) xi).toArray y_api_Node (0, 0)) → ld .slc (⟨w2.heap.size, 4, none⟩ : Addr) W' fun z => Value.slice z.1 z.2.1 z.2.2 = Value.slice xi.1 xi.2.1 xi.2.2 := fun h => ld_h (s := .slc) (o := 4) (t := xi) (K := fun z => Value.slice z.1 z.2.1 z.2.2 = Value.slice xi.1 xi.2.1 xi.2.2) rfl h rfl rfl
   refine ld_h (s := .slc) (t := xi) rfl g1 rfl ?_
   refine callF_of (itext_c (most := 16) rfl g3 (by omega)) ?_
   rintro e w9 ⟨rfl, hI9, hx9⟩
   refine ⟨strOf (txS 16 (rdItms i a2.2).2).1, rfl, ?_⟩
   have k9 := hx9.get g1 (by simp; exact bn)
   refine ⟨re k9, ?_⟩
   refine callF_of (inum_c rfl hI9) ?_
   rintro e w10 ⟨rfl, hI10, hx10⟩
   refine ⟨((nmS (txS 16 (rdItms i a2.2).2).2).1 : Int), rfl, ?_⟩
   have k10 := hx10.get k9 (by simp; exact bn)
   refine ⟨re k10, ?_⟩
   refine genQ_of (s := .int .u64) ((min (nmS (txS 16 (rdItms i a2.2).2).2).1 9 : Nat) : Int) (minU 9 _ _) ?_
   refine cvI_i64 (by omega) (by omega) ?_
   have s9 := hx9.1
   have s10 := hx10.1
   have s04 := g4.1
   refine callF_of (idig_c rfl hI10 (fun c hc => by have := hF c hc; omega)) ?_
   rintro e w11 ⟨rfl, hI11, hx11⟩
   refine ⟨arr (dgS (nmS (txS 16 (rdItms i a2.2).2).2).2).1, rfl, ?_⟩
   have k11 := hx11.get k10 (by simp; exact bn)
   refine ⟨genQ_of (s := .int .u64) ((min (nmS (txS 16 (rdItms i a2.2).2).2).1 9 : Nat) : Int) (minU 9 _ _) rfl, re k11, ?_⟩
   refine genQ_of (s := .any) (.agg (encT (rdItm (rdItms i a2.2).2).1).toArray) (by rw [bT3 _ _ dgS_32]; unfold encT rdItm; rw [Bl.enc32_eq dgS_32]; rfl) ?_
   have hx811 := (hx9.trans hx10).trans hx11
   have k2 := g2.ext hx811 (fun c hc h => by simp at h; subst h; have := ownM_ge g2 _ hc; omega)
   have s11 := hx11.1
   refine app_itm_h (i := (rdItm (rdItms i a2.2).2).1) rfl k2 (by omega) (by rw [rdItms_len]; omega) (fun w12 hx12 => re (hx12.get k11 (by simp))) fun xi2 w13 hm13 hx13 hs13 => ?_
   have own3 : ∀ {c : Nat}, c < w4.heap.size → c ∉ ownM xi := fun h hc => by have := ownM_ge g2 _ hc; omega
   have k13 := hx13.get k11 (own3 s4)
   refine stC_h rfl k13 (by simp [nodC]) fun w14 hw14 => ?_
   have hx14 : Ext [w2.heap.size] w13.heap w14.heap := by rw [hw14]; exact Ext.set _ (by simp)
   have s13 := hx13.1
   have s14 := hx14.1
   refine ⟨((i + 1 : Nat) : Int), (by rw [wrap_u64] <;> omega), ?_⟩
   have hI : InW w11.heap b F (rdItms (i + 1) a2.2).2 := hI11
   refine ⟨⟨i + 1, xi2, rfl, by omega, by rw [hw14]; exact set_new k13, hm13.ext hx14 (fun c hc h => by simp at h; subst h; have := ownM_ge hm13 _ hc; omega), ?_, ?_, ?_, by omega⟩, by omega⟩
   ·refine (hI.ext hx13 (own3 (by omega)) fun c hc => own3 (by have := hF c hc; omega)).ext hx14 (by simp; exact bn.symm) (fun c hc h => by simp at h; exact fn c hc h.symm)
   ·exact ((g4.trans hx811).own hx13 (fun c hc hlt => by have := ownM_ge g2 _ hc; omega)).own hx14 (fun c hc hlt => by simp at hc; omega)
   ·exact hx14.get (hx13.get (hx811.get g5 (by simp; omega)) (own3 (by omega))) (by simp; omega)
  ·obtain rfl : i = M := by omega
   exact ⟨(none, 0, 0), xi, g1, ⟨.inl ⟨rfl, rfl⟩, g2⟩, g3, g4, g5⟩
 ·have h1 : min (nmS s).1 9 ≠ 1 := by omega
  have h2 : min (nmS s).1 9 ≠ 2 := by omega
  have h3 : min (nmS s).1 9 ≠ 3 := by omega
  have hr : rdNode s = (⟨((min (nmS s).1 9 : Nat) : Int), [], 0, [], []⟩, (nmS s).2) := by unfold rdNode; rw [if_neg h1, if_neg h2, if_neg h3]
  rw [hr]
  exact ⟨(none, 0, 0), (none, 0, 0), hn4, nil2, hI4, hx04, hd4⟩
end Go.Proofs.YtbmegmbnlajbbaaGreatDoor
namespace Go.Proofs.YtbmegmbnlajbbaaGreatDoor
open Go Go.Fw Go.Proofs Go.Sort
def noNode : Nod := ⟨0, [], 0, [], []⟩
def decN (L : List UInt8) : Nod × Int := if (rdNode (some L)).2 = some [] ∧ rightN (rdNode (some L)).1 = true then ((rdNode (some L)).1, 0) else (noNode, 21)
theorem txS_len {m : Nat} {s : Rest} : (txS m s).1.length ≤ m := by
 unfold txS
 cases s with
 | none => simp
 | some R =>
  simp only
  cases h : rdText m R with
  | none => simp
  | some y =>
   unfold rdText at h
   cases h2 : rdNum R with
   | none => rw [h2] at h; cases h
   | some z =>
    rw [h2] at h
    simp only at h
    split at h
    ·cases h
    ·rename_i h3
     simp only [Option.some.injEq] at h
     rw [← h]; simp; omega
theorem rdItms_names {s : Rest} : ∀ {k : Nat}, ∀ i ∈ (rdItms k s).1, i.name.length ≤ 16
 | 0, p, h => by cases h
 | k + 1, p, h => by
  simp only [rdItms, List.mem_append, List.mem_singleton] at h
  rcases h with h | rfl
  ·exact rdItms_names p h
  ·exact txS_len
theorem rdNode_small {s : Rest} : (rdNode s).1.size ≤ 1025 ∧ (∀ i ∈ (rdNode s).1.items, i.name.length ≤ 16) ∧ (rdNode s).1.items.length ≤ 65 := by
 unfold rdNode
 split
 ·simp
 ·split
  ·exact ⟨by simp only; omega, by simp, by simp⟩
  ·split
   ·exact ⟨by simp, rdItms_names, by simp only; rw [rdItms_len]; omega⟩
   ·simp
theorem bN0 (w : World) : (Instr.build y_api_Node #[]).run P w = .ok (.agg (nodC noNode (none, 0, 0) (none, 0, 0)).toArray) w := by kernel_rfl
theorem stN {w : World} {H : Heap} {b : Nat} {c : Array Value} {T : TypeId} (n : Nod) (xp xi : Option Addr × Nat × Nat) (hw : w.heap = H) (hb : H[b]? = some (.cells c T (0, 0))) (hs : c.size = 5) {K : World → Prop}
  (hK : ∀ w', w'.heap = H.setIfInBounds b (.cells (nodC n xp xi).toArray T (0, 0)) → K w') : genU P (storeVar y_api_Node (⟨b, 0, none⟩ : Addr) (.agg (nodC n xp xi).toArray)) w K := by
 refine storeVar_h (v := .agg (nodC n xp xi).toArray) (by rw [szN]; rfl) (by simp [Value.cells, nodC]) (by
   intro v hv
   simp only [Value.cells, nodC, List.mem_cons, List.not_mem_nil, or_false] at hv
   rcases hv with rfl | rfl | rfl | rfl | rfl <;> rfl) hw hb (by rw [hs]; simp [Value.cells, nodC]) fun w5 hw5 => hK w5 ?_
 rw [setCells_all (by rw [hs]; simp [Value.cells, nodC])] at hw5
 simpa [Value.cells] using hw5
theorem none_ret {w : World} {H : Heap} {b : Nat} {R : Array Value → World → Prop} (hw : w.heap = H) (hb : H[b]? = some (.cells (zc P y_api_Node) y_api_Node (0, 0))) (hR : ∀ w', Ext [b] H w'.heap → R (nodC noNode (none, 0, 0) (none, 0, 0)).toArray w') :
  genQ P (Instr.build y_api_Node #[]) .any w fun (t : Value) => genU P (storeVar y_api_Node (⟨b, 0, none⟩ : Addr) t) w fun w2 => ldA P 5 (⟨b, 0, none⟩ : Addr) w2 fun t4 => R t4 w2 := by
 refine genQ_of (s := .any) _ (bN0 _) ?_
 refine stN noNode (none, 0, 0) (none, 0, 0) hw hb zcN fun w2 hw2 => ?_
 have hb2 : w2.heap[b]? = some (.cells (nodC noNode (none, 0, 0) (none, 0, 0)).toArray y_api_Node (0, 0)) := by rw [hw2]; exact set_new hb
 refine ldA_all rfl hb2 rfl ?_
 exact hR w2 (by rw [hw2]; exact Ext.set _ (by simp))
set_option maxHeartbeats 4000000 in
theorem ndecode_c {w : World} {H : Heap} {a : Option Addr} {n nc : Nat} {L : List UInt8} (hw : w.heap = H) (hL : Cells H a (byteCells L)) (hn : n = L.length) (hl : L.length ≤ 1099511627776) :
  CallF P F_node_Decode #[.slice a n nc] w fun e w' => ∃ xp xi, e = .returned (.tuple #[.agg (nodC (decN L).1 xp xi).toArray, .int .i64 (decN L).2]) ∧ NodM w'.heap H.size (decN L).1 xp xi ∧ Ext [] H w'.heap := by
 refine fn_node_Decode ?_
 unfold T_node_Decode
 refine newB_h hw fun w1 hw1 => ?_
 have hx1 : Ext [] H w1.heap := by rw [hw1]; exact .push _
 have hd1 : w1.heap[H.size]? = some (.cells (zc P y_api_Node) y_api_Node (0, 0)) := by rw [hw1]; exact push_new
 have s1 := lt_of_get hd1
 refine callF_of (read_c rfl (hL.ext hx1 (by simp)) hn hl) ?_
 rintro e w2 ⟨b, F, rfl, hI2, hx2, hb2, hF2, hb2l, hF2l⟩
 refine ⟨some ⟨b, 0, none⟩, rfl, ?_⟩
 have hd2 := hx2.get hd1 (by simp)
 refine callF_of (nread_c rfl hI2 hF2l) ?_
 rintro e w3 ⟨xp, xi, rfl, hN3, hI3, hx3⟩
 refine ⟨.agg (nodC (rdNode (some L)).1 xp xi).toArray, rfl, ?_⟩
 have hsm := rdNode_small (s := some L)
 have hdec : decN L = if (rdNode (some L)).2 = some [] ∧ rightN (rdNode (some L)).1 = true then ((rdNode (some L)).1, 0) else (noNode, 21) := rfl
 generalize rdNode (some L) = D at *
 have hx13 : Ext [] w1.heap w3.heap := hx2.own hx3 (fun c hc hlt => by simp at hc; omega)
 have hd3 := hx13.get hd1 (by simp)
 refine varN D.1 xp xi rfl fun w5 hw5 => ?_
 have hx5 : Ext [] w3.heap w5.heap := by rw [hw5]; exact .push _
 have hn5 : w5.heap[w3.heap.size]? = some (.cells (nodC D.1 xp xi).toArray y_api_Node (0, 0)) := by rw [hw5]; exact push_new
 have s3 := hx13.1
 have hd5 := hx5.get hd3 (by simp)
 have hx05 := (hx1.trans hx13).trans hx5
 have bad : ∀ {W W' : World}, ¬ (D.2 = some [] ∧ rightN D.1 = true) → Ext [] w5.heap W.heap → Ext [H.size] W.heap W'.heap → ∃ xp xi, Ending.returned (.tuple #[.agg (nodC noNode (none, 0, 0) (none, 0, 0)).toArray, .int .i64 21]) = .returned (.tuple #[.agg (nodC (decN L).1 xp xi).toArray, .int .i64 (decN L).2]) ∧ NodM W'.heap H.size (decN L).1 xp xi ∧ Ext [] H W'.heap := by
  intro W W' h hxa hxb
  rw [hdec, if_neg h]
  exact ⟨_, _, rfl, .bare rfl rfl, (hx05.trans hxa).own hxb (fun c hc hlt => by simp at hc; omega)⟩
 refine Go.Fw.joinP_of (fun _ W => Ext [] w5.heap W.heap ∧ (D.2 = some [] ∧ rightN D.1 = true)) ?_ ?_
 ·refine callF_of (iend_c rfl (hI3.ext hx5 (by simp) (by simp))) ?_
  rintro e w6 ⟨rfl, rfl⟩
  refine ⟨decide (D.2 = some []), rfl, ?_⟩
  by_cases he : D.2 = some []
  ·refine iteP_f (by simp [he]) ?_
   refine ldA_all rfl hn5 rfl ?_
   refine callF_of (right_c rfl (hN3.nodW.ext hx5) (by omega) (fun i hi => by have := hsm.2.1 i hi; omega) (by omega)) ?_
   rintro e w8 ⟨rfl, hx8⟩
   refine ⟨rightN D.1, rfl, ?_⟩
   cases hr : rightN D.1 with
   | true => exact iteP_f rfl ⟨hx8, he, rfl⟩
   | false => exact iteP_t rfl (none_ret rfl (hx8.get hd5 (by simp)) fun w9 hx9 => bad (fun h => by rw [hr] at h; cases h.2) hx8 hx9)
  ·exact iteP_t (by simp [he]) (none_ret rfl hd5 fun w7 hx7 => bad (fun h => he h.1) (.refl _ _) hx7)
 ·rintro _ W ⟨hx, hok⟩
  refine ldA_all rfl (hx.get hn5 (by simp)) rfl ?_
  refine stN D.1 xp xi rfl (hx.get hd5 (by simp)) zcN fun w11 hw11 => ?_
  have hx11 : Ext [H.size] W.heap w11.heap := by rw [hw11]; exact Ext.set _ (by simp)
  have hd11 : w11.heap[H.size]? = some (.cells (nodC D.1 xp xi).toArray y_api_Node (0, 0)) := by rw [hw11]; exact set_new (hx.get hd5 (by simp))
  refine ldA_all rfl hd11 rfl ?_
  rw [hdec, if_pos hok]
  refine ⟨xp, xi, rfl, ?_, (hx05.trans hx).own hx11 (fun c hc hlt => by simp at hc; omega)⟩
  have s2 := hx2.1
  exact (((hN3.ext hx5 (by simp)).ext hx (by simp)).ext hx11 (fun c hc => by simp at hc; omega)).mono (by omega)
end Go.Proofs.YtbmegmbnlajbbaaGreatDoor
namespace Go.Proofs.YtbmegmbnlajbbaaGreatDoor
open Go Go.Fw Go.Proofs Go.Sort
def getV (v : Option (List UInt8)) (k : List UInt8) (kind : Int) : Nod × Int :=
 if Bl.got v k ≠ 0 then (noNode, Bl.got v k) else if (decN (v.getD [])).2 ≠ 0 ∨ (decN (v.getD [])).1.kind ≠ kind then (noNode, 21) else ((decN (v.getD [])).1, 0)
set_option maxHeartbeats 4000000 in
theorem get_c {w : World} {H : Heap} {fp : List Nat} {p : Nat} {q : Int} {r : Bl.SM} {c : Nat} {k : List UInt8} {kind : Int} (hw : w.heap = H) (hS : Bl.Store H fp p q r c) (hk : k.length = 32) (hR : Bl.Rounds H) (hlen : ∀ L, Bl.vget r k = some L → L.length < 1099511627776) :
  CallF P F_tree_get #[.pointer (some ⟨p, 0, none⟩), arr k, .int .i64 kind] w fun e w' => ∃ xp xi, e = .returned (.tuple #[.agg (nodC (getV (Bl.vget r k) k kind).1 xp xi).toArray, .int .i64 (getV (Bl.vget r k) k kind).2]) ∧ NodM w'.heap H.size (getV (Bl.vget r k) k kind).1 xp xi ∧ Ext [] H w'.heap := by
 refine fn_tree_get ?_
 unfold T_tree_get
 rw [show (arr k).cells = (byteCells k).toArray from rfl]
 refine newB_h hw fun w1 hw1 => ?_
 have hx1 : Ext [] H w1.heap := by rw [hw1]; exact .push _
 have hb1 : w1.heap[H.size]? = some (.cells (byteCells k).toArray y_api_Digest (0, 0)) := by rw [hw1]; exact push_new
 have s1 := lt_of_get hb1
 refine newB_h rfl fun w2 hw2 => ?_
 have hx2 : Ext [] w1.heap w2.heap := by rw [hw2]; exact .push _
 have hd2 : w2.heap[w1.heap.size]? = some (.cells (zc P y_api_Node) y_api_Node (0, 0)) := by rw [hw2]; exact push_new
 have s2 := lt_of_get hd2
 have hx02 := hx1.trans hx2
 refine ldA_all rfl (hx2.get hb1 (by simp)) (by simp [hk]) ?_
 refine callF_of (Bl.get_c (k := k) rfl (hS.ext hx02 (by simp)) hk (hR.ext hx02 (by simp)) hlen) ?_
 rintro e w3 ⟨x, rfl, hx3, hgot, hno⟩
 refine ⟨(x, Bl.got (Bl.vget r k) k), rfl, ?_⟩
 have hd3 := hx3.get hd2 (by simp)
 have hx03 := hx02.trans hx3
 refine iteP_ne (fun h => ?_) (fun h => ?_)
 ·have hv : getV (Bl.vget r k) k kind = (noNode, Bl.got (Bl.vget r k) k) := by unfold getV; rw [if_pos h]
  refine none_ret rfl hd3 fun w4 hx4 => ?_
  rw [hv]
  exact ⟨_, _, rfl, .bare rfl rfl, hx03.own hx4 (fun c hc hlt => by simp at hc; omega)⟩
 have h : Bl.got (Bl.vget r k) k = 0 := h
 obtain ⟨L, hL, hm⟩ := hgot h
 have hv : getV (Bl.vget r k) k kind = if (decN L).2 ≠ 0 ∨ (decN L).1.kind ≠ kind then (noNode, 21) else ((decN L).1, 0) := by
  unfold getV; rw [if_neg (by simpa using h), hL]; rfl
 have hxl : x.2.1 = L.length := by have := hm.len; simp at this; omega
 refine callF_of (ndecode_c (L := L) rfl hm.cells hxl (by have := hlen L hL; omega)) ?_
 rintro e w5 ⟨xp, xi, rfl, hN5, hx5⟩
 refine ⟨(.agg (nodC (decN L).1 xp xi).toArray, (decN L).2), rfl, ?_⟩
 generalize decN L = D at *
 have hd5 := hx5.get hd3 (by simp)
 have s3 := hx3.1
 have s5 := hx5.1
 refine varN D.1 xp xi rfl fun w7 hw7 => ?_
 have hx7 : Ext [] w5.heap w7.heap := by rw [hw7]; exact .push _
 have hn7 : w7.heap[w5.heap.size]? = some (.cells (nodC D.1 xp xi).toArray y_api_Node (0, 0)) := by rw [hw7]; exact push_new
 have hd7 := hx7.get hd5 (by simp)
 have hx07 := (hx03.trans hx5).trans hx7
 have bad : ∀ {W' : World}, (D.2 ≠ 0 ∨ D.1.kind ≠ kind) → Ext [w1.heap.size] w7.heap W'.heap → ∃ xp xi, Ending.returned (.tuple #[.agg (nodC noNode (none, 0, 0) (none, 0, 0)).toArray, .int .i64 21]) = .returned (.tuple #[.agg (nodC (getV (Bl.vget r k) k kind).1 xp xi).toArray, .int .i64 (getV (Bl.vget r k) k kind).2]) ∧ NodM W'.heap H.size (getV (Bl.vget r k) k kind).1 xp xi ∧ Ext [] H W'.heap := by
  intro W' h hxb
  rw [hv, if_pos h]
  exact ⟨_, _, rfl, .bare rfl rfl, hx07.own hxb (fun c hc hlt => by simp at hc; omega)⟩
 refine Go.Fw.joinP_of (fun _ W => W.heap = w7.heap ∧ ¬ (D.2 ≠ 0 ∨ D.1.kind ≠ kind)) ?_ ?_
 ·refine iteP_ne (fun h1 => ?_) (fun h1 => ?_)
  ·exact none_ret rfl hd7 fun w8 hx8 => bad (.inl h1) hx8
  ·refine ld_h (s := .int .i64) (t := D.1.kind) rfl hn7 rfl ?_
   refine iteP_ne (fun h2 => ?_) (fun h2 => ?_)
   ·exact none_ret rfl hd7 fun w8 hx8 => bad (.inr h2) hx8
   ·exact ⟨rfl, fun h => h.elim (fun h => h h1) (fun h => h h2)⟩
 ·rintro _ W ⟨hW, hok⟩
  rw [← hW] at hn7 hd7
  have hxW : Ext [] H W.heap := by rw [hW]; exact hx07
  refine ldA_all rfl hn7 rfl ?_
  refine stN D.1 xp xi rfl hd7 zcN fun w11 hw11 => ?_
  have hx11 : Ext [w1.heap.size] W.heap w11.heap := by rw [hw11]; exact Ext.set _ (by simp)
  have hd11 : w11.heap[w1.heap.size]? = some (.cells (nodC D.1 xp xi).toArray y_api_Node (0, 0)) := by rw [hw11]; exact set_new hd7
  refine ldA_all rfl hd11 rfl ?_
  rw [hv, if_neg hok]
  refine ⟨xp, xi, rfl, ?_, hxW.own hx11 (fun c hc hlt => by simp at hc; omega)⟩
  have k1 := hN5.ext hx7 (by simp)
  rw [← hW] at k1
  exact (k1.ext hx11 (fun c hc => by simp at hc; omega)).mono (by omega)
end Go.Proofs.YtbmegmbnlajbbaaGreatDoor
namespace Go.Proofs.YtbmegmbnlajbbaaGreatDoor
open Go Go.Fw Go.Proofs Go.Sort
end Go.Proofs.YtbmegmbnlajbbaaGreatDoor
namespace Go.Proofs.YtbmegmbnlajbbaaGreatDoor
open Go Go.Fw Go.Proofs Go.Sort
theorem getV_items {v : Option (List UInt8)} {k : List UInt8} {kind : Int} : (getV v k kind).1.items.length ≤ 65 ∧ (∀ i ∈ (getV v k kind).1.items, i.name.length ≤ 16) ∧ (getV v k kind).1.size ≤ 1025 ∧ 0 ≤ (getV v k kind).1.size ∧ (getV v k kind).1.parts.length ≤ 65536 := by
 have hd : ∀ L, (decN L).1.items.length ≤ 65 ∧ (∀ i ∈ (decN L).1.items, i.name.length ≤ 16) ∧ (decN L).1.size ≤ 1025 ∧ 0 ≤ (decN L).1.size ∧ (decN L).1.parts.length ≤ 65536 := by
  intro L
  unfold decN
  split
  ·have := rdNode_small (s := some L)
   refine ⟨this.2.2, this.2.1, this.1, ?_, ?_⟩
   ·unfold rdNode; repeat' split
    all_goals simp
   ·unfold rdNode; repeat' split
    all_goals simp [rdParts_len]
    all_goals omega
  ·simp [noNode]
 unfold getV
 split
 ·simp [noNode]
 ·split
  ·simp [noNode]
  ·exact hd _
end Go.Proofs.YtbmegmbnlajbbaaGreatDoor
namespace Go.Proofs.YtbmegmbnlajbbaaGreatDoor
open Go Go.Fw Go.Proofs Go.Sort
theorem sum_at {i : Itm} : (encT i).toArray.extract 2 34 = (Bl.enc32 i.sum).toArray := by
 apply Array.toList_inj.1
 have := Bl.len_enc32 i.sum
 simp [encT, List.take_of_length_le, this]
end Go.Proofs.YtbmegmbnlajbbaaGreatDoor
namespace Go.Proofs.YtbmegmbnlajbbaaGreatDoor
open Go Go.Fw Go.Proofs Go.Sort
end Go.Proofs.YtbmegmbnlajbbaaGreatDoor
namespace Go.Proofs.YtbmegmbnlajbbaaGreatDoor
open Go Go.Fw Go.Proofs Go.Sort
end Go.Proofs.YtbmegmbnlajbbaaGreatDoor
namespace Go.Proofs.YtbmegmbnlajbbaaGreatDoor
open Go Go.Fw Go.Proofs Go.Sort
end Go.Proofs.YtbmegmbnlajbbaaGreatDoor
namespace Go.Proofs.YtbmegmbnlajbbaaGreatDoor
open Go Go.Fw Go.Proofs Go.Sort
end Go.Proofs.YtbmegmbnlajbbaaGreatDoor
namespace Go.Proofs.YtbmegmbnlajbbaaGreatDoor
open Go Go.Fw Go.Proofs Go.Sort
end Go.Proofs.YtbmegmbnlajbbaaGreatDoor
namespace Go.Fw
open Go Go.ChangeShapes Go.WideShapes Go.ChangeAt Go.RowKit
theorem cell_some {w : World} {b o : Nat} {s : Option _} {v : Value} (h : w.cell? ⟨b, o, s⟩ = some v) : s = none ∧ ∃ c T fr, w.heap[b]? = some (.cells c T fr) ∧ c[o]? = some v := by
 unfold World.cell? at h
 simp only at h
 split at h
 ·rename_i c T fr hc
  split at h
  ·cases h
  ·rename_i hs
   refine ⟨by simpa using hs, c, T, fr, hc, h⟩
 ·cases h
theorem bytes_of {H : Type} {enc : TypeId × Value → H} {P : Program} {t e : TypeId} (ht : P.underlying t = some (.slice e)) (he : P.underlying e = some (.int .u8)) (hc : P.cellsOf e = 1) {W : World} {v : Value} {d : DataW H} {p : List MemPlace}
  (hv : ∃ a l c, v = .slice a l c) (h0 : DataW.Trod enc P W 0 (fun _ => true) true t v d p) :
  ∃ a l c L, v = .slice a l c ∧ Cells W.heap a (byteCells L) ∧ l = L.length ∧ l ≤ c ∧ ((∀ n ∈ d.weights P t, n ≤ reachBytes) → P.bytesOf e = 1 → L.length ≤ reachBytes) := by
 obtain ⟨a, l, c, rfl⟩ := hv
 obtain ⟨fuel, hf⟩ := h0
 rcases open_ints ht he hc hf with ⟨hcs, _⟩ | ⟨a', len', cap', zs, hcs, _, hl, hm, hz, hxd, hcell, hwz⟩
 ·simp [Value.cells] at hcs
  obtain ⟨rfl, rfl, rfl⟩ := hcs
  exact ⟨none, 0, 0, [], rfl, .inl rfl, rfl, Nat.le_refl _, fun _ _ => Nat.zero_le _⟩
 ·simp [Value.cells] at hcs
  obtain ⟨rfl, rfl, rfl⟩ := hcs
  simp only [if_true] at hz
  have hby : ∀ x ∈ zs, 0 ≤ x ∧ x < 256 := by
   intro x hx
   have h := hwz x hx
   have h1 : IntKind.u8.min = 0 := rfl
   have h2 : IntKind.u8.max = 255 := rfl
   simp only [Lit.wf, Bool.and_eq_true, decide_eq_true_eq] at h
   omega
  refine ⟨some a', l, c, (zs.take l).map fun x => UInt8.ofNat x.toNat, rfl, ?_, by simp; omega, hl, ?_⟩
  rotate_left
  ·intro hw hb1
   simp only [Prod.mk.injEq] at hxd
   rw [hxd.1] at hw
   have := hw _ (by simp only [DataW.weights, ht]; exact List.mem_cons_self)
   simp [lits, hb1] at this
   simp
   omega
  have hbc : byteCells ((zs.take l).map fun x => UInt8.ofNat x.toNat) = (zs.take l).map (Value.int .u8) := by
   simp only [byteCells, List.map_map]
   apply List.map_congr_left
   intro x hx
   have := hby x (List.mem_of_mem_take hx)
   simp only [Function.comp, Value.int.injEq, true_and]
   simp only [UInt8.toNat_ofNat']
   omega
  rw [hbc]
  by_cases h0 : l = 0
  ·subst h0; exact .inl (by simp)
  ·obtain ⟨b, o, s⟩ := a'
   have hs : s = none := by
    obtain ⟨hs, _⟩ := cell_some (hcell 0 (by omega))
    cases s with
    | none => rfl
    | some x => simp at hs
   subst hs
   have hcl : ∀ i, i < zs.length → W.cell? ⟨b, o + i, none⟩ = some (.int .u8 (zs.getD i 0)) := fun i hi => by rw [← add_none]; exact hcell i hi
   obtain ⟨_, cc, T, fr, hb, _⟩ := cell_some (hcl 0 (by omega))
   have hcc : ∀ i, i < zs.length → cc[o + i]? = some (.int .u8 (zs.getD i 0)) := by
    intro i hi
    obtain ⟨_, c2, T2, f2, h1, h2⟩ := cell_some (hcl i hi)
    rw [hb] at h1; cases h1; exact h2
   refine .inr ⟨b, o, cc, T, fr, rfl, hb, ?_, ?_⟩
   ·have := (Array.getElem?_eq_some_iff.1 (hcc (l - 1) (by omega))).1
    simp; omega
   ·apply List.ext_getElem?
    intro i
    rw [Array.getElem?_toList, Array.getElem?_extract]
    simp only [List.length_map, List.length_take, List.getElem?_map, List.getElem?_take]
    by_cases hi : i < l
    ·have hiz : i < zs.length := by omega
     have := (Array.getElem?_eq_some_iff.1 (hcc i hiz)).1
     rw [if_pos (by omega), hcc i hiz, if_pos hi, List.getElem?_eq_getElem hiz]
     simp [List.getD_eq_getElem?_getD, List.getElem?_eq_getElem hiz]
    ·rw [if_neg (by omega), if_neg hi]; rfl
theorem cell_bytes {H : Type} {enc : TypeId × Value → H} {P : Program} {t e : TypeId} (ht : P.underlying t = some (.slice e)) (he : P.underlying e = some (.int .u8)) (hc : P.cellsOf e = 1) {W : World} {v : Value} {fuel : Nat} {x : DataW H × List MemPlace}
  (h : DataW.trod enc P W 0 (fun _ => true) true fuel t [v] = some x) : ∃ a l c L, v = .slice a l c ∧ Cells W.heap a (byteCells L) ∧ l = L.length ∧ l ≤ c ∧ ((∀ n ∈ x.1.weights P t, n ≤ reachBytes) → P.bytesOf e = 1 → L.length ≤ reachBytes) := by
 have hs : ∃ a l c, v = .slice a l c := by
  rcases open_ints ht he hc h with ⟨hcs, _⟩ | ⟨a', len', cap', zs, hcs, _⟩
  ·simp at hcs; exact ⟨_, _, _, hcs⟩
  ·simp at hcs; exact ⟨_, _, _, hcs⟩
 obtain ⟨a, l, c, rfl⟩ := hs
 exact bytes_of ht he hc (v := .slice a l c) ⟨a, l, c, rfl⟩ ⟨fuel, h⟩
theorem same_at {W W' : World} (h : ∀ i, i < W.heap.size → W'.heap[i]? = W.heap[i]?) {p : MemPlace} (hp : p.block < W.heap.size) : W.sameAt W' p := by
 cases p with
 | cell b off => simp only [World.sameAt, World.cell?]; rw [h b hp]
 | map b => exact h b hp
theorem trodAll_stays {H : Type} {enc : TypeId × Value → H} {P : Program} (hl : laidOutB P = true) {W W' : World} {sp' : Nat → Bool} (h : ∀ i, i < W.heap.size → W'.heap[i]? = W.heap[i]?) :
  ∀ {ts : List TypeId} {vs : List Value} {ds : List (DataW H)} {ps : List MemPlace}, (∀ t ∈ ts, P.readableRec t = true ∧ t < P.types.size) → (∀ p ∈ ps, p.block < W.heap.size ∧ sp' p.block = true) →
  DataW.TrodAll enc P W 0 (fun _ => true) true ts vs ds ps → DataW.TrodAll enc P W' 0 sp' true ts vs ds ps
 | [], vs, ds, ps, _, _, ht => by
  obtain ⟨rfl, rfl, rfl⟩ := trodAll_nil ht
  rfl
 | t :: ts, vs, ds, ps, hr, hp, ht => by
  obtain ⟨v, vs', d, ds', p, q, rfl, rfl, rfl, h1, h2⟩ := trodAll_cons ht
  refine ⟨p, q, ?_, trodAll_stays hl h (fun t ht => hr t (by simp [ht])) (fun x hx => hp x (by simp [hx])) h2, rfl⟩
  exact WideElems.Trod_stays hl (hr t (by simp)).1 (hr t (by simp)).2 h1 (fun x hx => same_at h (hp x (by simp [hx])).1) fun x hx => (hp x (by simp [hx])).2
theorem post_calm {H : Type} {enc : TypeId × Value → H} {P : Program} {f : Func} {s : ChangeSpec} {apart fresh handsOn again : Bool} {W W' : World} {args : Array Value} {v : Value} {ds gs : List (DataW H)} {before : List MemPlace}
  (hl : laidOutB P = true) (hpar : ∀ t ∈ f.params.toList, P.readableRec t = true ∧ t < P.types.size) (hvars : s.vars = [])
  (hW : DataW.Whole enc P f.params.toList s.vars apart W args.toList ds gs before) (hfa : (s.fn H (ds ++ gs)).args = ds) (hfv : (s.fn H (ds ++ gs)).vars = [])
  (hres : ∀ (b : Nat) (sp : Nat → Bool) (hd : Bool), DataW.TrodAll enc P W' b sp hd f.resultTypes.toList (v.resultList f.resultTypes.size) (s.fn H (ds ++ gs)).results [])
  (hx : Ext [] W.heap W'.heap) (hc : Calm W W')
  (hok : ∀ (j : Nat) (t : TypeId) (r : Value), f.resultTypes[j]? = some t → (v.resultList f.resultTypes.size)[j]? = some r → Value.okWide P W' .any 0 t r) :
  s.post enc P f apart fresh handsOn again W args v W' := by
 have hsame : ∀ i, i < W.heap.size → W'.heap[i]? = W.heap[i]? := fun i hi => hx.2 i hi (by simp)
 have hlt : ∀ p ∈ before, p.block < W.heap.size := fun p hp => hW.lt p hp
 have hW0 := hW
 obtain ⟨pa, pv, hA, hV, rfl, hz, hn⟩ := hW
 rw [hvars] at hV
 obtain ⟨rfl, rfl⟩ := trodVars_none hV
 rw [List.append_nil] at hlt hz hn
 have hargs : ∀ sp : Nat → Bool, (∀ p ∈ pa, sp p.block = true) → DataW.TrodAll enc P W' 0 sp true f.params.toList args.toList (s.fn H (ds ++ [])).args pa := by
  intro sp hsp
  rw [hfa]
  exact trodAll_stays hl hsame hpar (fun p hp => ⟨hlt p hp, hsp p hp⟩) hA
 have hvs : ∀ sp : Nat → Bool, DataW.TrodVars enc P W' sp s.vars (s.fn H (ds ++ [])).vars [] := by
  intro sp
  rw [hvars, hfv]
  rfl
 refine ⟨ds, [], pa ++ [], [], pa, [], hW0, hres _ _ _, hargs _ (fun p hp => by simpa using hlt p hp), hvs _, ⟨hc.1, hc.2.1, fun i hi => ?_⟩, fun _ => ⟨hok, _, _, ([] ++ pa) ++ [], ⟨[] ++ pa, [], trodAll_append (hargs _ (fun _ _ => rfl)) (hres _ _ _), hvs _, rfl, ?_, ?_⟩, ?_⟩⟩
 ·rw [hsame i hi]
  cases W.heap[i]? with
  | none => rfl
  | some o => cases o <;> first | exact ⟨rfl, rfl, rfl, fun _ _ => rfl⟩ | exact .inr ⟨rfl, rfl⟩ | rfl
 ·intro b off hp
  have hp : MemPlace.cell b off ∈ pa := by simpa using hp
  have h1 := hz b off (by simpa using hp)
  have h2 := hsame b (hlt _ hp)
  unfold World.frozen? at h1 ⊢
  rw [h2]
  exact h1
 ·intro ha
  simpa using hn ha
 ·intro p hp _
  simpa using hp
end Go.Fw
namespace Go.Fw
open Go Go.ChangeShapes Go.WideShapes Go.ChangeAt Go.RowKit
section
variable {H : Type} {enc : TypeId × Value → H} {P : Program} {W : World}
theorem cells_n {a : Addr} {n : Nat} {cs : List Value} (h0 : 0 < n) (h : W.cells? 0 a n = some cs) : a.spot = none ∧ ∃ c T fr, W.heap[a.block]? = some (.cells c T fr) ∧ a.off + n ≤ c.size ∧ cs = (c.toList.drop a.off).take n := by
 obtain ⟨b, o, s⟩ := a
 simp only [World.cells?, Nat.zero_le, if_true] at h
 have hl : cs.length = n := by simpa using mapM_some_length h
 have hg : ∀ i, i < n → W.cell? (Addr.add ⟨b, o, s⟩ i) = cs[i]? := fun i hi => mapM_some_get h i i (by simp [hi])
 have h1 := hg 0 h0
 rw [List.getElem?_eq_getElem (by omega)] at h1
 obtain ⟨hs, c, T, fr, hb, _⟩ := cell_some h1
 have hs' : s = none := by
  cases s with
  | none => rfl
  | some z => simp at hs
 subst hs'
 have hc : ∀ i, i < n → c[o + i]? = cs[i]? := by
  intro i hi
  have h2 := hg i hi
  rw [List.getElem?_eq_getElem (by omega), add_none] at h2
  obtain ⟨_, c2, T2, f2, hb2, hc2⟩ := cell_some h2
  rw [hb] at hb2; cases hb2
  rw [hc2, List.getElem?_eq_getElem (by omega)]
 have hsz : o + n ≤ c.size := by
  have h3 := hc (n - 1) (by omega)
  rw [List.getElem?_eq_getElem (by omega)] at h3
  have := (Array.getElem?_eq_some_iff.1 h3).1
  omega
 refine ⟨rfl, c, T, fr, hb, hsz, ?_⟩
 apply List.ext_getElem?
 intro i
 by_cases hi : i < n
 ·rw [← hc i hi, List.getElem?_take, if_pos hi, List.getElem?_drop, Array.getElem?_toList]
 ·rw [List.getElem?_eq_none (by omega), List.getElem?_take, if_neg hi]
theorem spot_add {a : Addr} (h : (a.add 0).spot = none) : a.spot = none := by
 obtain ⟨b, o, s⟩ := a
 cases s with
 | none => rfl
 | some z => simp [Addr.add] at h
theorem row_of {t e : TypeId} {sz : Nat} (ht : P.underlying t = some (.slice e)) (hc : P.cellsOf e = sz) (h0 : 0 < sz) {v : Value} {fuel : Nat} {x : DataW H × List MemPlace} (h : DataW.trod enc P W 0 (fun _ => true) true fuel t [v] = some x) :
  ∃ (a : Option Addr) (n nc : Nat) (ys : List (DataW H)), v = .slice a n nc ∧ n ≤ nc ∧ ys.length = n ∧ ((n = 0 ∧ ys = [] ∧ x.1 = .nil) ∨ ∃ rest, x.1 = .slice ys rest) ∧
   ∀ i (hi : i < ys.length), ∃ (b o : Nat) (c : Array Value) (T : TypeId) (fr : Nat × Nat) (m : Nat) (ps : List MemPlace), a = some ⟨b, o, none⟩ ∧ W.heap[b]? = some (.cells c T fr) ∧ o + i * sz + sz ≤ c.size ∧ DataW.trod enc P W 0 (fun _ => true) true m e ((c.toList.drop (o + i * sz)).take sz) = some (ys[i], ps) := by
 rcases DataW.trod_slice ht h with ⟨hcs, rfl⟩ | ⟨a', len, cap, elems, rest, m, _, hcs, rfl, _, hle, _, hlen, hel, _⟩
 ·simp only [List.cons.injEq, and_true] at hcs
  exact ⟨none, 0, 0, [], hcs, Nat.le_refl _, rfl, .inl ⟨rfl, rfl, rfl⟩, fun i hi => absurd hi (by simp)⟩
 ·simp only [List.cons.injEq, and_true] at hcs
  refine ⟨some a', len, cap, elems.map (·.1), hcs, hle, by simpa using hlen, .inr ⟨_, rfl⟩, fun i hi => ?_⟩
  have hil : i < len := by simpa [hlen] using hi
  have h1 := hel i hil
  rw [List.getElem?_eq_getElem (by omega), hc] at h1
  simp only [Option.bind_eq_some_iff] at h1
  obtain ⟨cs, h2, h3⟩ := h1
  obtain ⟨hsp, c, T, fr, hb, hsz, rfl⟩ := cells_n h0 h2
  have hsp' : a'.spot = none := by
   have h1 := hel 0 (by omega)
   rw [List.getElem?_eq_getElem (by omega), hc] at h1
   simp only [Option.bind_eq_some_iff, Nat.zero_mul] at h1
   obtain ⟨cs, h2, _⟩ := h1
   exact spot_add (cells_n h0 h2).1
  obtain ⟨b, o, s⟩ := a'
  obtain rfl : s = none := hsp'
  rw [add_none] at hb hsz h3
  exact ⟨b, o, c, T, fr, m, (elems[i]).2, rfl, hb, hsz, by simpa using h3⟩
def shapeOf (P : Program) (t : TypeId) : Option (List (TypeId × Nat)) := match P.underlying t with | some (.struct fs) => some (fs.toList.map fun f => (f.type, f.offset)) | _ => none
theorem struct_of {t : TypeId} {L : List (TypeId × Nat)} (hs : shapeOf P t = some L) {cs : List Value} {fuel : Nat} {x : DataW H × List MemPlace} (h : DataW.trod enc P W 0 (fun _ => true) true fuel t cs = some x) :
  ∃ ys : List (DataW H), x.1 = .agg ys ∧ cs.length = P.cellsOf t ∧ ys.length = L.length ∧ ∀ (i : Nat) (ti : TypeId) (off : Nat), L[i]? = some (ti, off) → ∃ m ps y, ys[i]? = some y ∧ DataW.trod enc P W 0 (fun _ => true) true m ti ((cs.drop off).take (P.cellsOf ti)) = some (y, ps) := by
 unfold shapeOf at hs
 split at hs
 ·rename_i fs hu
  injection hs with hs
  subst hs
  obtain ⟨xs, n, _, rfl, hl, hlen, hf⟩ := DataW.trod_struct hu h
  refine ⟨xs.map (·.1), rfl, hl, by simpa using hlen, fun i ti off hi => ?_⟩
  rw [List.getElem?_map, Option.map_eq_some_iff] at hi
  obtain ⟨f, hfi, he⟩ := hi
  simp only [Prod.mk.injEq] at he
  obtain ⟨rfl, rfl⟩ := he
  have h1 := hf i f (by simpa using hfi)
  have hil : i < xs.length := by
   have := (List.getElem?_eq_some_iff.1 hfi).1
   simp at this; omega
  rw [List.getElem?_eq_getElem hil] at h1
  exact ⟨n, (xs[i]).2, (xs[i]).1, by simp [List.getElem?_eq_getElem hil], h1⟩
 ·cases hs
theorem bool_of {t : TypeId} (ht : P.underlying t = some .bool) {v : Value} {fuel : Nat} {x : DataW H × List MemPlace} (h : DataW.trod enc P W 0 (fun _ => true) true fuel t [v] = some x) : ∃ b, v = .bool b := by
 cases fuel with
 | zero => simp [DataW.trod] at h
 | succ m =>
  unfold DataW.trod at h
  rw [ht] at h
  split at h <;> simp_all
theorem take_one {c : Array Value} {o : Nat} (h : o < c.size) : (c.toList.drop o).take 1 = [c[o]] := by
 rw [List.drop_eq_getElem_cons (by simpa using h)]
 simp
theorem field_one {c : Array Value} {o sz j : Nat} (hj : j < sz) (h : o + sz ≤ c.size) : (((c.toList.drop o).take sz).drop j).take 1 = [c[o + j]] := by
 rw [List.drop_take, List.drop_drop, List.take_take, Nat.min_eq_left (by omega)]
 exact take_one (by omega)
end
end Go.Fw
namespace Go.Proofs.YtbmegmbnlajbbaaGreatDoor
open Go Go.Fw Go.Proofs Go.ChangeShapes Go.WideShapes Go.ChangeAt Go.RowKit
variable {Hh : Type} {enc : TypeId × Value → Hh} {W : World}
theorem row_max {t e : TypeId} (ht : P.underlying t = some (.slice e)) {a : Option Addr} {n nc : Nat} {fuel : Nat} {x : DataW Hh × List MemPlace} (h : DataW.trod enc P W 0 (fun _ => true) true fuel t [.slice a n nc] = some x) : n ≤ 9223372036854775807 := by
 rcases DataW.trod_slice ht h with ⟨hcs, _⟩ | ⟨a', len, cap, elems, rest, m, _, hcs, _, _, hle, hmax, _⟩
 ·simp only [List.cons.injEq, Value.slice.injEq, and_true] at hcs
  omega
 ·simp only [List.cons.injEq, Value.slice.injEq, and_true] at hcs
  have : maxLen = 9223372036854775807 := by decide
  omega
theorem str_of {t : TypeId} (ht : P.underlying t = some .string) {v : Value} {fuel : Nat} {x : DataW Hh × List MemPlace} (h : DataW.trod enc P W 0 (fun _ => true) true fuel t [v] = some x) : ∃ L : List UInt8, v = .string (strOf L) ∧ L.length ≤ 9223372036854775807 := by
 cases fuel with
 | zero => simp [DataW.trod] at h
 | succ m =>
  unfold DataW.trod at h
  rw [ht] at h
  split at h <;> simp_all
  refine ⟨_, strOf_data.symm, ?_⟩
  have hm : maxLen = 9223372036854775807 := by decide
  have h1 := h.1
  simp only [ByteArray.size] at h1
  rw [Array.length_toList]
  omega
theorem cStr : P.cellsOf y_string = 1 := by kernel_rfl
theorem shFile : shapeOf P y_api_File = some [(y_string, 0), (y_bool, 1), (y_string, 2)] := by kernel_rfl
theorem cFile : P.cellsOf y_api_File = 3 := by kernel_rfl
theorem cBoolF : P.cellsOf y_bool = 1 := by kernel_rfl
theorem open_files {t : TypeId} (ht : P.underlying t = some (.slice y_api_File)) {v : Value} {fuel : Nat} {x : DataW Hh × List MemPlace} (h : DataW.trod enc P W 0 (fun _ => true) true fuel t [v] = some x) :
  ∃ (a : Option Addr) (n nc : Nat) (L : List Fil), v = .slice a n nc ∧ Cells W.heap a (L.flatMap encF) ∧ n = L.length ∧ L.length ≤ 9223372036854775807 := by
 obtain ⟨a, n, nc, ys, rfl, hle, hn, hx, hel⟩ := row_of ht cFile (by omega) h
 have hmax := row_max ht h
 have key : ∀ i (hi : i < ys.length), ∃ f : Fil, ∃ (b o : Nat) (c : Array Value) (T : TypeId) (fr : Nat × Nat), a = some ⟨b, o, none⟩ ∧ W.heap[b]? = some (.cells c T fr) ∧ o + i * 3 + 3 ≤ c.size ∧ ∀ j, j < 3 → c[o + i * 3 + j]? = (encF f)[j]? := by
  intro i hi
  obtain ⟨b, o, c, T, fr, m, ps, rfl, hb, hsz, ht2⟩ := hel i hi
  obtain ⟨zs, _, _, _, hf⟩ := struct_of shFile ht2
  obtain ⟨a0, b0, e0, _, g0⟩ := hf 0 y_string 0 rfl
  obtain ⟨a1, b1, e1, _, g1⟩ := hf 1 y_bool 1 rfl
  obtain ⟨a2, b2, e2, _, g2⟩ := hf 2 y_string 2 rfl
  rw [cStr, field_one (by omega) hsz] at g0 g2
  rw [cBoolF, field_one (by omega) hsz] at g1
  obtain ⟨p, hp, _⟩ := str_of uStr g0
  obtain ⟨d, hd⟩ := bool_of uBoolF g1
  obtain ⟨s, hs, _⟩ := str_of uStr g2
  have cell : ∀ {j : Nat} {w : Value} (hj : j < 3), c[o + i * 3 + j]'(by omega) = w → c[o + i * 3 + j]? = some w := fun hj h => by rw [← h]; exact Array.getElem?_eq_getElem _
  refine ⟨⟨p, d, s⟩, b, o, c, T, fr, rfl, hb, hsz, fun j hj => ?_⟩
  match j, hj with
  | 0, _ => exact cell (j := 0) (by omega) hp
  | 1, _ => exact cell (j := 1) (by omega) hd
  | 2, _ => exact cell (j := 2) (by omega) hs
 classical
 have hLl : ((List.range n).map fun i => if h : i < ys.length then Classical.choose (key i h) else default).length = n := by simp
 refine ⟨a, n, nc, (List.range n).map fun i => if h : i < ys.length then Classical.choose (key i h) else default, rfl, ?_, by simp, by simpa using hmax⟩
 by_cases h0 : n = 0
 ·subst h0; exact .inl rfl
 ·obtain ⟨b, o, c, T, fr, rfl, hb, _, _⟩ := Classical.choose_spec (key 0 (by omega))
  have at_ : ∀ i (hi : i < ys.length), o + i * 3 + 3 ≤ c.size ∧ ∀ j, j < 3 → c[o + i * 3 + j]? = (encF (Classical.choose (key i hi)))[j]? := by
   intro i hi
   obtain ⟨b2, o2, c2, T2, fr2, he, hb2, h3, h4⟩ := Classical.choose_spec (key i hi)
   cases he
   rw [hb] at hb2; cases hb2
   exact ⟨h3, h4⟩
  refine .inr ⟨b, o, c, T, fr, rfl, hb, ?_, ?_⟩
  ·have := (at_ (n - 1) (by omega)).1
   rw [lenF, hLl]; omega
  ·apply List.ext_getElem?
   intro j
   rw [Array.getElem?_toList, Array.getElem?_extract, lenF, hLl, getElem_flatMap encF len_encF (by omega), List.getElem?_map]
   by_cases hj : j < n * 3
   ·have hj3 : j / 3 < ys.length := by omega
    have hsz := (at_ (n - 1) (by omega)).1
    rw [if_pos (by omega), List.getElem?_range (by omega)]
    simp only [Option.map_some, Option.bind_some, hj3, dif_pos]
    rw [← (at_ (j / 3) hj3).2 (j % 3) (by omega)]
    rw [show o + j / 3 * 3 + j % 3 = o + j from by omega]
   ·have hnone : (List.range n)[j / 3]? = none := List.getElem?_eq_none (by rw [List.length_range]; omega)
    rw [if_neg (by omega), hnone]; rfl
end Go.Proofs.YtbmegmbnlajbbaaGreatDoor
namespace Go.Proofs.YtbmegmbnlajbbaaGreatDoor.RowC
open Go.Proofs.YtbmegmbnlajbbaaGreatDoor.Bl Go Go.Fw Go.Proofs Go.ChangeShapes Go.WideShapes Go.ChangeAt Go.RowKit
theorem own : ownKnob Tryz.prog.godebug = none := by kernel_rfl
theorem gTab : Tryz.prog.globalNamed "veneer/sha.rounds" = some 0 := by kernel_rfl
theorem gTabType : (Tryz.prog.globals[0]?).map (·.type) = some y_64_uint32 := by kernel_rfl
theorem u66 : Tryz.prog.underlying y_64_uint32 = some (.array 64 y_uint32) := by kernel_rfl
theorem u64' : Tryz.prog.underlying y_uint32 = some (.int .u32) := by kernel_rfl
theorem cells66 : Tryz.prog.cellsOf y_64_uint32 = 64 := by kernel_rfl
theorem cells64 : Tryz.prog.cellsOf y_uint32 = 1 := by kernel_rfl
theorem laidOut : laidOutB Tryz.prog = true := by kernel_rfl
def kz : List Int := Sha.kc.map fun n : Nat => (n : Int)
theorem tab_eq : (Rows.laid_veneer_sha_rounds : DataW Unit) = Lib.tabData .u32 kz := by kernel_rfl
theorem table {W : World} (h : laidMetH Tryz.prog [("veneer/sha.rounds", Rows.laid_veneer_sha_rounds)] W) : Lib.TabIs Tryz.prog W "veneer/sha.rounds" .u32 kz := by
 have h' : laidMet Tryz.prog [("veneer/sha.rounds", (Rows.laid_veneer_sha_rounds : DataW Unit))] W := h
 rw [tab_eq] at h'
 exact Lib.tabIs_of_head (rest := []) gTab gTabType u66 u64' cells64 cells66 h'
theorem K_nat : ∀ i, i < 64 → kz.getD i 0 = ((Sha.K i).toNat : Int) := by decide +kernel
theorem rounds_of {W : World} (h : Lib.TabIs Tryz.prog W "veneer/sha.rounds" .u32 kz) : Rounds W.heap := by
 have hc : ∀ i, i < 64 → W.cell? ⟨0, i, none⟩ = some (.int .u32 ((Sha.K i).toNat : Int)) := by
  intro i hi
  rw [← K_nat i hi]
  exact h.cell gTab i (by simpa [kz, Sha.kc] using hi)
 obtain ⟨_, c, T, fr, hb, _⟩ := cell_some (hc 0 (by omega))
 refine ⟨c, T, fr, hb, fun i hi => ?_⟩
 obtain ⟨_, c2, T2, fr2, hb2, h2⟩ := cell_some (hc i hi)
 rw [hb] at hb2
 cases hb2
 rw [Nat.zero_add]
 exact h2
noncomputable def laidWorld (os : Os) : World :=
 { World.holding Tryz.prog os ⟨#[], #[], []⟩ with heap := (World.holding Tryz.prog os ⟨#[], #[], []⟩).heap.modify 0 fun
   | .cells _ t frozen => .cells (W32 Sha.K 64) t frozen
   | o => o }
theorem b5' : P.bytesOf y_uint8 = 1 := by kernel_rfl
theorem reach_lt {n : Nat} (h : n ≤ reachBytes) : n < 140737488351233 := by
 have : reachBytes = 140737488351232 := rfl
 omega
end Go.Proofs.YtbmegmbnlajbbaaGreatDoor.RowC
namespace Go.Proofs.YtbmegmbnlajbbaaGreatDoor
open Go Go.Fw Go.Proofs Go.Sort
abbrev Pr := List UInt8 × Int
def kidsN (n : Nod) : List Pr := n.parts.map (fun p => (p, 1)) ++ n.items.map fun i => (i.sum, i.kind)
section
variable {σ : Type} (stp : σ → Pr → σ × List Pr × Int)
inductive Run : Nat → List Pr → σ → σ → Int → Prop
 | nil {s : σ} : Run 0 [] s s 0
 | stop {p : Pr} {todo : List Pr} {s : σ} : (stp s p).2.2 ≠ 0 → Run 1 (p :: todo) s (stp s p).1 (stp s p).2.2
 | step {n : Nat} {p : Pr} {todo : List Pr} {s t : σ} {c : Int} : (stp s p).2.2 = 0 → Run n ((stp s p).2.1 ++ todo) (stp s p).1 t c → Run (n + 1) (p :: todo) s t c
variable {stp}
theorem Run.split : ∀ {n : Nat} {A B : List Pr} {s t : σ} {c : Int}, Run stp n (A ++ B) s t c → (c ≠ 0 ∧ Run stp n A s t c) ∨ ∃ n1 n2 m, n1 + n2 = n ∧ Run stp n1 A s m 0 ∧ Run stp n2 B m t c := by
 intro n
 induction n with
 | zero =>
  intro A B s t c h
  generalize hC : A ++ B = C at h
  cases h with
  | nil =>
   obtain ⟨rfl, rfl⟩ := List.append_eq_nil_iff.1 hC
   exact .inr ⟨0, 0, _, rfl, .nil, .nil⟩
 | succ n ih =>
  intro A B s t c h
  cases A with
  | nil => exact .inr ⟨0, n + 1, s, by omega, .nil, h⟩
  | cons p A =>
   rw [List.cons_append] at h
   cases h with
   | stop h0 => exact .inl ⟨h0, .stop h0⟩
   | step h0 h1 =>
    rw [← List.append_assoc] at h1
    rcases ih h1 with ⟨h2, h3⟩ | ⟨n1, n2, m, h2, h3, h4⟩
    ·exact .inl ⟨h2, .step h0 h3⟩
    ·exact .inr ⟨n1 + 1, n2, m, by omega, .step h0 h3, h4⟩
theorem Run.ends (μ : σ → Nat) (K : Nat) (h : ∀ s p, (stp s p).2.1.length ≤ K ∧ μ (stp s p).1 ≤ μ s ∧ ((stp s p).2.1 ≠ [] → μ (stp s p).1 < μ s)) : ∀ (m l : Nat) (todo : List Pr) (s : σ), μ s ≤ m → todo.length ≤ l → ∃ n t c, Run stp n todo s t c ∧ n ≤ l + (K + 1) * m := by
 intro m
 induction m with
 | zero =>
  intro l
  induction l with
  | zero =>
   intro todo s _ hl
   have : todo = [] := List.eq_nil_of_length_eq_zero (by omega)
   subst this
   exact ⟨0, s, 0, .nil, by omega⟩
  | succ l ih =>
   intro todo s hm hl
   cases todo with
   | nil => exact ⟨0, s, 0, .nil, by omega⟩
   | cons p todo =>
    by_cases h0 : (stp s p).2.2 = 0
    ·obtain ⟨_, h2, h3⟩ := h s p
     have h4 : (stp s p).2.1 = [] := Decidable.byContradiction fun h5 => by have := h3 h5; omega
     obtain ⟨n, t, c, h5, h6⟩ := ih todo (stp s p).1 (by omega) (by simp at hl; omega)
     exact ⟨n + 1, t, c, .step h0 (by rw [h4]; exact h5), by omega⟩
    ·exact ⟨1, _, _, .stop h0, by omega⟩
 | succ m ihm =>
  intro l
  induction l with
  | zero =>
   intro todo s _ hl
   have : todo = [] := List.eq_nil_of_length_eq_zero (by omega)
   subst this
   exact ⟨0, s, 0, .nil, by omega⟩
  | succ l ih =>
   intro todo s hm hl
   cases todo with
   | nil => exact ⟨0, s, 0, .nil, by omega⟩
   | cons p todo =>
    by_cases h0 : (stp s p).2.2 = 0
    ·obtain ⟨h1, h2, h3⟩ := h s p
     by_cases h4 : (stp s p).2.1 = []
     ·obtain ⟨n, t, c, h5, h6⟩ := ih todo (stp s p).1 (by omega) (by simp at hl; omega)
      exact ⟨n + 1, t, c, .step h0 (by rw [h4]; exact h5), by omega⟩
     ·have h5 := h3 h4
      obtain ⟨n, t, c, h6, h7⟩ := ihm (K + l) ((stp s p).2.1 ++ todo) (stp s p).1 (by omega) (by simp at hl ⊢; omega)
      refine ⟨n + 1, t, c, .step h0 h6, ?_⟩
      have : (K + 1) * (m + 1) = (K + 1) * m + (K + 1) := by rw [Nat.mul_add, Nat.mul_one]
      omega
    ·exact ⟨1, _, _, .stop h0, by have : 0 ≤ (K + 1) * (m + 1) := Nat.zero_le _; omega⟩
theorem Run.same : ∀ {n n' : Nat} {A : List Pr} {s t t' : σ} {c c' : Int}, Run stp n A s t c → Run stp n' A s t' c' → n = n' ∧ t = t' ∧ c = c' := by
 intro n n' A s t t' c c' h
 induction h generalizing n' t' c' with
 | nil => intro h'; cases h'; exact ⟨rfl, rfl, rfl⟩
 | stop h0 =>
  intro h'
  cases h' with
  | stop _ => exact ⟨rfl, rfl, rfl⟩
  | step h1 _ => exact absurd h1 h0
 | step h0 _ ih =>
  intro h'
  cases h' with
  | stop h1 => exact absurd h0 h1
  | step _ h2 =>
   obtain ⟨a, b, c⟩ := ih h2
   exact ⟨by rw [a], b, c⟩
end
structure LSt where
 seen : List Pr
 want : List Pr
 foul : Bool
def lookS (v : List UInt8 → Option (List UInt8)) (s : LSt) (p : Pr) : LSt × List Pr × Int :=
 if p ∈ s.seen then (s, [], 0) else if Bl.got (v p.1) p.1 ≠ 0 then (⟨s.seen ++ [p], s.want ++ [p], s.foul⟩, [], 0)
 else if (getV (v p.1) p.1 p.2).2 ≠ 0 then (⟨s.seen ++ [p], s.want, true⟩, [], 0) else (⟨s.seen ++ [p], s.want, s.foul⟩, kidsN (getV (v p.1) p.1 p.2).1, 0)
def unseen (r : Bl.SM) (seen : List Pr) : Nat := (r.filter fun x => decide ((x.1, (decN x.2.1.2).1.kind) ∉ seen)).length
theorem filter_len_le {α : Type} {p q : α → Bool} {l : List α} (h : ∀ x ∈ l, p x = true → q x = true) : (l.filter p).length ≤ (l.filter q).length := by
 induction l with
 | nil => simp
 | cons a l ih =>
  have h1 := ih fun x hx => h x (by simp [hx])
  have h2 := h a (by simp)
  rw [List.filter_cons, List.filter_cons]
  cases hp : p a <;> cases hq : q a <;> simp_all <;> omega
theorem filter_len_lt {α : Type} {p q : α → Bool} {l : List α} (h : ∀ x ∈ l, p x = true → q x = true) {a : α} (ha : a ∈ l) (hp : p a = false) (hq : q a = true) : (l.filter p).length < (l.filter q).length := by
 induction l with
 | nil => cases ha
 | cons b l ih =>
  have h0 : ∀ x ∈ l, p x = true → q x = true := fun x hx => h x (by simp [hx])
  have h2 := h b (by simp)
  rw [List.filter_cons, List.filter_cons]
  rcases List.mem_cons.1 ha with rfl | ha
  ·have := filter_len_le h0
   simp [hp, hq]; omega
  ·have := ih h0 ha
   cases hp' : p b <;> cases hq' : q b <;> simp_all <;> omega
theorem unseen_le {r : Bl.SM} {seen : List Pr} {p : Pr} : unseen r (seen ++ [p]) ≤ unseen r seen :=
 filter_len_le fun x _ h => by simp at h ⊢; exact h.1
theorem unseen_lt {r : Bl.SM} {seen : List Pr} {p : Pr} (hp : p ∉ seen) (hg : (getV (Bl.vget r p.1) p.1 p.2).2 = 0) : unseen r (seen ++ [p]) < unseen r seen := by
 unfold getV at hg
 split at hg
 ·rename_i h; exact absurd hg h
 ·rename_i h1
  split at hg
  ·simp at hg
  ·rename_i h2
   cases hv : Bl.vget r p.1 with
   | none => rw [hv] at h1; simp [Bl.got] at h1
   | some L =>
    rw [hv] at h2
    have h3 : (decN L).1.kind = p.2 := Decidable.byContradiction fun h => h2 (.inr h)
    have h4 : ∃ x ∈ r, x.1 = p.1 ∧ x.2.1.2 = L := by
     unfold Bl.vget at hv
     cases hm : mget r p.1 with
     | none => rw [hm] at hv; cases hv
     | some y =>
      rw [hm] at hv
      obtain ⟨c, hc⟩ := mget_some_mem hm
      exact ⟨_, hc, rfl, by simpa using hv⟩
    obtain ⟨x, hx, hx1, hx2⟩ := h4
    refine filter_len_lt (fun y _ h => by simp at h ⊢; exact h.1) hx ?_ ?_
    ·simp [hx1, hx2, h3]
    ·simp [hx1, hx2, h3, hp]
theorem kidsN_len {v : Option (List UInt8)} {k : List UInt8} {kind : Int} : (kidsN (getV v k kind).1).length ≤ 70000 := by
 have := getV_items (v := v) (k := k) (kind := kind)
 simp [kidsN]; omega
theorem look_step {r : Bl.SM} (s : LSt) (p : Pr) : (lookS (Bl.vget r) s p).2.1.length ≤ 70000 ∧ unseen r (lookS (Bl.vget r) s p).1.seen ≤ unseen r s.seen ∧ ((lookS (Bl.vget r) s p).2.1 ≠ [] → unseen r (lookS (Bl.vget r) s p).1.seen < unseen r s.seen) := by
 unfold lookS
 split
 ·simp
 ·rename_i h1
  split
  ·exact ⟨by simp, unseen_le, by simp⟩
  ·split
   ·exact ⟨by simp, unseen_le, by simp⟩
   ·rename_i h3
    exact ⟨kidsN_len, unseen_le, fun _ => unseen_lt h1 (by simpa using h3)⟩
theorem look_ends (r : Bl.SM) (todo : List Pr) (s : LSt) : ∃ n t c, Run (lookS (Bl.vget r)) n todo s t c ∧ n ≤ todo.length + 70001 * unseen r s.seen :=
 Run.ends (fun s => unseen r s.seen) 70000 (fun s p => look_step s p) _ _ todo s (Nat.le_refl _) (Nat.le_refl _)
theorem look_code {v : List UInt8 → Option (List UInt8)} : ∀ {n : Nat} {todo : List Pr} {s t : LSt} {c : Int}, Run (lookS v) n todo s t c → c = 0 := by
 intro n todo s t c h
 induction h with
 | nil => rfl
 | stop h0 =>
  exfalso
  apply h0
  unfold lookS
  repeat' split
  all_goals rfl
 | step _ _ ih => exact ih
end Go.Proofs.YtbmegmbnlajbbaaGreatDoor
namespace Go.Proofs.YtbmegmbnlajbbaaGreatDoor
open Go Go.Fw Go.Proofs Go.Sort
def encPr (p : Pr) : List Value := byteCells p.1 ++ [.int .i64 p.2]
def prV (p : Pr) : Value := .agg (encPr p).toArray
theorem fPr : (P.fieldsOf y_carry_pair).toList.map (fun f => (f.name, f.type, f.offset)) = [("sum", y_api_Digest, 0), ("kind", y_int, 32)] := by kernel_rfl
theorem uPr : P.underlying y_carry_pair = some (.struct (P.fieldsOf y_carry_pair)) := by kernel_rfl
theorem heldPr : P.stoodInHeld y_carry_pair = false := by kernel_rfl
theorem guardPr : P.eqGuardType P.depth y_carry_pair = false := by kernel_rfl
theorem aggD (w : World) : (isAgg y_api_Digest).run P w = .ok true w := by kernel_rfl
theorem szDg (w : World) : (sizeOf y_api_Digest).run P w = .ok 32 w := by kernel_rfl
theorem partDg {p : Pr} (h : p.1.length = 32) (w : World) : (part y_api_Digest (encPr p).toArray 0).run P w = .ok (arr p.1) w := by
 have t32 : (encPr p).take 32 = byteCells p.1 := List.take_left' (by simp [h])
 simp [part, aggD, szDg, arr, t32]
theorem partKd {p : Pr} (h : p.1.length = 32) (w : World) : (part y_int (encPr p).toArray 32).run P w = .ok (.int .i64 p.2) w := by
 refine partF (by kernel_rfl) ?_
 simp [encPr, ← h]
theorem equalIn_arr {d : Nat} {t e : TypeId} {n : Nat} {w : World} (hu : P.underlying t = some (.array n e)) (he : P.underlying e = some (.int .u8)) (hc : P.cellsOf e = 1) {A B : List UInt8} (hA : A.length = n) (hB : B.length = n) :
  (Op.equalIn (d + 1 + 1) t (arr A) (arr B)).run P w = .ok (decide (A = B)) w := by
 obtain ⟨i, hi⟩ : ∃ i, P.info? e = some i := info_of_underlying he
 unfold arr
 rw [run_equalIn_array w (d + 1) _ _ hu hi, eqItems_bytes (d := d) he hc A B (List.range n) (by intro j hj; simp at hj; omega)]
 refine congrArg (fun z => Result.ok z w) ?_
 rw [decide_eq_decide]
 simp only [List.mem_range]
 constructor
 ·intro h
  apply List.ext_getElem?
  intro j
  by_cases hj : j < n
  ·exact h j hj
  ·rw [List.getElem?_eq_none (by omega), List.getElem?_eq_none (by omega)]
 ·rintro rfl _ _; rfl
theorem pr_fields : ∃ f0 f1 : Field, P.fieldsOf y_carry_pair = #[f0, f1] ∧ f0.name = "sum" ∧ f0.type = y_api_Digest ∧ f0.offset = 0 ∧ f1.name = "kind" ∧ f1.type = y_int ∧ f1.offset = 32 := by
 have hf := fPr
 generalize P.fieldsOf y_carry_pair = fs at hf
 obtain ⟨fs⟩ := fs
 have hl : fs.length = 2 := by simpa using congrArg List.length hf
 match fs, hl with
 | [a, b], _ =>
  simp only [List.map_cons, List.map_nil, List.cons.injEq, Prod.mk.injEq, and_true] at hf
  exact ⟨a, b, rfl, hf.1.1, hf.1.2.1, hf.1.2.2, hf.2.1, hf.2.2.1, hf.2.2.2⟩
theorem eqPr {a b : Pr} (ha : a.1.length = 32) (hb : b.1.length = 32) (w : World) : (Op.equalIn 10000 y_carry_pair (prV a) (prV b)).run P w = .ok (decide (a = b)) w := by
 unfold prV
 rw [run_equalIn_agg w 9999 y_carry_pair _ _ uPr heldPr]
 obtain ⟨f0, f1, hf, n0, t0, o0, n1, t1, o1⟩ := pr_fields
 rw [hf]
 have q0 : (Op.equalIn 9999 f0.type (arr a.1) (arr b.1)).run P w = .ok (decide (a.1 = b.1)) w := by rw [t0]; exact equalIn_arr (d := 9997) Bl.u27 Bl.u5 Bl.c5 ha hb
 have q1 : (Op.equalIn 9999 f1.type (.int .i64 a.2) (.int .i64 b.2)).run P w = .ok (decide (a.2 = b.2)) w := by
  rw [t1, run_equalIn_int w 9998 y_int .i64 .i64 _ _ (by kernel_rfl)]; congr 1
 have e0 : ∀ {p : Pr}, p.1.length = 32 → (part f0.type (encPr p).toArray f0.offset).run P w = .ok (arr p.1) w := fun h => by rw [t0, o0]; exact partDg h w
 have e1 : ∀ {p : Pr}, p.1.length = 32 → (part f1.type (encPr p).toArray f1.offset).run P w = .ok (.int .i64 p.2) w := fun h => by rw [t1, o1]; exact partKd h w
 have hiff : (a = b) ↔ a.1 = b.1 ∧ a.2 = b.2 := Prod.ext_iff
 have fin : ∀ {c : Bool}, (Op.eqFields 9999 (encPr a).toArray (encPr b).toArray [f0, f1]).run P w = .ok c w → c = decide (a = b) → (Op.eqFields 9999 (encPr a).toArray (encPr b).toArray [f0, f1]).run P w = .ok (decide (a = b)) w := fun h e => by rw [h, e]
 by_cases h0 : a.1 = b.1
 ·rw [decide_eq_true h0] at q0
  by_cases h1 : a.2 = b.2
  ·rw [decide_eq_true h1] at q1
   refine fin (c := true) ?_ (by simp [hiff, h0, h1])
   simp only [Op.eqFields, n0, n1, ne_eq, String.reduceEq, not_false_eq_true, if_true, Sem.run_bind, e0 ha, e0 hb, e1 ha, e1 hb, Result.andThen_ok, q0, q1, Bool.not_true, Bool.false_eq_true, if_false, Sem.run_pure]
  ·rw [decide_eq_false h1] at q1
   refine fin (c := false) ?_ (by simp [hiff, h1])
   simp only [Op.eqFields, n0, n1, ne_eq, String.reduceEq, not_false_eq_true, if_true, Sem.run_bind, e0 ha, e0 hb, e1 ha, e1 hb, Result.andThen_ok, q0, q1, Bool.not_true, Bool.not_false, Bool.false_eq_true, if_false, Sem.run_pure]
 ·rw [decide_eq_false h0] at q0
  refine fin (c := false) ?_ (by simp [hiff, h0])
  simp only [Op.eqFields, n0, n1, ne_eq, String.reduceEq, not_false_eq_true, if_true, Sem.run_bind, e0 ha, e0 hb, Result.andThen_ok, q0, Bool.not_false, Bool.false_eq_true, if_false, Sem.run_pure]
theorem eqMPr {x y : Operand} {a b : Pr} (ha : a.1.length = 32) (hb : b.1.length = 32) {w : World} : (eqM .eql y_carry_pair x y (prV a) (prV b)).run P w = .ok (.bool (decide (a = b))) w := by
 have := eqPr ha hb w
 unfold prV at *
 simp only [eqM, Sem.run_bind, run_eqGuard_agg w .eql y_carry_pair x y _ _ guardPr, Result.andThen_ok, run_eql_struct w, this]
theorem sameBits_all : ∀ (l : List Value), (∀ v ∈ l, Instr.sameBits 9999 v v = true) → (l.zip l).all (fun (x : Value × Value) => Instr.sameBits 9999 x.1 x.2) = true
 | [], _ => rfl
 | v :: l, h => by
  simp only [List.zip_cons_cons, List.all_cons, h v (by simp), Bool.true_and]
  exact sameBits_all l fun u hu => h u (by simp [hu])
theorem check_arr_at {d : Nat} {t e : TypeId} {n : Nat} {w : World} (hu : P.underlying t = some (.array n e)) (he : P.underlying e = some (.int .u8)) (hc : P.cellsOf e = 1) {A : List UInt8} (hA : A.length = n) (em : Bool) :
  (Instr.checkKey em (d + 1 + 1) t (arr A)).run P w = .ok () w := by
 obtain ⟨i, hi⟩ : ∃ i, P.info? e = some i := info_of_underlying he
 unfold arr
 rw [Instr.checkKey]
 simp only [Sem.run_bind, run_underlying' hu, Result.andThen_ok]
 simp only [Std.Legacy.Range.forIn_eq_forIn_range', Std.Legacy.Range.size, Nat.sub_zero, Nat.add_one_sub_one, Nat.div_one]
 have each : ∀ j ∈ List.range' 0 n, j < A.length := by intro j hj; simp [List.mem_range'] at hj; omega
 generalize List.range' 0 n = is at each
 induction is with
 | nil => simp
 | cons j is ih =>
  have p1 : (part e (byteCells A).toArray j).run P w = _ := part_byte (info := default) he A (each j (by simp))
  have p2 : (Instr.checkKey em (d + 1) e (.int .u8 ((A[j]'(each j (by simp))).toNat : Int))).run P w = .ok () w := by
   rw [Instr.checkKey]
   simp only [Sem.run_bind, run_underlying' he, Result.andThen_ok, Sem.run_pure]
  simp only [List.forIn_cons, Sem.run_bind, run_sizeOf w hi, Result.andThen_ok, hc, Nat.mul_one, p1, p2, Sem.run_pure]
  exact ih fun y hy => each y (by simp [hy])
theorem checkPr {p : Pr} (h : p.1.length = 32) (em : Bool) (w : World) : (Instr.checkKey em 10000 y_carry_pair (prV p)).run P w = .ok () w := by
 obtain ⟨f0, f1, hf, n0, t0, o0, n1, t1, o1⟩ := pr_fields
 have hu := uPr
 rw [hf] at hu
 unfold prV
 rw [show (10000 : Nat) = 9997 + 1 + 1 + 1 from rfl, Instr.checkKey]
 simp only [Sem.run_bind, run_underlying' hu, Result.andThen_ok]
 have c0 : (Instr.checkKey em (9997 + 1 + 1) y_api_Digest (arr p.1)).run P w = .ok () w := check_arr_at Bl.u27 Bl.u5 Bl.c5 h em
 have c1 : (Instr.checkKey em (9997 + 1 + 1) y_int (.int .i64 p.2)).run P w = .ok () w := by
  rw [Instr.checkKey]
  simp only [Sem.run_bind, run_underlying' (show P.underlying y_int = some (.int .i64) by kernel_rfl), Result.andThen_ok, Sem.run_pure]
 simp [n0, n1, t0, t1, o0, o1, partDg h, partKd h, c0, c1]
theorem KPr : KeyOk P y_carry_pair Pr (fun p => p.1.length = 32) prV :=
 .wide (fun w a b ha hb => by unfold Op.equal Op.maxDepth; exact eqPr ha hb w) (by rw [uPr]) (fun w p e hp => checkPr hp e w) fun p hp => by
  unfold prV
  rw [show (10000 : Nat) = 9999 + 1 from rfl, Instr.sameBits]
  simp only [beq_self_eq_true, Bool.true_and]
  refine sameBits_all _ fun v hv => ?_
  simp only [encPr, byteCells, List.mem_append, List.mem_map, List.mem_singleton] at hv
  rcases hv with ⟨b, _, rfl⟩ | rfl
  ·simp [Instr.sameBits]
  ·simp [Instr.sameBits]
end Go.Proofs.YtbmegmbnlajbbaaGreatDoor
namespace Go.Proofs.YtbmegmbnlajbbaaGreatDoor
open Go Go.Fw Go.Proofs Go.Sort
theorem len_encPr {p : Pr} (h : p.1.length = 32) : (encPr p).length = 33 := by simp [encPr, h]
def encP (p : Pr) : List Value := Bl.enc32 p.1 ++ [.int .i64 p.2]
theorem len_encP (p : Pr) : (encP p).length = 33 := by simp [encP, Bl.len_enc32]
theorem encP_eq {p : Pr} (h : p.1.length = 32) : encP p = encPr p := by rw [encP, encPr, Bl.enc32_eq h]
theorem one_encP {p : Pr} : oneCells (encP p) := by
 intro v hv
 rcases List.mem_append.1 hv with h | h
 ·exact Bl.one_enc32 v h
 ·simp at h; subst h; rfl
theorem bPr' (n : Int) (a0 a1 a2 a3 a4 a5 a6 a7 a8 a9 a10 a11 a12 a13 a14 a15 a16 a17 a18 a19 a20 a21 a22 a23 a24 a25 a26 a27 a28 a29 a30 a31 : UInt8) (w : World) : (Instr.build y_carry_pair #[(0, arr [a0, a1, a2, a3, a4, a5, a6, a7, a8, a9, a10, a11, a12, a13, a14, a15, a16, a17, a18, a19, a20, a21, a22, a23, a24, a25, a26, a27, a28, a29, a30, a31]), (1, .int .i64 n)]).run P w = .ok (prV ([a0, a1, a2, a3, a4, a5, a6, a7, a8, a9, a10, a11, a12, a13, a14, a15, a16, a17, a18, a19, a20, a21, a22, a23, a24, a25, a26, a27, a28, a29, a30, a31], n)) w := by kernel_rfl
theorem bPr {k : List UInt8} (h : k.length = 32) (n : Int) (w : World) : (Instr.build y_carry_pair #[(0, arr k), (1, .int .i64 n)]).run P w = .ok (prV (k, n)) w := by
 match k, h with
 | [a0, a1, a2, a3, a4, a5, a6, a7, a8, a9, a10, a11, a12, a13, a14, a15, a16, a17, a18, a19, a20, a21, a22, a23, a24, a25, a26, a27, a28, a29, a30, a31], _ => exact bPr' n a0 a1 a2 a3 a4 a5 a6 a7 a8 a9 a10 a11 a12 a13 a14 a15 a16 a17 a18 a19 a20 a21 a22 a23 a24 a25 a26 a27 a28 a29 a30 a31 w
theorem bT12' (a0 a1 a2 a3 a4 a5 a6 a7 a8 a9 a10 a11 a12 a13 a14 a15 a16 a17 a18 a19 a20 a21 a22 a23 a24 a25 a26 a27 a28 a29 a30 a31 : UInt8) (w : World) : (Instr.build y_api_Item #[(1, .int .i64 1), (2, arr [a0, a1, a2, a3, a4, a5, a6, a7, a8, a9, a10, a11, a12, a13, a14, a15, a16, a17, a18, a19, a20, a21, a22, a23, a24, a25, a26, a27, a28, a29, a30, a31])]).run P w = .ok (.agg ([Value.string .empty, Value.int .i64 1] ++ byteCells [a0, a1, a2, a3, a4, a5, a6, a7, a8, a9, a10, a11, a12, a13, a14, a15, a16, a17, a18, a19, a20, a21, a22, a23, a24, a25, a26, a27, a28, a29, a30, a31]).toArray) w := by kernel_rfl
theorem bT12 {k : List UInt8} (h : k.length = 32) (w : World) : (Instr.build y_api_Item #[(1, .int .i64 1), (2, arr k)]).run P w = .ok (.agg (encT ⟨[], 1, k⟩).toArray) w := by
 have e : encT ⟨[], 1, k⟩ = [Value.string .empty, Value.int .i64 1] ++ byteCells k := by unfold encT; rw [Bl.enc32_eq h]; rfl
 rw [e]
 match k, h with
 | [a0, a1, a2, a3, a4, a5, a6, a7, a8, a9, a10, a11, a12, a13, a14, a15, a16, a17, a18, a19, a20, a21, a22, a23, a24, a25, a26, a27, a28, a29, a30, a31], _ => exact bT12' a0 a1 a2 a3 a4 a5 a6 a7 a8 a9 a10 a11 a12 a13 a14 a15 a16 a17 a18 a19 a20 a21 a22 a23 a24 a25 a26 a27 a28 a29 a30 a31 w
def kidsI (n : Nod) : List Itm := n.parts.map (fun p => ⟨[], 1, p⟩) ++ n.items
theorem kidsN_eq {n : Nod} : kidsN n = (kidsI n).map fun i => (i.sum, i.kind) := by simp [kidsN, kidsI]
theorem kidsI_32 {H : Heap} {n : Nod} {xp xi : Option Addr × Nat × Nat} (h : NodW H n xp xi) : ∀ i ∈ kidsI n, i.sum.length = 32 := by
 intro i hi
 rcases List.mem_append.1 hi with h1 | h1
 ·obtain ⟨p, hp, rfl⟩ := List.mem_map.1 h1
  exact h.p32 p hp
 ·exact h.i32 i h1
theorem lenT (l : List Itm) : (l.flatMap encT).length = l.length * 34 := by rw [length_flatMap_k encT len_encT]
set_option maxHeartbeats 4000000 in
theorem nkids_c {w : World} {H : Heap} {n : Nod} {xp xi : Option Addr × Nat × Nat} (hw : w.heap = H) (hN : NodW H n xp xi) (hpl : n.parts.length ≤ 65536) (hil : n.items.length ≤ 65) :
  CallF P F_node_Kids #[.agg (nodC n xp xi).toArray] w fun e w' => ∃ x, e = .returned (slcV x) ∧ Mine w'.heap H.size y_api_Item 34 x ((kidsI n).flatMap encT) ∧ Ext [] H w'.heap := by
 refine fn_node_Kids ?_
 unfold T_node_Kids
 refine newB_h hw fun w1 hw1 => ?_
 have hx1 : Ext [] H w1.heap := by rw [hw1]; exact .push _
 have hb1 : w1.heap[H.size]? = some (.cells (nodC n xp xi).toArray y_api_Node (0, 0)) := by rw [hw1]; exact push_new
 have s1 := lt_of_get hb1
 refine ld_h (s := .slc) (t := xp) rfl hb1 rfl ?_
 have hxl := hN.plen
 have hxil := hN.ilen
 refine loopP_of (fun (s : (Option Addr × Nat × Nat) × Int) W => ∃ i : Nat, s.2 = (i : Int) ∧ i ≤ n.parts.length ∧ Ext [] w1.heap W.heap ∧ Mine W.heap w1.heap.size y_api_Item 34 s.1 (((n.parts.take i).map fun p => (⟨[], 1, p⟩ : Itm)).flatMap encT)) (fun s _ => (n.parts.length - s.2).toNat)
  ⟨0, rfl, Nat.zero_le _, .refl _ _, .inl ⟨rfl, rfl⟩⟩ ?_
 rintro ⟨o, _⟩ W ⟨i, rfl, hi, hx, hmo⟩
 simp only at hmo
 have sW := hx.1
 refine iteP_dec (fun hlt => ?_) (fun hge => ?_)
 ·have hil : i < n.parts.length := by simp only at hlt; omega
  have hget := List.getElem?_eq_getElem hil
  have hk32 := hN.p32 _ (List.getElem_mem hil)
  have htake : (n.parts.take (i + 1)).map (fun p => (⟨[], 1, p⟩ : Itm)) = (n.parts.take i).map (fun p => (⟨[], 1, p⟩ : Itm)) ++ [⟨[], 1, n.parts[i]⟩] := by rw [List.take_add_one, hget, List.map_append]; rfl
  generalize n.parts[i] = k at hget hk32 htake
  refine elem_ld (i := i) Bl.len_enc32 (by omega) rfl (hN.parts.ext (hx1.trans hx) (by simp)) hxl hget rfl ?_
  rw [Bl.enc32_eq hk32]
  refine varD hk32 rfl fun w4 hw4 => ?_
  have hx4 : Ext [] W.heap w4.heap := by rw [hw4]; exact .push _
  have hb4 : w4.heap[W.heap.size]? = some (.cells (byteCells k).toArray y_api_Digest (0, 0)) := by rw [hw4]; exact push_new
  refine ldA_all rfl hb4 (by simp [hk32]) ?_
  refine genQ_of (s := .any) _ (bT12 hk32 _) ?_
  refine app_itm rfl (hmo.ext hx4 (by simp)) (by have := hx4.1; omega) (by simp; omega) fun x6 w6 hm6 hx6 hs6 => ?_
  refine addI_to ((i + 1 : Nat) : Int) (by simp) (by omega) (by omega) ?_
  have go := ownM_ge hmo
  exact ⟨⟨i + 1, rfl, by omega, (hx.trans hx4).own hx6 (fun c hc hlt => by have := go c hc; omega), by rw [htake]; exact hm6⟩, by simp only; omega⟩
 ·obtain rfl : i = n.parts.length := by simp only at hge; omega
  rw [List.take_length] at hmo
  refine ld_h (s := .slc) (t := xi) rfl (hx.get hb1 (by simp)) rfl ?_
  have hol : o.2.1 = n.parts.length := by have := hmo.len; rw [lenT] at this; simp at this; omega
  refine append_g (bts := 56) (n := n.items.length) (us := n.items.flatMap encT) ET (by omega) uST (slice_noint uST) rfl hmo sW (Src.slc rfl (hN.items.ext (hx1.trans hx) (by simp)) (by rw [lenT]) |> fun h => by rw [hxil]; exact h) (by
   intro v hv
   obtain ⟨y, _, hy⟩ := List.mem_flatMap.1 hv
   exact one_encT v hy) (by omega) fun x' w' hm' hl' hx' hs' => ?_
  have go := ownM_ge hmo
  refine ⟨x', rfl, ?_, (hx1.trans hx).own hx' (fun c hc hlt => by have := go c hc; omega)⟩
  unfold kidsI
  rw [List.flatMap_append]
  exact hm'.mono (by omega)
end Go.Proofs.YtbmegmbnlajbbaaGreatDoor
namespace Go.Proofs.YtbmegmbnlajbbaaGreatDoor
open Go Go.Fw Go.Proofs Go.Sort
theorem uSq : P.underlying y_S_r08_Pair = some (.slice y_r08_Pair) := by kernel_rfl
theorem Eq8 : Elem P y_r08_Pair 33 40 := elem_of (z := .agg (byteCells (List.replicate 32 0) ++ [Value.int .i64 0]).toArray) (by kernel_rfl) rfl
theorem uSc : P.underlying y_S_carry_pair = some (.slice y_carry_pair) := by kernel_rfl
theorem Ec8 : Elem P y_carry_pair 33 40 := elem_of (z := .agg (byteCells (List.replicate 32 0) ++ [Value.int .i64 0]).toArray) (by kernel_rfl) rfl
theorem lenP (l : List Pr) : (l.flatMap encP).length = l.length * 33 := by rw [length_flatMap_k encP len_encP]
theorem prV_eq {p : Pr} (h : p.1.length = 32) : prV p = .agg (encP p).toArray := by unfold prV; rw [encP_eq h]
theorem app_pq {w : World} {H : Heap} {B : Nat} {x : Option Addr × Nat × Nat} {L : List Pr} {p : Pr} (hp : p.1.length = 32) (hw : w.heap = H) (hm : Mine H B y_r08_Pair 33 x (L.flatMap encP)) (hBs : B ≤ H.size) (hlen : L.length ≤ 1073741824) {K : (Option Addr × Nat × Nat) → World → Prop}
  (hK : ∀ x' w', Mine w'.heap B y_r08_Pair 33 x' ((L ++ [p]).flatMap encP) → Ext (ownM x) H w'.heap → (∀ c ∈ ownM x', c ∈ ownM x ∨ H.size ≤ c) → K x' w') :
  genL P (Instr.buildSlice y_S_r08_Pair 1 #[(0, prV p)]) .slc w fun (t27 : (Option Addr × Nat × Nat)) w_13 =>
  genL P (Builtin.append_ #[y_S_r08_Pair, y_S_r08_Pair] y_S_r08_Pair #[(Value.slice x.1 x.2.1 x.2.2), (Value.slice t27.1 t27.2.1 t27.2.2)]) .slc w_13 K := by
 have hlx : x.2.1 = L.length := by have := hm.len; rw [lenP] at this; omega
 rw [prV_eq hp]
 refine genL_of (s := .slc) (some ⟨w.heap.size, 0, none⟩, 1, 1) _ (build1_g Eq8 uSq (v := .agg (encP p).toArray) (by simp [Value.cells, len_encP]) (by omega) (by omega)) ?_
 subst hw
 have hxp : Ext [] w.heap (w.heap.push (.cells (Value.agg (encP p).toArray).cells y_r08_Pair)) := .push _
 refine append_g (bts := 40) (n := 1) (us := encP p) (H := w.heap.push (.cells (Value.agg (encP p).toArray).cells y_r08_Pair)) Eq8 (by omega) uSq (slice_noint uSq) rfl (hm.ext hxp (by simp)) (by simp; omega)
  (Src.slc rfl (.inr ⟨w.heap.size, 0, _, _, _, rfl, push_new, by simp [agg_cells], by simp [agg_cells, List.take_of_length_le]⟩) (by rw [len_encP])) one_encP (by omega) ?_
 intro x' w4 hm4 hl4 hx4 hs4
 refine hK x' w4 (by rw [List.flatMap_append, List.flatMap_singleton]; exact hm4) ((hxp.mono (by simp)).trans hx4) (fun c hc => ?_)
 rcases hs4 c hc with h | h
 ·exact .inl h
 ·right; have := hxp.1; omega
theorem app_pc_h {w : World} {H : Heap} {B : Nat} {x : Option Addr × Nat × Nat} {L : List Pr} {p : Pr} {Q : World → Prop} (hp : p.1.length = 32) (hw : w.heap = H) (hm : Mine H B y_carry_pair 33 x (L.flatMap encP)) (hBs : B ≤ H.size) (hlen : L.length ≤ 1073741824) (hQ : ∀ w', Ext [] H w'.heap → Q w') {K : (Option Addr × Nat × Nat) → World → Prop}
  (hK : ∀ x' w', Mine w'.heap B y_carry_pair 33 x' ((L ++ [p]).flatMap encP) → Ext (ownM x) H w'.heap → (∀ c ∈ ownM x', c ∈ ownM x ∨ H.size ≤ c) → K x' w') :
  genL P (Instr.buildSlice y_S_carry_pair 1 #[(0, prV p)]) .slc w fun (t27 : (Option Addr × Nat × Nat)) w_13 => Q w_13 ∧
  genL P (Builtin.append_ #[y_S_carry_pair, y_S_carry_pair] y_S_carry_pair #[(Value.slice x.1 x.2.1 x.2.2), (Value.slice t27.1 t27.2.1 t27.2.2)]) .slc w_13 K := by
 have hlx : x.2.1 = L.length := by have := hm.len; rw [lenP] at this; omega
 rw [prV_eq hp]
 refine genL_of (s := .slc) (some ⟨w.heap.size, 0, none⟩, 1, 1) _ (build1_g Ec8 uSc (v := .agg (encP p).toArray) (by simp [Value.cells, len_encP]) (by omega) (by omega)) ?_
 subst hw
 have hxp : Ext [] w.heap (w.heap.push (.cells (Value.agg (encP p).toArray).cells y_carry_pair)) := .push _
 refine ⟨hQ _ hxp, ?_⟩
 refine append_g (bts := 40) (n := 1) (us := encP p) (H := w.heap.push (.cells (Value.agg (encP p).toArray).cells y_carry_pair)) Ec8 (by omega) uSc (slice_noint uSc) rfl (hm.ext hxp (by simp)) (by simp; omega)
  (Src.slc rfl (.inr ⟨w.heap.size, 0, _, _, _, rfl, push_new, by simp [agg_cells], by simp [agg_cells, List.take_of_length_le]⟩) (by rw [len_encP])) one_encP (by omega) ?_
 intro x' w4 hm4 hl4 hx4 hs4
 refine hK x' w4 (by rw [List.flatMap_append, List.flatMap_singleton]; exact hm4) ((hxp.mono (by simp)).trans hx4) (fun c hc => ?_)
 rcases hs4 c hc with h | h
 ·exact .inl h
 ·right; have := hxp.1; omega
theorem extP {p : Pr} {c : Array Value} {o : Nat} (h32 : p.1.length = 32) (hs : o + 33 ≤ c.size) (hc : ∀ j, j < 33 → c[o + j]? = (encP p)[j]?) : c.extract o (o + 33) = (encPr p).toArray := by
 rw [← encP_eq h32]
 apply Array.ext_getElem?
 intro j
 rw [Array.getElem?_extract]
 by_cases hj : j < 33
 ·rw [if_pos (by omega), hc j hj]; simp
 ·rw [if_neg (by omega), Array.getElem?_eq_none (by simp [len_encP]; omega)]
theorem extD {k : List UInt8} {c : Array Value} {o : Nat} (h32 : k.length = 32) (hs : o + 32 ≤ c.size) (hc : ∀ j, j < 32 → c[o + j]? = (Bl.enc32 k)[j]?) : c.extract o (o + 32) = (byteCells k).toArray := by
 rw [← Bl.enc32_eq h32]
 apply Array.ext_getElem?
 intro j
 rw [Array.getElem?_extract]
 by_cases hj : j < 32
 ·rw [if_pos (by omega), hc j hj]; simp
 ·rw [if_neg (by omega), Array.getElem?_eq_none (by simp [Bl.len_enc32]; omega)]
theorem digests_c {w : World} {H : Heap} {a b : Option Addr} {l c m d : Nat} {L M : List (List UInt8)} (hw : w.heap = H) (hL : Cells H a (L.flatMap Bl.enc32)) (hl : l = L.length) (hM : Cells H b (M.flatMap Bl.enc32)) (hm : m = M.length) (h32 : ∀ q ∈ L, q.length = 32) (h32' : ∀ q ∈ M, q.length = 32) (hlen : L.length ≤ 1099511627776) :
  CallF P F_r08_Digests #[.slice a l c, .slice b m d] w fun e w' => e = .returned (.bool (decide (L = M))) ∧ w'.heap = H := by
 subst hl hm
 refine fn_r08_Digests ?_
 unfold T_r08_Digests
 refine iteP_ne (fun h => ⟨by rw [decide_eq_false (fun e => h (by rw [e]))], hw⟩) (fun h => ?_)
 have h : L.length = M.length := by omega
 refine loopP_of (fun (s : Int) W => ∃ i : Nat, s = (i : Int) ∧ i ≤ L.length ∧ L.take i = M.take i ∧ W.heap = H) (fun s _ => (L.length - s).toNat) ⟨0, rfl, Nat.zero_le _, by simp, hw⟩ ?_
 rintro _ W ⟨i, rfl, hi, ht, hW⟩
 refine iteP_dec (fun hlt => ?_) (fun hge => ?_)
 ·have hil : i < L.length := by omega
  have hget := List.getElem?_eq_getElem hil
  have hget2 := List.getElem?_eq_getElem (show i < M.length by omega)
  have hf := h32 _ (List.getElem_mem hil)
  have hg := h32' _ (List.getElem_mem (show i < M.length by omega))
  generalize L[i] = f at hget hf
  generalize M[i] = g at hget2 hg
  refine drewP_h hW fun W1 hW1 => ?_
  refine Bl.elem_ix (i := i) Bl.len_enc32 (by omega) hL rfl hget rfl fun ba oa ca Ta fra _ hba hsa hca _ => ?_
  refine Bl.elem_ix (i := i) Bl.len_enc32 (by omega) hM rfl hget2 rfl fun b2 o2 c2 T2 fr2 _ hb2 hs2 hc2 _ => ?_
  refine ldA_h hW1 hba hsa ?_
  rw [extD hf hsa hca]
  refine ldA_h hW1 hb2 hs2 ?_
  rw [extD hg hs2 hc2]
  refine genQ_of (s := .bool) _ (neqM_arr Bl.u27 Bl.u5 Bl.c5 Bl.g27 hf hg) ?_
  by_cases e : f = g
  ·refine iteP_f (by simp [e]) ?_
   refine addI_to ((i + 1 : Nat) : Int) (by simp) (by omega) (by omega) ?_
   exact ⟨⟨i + 1, rfl, by omega, by rw [List.take_add_one, List.take_add_one, ht, hget, hget2, e], hW1⟩, by omega⟩
  ·refine iteP_t (by simp [e]) ⟨?_, hW1⟩
   rw [decide_eq_false fun h0 => e ?_]
   rw [h0, hget2] at hget
   exact (Option.some.inj hget).symm
 ·rw [List.take_of_length_le (by omega), List.take_of_length_le (by omega)] at ht
  exact ⟨by rw [decide_eq_true ht], hW⟩
end Go.Proofs.YtbmegmbnlajbbaaGreatDoor
namespace Go.Proofs.YtbmegmbnlajbbaaGreatDoor
open Go Go.Fw Go.Proofs Go.Sort
end Go.Proofs.YtbmegmbnlajbbaaGreatDoor
namespace Go.Proofs.YtbmegmbnlajbbaaGreatDoor
open Go Go.Fw Go.Proofs Go.Sort
end Go.Proofs.YtbmegmbnlajbbaaGreatDoor
namespace Go.Proofs.YtbmegmbnlajbbaaGreatDoor
open Go Go.Fw Go.Proofs Go.Sort
theorem other {s : Rest} (h1 : min (nmS s).1 9 ≠ 1) (h2 : min (nmS s).1 9 ≠ 2) (h3 : min (nmS s).1 9 ≠ 3) : rightN (rdNode s).1 = false := by
 unfold rdNode
 rw [if_neg h1, if_neg h2, if_neg h3]
 unfold rightN
 simp only
 rw [if_neg (by omega), if_neg (by omega), if_neg (by omega)]
end Go.Proofs.YtbmegmbnlajbbaaGreatDoor
namespace Go.Proofs.YtbmegmbnlajbbaaGreatDoor
open Go Go.Fw Go.Proofs Go.Sort
end Go.Proofs.YtbmegmbnlajbbaaGreatDoor
namespace Go.Proofs.YtbmegmbnlajbbaaGreatDoor
open Go Go.Fw Go.Proofs Go.Sort
section
variable {g : List UInt8 → Int → Nod × Int} {ct : Nod → List UInt8 × Int}
end
end Go.Proofs.YtbmegmbnlajbbaaGreatDoor
namespace Go.Proofs.YtbmegmbnlajbbaaGreatDoor
open Go Go.Fw Go.Proofs Go.Sort
def SmallF (L : List Fil) : Prop := (∀ f ∈ L, f.data.length ≤ 1025) ∧ L.length ≤ 512
theorem SmallF.snoc {L : List Fil} {f : Fil} (h : SmallF L) (hl : L.length ≠ 512) (hf : f.data.length ≤ 1025) : SmallF (L ++ [f]) :=
 ⟨fun x hx => by
  rcases List.mem_append.1 hx with hx | hx
  ·exact h.1 x hx
  ·simp at hx; subst hx; exact hf, by have := h.2; simp; omega⟩
end Go.Proofs.YtbmegmbnlajbbaaGreatDoor
namespace Go.Proofs.YtbmegmbnlajbbaaGreatDoor
open Go Go.Fw Go.Proofs Go.Sort
abbrev TQ := (Option Addr × Nat × Nat) × (Path × Itm)
def encQ (y : TQ) : List Value := slcV y.1 :: encT y.2.2
theorem len_encQ (y : TQ) : (encQ y).length = 35 := by simp [encQ, len_encT]
theorem uSQ : P.underlying y_S_r07_todo = some (.slice y_r07_todo) := by kernel_rfl
theorem szQ : (P.info? y_r07_todo).map (·.size) = some 35 := by kernel_rfl
def QOk (H : Heap) (y : TQ) : Prop := Mine H 0 y_string 1 y.1 (strRow (y.2.1 ++ [y.2.2.name])) ∧ y.2.2.sum.length = 32
def TodosW (H : Heap) (x : Option Addr × Nat × Nat) (ps : List (Path × Itm)) : Prop :=
 ∃ ys : List TQ, Cells H x.1 (ys.flatMap encQ) ∧ x.2.1 = ys.length ∧ x.2.1 ≤ x.2.2 ∧ ys.map (·.2) = ps ∧ (∀ y ∈ ys, QOk H y) ∧ (ys ≠ [] → ∀ c ∈ ownM x, ∃ cs fr, H[c]? = some (.cells cs y_r07_todo fr))
theorem TodosW.len {H : Heap} {x : Option Addr × Nat × Nat} {ps : List (Path × Itm)} (h : TodosW H x ps) : x.2.1 = ps.length := by
 obtain ⟨ys, _, h2, _, h4, _⟩ := h
 rw [← h4]; simpa using h2
theorem TodosW.nil {H : Heap} : TodosW H (none, 0, 0) [] := ⟨[], .inl rfl, rfl, Nat.le_refl _, rfl, by simp, by simp⟩
theorem TodosW.ext {H H' : Heap} {x o : Option Addr × Nat × Nat} {ps : List (Path × Itm)} {B : Nat} {vs : List Value} (h : TodosW H x ps) (ho : Mine H B y_api_File 3 o vs) (hx : Ext (ownM o) H H') : TodosW H' x ps := by
 obtain ⟨ys, h1, h2, h3, h4, h5, h6⟩ := h
 have hno : ys ≠ [] → ∀ c ∈ ownM x, c ∉ ownM o := by
  intro hys c hc hco
  obtain ⟨cs, fr, hg⟩ := h6 hys c hc
  rcases ho with ⟨rfl, _⟩ | ⟨b2, c2, hx2, _, hg2, _⟩
  ·simp [ownM] at hco
  ·simp [ownM, hx2] at hco
   subst hco
   rw [hg] at hg2
   simp only [Option.some.injEq, Obj.cells.injEq] at hg2
   exact absurd hg2.2.1 (by decide)
 refine ⟨ys, h1.ext hx (fun a ha hne => hno (fun h => hne (by rw [h]; rfl)) _ (by simp [ownM, ha])), h2, h3, h4, fun y hy => ⟨(h5 y hy).1.ext hx (mine_ne (h5 y hy).1 ho (by decide)), (h5 y hy).2⟩, fun hys c hc => ?_⟩
 obtain ⟨cs, fr, hg⟩ := h6 hys c hc
 exact ⟨cs, fr, hx.get hg (hno hys c hc)⟩
theorem lenQ (ys : List TQ) : (ys.flatMap encQ).length = ys.length * 35 := by rw [length_flatMap_k encQ len_encQ]
theorem mine_type {H : Heap} {B sz : Nat} {T : TypeId} {x : Option Addr × Nat × Nat} {vs : List Value} (h : Mine H B T sz x vs) : ∀ c ∈ ownM x, ∃ cs fr, H[c]? = some (.cells cs T fr) := by
 intro c hc
 rcases h with ⟨rfl, _⟩ | ⟨b, cs, hx, _, hg, _⟩
 ·simp [ownM] at hc
 ·simp [ownM, hx] at hc
  subst hc
  exact ⟨cs, _, hg⟩
end Go.Proofs.YtbmegmbnlajbbaaGreatDoor
namespace Go.Proofs.YtbmegmbnlajbbaaGreatDoor
open Go Go.Fw Go.Proofs Go.Sort
def iv (n : Int) : Value := .int .i64 n
theorem uMp : P.underlying y_M_carry_pair_int = some (.map y_carry_pair y_int) := by kernel_rfl
theorem zInt (w : World) : (zeroValue y_int).run P w = .ok (iv 0) w := by kernel_rfl
def CarrW (H : Heap) (cf : List Nat) (c pS : Nat) (st : LSt) : Prop :=
 ∃ (m clk : Nat) (l : ML Pr Int) (x : Option Addr × Nat × Nat), H[c]? = some (.cells #[.pointer (some ⟨pS, 0, none⟩), .map (some m), slcV x, .bool st.foul] y_carry_Carrier (0, 0)) ∧ H[m]? = some (.map (ents prV (vl iv l)) clk) ∧ MOk (fun p : Pr => p.1.length = 32) l clk ∧ (∀ p, mget l p = if p ∈ st.seen then some 1 else none) ∧
  Mine H 0 y_carry_pair 33 x (st.want.flatMap encP) ∧ c ∈ cf ∧ m ∈ cf ∧ (∀ b ∈ ownM x, b ∈ cf) ∧ ∀ p ∈ st.want, p.1.length = 32
theorem CarrW.ext {H H' : Heap} {cf M : List Nat} {c pS : Nat} {st : LSt} (h : CarrW H cf c pS st) (hx : Ext M H H') (hM : ∀ b ∈ cf, b ∉ M) : CarrW H' cf c pS st := by
 obtain ⟨m, clk, l, x, h1, h2, h3, h4, h5, h6, h7, h8, h9⟩ := h
 exact ⟨m, clk, l, x, hx.get h1 (hM _ h6), hx.get h2 (hM _ h7), h3, h4, h5.ext hx (fun b hb => hM b (h8 b hb)), h6, h7, h8, h9⟩
def LookPost (H : Heap) (cf : List Nat) (c pS : Nat) (t : LSt) (e : Ending) (w' : World) : Prop :=
 e = .returned (.tuple #[]) ∧ ∃ cf', CarrW w'.heap cf' c pS t ∧ Ext cf H w'.heap ∧ (∀ b ∈ cf', b < w'.heap.size) ∧ ∀ b ∈ cf', b ∈ cf ∨ H.size ≤ b
def LookOK (fp : List Nat) (pS : Nat) (q : Int) (r : Bl.SM) (k : Nat) (n : Nat) : Prop :=
 ∀ {w : World} {H : Heap} {cf : List Nat} {c : Nat} {s t : LSt} {p : Pr}, w.heap = H → CarrW H cf c pS s → (∀ b ∈ cf, b < H.size) → Bl.Store H fp pS q r k → (∀ b ∈ fp, b < H.size ∧ b ∉ cf) → Bl.Rounds H → 0 ∉ cf → p.1.length = 32 →
  Run (lookS (Bl.vget r)) n [p] s t 0 → s.want.length + n ≤ 1000000000 → CallF P F_carry_Carrier_look #[.pointer (some ⟨c, 0, none⟩), prV p] w (LookPost H cf c pS t)
theorem look_want {v : List UInt8 → Option (List UInt8)} : ∀ {n : Nat} {todo : List Pr} {s t : LSt} {c : Int}, Run (lookS v) n todo s t c → t.want.length ≤ s.want.length + n := by
 intro n todo s t c h
 induction h with
 | nil => omega
 | stop h0 =>
  rename_i p todo s
  have : (lookS v s p).1.want.length ≤ s.want.length + 1 := by
   unfold lookS; repeat' split
   all_goals simp
  omega
 | step h0 _ ih =>
  rename_i n p todo s t c _
  have : (lookS v s p).1.want.length ≤ s.want.length + 1 := by
   unfold lookS; repeat' split
   all_goals simp
  omega
set_option maxHeartbeats 4000000 in
theorem kids_of {fp : List Nat} {pS : Nat} {q : Int} {r : Bl.SM} {k N : Nat} (ih : ∀ m, m ≤ N → LookOK fp pS q r k m) {w : World} {H : Heap} {cf : List Nat} {c : Nat} {s t : LSt} {D : Nod} {xp xi : Option Addr × Nat × Nat} (hw : w.heap = H) (hC : CarrW H cf c pS s) (hcf : ∀ b ∈ cf, b < H.size) (hS : Bl.Store H fp pS q r k) (hfp : ∀ b ∈ fp, b < H.size ∧ b ∉ cf) (hR : Bl.Rounds H) (h0 : 0 ∉ cf)
  (hN : NodW H D xp xi) (hpl : D.parts.length ≤ 65536) (hil : D.items.length ≤ 65) (hrun : Run (lookS (Bl.vget r)) N (kidsN D) s t 0) (hb : s.want.length + N ≤ 1000000000) :
  CallF P F_carry_Carrier_kids #[.pointer (some ⟨c, 0, none⟩), .agg (nodC D xp xi).toArray] w (LookPost H cf c pS t) := by
 refine fn_carry_Carrier_kids ?_
 unfold T_carry_Carrier_kids
 refine newB_h hw fun w1 hw1 => ?_
 have hx1 : Ext [] H w1.heap := by rw [hw1]; exact .push _
 have hb1 : w1.heap[H.size]? = some (.cells (nodC D xp xi).toArray y_api_Node (0, 0)) := by rw [hw1]; exact push_new
 refine ldA_all rfl hb1 rfl ?_
 refine callF_of (nkids_c rfl (hN.ext hx1) hpl hil) ?_
 rintro e w2 ⟨x7, rfl, hm2, hx2⟩
 refine ⟨x7, rfl, ?_⟩
 have h32 := kidsI_32 hN
 have hkl : (kidsI D).length ≤ 65601 := by simp [kidsI]; omega
 rw [kidsN_eq] at hrun
 generalize kidsI D = I at *
 have hxl : x7.2.1 = I.length := by have := hm2.len; rw [lenT] at this; omega
 have hx02 := hx1.trans hx2
 have s2 := hx02.1
 have g7 := ownM_ge hm2
 refine loopP_of (fun (s' : Int) W => ∃ (i n : Nat) (u : LSt) (cf' : List Nat), s' = (i : Int) ∧ i ≤ I.length ∧ n ≤ N ∧ u.want.length + n ≤ s.want.length + N ∧ Run (lookS (Bl.vget r)) n ((I.drop i).map fun i => (i.sum, i.kind)) u t 0 ∧ CarrW W.heap cf' c pS u ∧ Ext cf H W.heap ∧ (∀ b ∈ cf', b < W.heap.size) ∧ (∀ b ∈ cf', b ∈ cf ∨ w2.heap.size ≤ b) ∧ Ext cf w2.heap W.heap) (fun s' _ => (I.length - s').toNat)
  ⟨0, N, s, cf, rfl, Nat.zero_le _, Nat.le_refl _, Nat.le_refl _, by simpa using hrun, hC.ext hx02 (by simp), hx02.mono (by simp), fun b hb => by have := hcf b hb; omega, fun b hb => .inl hb, .refl _ _⟩ ?_
 rintro _ W ⟨i, n, u, cf', rfl, hi, hn, hu, hr, hC', hx, hcf', hsub, hx2W⟩
 have sW := hx.1
 have s2W := hx2W.1
 have hmW := hm2.ext hx2W (fun b hb h => by have := g7 b hb; have := hcf b h; have := hx1.1; omega)
 refine iteP_dec (fun hlt => ?_) (fun hge => ?_)
 ·have hil : i < I.length := by omega
  have hget := List.getElem?_eq_getElem hil
  have hk32 := h32 _ (List.getElem_mem hil)
  rw [List.drop_eq_getElem_cons hil, List.map_cons] at hr
  generalize I[i] = it at hget hk32 hr
  refine elem_ld (i := i) len_encT (by omega) rfl hmW.cells hxl hget rfl ?_
  refine varT it rfl fun w5 hw5 => ?_
  have hx5 : Ext [] W.heap w5.heap := by rw [hw5]; exact .push _
  have hb5 : w5.heap[W.heap.size]? = some (.cells (encT it).toArray y_api_Item (0, 0)) := by rw [hw5]; exact push_new
  refine ldA_h rfl hb5 (by simp [len_encT]) ?_
  rw [show (encT it).toArray.extract 2 (2 + 32) = (Bl.enc32 it.sum).toArray from sum_at, Bl.enc32_eq hk32]
  refine ld_h (s := .int .i64) (t := it.kind) rfl hb5 rfl ?_
  refine genQ_of (s := .any) _ (bPr hk32 it.kind _) ?_
  obtain ⟨_, h⟩ | ⟨n1, n2, m, e12, r1, r2⟩ := Run.split (A := [((it.sum, it.kind) : Pr)]) (B := (I.drop (i + 1)).map fun i => (i.sum, i.kind)) hr
  ·rename_i hne; exact absurd rfl hne
  have hx05 := hx.trans (hx5.mono (by simp))
  have hwm := look_want r1
  refine callF_of (ih n1 (by omega) (p := (it.sum, it.kind)) rfl (hC'.ext hx5 (by simp)) (fun b hb => by have := hcf' b hb; have := hx5.1; omega) (hS.ext hx05 (fun b hb => (hfp b hb).2)) (fun b hb => ⟨by have := (hfp b hb).1; have := hx05.1; omega, fun h => by
   rcases hsub b h with h | h
   ·exact (hfp b hb).2 h
   ·have := (hfp b hb).1; omega⟩) (hR.ext hx05 h0) (fun h => by
   rcases hsub 0 h with h | h
   ·exact h0 h
   ·obtain ⟨_, _, _, hg, _⟩ := hR; have := lt_of_get hg; omega) hk32 r1 (by omega)) ?_
  rintro e w6 ⟨rfl, cf2, hC2, hx6, hcf2, hsub2⟩
  refine ⟨(), rfl, ?_⟩
  have s5 := hx5.1
  have s6 := hx6.1
  refine addI_to ((i + 1 : Nat) : Int) (by simp) (by omega) (by omega) ?_
  have own6 : ∀ b ∈ cf', b < w2.heap.size → b ∈ cf := fun b hb hlt => by
   rcases hsub b hb with h | h
   ·exact h
   ·omega
  refine ⟨⟨i + 1, n2, m, cf2, rfl, by omega, by omega, by omega, r2, hC2, hx05.own hx6 (fun b hb hlt => own6 b hb (by omega)), hcf2, fun b hb => ?_, (hx2W.trans (hx5.mono (by simp))).own hx6 (fun b hb hlt => own6 b hb (by omega))⟩, by omega⟩
  rcases hsub2 b hb with h | h
  ·exact hsub b h
  ·right; omega
 ·obtain rfl : i = I.length := by omega
  rw [List.drop_length] at hr
  cases hr
  exact ⟨rfl, cf', hC', hx, hcf', fun b hb => by
   rcases hsub b hb with h | h
   ·exact .inl h
   ·right; omega⟩
end Go.Proofs.YtbmegmbnlajbbaaGreatDoor
namespace Go.Proofs.YtbmegmbnlajbbaaGreatDoor
open Go Go.Fw Go.Proofs Go.Sort
theorem getV_got0 {v : Option (List UInt8)} {k L : List UInt8} {kind : Int} (hv : v = some L) (h : Bl.got v k = 0) : getV v k kind = if (decN L).2 ≠ 0 ∨ (decN L).1.kind ≠ kind then (noNode, 21) else ((decN L).1, 0) := by
 unfold getV; rw [if_neg (by simpa using h), hv]; rfl
theorem dig_cells {p : Pr} (h : p.1.length = 32) : (encPr p).toArray.extract 0 (0 + 32) = (byteCells p.1).toArray := by
 apply Array.toList_inj.1
 have : (encPr p).take 32 = byteCells p.1 := List.take_left' (by simp [h])
 simpa using this
theorem kind_cell {p : Pr} (h : p.1.length = 32) : (encPr p).toArray[32]? = some (.int .i64 p.2) := by simp [encPr, ← h]
theorem Run.cons_c {σ : Type} {stp : σ → Pr → σ × List Pr × Int} {n : Nat} {p : Pr} {todo : List Pr} {s t : σ} {c : Int} (h : Run stp n (p :: todo) s t c) : (c ≠ 0 ∧ n = 1 ∧ t = (stp s p).1 ∧ c = (stp s p).2.2) ∨ ∃ n', n = n' + 1 ∧ (stp s p).2.2 = 0 ∧ Run stp n' ((stp s p).2.1 ++ todo) (stp s p).1 t c := by
 cases h with
 | stop h => exact .inl ⟨h, rfl, rfl, rfl⟩
 | step h0 h1 => exact .inr ⟨_, rfl, h0, h1⟩
theorem Run.nil_c {σ : Type} {stp : σ → Pr → σ × List Pr × Int} {n : Nat} {s t : σ} {c : Int} (h : Run stp n [] s t c) : n = 0 ∧ t = s ∧ c = 0 := by
 cases h; exact ⟨rfl, rfl, rfl⟩
set_option maxHeartbeats 16000000 in
theorem look_ok {fp : List Nat} {pS : Nat} {q : Int} {r : Bl.SM} {k : Nat} (hlen : ∀ k L, Bl.vget r k = some L → L.length < 1099511627776) : ∀ n, LookOK fp pS q r k n := by
 intro n
 induction n using Nat.strongRecOn with
 | ind n ih =>
 intro w H cf c s t p hw hC hcf hS hfp hR h0 hp hrun hb
 rcases hrun.cons_c with ⟨h, _⟩ | ⟨n, rfl, hc0, hrun⟩
 ·exact absurd rfl h
 rw [List.append_nil] at hrun
 refine fn_carry_Carrier_look ?_
 unfold T_carry_Carrier_look
 rw [show (prV p).cells = (encPr p).toArray from rfl]
 refine newB_h hw fun w1 hw1 => ?_
 have hx1 : Ext [] H w1.heap := by rw [hw1]; exact .push _
 have hb1 : w1.heap[H.size]? = some (.cells (encPr p).toArray y_carry_pair (0, 0)) := by rw [hw1]; exact push_new
 have s1 := lt_of_get hb1
 have l33 := len_encPr hp
 refine drewP_h rfl fun w2 hw2 => ?_
 have hx2 : Ext [] H w2.heap := by rw [hw2]; exact hx1
 have hb2 : w2.heap[H.size]? = some (.cells (encPr p).toArray y_carry_pair (0, 0)) := by rw [hw2]; exact hb1
 have s2 : H.size < w2.heap.size := by rw [hw2]; exact s1
 obtain ⟨m, clk, l, x, g1, g2, g3, g4, g5, g6, g7, g8, g9⟩ := hC.ext hx2 (by simp)
 simp only [withAddr_some, add_none, Nat.zero_add]
 refine ld_h (s := .map) (t := some m) rfl g1 rfl ?_
 refine ldA_all rfl hb2 (by simp [l33]) ?_
 refine genQ_of (s := .int .i64) (if p ∈ s.seen then 1 else 0) (by
  refine (lookup_no KPr uMp zInt rfl g2 g3 hp).trans ?_
  rw [g4]
  split <;> rfl) ?_
 have hfin : ∀ {u : LSt}, Run (lookS (Bl.vget r)) n [] u t 0 → t = u := fun h => h.nil_c.2.1
 by_cases hin : p ∈ s.seen
 ·rw [if_pos hin]
  refine iteP_t (by decide) ?_
  have hst : lookS (Bl.vget r) s p = (s, [], 0) := by unfold lookS; rw [if_pos hin]
  rw [hst] at hrun
  rw [hfin hrun]
  exact ⟨rfl, cf, ⟨m, clk, l, x, g1, g2, g3, g4, g5, g6, g7, g8, g9⟩, hx2.mono (by simp), fun b hb => by have := hcf b hb; omega, fun b hb => .inl hb⟩
 rw [if_neg hin]
 refine iteP_f (by decide) ?_
 refine drewP_h rfl fun w3 hw3 => ?_
 rw [← hw3] at g1 g2 g5 hx2 hb2 s2
 refine ld_h (s := .map) (t := some m) rfl g1 rfl ?_
 refine ldA_all rfl hb2 (by simp [l33]) ?_
 refine genU_of _ (update_v KPr uMp rfl g2 g3 hp 1 rfl) ?_
 generalize hw4 : ({ w3 with heap := w3.heap.setIfInBounds m (.map (ents prV (vl iv (mupd l p 1 clk))) (mclk l p clk)) } : World) = w4
 have hh4 : w4.heap = w3.heap.setIfInBounds m (.map (ents prV (vl iv (mupd l p 1 clk))) (mclk l p clk)) := by rw [← hw4]
 have hx4 : Ext [m] w3.heap w4.heap := by rw [hh4]; exact Ext.set _ (by simp)
 have hm4 : w4.heap[m]? = some (.map (ents prV (vl iv (mupd l p 1 clk))) (mclk l p clk)) := by rw [hh4]; exact set_new g2
 have ne_m : ∀ {b : Nat} {cs : Array Value} {T : TypeId} {fr : Nat × Nat}, w3.heap[b]? = some (.cells cs T fr) → b ≠ m := by
  rintro b cs T fr h rfl; rw [g2] at h; cases h
 have hc4 := hx4.get g1 (by simp; exact ne_m g1)
 have hb4 := hx4.get hb2 (by simp; exact ne_m hb2)
 have g54 : Mine w4.heap 0 y_carry_pair 33 x (s.want.flatMap encP) := g5.ext hx4 (fun b hb h => by
  simp at h; subst h
  obtain ⟨cs, fr, hg⟩ := mine_type g5 _ hb
  exact ne_m hg rfl)
 have g34 := MOk.upd g3 hp 1
 have g44 : ∀ p', mget (mupd l p 1 clk) p' = if p' ∈ s.seen ++ [p] then some 1 else none := by
  intro p'
  rw [mget_upd, g4]
  by_cases h : p' = p
  ·subst h; simp
  ·simp [h]
 have hmlt := lt_of_get g2
 have hmcf := hcf m g7
 have hx04 : Ext cf H w4.heap := (hx2.mono (by simp)).trans (hx4.mono (by simp; exact g7))
 have s4 := hx4.1
 have hS4 := hS.ext hx04 (fun b hb => (hfp b hb).2)
 have hR4 := hR.ext hx04 h0
 refine drewP_h rfl fun w5 hw5 => ?_
 rw [← hw5] at hm4 hc4 hb4 g54 hx04 hS4 hR4
 have s5 : H.size < w5.heap.size := by rw [hw5]; omega
 refine ld_h (s := .ptr) (t := some ⟨pS, 0, none⟩) rfl hc4 rfl ?_
 refine ldA_h rfl hb4 (by simp [l33]) ?_
 rw [dig_cells hp]
 refine callF_of (Bl.get_c (k := p.1) rfl hS4 hp hR4 (hlen p.1)) ?_
 rintro e w6 ⟨y, rfl, hx6, hgot, _⟩
 refine ⟨(y, Bl.got (Bl.vget r p.1) p.1), rfl, ?_⟩
 have hm6 := hx6.get hm4 (by simp)
 have hc6 := hx6.get hc4 (by simp)
 have hb6 := hx6.get hb4 (by simp)
 have g56 := g54.ext hx6 (by simp)
 have hx06 : Ext cf H w6.heap := hx04.trans (hx6.mono (by simp))
 have s6 := hx6.1
 have hcne : c ≠ m := ne_m g1
 refine iteP_ne (fun hg => ?_) (fun hg => ?_)
 ·have hg : Bl.got (Bl.vget r p.1) p.1 ≠ 0 := hg
  have hst : lookS (Bl.vget r) s p = (⟨s.seen ++ [p], s.want ++ [p], s.foul⟩, [], 0) := by unfold lookS; rw [if_neg hin, if_pos hg]
  rw [hst] at hrun
  have ht := hfin hrun
  subst ht
  refine drewP_h rfl fun w7 hw7 => ?_
  rw [← hw7] at hm6 hc6 hb6 g56 hx06 s6
  refine ld_h (s := .slc) (t := x) rfl hc6 rfl ?_
  refine ldA_all rfl hb6 (by simp [l33]) ?_
  refine app_pc_h (p := p) hp rfl g56 (Nat.zero_le _) (by omega) (fun w8 hx8 => ld_h (s := .slc) (o := 2) (t := x) (K := fun z => Value.slice z.1 z.2.1 z.2.2 = Value.slice x.1 x.2.1 x.2.2) rfl (hx8.get hc6 (by simp)) rfl rfl) fun x9 w9 hm9 hx9 hs9 => ?_
  have cno : c ∉ ownM x := fun h => by
   obtain ⟨cs, fr, hg⟩ := mine_type g56 _ h
   rw [hc6] at hg; simp only [Option.some.injEq, Obj.cells.injEq] at hg; exact absurd hg.2.1 (by decide)
  have mno : m ∉ ownM x := fun h => by
   obtain ⟨cs, fr, hg⟩ := mine_type g56 _ h
   rw [hm6] at hg; cases hg
  have hc9 := hx9.get hc6 cno
  have hm9' := hx9.get hm6 mno
  refine stC_h rfl hc9 (by simp) fun w10 hw10 => ?_
  have hx10 : Ext [c] w9.heap w10.heap := by rw [hw10]; exact Ext.set _ (by simp)
  have s9 := hx9.1
  have s10 := hx10.1
  have x9no : c ∉ ownM x9 := fun h => by
   obtain ⟨cs, fr, hg⟩ := mine_type hm9 _ h
   rw [hc9] at hg; simp only [Option.some.injEq, Obj.cells.injEq] at hg; exact absurd hg.2.1 (by decide)
  have hxA : Ext cf H w10.heap := (hx06.trans (hx9.mono fun b hb => g8 b hb)).trans (hx10.mono (by simp; exact g6))
  refine ⟨rfl, c :: m :: ownM x9, ⟨m, _, _, x9, by rw [hw10]; exact set_new hc9, hx10.get hm9' (by simp; exact fun h => hcne h.symm), g34, g44, hm9.ext hx10 (fun b hb h => by simp at h; subst h; exact x9no hb), by simp, by simp, fun b hb => by simp [hb], fun p' hp' => ?_⟩, hxA, fun b hb => ?_, fun b hb => ?_⟩
  ·rcases List.mem_append.1 hp' with h | h
   ·exact g9 p' h
   ·simp at h; subst h; exact hp
  ·simp only [List.mem_cons] at hb
   rcases hb with rfl | rfl | hb
   ·have := hcf _ g6; omega
   ·omega
   ·have := (mine_lt hm9 b hb).1; omega
  ·simp only [List.mem_cons] at hb
   rcases hb with rfl | rfl | hb
   ·exact .inl g6
   ·exact .inl g7
   ·rcases hs9 b hb with h | h
    ·exact .inl (g8 b h)
    ·right; omega
 have hg : Bl.got (Bl.vget r p.1) p.1 = 0 := hg
 obtain ⟨L, hL, hmy⟩ := hgot hg
 have hyl : y.2.1 = L.length := by have := hmy.len; simp at this; omega
 have hv := getV_got0 (kind := p.2) hL hg
 refine callF_of (ndecode_c (L := L) rfl hmy.cells hyl (by have := hlen _ L hL; omega)) ?_
 rintro e w7 ⟨xp, xi, rfl, hN7, hx7⟩
 refine ⟨(.agg (nodC (decN L).1 xp xi).toArray, (decN L).2), rfl, ?_⟩
 have hit := getV_items (v := Bl.vget r p.1) (k := p.1) (kind := p.2)
 generalize hD : decN L = D at *
 refine varN D.1 xp xi rfl fun w9 hw9 => ?_
 have hx9 : Ext [] w7.heap w9.heap := by rw [hw9]; exact .push _
 have hn9 : w9.heap[w7.heap.size]? = some (.cells (nodC D.1 xp xi).toArray y_api_Node (0, 0)) := by rw [hw9]; exact push_new
 have hx69 := hx7.trans hx9
 have hm9 := hx69.get hm6 (by simp)
 have hc9 := hx69.get hc6 (by simp)
 have hb9 := hx69.get hb6 (by simp)
 have g59 := g56.ext hx69 (by simp)
 have hx09 : Ext cf H w9.heap := hx06.trans (hx69.mono (by simp))
 have s9 := hx69.1
 have foul : ∀ {w' : World}, (D.2 ≠ 0 ∨ D.1.kind ≠ p.2) → w'.heap = w9.heap.setIfInBounds c (.cells (#[Value.pointer (some (⟨pS, 0, none⟩ : Addr)), .map (some m), slcV x, .bool s.foul].setIfInBounds 3 (.bool true)) y_carry_Carrier (0, 0)) → LookPost H cf c pS t (.returned (.tuple #[])) w' := by
  intro w' hbad hw'
  have hst : lookS (Bl.vget r) s p = (⟨s.seen ++ [p], s.want, true⟩, [], 0) := by
   unfold lookS
   rw [if_neg hin, if_neg (by simpa using hg), hv, if_pos hbad]
   rfl
  rw [hst] at hrun
  have ht := hfin hrun
  subst ht
  have hx10 : Ext [c] w9.heap w'.heap := by rw [hw']; exact Ext.set _ (by simp)
  have cno : c ∉ ownM x := fun h => by
   obtain ⟨cs, fr, hg⟩ := mine_type g59 _ h
   rw [hc9] at hg; simp only [Option.some.injEq, Obj.cells.injEq] at hg; exact absurd hg.2.1 (by decide)
  have s10 := hx10.1
  exact ⟨rfl, cf, ⟨m, _, _, x, by rw [hw']; exact set_new hc9, hx10.get hm9 (by simp; exact fun h => hcne h.symm), g34, g44, g59.ext hx10 (fun b hb h => by simp at h; subst h; exact cno hb), g6, g7, g8, g9⟩, hx09.trans (hx10.mono (by simp; exact g6)), fun b hb => by have := hcf b hb; omega, fun b hb => .inl hb⟩
 refine Go.Fw.joinP_of (fun _ W => W = w9 ∧ ¬ (D.2 ≠ 0 ∨ D.1.kind ≠ p.2)) ?_ ?_
 ·refine iteP_ne (fun h1 => ?_) (fun h1 => ?_)
  ·exact stC_h rfl hc9 (by simp) fun w10 hw10 => foul (.inl h1) hw10
  ·refine ld_h (s := .int .i64) (t := D.1.kind) rfl hn9 rfl ?_
   refine ld_h (s := .int .i64) (t := p.2) rfl hb9 (kind_cell hp) ?_
   refine iteP_ne (fun h2 => ?_) (fun h2 => ?_)
   ·exact stC_h rfl hc9 (by simp) fun w10 hw10 => foul (.inr h2) hw10
   ·exact ⟨rfl, fun h => h.elim (fun h => h h1) (fun h => h h2)⟩
 rintro _ W ⟨hW, hok⟩
 subst hW
 rw [hv, if_neg hok] at hit
 have hst : lookS (Bl.vget r) s p = (⟨s.seen ++ [p], s.want, s.foul⟩, kidsN D.1, 0) := by
  unfold lookS
  rw [if_neg hin, if_neg (by simpa using hg), hv, if_neg hok]
  rfl
 rw [hst] at hrun
 refine ldA_all rfl hn9 rfl ?_
 have hCW : CarrW W.heap cf c pS ⟨s.seen ++ [p], s.want, s.foul⟩ := ⟨m, _, _, x, hc9, hm9, g34, g44, g59, g6, g7, g8, g9⟩
 have hN9 := (hN7.ext hx9 (by simp)).nodW
 refine callF_of (kids_of (fun m' hm' => ih m' (by omega)) rfl hCW (fun b hb => by have := hcf b hb; omega) (hS.ext hx09 (fun b hb => (hfp b hb).2)) (fun b hb => ⟨by have := (hfp b hb).1; omega, (hfp b hb).2⟩) (hR.ext hx09 h0) h0 hN9 hit.2.2.2.2 hit.1 hrun (by simp only; omega)) ?_
 rintro e w17 ⟨rfl, cf2, hC2, hx17, hcf2, hsub2⟩
 refine ⟨(), rfl, rfl, cf2, hC2, hx09.trans hx17, hcf2, fun b hb => ?_⟩
 rcases hsub2 b hb with h | h
 ·exact .inl h
 ·right; omega
theorem kids_c {fp : List Nat} {pS : Nat} {q : Int} {r : Bl.SM} {k N : Nat} (hlen : ∀ k L, Bl.vget r k = some L → L.length < 1099511627776) {w : World} {H : Heap} {cf : List Nat} {c : Nat} {s t : LSt} {D : Nod} {xp xi : Option Addr × Nat × Nat} (hw : w.heap = H) (hC : CarrW H cf c pS s) (hcf : ∀ b ∈ cf, b < H.size) (hS : Bl.Store H fp pS q r k) (hfp : ∀ b ∈ fp, b < H.size ∧ b ∉ cf) (hR : Bl.Rounds H) (h0 : 0 ∉ cf)
  (hN : NodW H D xp xi) (hpl : D.parts.length ≤ 65536) (hil : D.items.length ≤ 65) (hrun : Run (lookS (Bl.vget r)) N (kidsN D) s t 0) (hb : s.want.length + N ≤ 1000000000) :
  CallF P F_carry_Carrier_kids #[.pointer (some ⟨c, 0, none⟩), .agg (nodC D xp xi).toArray] w (LookPost H cf c pS t) :=
 kids_of (fun m _ => look_ok hlen m) hw hC hcf hS hfp hR h0 hN hpl hil hrun hb
end Go.Proofs.YtbmegmbnlajbbaaGreatDoor
namespace Go.Proofs.YtbmegmbnlajbbaaGreatDoor
open Go Go.Fw Go.Proofs Go.Sort
theorem set_row {α : Type} {enc : α → List Value} {sz : Nat} {T : TypeId} (hk : ∀ x, (enc x).length = sz) (h0 : 0 < sz) {H H' : Heap} {B b i o : Nat} {x : Option Addr × Nat × Nat} {L : List α} {v : α} {c : Array Value} {T' : TypeId} (hm : Mine H B T sz x (L.flatMap enc)) (hi : i < L.length) (hx : x.1.map (·.block) = some b) (hb : H[b]? = some (.cells c T' (0, 0))) (ho : o = i * sz) (hw : H' = H.setIfInBounds b (.cells (setCells c o (enc v)) T' (0, 0))) :
  Mine H' B T sz x ((L.set i v).flatMap enc) := by
 rcases hm with ⟨rfl, h⟩ | ⟨b1, c1, e1, e2, e3, e4, e5, e6, e7⟩
 ·simp at hx
 rw [e1] at hx
 simp only [Option.map_some, Option.some.injEq] at hx
 subst hx
 rw [hb] at e3
 simp only [Option.some.injEq, Obj.cells.injEq] at e3
 obtain ⟨rfl, rfl, _⟩ := e3
 rw [length_flatMap_k enc hk] at e5 e7
 have hll : x.2.1 = L.length := Nat.eq_of_mul_eq_mul_right h0 e5.symm
 have hlc : L.length * sz ≤ c.size := by rw [e4]; exact Nat.mul_le_mul_right _ (by omega)
 have hoi : i * sz + sz ≤ L.length * sz := by rw [← Nat.succ_mul]; exact Nat.mul_le_mul_right _ hi
 subst ho
 refine .inr ⟨b1, _, e1, e2, by rw [hw]; exact set_new hb, by rw [← e4, Go.Fw.size_setCells], by rw [length_flatMap_k enc hk]; simpa using e5, e6, ?_⟩
 rw [length_flatMap_k enc hk, List.length_set]
 have hsz : (setCells c (i * sz) (enc v)).size = c.size := Go.Fw.size_setCells
 apply List.ext_getElem?
 intro j
 rw [Array.getElem?_toList, Array.getElem?_extract, Nat.zero_add, getElem_flatMap enc hk h0]
 by_cases hj : j < L.length * sz
 ·rw [if_pos (by omega), get_setCells (by rw [hk]; omega), hk]
  have hold : c[j]? = (L[j / sz]?).bind fun v => (enc v)[j % sz]? := by
   have := congrArg (fun l => l[j]?) e7
   simp only [Array.getElem?_toList, Array.getElem?_extract, Nat.zero_add] at this
   rw [if_pos (by omega), getElem_flatMap enc hk h0] at this
   exact this
  have hdm := Nat.div_add_mod j sz
  have hmod := Nat.mod_lt j h0
  by_cases hin : i * sz ≤ j ∧ j < i * sz + sz
  ·rw [if_pos hin]
   have hd : j / sz = i := by
    apply Nat.div_eq_of_lt_le
    ·rw [Nat.mul_comm]; rw [Nat.mul_comm]; exact hin.1
    ·rw [Nat.succ_mul]; exact hin.2
   have hr : j % sz = j - i * sz := by rw [hd, Nat.mul_comm] at hdm; omega
   rw [hd, List.getElem?_set_self hi]
   simp [hr]
  ·rw [if_neg hin, hold]
   have hd : i ≠ j / sz := by
    rintro rfl
    apply hin
    rw [Nat.mul_comm]
    omega
   rw [List.getElem?_set_ne hd]
 ·rw [if_neg (by omega), List.getElem?_eq_none (l := L.set i v)]
  ·rfl
  ·rw [List.length_set, Nat.le_div_iff_mul_le h0]; omega
def mineG (b5 : Nat) : Value := .func (.func F_carry_Carrier_Offer_1) #[] #[.pointer (some ⟨b5, 0, none⟩)]
theorem offer1_c {w : World} {b5 : Nat} {d : List UInt8} {T : TypeId} {fr : Nat × Nat} {p : Pr} (hb : w.heap[b5]? = some (.cells (byteCells d).toArray T fr)) (hd : d.length = 32) (hp : p.1.length = 32) :
  CallF P F_carry_Carrier_Offer_1 #[prV p, .pointer (some ⟨b5, 0, none⟩)] w fun e w' => e = .returned (.bool (decide (p.1 = d))) ∧ Ext [] w.heap w'.heap := by
 refine fn_carry_Carrier_Offer_1 ?_
 unfold T_carry_Carrier_Offer_1
 rw [show (prV p).cells = (encPr p).toArray from rfl]
 refine newB_h rfl fun w1 hw1 => ?_
 have hx1 : Ext [] w.heap w1.heap := by rw [hw1]; exact .push _
 have hb1 : w1.heap[w.heap.size]? = some (.cells (encPr p).toArray y_carry_pair (0, 0)) := by rw [hw1]; exact push_new
 refine ldA_h rfl hb1 (by simp [len_encPr hp]) ?_
 rw [dig_cells hp]
 simp only [withAddr_some]
 refine ldA_all rfl (hx1.get hb (by simp)) (by simp [hd]) ?_
 refine genQ_of (s := .bool) _ (eqM_arr Bl.u27 Bl.u5 Bl.c5 Bl.g27 hp hd) ?_
 exact ⟨rfl, hx1⟩
theorem index8_c {w : World} {H : Heap} {a : Option Addr} {n nc b5 : Nat} {L : List Pr} {d : List UInt8} {T : TypeId} {fr : Nat × Nat} (hw : w.heap = H) (hL : Cells H a (L.flatMap encP)) (hn : n = L.length) (hm : L.length ≤ 1099511627776) (h32 : ∀ p ∈ L, p.1.length = 32)
  (hb : H[b5]? = some (.cells (byteCells d).toArray T fr)) (hd : d.length = 32) :
  CallF P F_slices_IndexFunc_S_carry_pair_carry_pair #[.slice a n nc, mineG b5] w fun e w' => ∃ k : Int, e = .returned (.int .i64 k) ∧ ((k = -1 ∧ ∀ p ∈ L, p.1 ≠ d) ∨ ∃ i : Nat, k = (i : Int) ∧ i < L.length ∧ (∀ p ∈ L.take i, p.1 ≠ d) ∧ ∃ p, L[i]? = some p ∧ p.1 = d) ∧ Ext [] H w'.heap := by
 subst hn
 refine fn_slices_IndexFunc_S_carry_pair_carry_pair ?_
 unfold T_slices_IndexFunc_S_carry_pair_carry_pair
 refine loopP_of (fun (s : Int) W => ∃ i : Nat, s = (i : Int) ∧ i ≤ L.length ∧ (∀ p ∈ L.take i, p.1 ≠ d) ∧ Ext [] H W.heap) (fun s _ => (L.length - s).toNat) ⟨0, rfl, Nat.zero_le _, by simp, by rw [hw]; exact .refl _ _⟩ ?_
 rintro _ W ⟨i, rfl, hi, hno, hxW⟩
 refine iteP_dec (fun hlt => ?_) (fun hge => ?_)
 ·have hil : i < L.length := by omega
  have hget := List.getElem?_eq_getElem hil
  have hp := h32 _ (List.getElem_mem hil)
  generalize L[i] = p at hget hp
  refine elem_ld (i := i) len_encP (by omega) rfl (hL.ext hxW (by simp)) rfl hget rfl ?_
  rw [← prV_eq hp]
  refine callV_func (args := #[prV p]) (cap := #[.pointer (some ⟨b5, 0, none⟩)]) ?_
  refine (offer1_c (hxW.get hb (by simp)) hd hp).mono ?_
  rintro e w2 ⟨rfl, hx2⟩
  refine ⟨decide (p.1 = d), rfl, ?_⟩
  by_cases h : p.1 = d
  ·exact iteP_t (by simp [h]) ⟨_, rfl, .inr ⟨i, rfl, hil, hno, p, hget, h⟩, hxW.trans hx2⟩
  ·refine iteP_f (by simp [h]) ?_
   refine addI_to ((i + 1 : Nat) : Int) (by omega) (by omega) (by omega) ?_
   refine ⟨⟨i + 1, rfl, by omega, fun p' hp' => ?_, hxW.trans hx2⟩, by omega⟩
   rw [List.take_add_one, hget] at hp'
   rcases List.mem_append.1 hp' with h' | h'
   ·exact hno p' h'
   ·simp at h'; subst h'; exact h
 ·rw [List.take_of_length_le (by omega)] at hno
  exact ⟨_, rfl, .inl ⟨rfl, hno⟩, hxW⟩
theorem containsf_c {w : World} {H : Heap} {a : Option Addr} {n nc b5 : Nat} {L : List Pr} {d : List UInt8} {T : TypeId} {fr : Nat × Nat} (hw : w.heap = H) (hL : Cells H a (L.flatMap encP)) (hn : n = L.length) (hm : L.length ≤ 1099511627776) (h32 : ∀ p ∈ L, p.1.length = 32)
  (hb : H[b5]? = some (.cells (byteCells d).toArray T fr)) (hd : d.length = 32) :
  CallF P F_slices_ContainsFunc_S_carry_pair_carry_pair #[.slice a n nc, mineG b5] w fun e w' => ∃ t, e = .returned (.bool t) ∧ (t = true ↔ ∃ p ∈ L, p.1 = d) ∧ Ext [] H w'.heap := by
 refine fn_slices_ContainsFunc_S_carry_pair_carry_pair ?_
 unfold T_slices_ContainsFunc_S_carry_pair_carry_pair
 refine callF_of (index8_c hw hL hn hm h32 hb hd) ?_
 rintro e w1 ⟨k, rfl, hk, hx⟩
 refine ⟨k, rfl, _, rfl, ?_, hx⟩
 rw [decide_eq_true_eq]
 rcases hk with ⟨rfl, h⟩ | ⟨i, rfl, hi, _, p, hg, hp⟩
 ·exact ⟨fun h => by omega, fun ⟨p, hp, e⟩ => absurd e (h p hp)⟩
 ·exact ⟨fun _ => ⟨p, List.mem_of_getElem? hg, hp⟩, fun _ => by omega⟩
theorem containsp_c {w : World} {H : Heap} {a : Option Addr} {n nc : Nat} {L : List Pr} {p : Pr} (hw : w.heap = H) (hL : Cells H a (L.flatMap encP)) (hn : n = L.length) (hm : L.length ≤ 1099511627776) (h32 : ∀ p ∈ L, p.1.length = 32) (hp : p.1.length = 32) :
  CallF P F_slices_Contains_S_carry_pair_carry_pair #[.slice a n nc, prV p] w fun e w' => e = .returned (.bool (decide (p ∈ L))) ∧ Ext [] H w'.heap := by
 subst hn
 refine fn_slices_Contains_S_carry_pair_carry_pair ?_
 unfold T_slices_Contains_S_carry_pair_carry_pair
 have l33 := len_encPr hp
 rw [show (prV p).cells = (encPr p).toArray from rfl]
 refine newB_h hw fun w1 hw1 => ?_
 have hx1 : Ext [] H w1.heap := by rw [hw1]; exact .push _
 have hb1 : w1.heap[H.size]? = some (.cells (encPr p).toArray y_carry_pair (0, 0)) := by rw [hw1]; exact push_new
 refine ldA_all rfl hb1 (by simp [l33]) ?_
 have h : CallF P F_slices_Index_S_carry_pair_carry_pair #[.slice a L.length nc, prV p] w1 fun e w' => ∃ k : Int, e = .returned (.int .i64 k) ∧ (0 ≤ k ↔ p ∈ L) ∧ Ext [] H w'.heap := by
  refine fn_slices_Index_S_carry_pair_carry_pair ?_
  unfold T_slices_Index_S_carry_pair_carry_pair
  rw [show (prV p).cells = (encPr p).toArray from rfl]
  refine newB_h rfl fun w2 hw2 => ?_
  have hx2 : Ext [] w1.heap w2.heap := by rw [hw2]; exact .push _
  have hb2 : w2.heap[w1.heap.size]? = some (.cells (encPr p).toArray y_carry_pair (0, 0)) := by rw [hw2]; exact push_new
  refine loopP_of (fun (s : Int) W => ∃ i : Nat, s = (i : Int) ∧ i ≤ L.length ∧ p ∉ L.take i ∧ W.heap = w2.heap) (fun s _ => (L.length - s).toNat) ⟨0, rfl, Nat.zero_le _, by simp, rfl⟩ ?_
  rintro _ W ⟨i, rfl, hi, hno, hW⟩
  have hxW : Ext [] H W.heap := by rw [hW]; exact hx1.trans hx2
  refine iteP_dec (fun hlt => ?_) (fun hge => ?_)
  ·have hil : i < L.length := by omega
   have hget := List.getElem?_eq_getElem hil
   have hmem := List.getElem_mem hil
   generalize L[i] = q at hget hmem
   have hq := h32 q hmem
   refine drewP_h rfl fun w3 hw3 => ?_
   have hx3 : Ext [] H w3.heap := by rw [hw3]; exact hxW
   have hb3 : w3.heap[w1.heap.size]? = some (.cells (encPr p).toArray y_carry_pair (0, 0)) := by rw [hw3, hW]; exact hb2
   refine Bl.elem_ix (i := i) len_encP (by omega) (hL.ext hx3 (by simp)) rfl hget rfl fun ba oa ca Ta fra _ hba hsa hca _ => ?_
   refine ldA_all rfl hb3 (by simp [l33]) ?_
   refine ldA_h rfl hba hsa ?_
   rw [extP hq hsa hca]
   refine genQ_of (s := .bool) _ (eqMPr hp hq) ?_
   refine iteP_of (p := p = q) (by simp) (fun h => ?_) (fun h => ?_)
   ·subst h
    exact ⟨_, rfl, ⟨fun _ => hmem, fun _ => by omega⟩, hx3⟩
   ·refine addI_to ((i + 1 : Nat) : Int) (by simp) (by omega) (by omega) ?_
    refine ⟨⟨i + 1, rfl, by omega, ?_, by rw [hw3, hW]⟩, by omega⟩
    rw [List.take_add_one, hget]
    simp only [Option.toList_some, List.mem_append, List.mem_singleton]
    rintro (h' | h')
    ·exact hno h'
    ·exact h h'
  ·rw [List.take_of_length_le (by omega)] at hno
   exact ⟨_, rfl, ⟨fun h => by omega, fun h => absurd h hno⟩, hxW⟩
 refine callF_of h ?_
 rintro e w3 ⟨k, rfl, hk, hx⟩
 refine ⟨k, rfl, ?_, hx⟩
 congr 2
 rw [Bool.eq_iff_iff, decide_eq_true_eq, decide_eq_true_eq, ← hk]
end Go.Proofs.YtbmegmbnlajbbaaGreatDoor
namespace Go.Proofs.YtbmegmbnlajbbaaGreatDoor
open Go Go.Fw Go.Proofs Go.Sort
def zPairL : List Value := byteCells (List.replicate 32 0) ++ [Value.int .i64 0]
theorem zPair (w : World) : (zeroValue y_carry_pair).run P w = .ok (.agg zPairL.toArray) w := by kernel_rfl
theorem zPair_one : ∀ j, j < 33 → (zPairL.toArray[j]!).oneCell' = true := by decide
theorem clear_run {w : World} {H : Heap} {b o n cap : Nat} {c : Array Value} {T ty : TypeId} (hw : w.heap = H) (hb : H[b]? = some (.cells c T (0, 0))) (hn : o + n * 33 ≤ c.size) :
  ∃ w', (Builtin.clear_ #[y_S_carry_pair] ty #[.slice (some ⟨b, o, none⟩) n cap]).run P w = .ok (.tuple #[]) w' ∧ Go.Fw.Calm w w' ∧ ∃ zs : List Value, zs.length = n * 33 ∧ w'.heap = H.setIfInBounds b (.cells (setCells c o zs) T (0, 0)) := by
 cases n with
 | zero =>
  refine ⟨w, ?_, .refl w, [], by simp, ?_⟩
  ·simp [Builtin.clear_, run_underlying' uSc]
  ·simp only [setCells]
   rw [hw]
   apply Array.ext_getElem?
   intro j
   by_cases hj : b = j
   ·subst hj; rw [set_new hb, hb]
   ·rw [Array.getElem?_setIfInBounds_ne hj]
 | succ n =>
  have hzs : (Builtin.zeroCells zPairL.toArray (n + 1)).toList.length = (n + 1) * 33 := by simp [Builtin.zeroCells, zPairL]
  have hz1 : oneCells (Builtin.zeroCells zPairL.toArray (n + 1)).toList := by
   intro v hv
   simp only [Builtin.zeroCells, Array.toList_map, List.mem_map] at hv
   obtain ⟨i, _, rfl⟩ := hv
   exact zPair_one _ (Nat.mod_lt _ (by simp [zPairL]))
  obtain ⟨w', h1, h2, h3⟩ := storeCells_h (P := P) _ w H c o 0 hz1 hw hb (by rw [hzs]; omega)
  refine ⟨w', ?_, h2, _, hzs, by simpa using h3⟩
  simp only [Builtin.clear_, List.getElem?_toArray, List.getElem?_cons_zero, Sem.run_bind, run_underlying' uSc, Result.andThen_ok, zPair, Value.cells, h1, Sem.run_pure]
theorem take_set_succ {α : Type} {R : List α} {m : Nat} {v : α} (h : m < R.length) : (R.set m v).take (m + 1) = R.take m ++ [v] := by
 rw [List.take_add_one, List.getElem?_set_self h, List.take_set, List.set_eq_of_length_le (by simp; omega)]
 rfl
set_option maxHeartbeats 8000000 in
theorem deletef_c {w : World} {H : Heap} {B b5 : Nat} {x : Option Addr × Nat × Nat} {L : List Pr} {d : List UInt8} {T : TypeId} {fr : Nat × Nat} (hw : w.heap = H) (hm : Mine H B y_carry_pair 33 x (L.flatMap encP)) (hlen : L.length ≤ 1099511627776) (h32 : ∀ p ∈ L, p.1.length = 32)
  (hb : H[b5]? = some (.cells (byteCells d).toArray T fr)) (hd : d.length = 32) (hb5 : b5 ∉ ownM x) (hex : ∃ p ∈ L, p.1 = d) :
  CallF P F_slices_DeleteFunc_S_carry_pair_carry_pair #[.slice x.1 x.2.1 x.2.2, mineG b5] w fun e w' => ∃ x', e = .returned (slcV x') ∧ Mine w'.heap B y_carry_pair 33 x' ((L.filter fun p => decide (p.1 ≠ d)).flatMap encP) ∧ Ext (ownM x) H w'.heap ∧ ∀ c ∈ ownM x', c ∈ ownM x := by
 have hxl : x.2.1 = L.length := by have := hm.len; rw [lenP] at this; omega
 obtain ⟨xa, xl, xc⟩ := x
 simp only at hxl hm
 subst hxl
 refine fn_slices_DeleteFunc_S_carry_pair_carry_pair ?_
 unfold T_slices_DeleteFunc_S_carry_pair_carry_pair
 refine callF_of (index8_c hw hm.cells rfl hlen h32 hb hd) ?_
 rintro e w1 ⟨k, rfl, hk, hx1⟩
 refine ⟨k, rfl, ?_⟩
 rcases hk with ⟨_, h⟩ | ⟨i0, rfl, hi0, hno, p0, hg0, hp0⟩
 ·obtain ⟨p, hp, e⟩ := hex
  exact absurd e (h p hp)
 refine iteP_eq (fun h => by omega) (fun _ => ?_)
 refine addI_to ((i0 + 1 : Nat) : Int) (by omega) (by omega) (by omega) ?_
 have hm1 := hm.ext hx1 (by simp)
 have hf0 : (L.take (i0 + 1)).filter (fun p => decide (p.1 ≠ d)) = L.take i0 := by
  rw [List.take_add_one, hg0, List.filter_append]
  rw [List.filter_eq_self.2 fun p hp => by simpa using hno p hp]
  simp [hp0]
 obtain ⟨bx, hbx⟩ : ∃ bx, xa = some ⟨bx, 0, none⟩ := by
  rcases id hm with ⟨h, _⟩ | ⟨b, c, hx, _⟩
  ·simp only [Prod.mk.injEq] at h; omega
  ·exact ⟨b, hx⟩
 subst hbx
 have hcap := mine_cap hm
 simp only at hcap
 refine loopP_of (fun (s : Int × Int) W => ∃ (m j : Nat) (R : List Pr), s = ((m : Int), (j : Int)) ∧ m < j ∧ j ≤ L.length ∧ R.length = L.length ∧ Mine W.heap B y_carry_pair 33 (some ⟨bx, 0, none⟩, L.length, xc) (R.flatMap encP) ∧ R.take m = (L.take j).filter (fun p => decide (p.1 ≠ d)) ∧ R.drop j = L.drop j ∧ Ext [bx] H W.heap) (fun s _ => (L.length - s.2).toNat)
  ⟨i0, i0 + 1, L, rfl, by omega, by omega, rfl, hm1, hf0.symm, rfl, hx1.mono (by simp)⟩ ?_
 rintro _ W ⟨m, j, R, rfl, hmj, hj, hRl, hmW, htk, hdr, hxW⟩
 have hbW := hxW.get hb (by simpa [ownM] using hb5)
 refine iteP_dec (fun hlt => ?_) (fun hge => ?_)
 ·have hjl : j < L.length := by simp only at hlt; omega
  have hgL := List.getElem?_eq_getElem hjl
  have hgR : R[j]? = some L[j] := by
   have := congrArg (fun l => l[0]?) hdr
   simp only [List.getElem?_drop, Nat.add_zero] at this
   rw [this, hgL]
  have hp := h32 _ (List.getElem_mem hjl)
  have hdr' : R.drop (j + 1) = L.drop (j + 1) := by
   rw [show j + 1 = j + 1 from rfl, ← List.drop_drop, ← List.drop_drop, hdr]
  have htake : L.take (j + 1) = L.take j ++ [L[j]] := by rw [List.take_add_one, hgL]; rfl
  generalize L[j] = p at hgL hgR hp htake
  refine Go.Fw.joinP_of (fun (s2 : Int) W' => ∃ (m' : Nat) (R' : List Pr), s2 = (m' : Int) ∧ m' < j + 1 ∧ R'.length = L.length ∧ Mine W'.heap B y_carry_pair 33 (some ⟨bx, 0, none⟩, L.length, xc) (R'.flatMap encP) ∧ R'.take m' = (L.take (j + 1)).filter (fun p => decide (p.1 ≠ d)) ∧ R'.drop (j + 1) = L.drop (j + 1) ∧ Ext [bx] H W'.heap) ?_ ?_
  rotate_left
  ·rintro _ W' ⟨m', R', rfl, k1, k2, k3, k4, k5, k6⟩
   refine addI_to ((j + 1 : Nat) : Int) (by simp) (by omega) (by omega) ?_
   exact ⟨⟨m', j + 1, R', rfl, k1, by omega, k2, k3, k4, k5, k6⟩, by simp only; omega⟩
  refine elem_ld (i := j) len_encP (by omega) rfl hmW.cells hRl.symm hgR rfl ?_
  have hvar : ∀ {K : Nat → World → Prop}, (∀ w', w'.heap = W.heap.push (.cells (encPr p).toArray y_carry_pair (0, 0)) → K W.heap.size w') →
    newB (zc P y_carry_pair) y_carry_pair W fun b w1 => genU P (storeVar y_carry_pair (⟨b, 0, none⟩ : Addr) (.agg (encP p).toArray)) w1 fun w2 => K b w2 := by
   intro K hK
   refine var_g (v := .agg (encP p).toArray) (by rw [show P.cellsOf y_carry_pair = 33 by kernel_rfl]; simp [Value.cells, len_encP]) (by rw [show (zc P y_carry_pair).size = 33 by kernel_rfl]; simp [Value.cells, len_encP]) (by simp [Value.cells, len_encP]) (by simpa [Value.cells] using one_encP) rfl fun w' hw' => hK w' ?_
   rw [hw', ← encP_eq hp]; rfl
  refine hvar fun w4 hw4 => ?_
  have hx4 : Ext [] W.heap w4.heap := by rw [hw4]; exact .push _
  have hb4 : w4.heap[W.heap.size]? = some (.cells (encPr p).toArray y_carry_pair (0, 0)) := by rw [hw4]; exact push_new
  have l33 := len_encPr hp
  refine ldA_all rfl hb4 (by simp [l33]) ?_
  refine callV_func (args := #[prV p]) (cap := #[.pointer (some ⟨b5, 0, none⟩)]) ?_
  refine (offer1_c (hx4.get hbW (by simp)) hd hp).mono ?_
  rintro e w5 ⟨rfl, hx5⟩
  refine ⟨decide (p.1 = d), rfl, ?_⟩
  have hm5 := (hmW.ext hx4 (by simp)).ext hx5 (by simp)
  have hb5' := hx5.get hb4 (by simp)
  have hx05 : Ext [bx] H w5.heap := hxW.trans ((hx4.trans hx5).mono (by simp))
  by_cases he : p.1 = d
  ·refine iteP_f (by simp [he]) ?_
   refine ⟨m, R, rfl, by omega, hRl, hm5, ?_, hdr', hx05⟩
   rw [htake, List.filter_append, ← htk]
   simp [he]
  ·refine iteP_t (by simp [he]) ?_
   refine ldA_all rfl hb5' (by simp [l33]) ?_
   have hgm := List.getElem?_eq_getElem (show m < R.length by omega)
   refine Bl.elem_ix (i := m) len_encP (by omega) hm5.cells hRl.symm hgm rfl fun ba oa ca Ta fra hka hba hsa hca hoff => ?_
   simp only [Option.map_some, Option.some.injEq] at hka
   subst hka
   have hoff := hoff rfl
   have hfr : fra = (0, 0) := by
    rcases id hm5 with ⟨h, _⟩ | ⟨b, c, hx, _, hg, _⟩
    ·simp only [Prod.mk.injEq] at h; omega
    ·simp only [Option.some.injEq, Addr.mk.injEq] at hx
     rw [← hx.1, hba] at hg
     simp only [Option.some.injEq, Obj.cells.injEq] at hg
     exact hg.2.2
   subst hfr
   rw [show (Value.agg (encPr p).toArray) = .agg (encP p).toArray by rw [encP_eq hp]]
   refine storeVar_h (v := .agg (encP p).toArray) (by rw [show P.cellsOf y_carry_pair = 33 by kernel_rfl]; simp [Value.cells, len_encP]) (by simp [Value.cells, len_encP]) (by simpa [Value.cells] using one_encP) rfl hba (by simp [Value.cells, len_encP]; omega) fun w6 hw6 => ?_
   have hm6 : Mine w6.heap B y_carry_pair 33 (some ⟨bx, 0, none⟩, L.length, xc) ((R.set m p).flatMap encP) := set_row len_encP (by omega) hm5 (by omega) rfl hba hoff (by rw [hw6]; simp [Value.cells])
   have hx6 : Ext [bx] w5.heap w6.heap := by rw [hw6]; exact Ext.set _ (by simp)
   refine addI_to ((m + 1 : Nat) : Int) (by simp) (by omega) (by omega) ?_
   refine ⟨m + 1, R.set m p, rfl, by omega, by simp [hRl], hm6, ?_, ?_, hx05.trans hx6⟩
   ·rw [take_set_succ (by omega), htk, htake, List.filter_append]
    simp [he]
   ·rw [List.drop_set_of_lt (by omega)]; exact hdr'
 ·obtain rfl : j = L.length := by simp only at hge; omega
  rw [List.take_length] at htk
  have hml : m = (L.filter fun p => decide (p.1 ≠ d)).length := by
   have := congrArg List.length htk
   simp only [List.length_take] at this
   omega
  have hcut : ∀ W : World, (Instr.sliceAt y_S_carry_pair (Value.slice (some ⟨bx, 0, none⟩) L.length xc) (some (Value.int .i64 (m : Int))) none none).run P W = .ok (.slice (if xc = m then some ⟨bx, 0, none⟩ else some ⟨bx, m * 33, none⟩) (L.length - m) (xc - m)) W := fun W => by
   have := run_slice_slc (P := P) (w := W) (a := some ⟨bx, 0, none⟩) (len := L.length) (cap := xc) (l := m) (h := L.length) uSc (show (P.info? y_carry_pair).map (·.size) = some 33 by kernel_rfl) (.yes (k := .i64) (i := (m : Int)) rfl) .no (by omega) hcap
   simpa [add_none] using this
  have hcut2 : ∀ W : World, (Instr.sliceAt y_S_carry_pair (Value.slice (some ⟨bx, 0, none⟩) L.length xc) none (some (Value.int .i64 (m : Int))) none).run P W = .ok (.slice (some ⟨bx, 0, none⟩) m xc) W := fun W => by
   have := run_slice_slc (P := P) (w := W) (a := some ⟨bx, 0, none⟩) (len := L.length) (cap := xc) (l := 0) (h := m) uSc (show (P.info? y_carry_pair).map (·.size) = some 33 by kernel_rfl) .no (.yes (k := .i64) (i := (m : Int)) rfl) (Nat.zero_le _) (by omega)
   simpa [add_none] using this
  refine genQ_of (s := .slc) (if xc = m then some ⟨bx, 0, none⟩ else some ⟨bx, m * 33, none⟩, L.length - m, xc - m) (hcut W) ?_
  obtain ⟨cW, hcW, hcs⟩ : ∃ cW, W.heap[bx]? = some (.cells cW y_carry_pair (0, 0)) ∧ cW.size = xc * 33 ∧ (cW.extract 0 (L.length * 33)).toList = R.flatMap encP := by
   rcases id hmW with ⟨h, _⟩ | ⟨b, c, hx, _, hg, h1, h2, _, h3⟩
   ·simp only [Prod.mk.injEq] at h; omega
   ·simp only [Option.some.injEq, Addr.mk.injEq] at hx
    rw [← hx.1] at hg
    exact ⟨c, hg, h1, by rw [← h3, lenP, hRl]⟩
  have hBb : B ≤ bx := ownM_ge hmW bx (by simp [ownM])
  have done : ∀ {w8 : World} {zs : List Value}, zs.length = (L.length - m) * 33 → w8.heap = W.heap.setIfInBounds bx (.cells (setCells cW (m * 33) zs) y_carry_pair (0, 0)) → ∃ x', slcV (some ⟨bx, 0, none⟩, m, xc) = slcV x' ∧ Mine w8.heap B y_carry_pair 33 x' ((L.filter fun p => decide (p.1 ≠ d)).flatMap encP) ∧ Ext [bx] H w8.heap ∧ ∀ c ∈ ownM x', c ∈ ([bx] : List Nat) := by
   intro w8 zs hz hw8
   refine ⟨(some ⟨bx, 0, none⟩, m, xc), rfl, ?_, hxW.trans (by rw [hw8]; exact Ext.set _ (by simp)), by simp [ownM]⟩
   refine .inr ⟨bx, _, rfl, hBb, by rw [hw8]; exact set_new hcW, by rw [Go.Fw.size_setCells]; exact hcs.1, by rw [lenP, ← hml], by show m ≤ xc; omega, ?_⟩
   rw [lenP, ← hml, ← htk]
   have h1 : (R.take m).flatMap encP = (R.flatMap encP).take (m * 33) := by
    have h1 : R.flatMap encP = (R.take m).flatMap encP ++ (R.drop m).flatMap encP := by rw [← List.flatMap_append, List.take_append_drop]
    have h2 : ((R.take m).flatMap encP).length = m * 33 := by rw [lenP, List.length_take, Nat.min_eq_left (by omega)]
    rw [h1, List.take_left' h2]
   rw [h1, ← hcs.2]
   have hsz2 : (setCells cW (m * 33) zs).size = cW.size := Go.Fw.size_setCells
   apply List.ext_getElem?
   intro t
   rw [Array.getElem?_toList, Array.getElem?_extract, Nat.zero_add, List.getElem?_take, Array.getElem?_toList, Array.getElem?_extract, Nat.zero_add]
   by_cases ht : t < m * 33
   ·have : m * 33 ≤ L.length * 33 := Nat.mul_le_mul_right _ (by omega)
    have : L.length * 33 ≤ xc * 33 := Nat.mul_le_mul_right _ hcap
    rw [if_pos (by omega), if_pos ht, if_pos (by omega), get_setCells (by rw [hz, hcs.1, Nat.sub_mul]; omega), if_neg (by omega)]
   ·have hsz := hcs.1
    have : m * 33 ≤ L.length * 33 := Nat.mul_le_mul_right _ (by omega)
    have : L.length * 33 ≤ xc * 33 := Nat.mul_le_mul_right _ hcap
    rw [if_neg (by omega), if_neg ht]
  have tail : ∀ {w8 : World}, (∃ x', slcV (some ⟨bx, 0, none⟩, m, xc) = slcV x' ∧ Mine w8.heap B y_carry_pair 33 x' ((L.filter fun p => decide (p.1 ≠ d)).flatMap encP) ∧ Ext [bx] H w8.heap ∧ ∀ c ∈ ownM x', c ∈ ([bx] : List Nat)) →
    genQ P (Instr.sliceAt y_S_carry_pair (Value.slice (some ⟨bx, 0, none⟩) L.length xc) none (some (Value.int .i64 (m : Int))) none) .slc w8 fun (t41 : (Option Addr × Nat × Nat)) => ∃ x', Ending.returned (Value.slice t41.1 t41.2.1 t41.2.2) = .returned (slcV x') ∧ Mine w8.heap B y_carry_pair 33 x' ((L.filter fun p => decide (p.1 ≠ d)).flatMap encP) ∧ Ext [bx] H w8.heap ∧ ∀ c ∈ ownM x', c ∈ ownM ((some ⟨bx, 0, none⟩, L.length, xc) : Option Addr × Nat × Nat) := by
   rintro w8 ⟨x', e1, e2, e3, e4⟩
   refine genQ_of (s := .slc) (some ⟨bx, 0, none⟩, m, xc) (hcut2 w8) ?_
   exact ⟨x', congrArg Ending.returned e1, e2, e3, by simpa [ownM] using e4⟩
  have hmx : m * 33 + (L.length - m) * 33 ≤ cW.size := by
   have : L.length * 33 ≤ xc * 33 := Nat.mul_le_mul_right _ hcap
   have : m * 33 ≤ L.length * 33 := Nat.mul_le_mul_right _ (by omega)
   rw [hcs.1, Nat.sub_mul]; omega
  by_cases hxm : xc = m
  ·rw [if_pos hxm]
   obtain ⟨w8, h1, h2, zs, h3, h4⟩ := clear_run (o := 0) (n := L.length - m) (cap := xc - m) (ty := y_tuple_bcd8b0) rfl hcW (by omega)
   refine genL_of (s := .any) _ w8 h1 ?_ h2
   have hz0 : zs = [] := List.eq_nil_of_length_eq_zero (by omega)
   subst hz0
   exact tail (done (zs := []) (by simp; omega) (by rw [h4]; rfl))
  ·rw [if_neg hxm]
   obtain ⟨w8, h1, h2, zs, h3, h4⟩ := clear_run (o := m * 33) (n := L.length - m) (cap := xc - m) (ty := y_tuple_bcd8b0) rfl hcW hmx
   refine genL_of (s := .any) _ w8 h1 ?_ h2
   exact tail (done h3 h4)
end Go.Proofs.YtbmegmbnlajbbaaGreatDoor
namespace Go.Proofs.YtbmegmbnlajbbaaGreatDoor
open Go Go.Fw Go.Proofs Go.Sort
structure Wf (s : LSt) : Prop where
 nd : s.want.Nodup
 sub : ∀ p ∈ s.want, p ∈ s.seen
theorem look_wf {v : List UInt8 → Option (List UInt8)} {s : LSt} {p : Pr} (h : Wf s) : Wf (lookS v s p).1 := by
 unfold lookS
 split
 ·exact h
 ·rename_i hn
  split
  ·refine ⟨?_, fun x hx => ?_⟩
   ·rw [List.nodup_append]
    exact ⟨h.nd, by simp, fun a ha b hb => by
     simp at hb; subst hb
     rintro rfl
     exact hn (h.sub _ ha)⟩
   ·rcases List.mem_append.1 hx with hx | hx
    ·exact List.mem_append.2 (.inl (h.sub x hx))
    ·exact List.mem_append.2 (.inr hx)
  ·split
   ·exact ⟨h.nd, fun x hx => List.mem_append.2 (.inl (h.sub x hx))⟩
   ·exact ⟨h.nd, fun x hx => List.mem_append.2 (.inl (h.sub x hx))⟩
theorem run_wf {v : List UInt8 → Option (List UInt8)} : ∀ {n : Nat} {todo : List Pr} {s t : LSt} {c : Int}, Run (lookS v) n todo s t c → Wf s → Wf t := by
 intro n todo s t c h
 induction h with
 | nil => exact id
 | stop _ => exact look_wf
 | step _ _ ih => exact fun h => ih (look_wf h)
theorem bCa (p : Option Addr) (m : Option Nat) (w : World) : (Instr.build y_carry_Carrier #[(0, .pointer p), (1, .map m)]).run P w = .ok (.agg #[.pointer p, .map m, .slice none 0 0, .bool false]) w := by kernel_rfl
def st0 : LSt := ⟨[], [], false⟩
set_option maxHeartbeats 4000000 in
theorem cnew_c {fp : List Nat} {pS : Nat} {q : Int} {r : Bl.SM} {k n : Nat} (hlen : ∀ k L, Bl.vget r k = some L → L.length < 1099511627776) {w : World} {H : Heap} {root : List UInt8} {kind : Int} {t : LSt} (hw : w.heap = H) (hS : Bl.Store H fp pS q r k) (hfp : ∀ b ∈ fp, b < H.size) (hR : Bl.Rounds H) (h32 : root.length = 32) (hkd : kind = 2 ∨ kind = 3)
  (hrun : Run (lookS (Bl.vget r)) n [(root, kind)] st0 t 0) (hn : n ≤ 1000000000) :
  CallF P F_carry_New #[.pointer (some ⟨pS, 0, none⟩), arr root, .int .i64 kind] w fun e w' => ∃ c cf, e = .returned (.tuple #[.pointer (some ⟨c, 0, none⟩), .int .i64 0]) ∧ CarrW w'.heap cf c pS t ∧ Ext [] H w'.heap ∧ ∀ b ∈ cf, H.size ≤ b ∧ b < w'.heap.size := by
 have hH0 : 0 < H.size := by obtain ⟨_, _, _, h, _⟩ := hR; exact lt_of_get h
 refine fn_carry_New ?_
 unfold T_carry_New
 rw [show (arr root).cells = (byteCells root).toArray from rfl]
 refine newB_h hw fun w1 hw1 => ?_
 have hx1 : Ext [] H w1.heap := by rw [hw1]; exact .push _
 have hb1 : w1.heap[H.size]? = some (.cells (byteCells root).toArray y_api_Digest (0, 0)) := by rw [hw1]; exact push_new
 have s1 := lt_of_get hb1
 refine joinP_in ?_
 refine Go.Fw.joinP_of (fun _ W => W = w1) ?_ ?_
 ·refine iteP_f rfl ?_
  refine iteP_ne (fun h2 => ?_) (fun h2 => rfl)
  exact iteP_ne (fun h3 => by rcases hkd with h | h <;> contradiction) (fun h3 => rfl)
 rintro _ W hW
 subst hW
 refine genL_of (s := .map) (some W.heap.size) _ (makeMap_h rfl) ?_
 generalize hw4 : ({ W with heap := W.heap.push (.map #[] 0) } : World) = w4
 have hh4 : w4.heap = W.heap.push (.map #[] 0) := by rw [← hw4]
 have hx4 : Ext [] W.heap w4.heap := by rw [hh4]; exact .push _
 have hm4 : w4.heap[W.heap.size]? = some (.map #[] 0) := by rw [hh4]; exact push_new
 have s4 := lt_of_get hm4
 refine genQ_of (s := .any) _ (bCa _ _ _) ?_
 refine newB_h rfl fun w5 hw5 => ?_
 have hx5 : Ext [] w4.heap w5.heap := by rw [hw5]; exact .push _
 have hc5 : w5.heap[w4.heap.size]? = some (.cells #[.pointer (some ⟨pS, 0, none⟩), .map (some W.heap.size), .slice none 0 0, .bool false] y_carry_Carrier (0, 0)) := by rw [hw5]; exact push_new
 have s5 := lt_of_get hc5
 have hx15 := hx4.trans hx5
 have hx05 := hx1.trans hx15
 refine ldA_all rfl (hx15.get hb1 (by simp)) (by simp [h32]) ?_
 refine genQ_of (s := .any) _ (bPr h32 kind _) ?_
 have hCW : CarrW w5.heap [w4.heap.size, W.heap.size] w4.heap.size pS st0 := ⟨W.heap.size, 0, [], (none, 0, 0), hc5, hx5.get hm4 (by simp), ⟨by simp, by simp, by simp, by simp⟩, by intro p; simp [mget, st0], .inl ⟨rfl, rfl⟩, by simp, by simp, by simp [ownM], by simp [st0]⟩
 refine callF_of (look_ok hlen n (p := (root, kind)) rfl hCW (fun b hb => by simp at hb; omega) (hS.ext hx05 (by simp)) (fun b hb => ⟨by have := hfp b hb; omega, by have := hfp b hb; simp; omega⟩) (hR.ext hx05 (by simp)) (by simp; omega) h32 hrun (by simp [st0]; omega)) ?_
 rintro e w6 ⟨rfl, cf2, hC2, hx6, hcf2, hsub2⟩
 refine ⟨(), rfl, w4.heap.size, cf2, rfl, hC2, hx05.own hx6 (fun b hb hlt => by simp at hb; omega), fun b hb => ⟨?_, hcf2 b hb⟩⟩
 rcases hsub2 b hb with h | h
 ·simp at h; omega
 ·omega
theorem cnewnil_c {w : World} {H : Heap} {root : List UInt8} {kind : Int} (hw : w.heap = H) : CallF P F_carry_New #[.pointer none, arr root, .int .i64 kind] w fun e w' => e = .returned (.tuple #[.pointer none, .int .i64 7]) ∧ Ext [] H w'.heap := by
 refine fn_carry_New ?_
 unfold T_carry_New
 refine newB_h hw fun w1 hw1 => ?_
 have hx1 : Ext [] H w1.heap := by rw [hw1]; exact .push _
 refine joinP_in ?_
 refine joinP_in ?_
 exact iteP_t rfl ⟨rfl, hx1⟩
theorem cdone_c {w : World} {H : Heap} {cf : List Nat} {c pS : Nat} {st : LSt} (hw : w.heap = H) (hC : CarrW H cf c pS st) : CallF P F_carry_Carrier_Done #[.pointer (some ⟨c, 0, none⟩)] w fun e w' => e = .returned (.bool (decide (st.want = [] ∧ st.foul = false))) ∧ w' = w := by
 obtain ⟨m, clk, l, x, g1, _, _, _, g5, _⟩ := hC
 have hxl : x.2.1 = st.want.length := by have := g5.len; rw [lenP] at this; omega
 refine fn_carry_Carrier_Done ?_
 unfold T_carry_Carrier_Done
 refine iteP_t rfl ?_
 simp only [withAddr_some, add_none, Nat.zero_add]
 refine ld_h (s := .slc) (t := x) hw g1 rfl ?_
 refine iteP_eq (fun h => ?_) (fun h => ?_)
 ·have h0 : st.want = [] := List.eq_nil_of_length_eq_zero (by omega)
  refine ld_h (s := .bool) (t := st.foul) hw g1 rfl ?_
  refine ⟨?_, trivial⟩
  cases hf : st.foul <;> simp [h0, hf]
 ·have h0 : st.want ≠ [] := fun h' => h (by rw [hxl, h']; rfl)
  exact ⟨by rw [decide_eq_false (fun h' => h0 h'.1)], trivial⟩
theorem index27_c {w : World} {H : Heap} {a : Option Addr} {n nc : Nat} {L : List (List UInt8)} {k : List UInt8} (hw : w.heap = H) (hL : Cells H a (L.flatMap Bl.enc32)) (hn : n = L.length) (hm : L.length ≤ 1099511627776) (h32 : ∀ q ∈ L, q.length = 32) (hk : k.length = 32) :
  CallF P F_slices_Contains_S_api_Digest_api_Digest #[.slice a n nc, arr k] w fun e w' => e = .returned (.bool (decide (k ∈ L))) ∧ Ext [] H w'.heap := by
 subst hn
 refine fn_slices_Contains_S_api_Digest_api_Digest ?_
 unfold T_slices_Contains_S_api_Digest_api_Digest
 rw [show (arr k).cells = (byteCells k).toArray from rfl]
 refine newB_h hw fun w1 hw1 => ?_
 have hx1 : Ext [] H w1.heap := by rw [hw1]; exact .push _
 have hb1 : w1.heap[H.size]? = some (.cells (byteCells k).toArray y_api_Digest (0, 0)) := by rw [hw1]; exact push_new
 refine ldA_all rfl hb1 (by simp [hk]) ?_
 have h : CallF P F_slices_Index_S_api_Digest_api_Digest #[.slice a L.length nc, arr k] w1 fun e w' => ∃ j : Int, e = .returned (.int .i64 j) ∧ (0 ≤ j ↔ k ∈ L) ∧ Ext [] H w'.heap := by
  refine fn_slices_Index_S_api_Digest_api_Digest ?_
  unfold T_slices_Index_S_api_Digest_api_Digest
  rw [show (arr k).cells = (byteCells k).toArray from rfl]
  refine newB_h rfl fun w2 hw2 => ?_
  have hx2 : Ext [] w1.heap w2.heap := by rw [hw2]; exact .push _
  have hb2 : w2.heap[w1.heap.size]? = some (.cells (byteCells k).toArray y_api_Digest (0, 0)) := by rw [hw2]; exact push_new
  refine loopP_of (fun (s : Int) W => ∃ i : Nat, s = (i : Int) ∧ i ≤ L.length ∧ k ∉ L.take i ∧ W.heap = w2.heap) (fun s _ => (L.length - s).toNat) ⟨0, rfl, Nat.zero_le _, by simp, rfl⟩ ?_
  rintro _ W ⟨i, rfl, hi, hno, hW⟩
  have hxW : Ext [] H W.heap := by rw [hW]; exact hx1.trans hx2
  refine iteP_dec (fun hlt => ?_) (fun hge => ?_)
  ·have hil : i < L.length := by omega
   have hget := List.getElem?_eq_getElem hil
   have hmem := List.getElem_mem hil
   generalize L[i] = q at hget hmem
   have hq := h32 q hmem
   refine drewP_h rfl fun w3 hw3 => ?_
   have hx3 : Ext [] H w3.heap := by rw [hw3]; exact hxW
   have hb3 : w3.heap[w1.heap.size]? = some (.cells (byteCells k).toArray y_api_Digest (0, 0)) := by rw [hw3, hW]; exact hb2
   refine Bl.elem_ix (i := i) Bl.len_enc32 (by omega) (hL.ext hx3 (by simp)) rfl hget rfl fun ba oa ca Ta fra _ hba hsa hca _ => ?_
   refine ldA_all rfl hb3 (by simp [hk]) ?_
   refine ldA_h rfl hba hsa ?_
   rw [extD hq hsa hca]
   refine genQ_of (s := .bool) _ (eqM_arr Bl.u27 Bl.u5 Bl.c5 Bl.g27 hk hq) ?_
   refine iteP_of (p := k = q) (by simp) (fun h => ?_) (fun h => ?_)
   ·subst h
    exact ⟨_, rfl, ⟨fun _ => hmem, fun _ => by omega⟩, hx3⟩
   ·refine addI_to ((i + 1 : Nat) : Int) (by simp) (by omega) (by omega) ?_
    refine ⟨⟨i + 1, rfl, by omega, ?_, by rw [hw3, hW]⟩, by omega⟩
    rw [List.take_add_one, hget]
    simp only [Option.toList_some, List.mem_append, List.mem_singleton]
    rintro (h' | h')
    ·exact hno h'
    ·exact h h'
  ·rw [List.take_of_length_le (by omega)] at hno
   exact ⟨_, rfl, ⟨fun h => by omega, fun h => absurd h hno⟩, hxW⟩
 refine callF_of h ?_
 rintro e w3 ⟨j, rfl, hj, hx⟩
 refine ⟨j, rfl, ?_, hx⟩
 congr 2
 rw [Bool.eq_iff_iff, decide_eq_true_eq, decide_eq_true_eq, ← hj]
def wantF (most : Int) : List Pr → List (List UInt8) → List (List UInt8)
 | [], out => out
 | p :: ps, out => if most ≤ out.length then out else wantF most ps (if p.1 ∈ out then out else out ++ [p.1])
theorem dig33 {p : Pr} (h : p.1.length = 32) : (encP p).toArray.extract 0 (0 + 32) = (byteCells p.1).toArray := by rw [encP_eq h]; exact dig_cells h
set_option maxHeartbeats 4000000 in
theorem cwant_c {w : World} {H : Heap} {cf : List Nat} {c pS : Nat} {st : LSt} {most : Int} (hw : w.heap = H) (hC : CarrW H cf c pS st) (hwl : st.want.length ≤ 1000000000) :
  CallF P F_carry_Carrier_Want #[.pointer (some ⟨c, 0, none⟩), .int .i64 most] w fun e w' => ∃ x, e = .returned (slcV x) ∧ Mine w'.heap H.size y_api_Digest 32 x ((wantF most st.want []).flatMap Bl.enc32) ∧ (∀ k ∈ wantF most st.want [], k.length = 32) ∧ Ext [] H w'.heap := by
 obtain ⟨m, clk, l, x, g1, _, _, _, g5, _, _, _, g9⟩ := hC
 have hxl : x.2.1 = st.want.length := by have := g5.len; rw [lenP] at this; omega
 refine fn_carry_Carrier_Want ?_
 unfold T_carry_Carrier_Want
 refine iteP_f rfl ?_
 simp only [withAddr_some, add_none, Nat.zero_add]
 refine ld_h (s := .slc) (t := x) hw g1 rfl ?_
 generalize hres : wantF most st.want [] = res
 refine Go.Fw.joinP_of (fun (s : Option Addr × Nat × Nat) W => Mine W.heap H.size y_api_Digest 32 s (res.flatMap Bl.enc32) ∧ (∀ k ∈ res, k.length = 32) ∧ Ext [] H W.heap) ?_ ?_
 rotate_left
 ·rintro s W ⟨h1, h2, h3⟩
  exact ⟨s, rfl, h1, h2, h3⟩
 refine loopP_of (fun (s : (Option Addr × Nat × Nat) × Int) W => ∃ (i : Nat) (out : List (List UInt8)), s.2 = (i : Int) ∧ i ≤ st.want.length ∧ wantF most (st.want.drop i) out = res ∧ Ext [] H W.heap ∧ Mine W.heap H.size y_api_Digest 32 s.1 (out.flatMap Bl.enc32) ∧ out.length ≤ i ∧ ∀ k ∈ out, k.length = 32) (fun s _ => (st.want.length - s.2).toNat)
  ⟨0, [], rfl, Nat.zero_le _, hres, by rw [hw]; exact .refl _ _, .inl ⟨rfl, rfl⟩, by simp, by simp⟩ ?_
 rintro ⟨o, _⟩ W ⟨i, out, rfl, hi, hrec, hx, hmo, hol, h32⟩
 simp only at hmo
 have ho : o.2.1 = out.length := by have := hmo.len; rw [length_flatMap_k Bl.enc32 Bl.len_enc32] at this; omega
 refine iteP_dec (fun hlt => ?_) (fun hge => ?_)
 ·have hil : i < st.want.length := by simp only at hlt; omega
  have hget := List.getElem?_eq_getElem hil
  have hp := g9 _ (List.getElem_mem hil)
  rw [List.drop_eq_getElem_cons hil, wantF] at hrec
  generalize st.want[i] = p at hget hp hrec
  refine Go.Fw.joinP_of (fun (s : Option Addr × Nat × Nat) W' => ∃ out', wantF most (st.want.drop (i + 1)) out' = res ∧ Ext [] H W'.heap ∧ Mine W'.heap H.size y_api_Digest 32 s (out'.flatMap Bl.enc32) ∧ out'.length ≤ i + 1 ∧ ∀ k ∈ out', k.length = 32) ?_ ?_
  rotate_left
  ·rintro s W' ⟨out', k1, k2, k3, k4, k5⟩
   refine addI_to ((i + 1 : Nat) : Int) (by simp) (by omega) (by omega) ?_
   exact ⟨⟨i + 1, out', rfl, by omega, k1, k2, k3, k4, k5⟩, by simp only; omega⟩
  refine elem_ld (i := i) len_encP (by omega) rfl ((g5.ext hx (by simp)).cells) hxl hget rfl ?_
  refine var_g (v := .agg (encP p).toArray) (by rw [show P.cellsOf y_carry_pair = 33 by kernel_rfl]; simp [Value.cells, len_encP]) (by rw [show (zc P y_carry_pair).size = 33 by kernel_rfl]; simp [Value.cells, len_encP]) (by simp [Value.cells, len_encP]) (by simpa [Value.cells] using one_encP) rfl fun w3 hw3 => ?_
  have hx3 : Ext [] W.heap w3.heap := by rw [hw3]; exact .push _
  have hb3 : w3.heap[W.heap.size]? = some (.cells (encP p).toArray y_carry_pair (0, 0)) := by rw [hw3]; exact push_new
  refine iteP_dec (fun hmost => ?_) (fun hmost => ?_)
  ·rw [if_pos (by simp only at hmost; omega)] at hrec
   subst hrec
   exact ⟨hmo.ext hx3 (by simp), h32, hx.trans hx3⟩
  rw [if_neg (by simp only at hmost; omega)] at hrec
  refine ldA_h rfl hb3 (by simp [len_encP]) ?_
  rw [dig33 hp]
  refine callF_of (index27_c (L := out) rfl (hmo.ext hx3 (by simp)).cells ho (by omega) h32 hp) ?_
  rintro e w4 ⟨rfl, hx4⟩
  refine ⟨decide (p.1 ∈ out), rfl, ?_⟩
  have hx04 := (hx.trans hx3).trans hx4
  have hm4 := (hmo.ext hx3 (by simp)).ext hx4 (by simp)
  by_cases hin : p.1 ∈ out
  ·rw [if_pos hin] at hrec
   exact iteP_f (by simp [hin]) ⟨out, hrec, hx04, hm4, by omega, h32⟩
  ·rw [if_neg hin] at hrec
   refine iteP_t (by simp [hin]) ?_
   refine ldA_h rfl (hx4.get hb3 (by simp)) (by simp [len_encP]) ?_
   rw [dig33 hp]
   refine app_dig rfl hm4 hx04.1 hp (by omega) fun x6 w6 hm6 hx6 hs6 => ?_
   have go := ownM_ge hmo
   exact ⟨out ++ [p.1], hrec, hx04.own hx6 (fun b hb hlt => by have := go b hb; omega), hm6, by simp; omega, fun k hk => by
    rcases List.mem_append.1 hk with h | h
    ·exact h32 k h
    ·simp at h; subst h; exact hp⟩
 ·obtain rfl : i = st.want.length := by simp only at hge; omega
  rw [List.drop_length, wantF] at hrec
  subst hrec
  exact ⟨hmo, h32, hx⟩
end Go.Proofs.YtbmegmbnlajbbaaGreatDoor
namespace Go.Proofs.YtbmegmbnlajbbaaGreatDoor
open Go Go.Fw Go.Proofs Go.Sort
inductive Mets (v : List UInt8 → Option (List UInt8)) (n : Nod) : List Pr → LSt → LSt → Prop
 | nil {s : LSt} : Mets v n [] s s
 | kid {N : Nat} {p : Pr} {ps : List Pr} {s t u : LSt} : p.2 = n.kind → Run (lookS v) N (kidsN n) s t 0 → Mets v n ps t u → Mets v n (p :: ps) s u
 | foul {p : Pr} {ps : List Pr} {s u : LSt} : p.2 ≠ n.kind → Mets v n ps ⟨s.seen, s.want, true⟩ u → Mets v n (p :: ps) s u
inductive OfferRes (q : Int) (r : Bl.SM) (st : LSt) (L : List UInt8) : Int → Bl.SM → LSt → Prop
 | foreign : (∀ p ∈ st.want, p.1 ≠ Sha.sum L) → OfferRes q r st L 80 r st
 | form : (∃ p ∈ st.want, p.1 = Sha.sum L) → ((decN L).2 ≠ 0 ∨ (Sha.sum L, (decN L).1.kind) ∉ st.want) → OfferRes q r st L 21 r st
 | full {pc : Int} {r' : Bl.SM} : (∃ p ∈ st.want, p.1 = Sha.sum L) → (decN L).2 = 0 → (Sha.sum L, (decN L).1.kind) ∈ st.want → Bl.PutRes q r [L] pc r' → pc ≠ 0 → OfferRes q r st L pc r' st
 | ok {r' : Bl.SM} {st' : LSt} : (∃ p ∈ st.want, p.1 = Sha.sum L) → (decN L).2 = 0 → (Sha.sum L, (decN L).1.kind) ∈ st.want → Bl.PutRes q r [L] 0 r' →
   Mets (Bl.vget r') (decN L).1 (st.want.filter fun p => decide (p.1 = Sha.sum L)) ⟨st.seen, st.want.filter fun p => decide (p.1 ≠ Sha.sum L), st.foul⟩ st' → OfferRes q r st L 0 r' st'
theorem nodup_len {α : Type} [DecidableEq α] : ∀ {A B : List α}, A.Nodup → (∀ x ∈ A, x ∈ B) → A.length ≤ B.length
 | [], B, _, _ => by simp
 | a :: A, B, hn, hs => by
  obtain ⟨h1, h2⟩ := List.nodup_cons.1 hn
  have ha := hs a (by simp)
  have h3 := nodup_len (A := A) (B := B.erase a) h2 fun x hx => (List.mem_erase_of_ne (by rintro rfl; exact h1 hx)).2 (hs x (by simp [hx]))
  have h4 := List.length_erase_of_mem ha
  have h5 := List.length_pos_of_mem ha
  simp only [List.length_cons]; omega
theorem put_len {q : Int} {r r' : Bl.SM} {c c' : Nat} {L : List UInt8} {code : Int} (hr : MOk (fun L : List UInt8 => L.length = 32) r c) (hr' : MOk (fun L : List UInt8 => L.length = 32) r' c') (h : Bl.PutRes q r [L] code r') : r'.length ≤ r.length + 1 := by
 obtain ⟨h1, h2, h3⟩ := h
 by_cases hl : Bl.long [L]
 ·rw [(h1 hl).2]; omega
 by_cases hq : q < (Bl.total r : Int) + Bl.extra r (Bl.fresh [L])
 ·rw [(h2 hl hq).2]; omega
 have hv := (h3 hl hq).2
 have key : ∀ k ∈ r'.map (·.1), k ∈ r.map (·.1) ++ [Sha.sum L] := by
  intro k hk
  obtain ⟨x, hx, rfl⟩ := List.mem_map.1 hk
  have hg : mget r' x.1 = some x.2.1 := mget_of_mem hr'.keys (c := x.2.2) hx
  have hv' : Bl.vget r' x.1 = some x.2.1.2 := by unfold Bl.vget; rw [hg]; rfl
  rw [hv] at hv'
  rw [List.mem_append]
  by_cases he : x.1 = Sha.sum L
  ·right; simp [he]
  ·left
   have hf : Bl.fget (Bl.fresh [L]) x.1 = none := by
    rw [Bl.fresh_one]
    have : (Sha.sum L == x.1) = false := beq_eq_false_iff_ne.2 fun e => he e.symm
    simp [Bl.fget, List.find?_cons, this]
   rw [hf] at hv'
   have hv' : Bl.vget r x.1 = some x.2.1.2 := hv'
   unfold Bl.vget at hv'
   cases hm : mget r x.1 with
   | none => rw [hm] at hv'; cases hv'
   | some y =>
    obtain ⟨c, hc⟩ := mget_some_mem hm
    exact List.mem_map.2 ⟨_, hc, rfl⟩
 have := nodup_len hr'.keys key
 simpa using this
theorem wf_filter {st : LSt} {f : Pr → Bool} {b : Bool} (h : Wf st) : Wf ⟨st.seen, st.want.filter f, b⟩ :=
 ⟨h.nd.sublist List.filter_sublist, fun p hp => h.sub p (List.mem_filter.1 hp).1⟩
theorem app_pc {w : World} {H : Heap} {B : Nat} {x : Option Addr × Nat × Nat} {L : List Pr} {p : Pr} (hp : p.1.length = 32) (hw : w.heap = H) (hm : Mine H B y_carry_pair 33 x (L.flatMap encP)) (hBs : B ≤ H.size) (hlen : L.length ≤ 1073741824) {K : (Option Addr × Nat × Nat) → World → Prop}
  (hK : ∀ x' w', Mine w'.heap B y_carry_pair 33 x' ((L ++ [p]).flatMap encP) → Ext (ownM x) H w'.heap → (∀ c ∈ ownM x', c ∈ ownM x ∨ H.size ≤ c) → K x' w') :
  genL P (Instr.buildSlice y_S_carry_pair 1 #[(0, prV p)]) .slc w fun (t27 : (Option Addr × Nat × Nat)) w_13 =>
  genL P (Builtin.append_ #[y_S_carry_pair, y_S_carry_pair] y_S_carry_pair #[(Value.slice x.1 x.2.1 x.2.2), (Value.slice t27.1 t27.2.1 t27.2.2)]) .slc w_13 K := by
 have hlx : x.2.1 = L.length := by have := hm.len; rw [lenP] at this; omega
 rw [prV_eq hp]
 refine genL_of (s := .slc) (some ⟨w.heap.size, 0, none⟩, 1, 1) _ (build1_g Ec8 uSc (v := .agg (encP p).toArray) (by simp [Value.cells, len_encP]) (by omega) (by omega)) ?_
 subst hw
 have hxp : Ext [] w.heap (w.heap.push (.cells (Value.agg (encP p).toArray).cells y_carry_pair)) := .push _
 refine append_g (bts := 40) (n := 1) (us := encP p) (H := w.heap.push (.cells (Value.agg (encP p).toArray).cells y_carry_pair)) Ec8 (by omega) uSc (slice_noint uSc) rfl (hm.ext hxp (by simp)) (by simp; omega)
  (Src.slc rfl (.inr ⟨w.heap.size, 0, _, _, _, rfl, push_new, by simp [agg_cells], by simp [agg_cells, List.take_of_length_le]⟩) (by rw [len_encP])) one_encP (by omega) ?_
 intro x' w4 hm4 hl4 hx4 hs4
 refine hK x' w4 (by rw [List.flatMap_append, List.flatMap_singleton]; exact hm4) ((hxp.mono (by simp)).trans hx4) (fun c hc => ?_)
 rcases hs4 c hc with h | h
 ·exact .inl h
 ·right; have := hxp.1; omega
set_option maxHeartbeats 16000000 in
theorem offer_c {fp cf : List Nat} {pS : Nat} {q : Int} {r : Bl.SM} {k c : Nat} {st : LSt} {w : World} {H : Heap} {a : Option Addr} {l lc : Nat} {L : List UInt8} (hw : w.heap = H) (hC : CarrW H cf c pS st) (hWf : Wf st) (hcf : ∀ b ∈ cf, b < H.size) (hS : Bl.Store H fp pS q r k) (hfp : ∀ b ∈ fp, b < H.size ∧ b ∉ cf) (hR : Bl.Rounds H) (h0 : 0 ∉ cf) (h0' : 0 ∉ fp)
  (hL : Cells H a (byteCells L)) (hl : l = L.length) (hlc : l ≤ lc) (hao : L ≠ [] → ∀ y, a = some y → y.block ∉ fp) (hLb : L.length ≤ 1099511627776) (hb : Bl.total r + 4096 < 1000000000000) (hq : 0 ≤ q) (hq2 : q ≤ 9223372036854775807) (hwl : st.want.length + 70000 + 70001 * (r.length + 1) ≤ 1000000000) :
  CallF P F_carry_Carrier_Offer #[.pointer (some ⟨c, 0, none⟩), .slice a l lc] w fun e w' => ∃ code r' st' k' fp' cf', e = .returned (.int .i64 code) ∧ OfferRes q r st L code r' st' ∧ CarrW w'.heap cf' c pS st' ∧ Wf st' ∧ st'.want.length ≤ st.want.length + 70000 + 70001 * (r.length + 1) ∧ Bl.Store w'.heap fp' pS q r' k' ∧ Ext (fp ++ cf) H w'.heap ∧
   (∀ b ∈ cf', b < w'.heap.size ∧ (b ∈ cf ∨ H.size ≤ b)) ∧ (∀ b ∈ fp', b < w'.heap.size ∧ b ∉ cf' ∧ (b ∈ fp ∨ H.size ≤ b)) ∧ Bl.total r' ≤ Bl.total r + 4096 ∧ r'.length ≤ r.length + 1 := by
 have hlen : Bl.Small r := fun k L hv => by have := vget_le hS.ok hv; omega
 refine fn_carry_Carrier_Offer ?_
 unfold T_carry_Carrier_Offer
 refine iteP_f rfl ?_
 refine callF_of (Bl.sum_c hw hL hl hlc hR (by omega)) ?_
 rintro e w1 ⟨rfl, hx1⟩
 refine ⟨arr (Sha.sum L), rfl, ?_⟩
 generalize hd : Sha.sum L = d at *
 have hd32 : d.length = 32 := by rw [← hd]; exact len_sum
 refine varD hd32 rfl fun w3 hw3 => ?_
 have hx3 : Ext [] w1.heap w3.heap := by rw [hw3]; exact .push _
 have hb3 : w3.heap[w1.heap.size]? = some (.cells (byteCells d).toArray y_api_Digest (0, 0)) := by rw [hw3]; exact push_new
 have hx03 := hx1.trans hx3
 generalize hb5 : w1.heap.size = b5 at *
 have hb5H : H.size ≤ b5 := by rw [← hb5]; exact hx1.1
 have s3 := lt_of_get hb3
 refine genQ_of (s := .any) (mineG b5) (by simp [Instr.makeFunc, mineG]; rfl) ?_
 have hC3 := hC.ext hx03 (by simp)
 obtain ⟨m, clk, lm, x, g1, g2, g3, g4, g5, g6, g7, g8, g9⟩ := id hC3
 have hxl : x.2.1 = st.want.length := by have := g5.len; rw [lenP] at this; omega
 simp only [withAddr_some, add_none, Nat.zero_add]
 refine ld_h (s := .slc) (t := x) rfl g1 rfl ?_
 refine callF_of (containsf_c (L := st.want) rfl g5.cells hxl (by omega) g9 hb3 hd32) ?_
 rintro e w4 ⟨t, rfl, ht, hx4⟩
 refine ⟨t, rfl, ?_⟩
 have hx04 := hx03.trans hx4
 have s4 := hx4.1
 have same : ∀ {w' : World} {code : Int}, Ext [] H w'.heap → OfferRes q r st L code r st → ∃ code' r' st' k' fp' cf', Ending.returned (.int .i64 code) = .returned (.int .i64 code') ∧ OfferRes q r st L code' r' st' ∧ CarrW w'.heap cf' c pS st' ∧ Wf st' ∧ st'.want.length ≤ st.want.length + 70000 + 70001 * (r.length + 1) ∧ Bl.Store w'.heap fp' pS q r' k' ∧ Ext (fp ++ cf) H w'.heap ∧
   (∀ b ∈ cf', b < w'.heap.size ∧ (b ∈ cf ∨ H.size ≤ b)) ∧ (∀ b ∈ fp', b < w'.heap.size ∧ b ∉ cf' ∧ (b ∈ fp ∨ H.size ≤ b)) ∧ Bl.total r' ≤ Bl.total r + 4096 ∧ r'.length ≤ r.length + 1 := fun hx hres =>
  ⟨_, r, st, k, fp, cf, rfl, hres, hC.ext hx (by simp), hWf, by omega, hS.ext hx (by simp), hx.mono (by simp), fun b hb => ⟨by have := hcf b hb; have := hx.1; omega, .inl hb⟩, fun b hb => ⟨by have := (hfp b hb).1; have := hx.1; omega, (hfp b hb).2, .inl hb⟩, by omega, by omega⟩
 cases t with
 | false =>
  refine iteP_t rfl (same hx04 (.foreign fun p hp e => ?_))
  have := ht.2 ⟨p, hp, by rw [e, hd]⟩
  cases this
 | true =>
 have hex := ht.1 rfl
 refine iteP_f rfl ?_
 refine callF_of (ndecode_c (L := L) rfl (hL.ext hx04 (by simp)) hl hLb) ?_
 rintro e w5 ⟨xp, xi, rfl, hN5, hx5⟩
 refine ⟨(.agg (nodC (decN L).1 xp xi).toArray, (decN L).2), rfl, ?_⟩
 refine varN (decN L).1 xp xi rfl fun w7 hw7 => ?_
 have hx7 : Ext [] w5.heap w7.heap := by rw [hw7]; exact .push _
 have hn7 : w7.heap[w5.heap.size]? = some (.cells (nodC (decN L).1 xp xi).toArray y_api_Node (0, 0)) := by rw [hw7]; exact push_new
 generalize hb7 : w5.heap.size = b7 at *
 have hx47 := hx5.trans hx7
 have hx37 := hx4.trans hx47
 have hx07 := hx03.trans hx37
 have s7 := lt_of_get hn7
 have hb57 : b5 < b7 := by rw [← hb7]; have := hx4.1; have := hx5.1; omega
 have hexd : ∃ p ∈ st.want, p.1 = Sha.sum L := by rw [hd]; exact hex
 refine Go.Fw.joinP_of (fun _ W => Ext [] w7.heap W.heap ∧ (decN L).2 = 0 ∧ (d, (decN L).1.kind) ∈ st.want) ?_ ?_
 ·refine drewP_h rfl fun w8 hw8 => ?_
  have hx8 : Ext [] w7.heap w8.heap := by rw [hw8]; exact .refl _ _
  refine iteP_ne (fun h => same (hx07.trans hx8) (.form hexd (.inl h))) (fun h => ?_)
  have hx38 := hx37.trans hx8
  refine ld_h (s := .slc) (t := x) rfl (hx38.get g1 (by simp)) rfl ?_
  refine ldA_all rfl (hx38.get hb3 (by simp)) (by simp [hd32]) ?_
  refine ld_h (s := .int .i64) (t := (decN L).1.kind) rfl (hx8.get hn7 (by simp)) rfl ?_
  refine genQ_of (s := .any) _ (bPr hd32 _ _) ?_
  refine callF_of (containsp_c (L := st.want) (p := (d, (decN L).1.kind)) rfl (g5.ext hx38 (by simp)).cells hxl (by omega) g9 hd32) ?_
  rintro e w9 ⟨rfl, hx9⟩
  refine ⟨decide ((d, (decN L).1.kind) ∈ st.want), rfl, ?_⟩
  by_cases hin : (d, (decN L).1.kind) ∈ st.want
  ·exact iteP_f (by simp [hin]) ⟨hx8.trans hx9, h, hin⟩
  ·exact iteP_t (by simp [hin]) (same ((hx07.trans hx8).trans hx9) (.form hexd (.inr (by rw [hd]; exact hin))))
 rintro _ W ⟨hxW, hdec, hin⟩
 have hind : (Sha.sum L, (decN L).1.kind) ∈ st.want := by rw [hd]; exact hin
 have hx0W := hx07.trans hxW
 have hx3W := hx37.trans hxW
 have hCW := hC.ext hx0W (by simp)
 have sW := hx0W.1
 have s7W := hxW.1
 refine ld_h (s := .ptr) (t := some ⟨pS, 0, none⟩) rfl (hx3W.get g1 (by simp)) rfl ?_
 refine callF_of (Bl.put_c (L := L) rfl (hS.ext hx0W (by simp)) (fun b hb => by have := (hfp b hb).1; omega) (hR.ext hx0W (by simp)) h0' (hL.ext hx0W (by simp)) hl hlc hao (by omega) hq hq2 hlen) ?_
 rintro e w11 ⟨pc, r', k', fp', rfl, hS11, hx11, hf11a, hf11b, hP, ht11⟩
 refine ⟨(arr (if pc = 0 then Sha.sum L else Bl.nought), pc), rfl, ?_⟩
 have hrl := put_len hS.ok hS11.ok hP
 have s11 := hx11.1
 have hC11 := hCW.ext hx11 (fun b hb h => (hfp b h).2 hb)
 have hx011 : Ext fp H w11.heap := (hx0W.mono (by simp)).trans hx11
 have fplt : ∀ {b : Nat}, H.size ≤ b → b ∉ fp := fun h hb => by have := (hfp _ hb).1; omega
 refine varD (k := if pc = 0 then Sha.sum L else Bl.nought) (by split; exact len_sum; exact Bl.len_nought) rfl fun w13 hw13 => ?_
 have hx13 : Ext [] w11.heap w13.heap := by rw [hw13]; exact .push _
 have s13 := hx13.1
 have hC13 := hC11.ext hx13 (by simp)
 have hS13 := hS11.ext hx13 (by simp)
 have hx013 : Ext fp H w13.heap := hx011.trans (hx13.mono (by simp))
 have hcf13 : ∀ b ∈ cf, b < w13.heap.size := fun b hb => by have := hcf b hb; omega
 have hfp13 : ∀ b ∈ fp', b < w13.heap.size ∧ b ∉ cf ∧ (b ∈ fp ∨ H.size ≤ b) := fun b hb => ⟨by have := hf11a b hb; omega, fun h => by
   rcases hf11b b hb with h' | h'
   ·exact (hfp b h').2 h
   ·have := hcf b h; omega, by
   rcases hf11b b hb with h' | h'
   ·exact .inl h'
   ·right; omega⟩
 refine iteP_ne (fun hpc => ?_) (fun hpc => ?_)
 ·have hpc : pc ≠ 0 := hpc
  refine ⟨pc, r', st, k', fp', cf, rfl, .full hexd hdec hind hP hpc, hC13, hWf, by omega, hS13, hx013.mono fun b hb => by simp [hb], fun b hb => ⟨hcf13 b hb, .inl hb⟩, hfp13, ht11, hrl⟩
 have hpc : pc = 0 := hpc
 subst hpc
 obtain ⟨m2, clk2, lm2, x2, k1, k2, k3, k4, k5, k6, k7, k8, k9⟩ := id hC13
 have hx2l : x2.2.1 = st.want.length := by have := k5.len; rw [lenP] at this; omega
 have hb13 : w13.heap[b5]? = some (.cells (byteCells d).toArray y_api_Digest (0, 0)) := hx13.get (hx11.get (hx3W.get hb3 (by simp)) (fplt hb5H)) (by simp)
 have hb5cf : b5 ∉ cf := fun h => by have := hcf _ h; omega
 have hn13 : w13.heap[b7]? = some (.cells (nodC (decN L).1 xp xi).toArray y_api_Node (0, 0)) := hx13.get (hx11.get (hxW.get hn7 (by simp)) (fplt (by omega))) (by simp)
 have hb7cf : b7 ∉ cf := fun h => by have := hcf _ h; omega
 refine ld_h (s := .slc) (t := x2) rfl k1 rfl ?_
 refine loopP_of (fun (s : (Option Addr × Nat × Nat) × Int) W => ∃ i : Nat, s.2 = (i : Int) ∧ i ≤ st.want.length ∧ Ext [] w13.heap W.heap ∧ Mine W.heap w13.heap.size y_carry_pair 33 s.1 (((st.want.take i).filter fun p => decide (p.1 = d)).flatMap encP)) (fun s _ => (st.want.length - s.2).toNat)
  ⟨0, rfl, Nat.zero_le _, .refl _ _, .inl ⟨rfl, rfl⟩⟩ ?_
 rintro ⟨o, _⟩ W2 ⟨i, rfl, hi, hxW2, hmo⟩
 simp only at hmo
 have sW2 := hxW2.1
 refine iteP_dec (fun hlt => ?_) (fun hge => ?_)
 ·have hil : i < st.want.length := by simp only at hlt; omega
  have hget := List.getElem?_eq_getElem hil
  have hp := g9 _ (List.getElem_mem hil)
  have htk : (st.want.take (i + 1)).filter (fun p => decide (p.1 = d)) = (st.want.take i).filter (fun p => decide (p.1 = d)) ++ [st.want[i]].filter (fun p => decide (p.1 = d)) := by rw [List.take_add_one, hget, List.filter_append]; rfl
  generalize st.want[i] = p at hget hp htk
  refine Go.Fw.joinP_of (fun (s : Option Addr × Nat × Nat) W' => Ext [] w13.heap W'.heap ∧ Mine W'.heap w13.heap.size y_carry_pair 33 s (((st.want.take (i + 1)).filter fun p => decide (p.1 = d)).flatMap encP)) ?_ ?_
  rotate_left
  ·rintro s W' ⟨u1, u2⟩
   refine addI_to ((i + 1 : Nat) : Int) (by simp) (by omega) (by omega) ?_
   exact ⟨⟨i + 1, rfl, by omega, u1, u2⟩, by simp only; omega⟩
  refine elem_ld (i := i) len_encP (by omega) rfl ((k5.ext hxW2 (by simp)).cells) hx2l hget rfl ?_
  refine var_g (v := .agg (encP p).toArray) (by rw [show P.cellsOf y_carry_pair = 33 by kernel_rfl]; simp [Value.cells, len_encP]) (by rw [show (zc P y_carry_pair).size = 33 by kernel_rfl]; simp [Value.cells, len_encP]) (by simp [Value.cells, len_encP]) (by simpa [Value.cells] using one_encP) rfl fun w15 hw15 => ?_
  have hx15 : Ext [] W2.heap w15.heap := by rw [hw15]; exact .push _
  have hb15 : w15.heap[W2.heap.size]? = some (.cells (encP p).toArray y_carry_pair (0, 0)) := by rw [hw15]; exact push_new
  refine ldA_all rfl hb15 (by simp [len_encP]) ?_
  rw [show (Value.agg (encP p).toArray) = prV p from (prV_eq hp).symm]
  refine callV_func (args := #[prV p]) (cap := #[.pointer (some ⟨b5, 0, none⟩)]) ?_
  refine (offer1_c (hx15.get (hxW2.get hb13 (by simp)) (by simp)) hd32 hp).mono ?_
  rintro e w17 ⟨rfl, hx17⟩
  refine ⟨decide (p.1 = d), rfl, ?_⟩
  have hx217 := hxW2.trans (hx15.trans hx17)
  have hm17 := hmo.ext (hx15.trans hx17) (by simp)
  by_cases he : p.1 = d
  ·refine iteP_t (by simp [he]) ?_
   refine ldA_all rfl (hx17.get hb15 (by simp)) (by simp [len_encP]) ?_
   rw [show (Value.agg (encP p).toArray) = prV p from (prV_eq hp).symm]
   refine app_pc (p := p) hp rfl hm17 hx217.1 (by have := List.length_filter_le (fun p : Pr => decide (p.1 = d)) (st.want.take i); simp at this; omega) fun x' w' hm' hx' _ => ?_
   exact ⟨hx217.own hx' (fun b hb hlt => by have := ownM_ge hmo b hb; omega), by rw [htk]; simp only [List.filter_cons, he, decide_true, if_true, List.filter_nil]; exact hm'⟩
  ·refine iteP_f (by simp [he]) ?_
   exact ⟨hx217, by rw [htk]; simp only [List.filter_cons, he, decide_false, Bool.false_eq_true, if_false, List.filter_nil, List.append_nil]; exact hm17⟩
 obtain rfl : i = st.want.length := by simp only at hge; omega
 rw [List.take_length] at hmo
 generalize hM : st.want.filter (fun p => decide (p.1 = d)) = M at hmo
 have hol : o.2.1 = M.length := by have := hmo.len; rw [lenP] at this; omega
 have hM32 : ∀ p ∈ M, p.1.length = 32 := fun p hp => g9 p (by rw [← hM] at hp; exact (List.mem_filter.1 hp).1)
 have hMnd : M.Nodup := by rw [← hM]; exact hWf.nd.sublist List.filter_sublist
 have k1W := hxW2.get k1 (by simp)
 refine ld_h (s := .slc) (t := x2) rfl k1W rfl ?_
 have b5x : b5 ∉ ownM x2 := fun h => hb5cf (k8 _ h)
 refine callF_of (deletef_c (L := st.want) rfl (k5.ext hxW2 (by simp)) (by omega) g9 (hxW2.get hb13 (by simp)) hd32 b5x hex) ?_
 rintro e w21 ⟨x3, rfl, hm21, hx21, hs21⟩
 refine ⟨x3, rfl, ?_⟩
 have s21 := hx21.1
 have cno : c ∉ ownM x2 := fun h => by
  obtain ⟨cs, fr, hg⟩ := mine_type k5 _ h
  rw [k1] at hg; simp only [Option.some.injEq, Obj.cells.injEq] at hg; exact absurd hg.2.1 (by decide)
 have mno : m2 ∉ ownM x2 := fun h => by
  obtain ⟨cs, fr, hg⟩ := mine_type k5 _ h
  rw [k2] at hg; cases hg
 have k21 := hx21.get k1W cno
 have km21 := hx21.get (hxW2.get k2 (by simp)) mno
 refine stC_h rfl k21 (by simp) fun w22 hw22 => ?_
 have hx22 : Ext [c] w21.heap w22.heap := by rw [hw22]; exact Ext.set _ (by simp)
 have hcm : c ≠ m2 := by rintro rfl; rw [k1] at k2; cases k2
 have c3no : c ∉ ownM x3 := fun h => cno (hs21 _ h)
 have hC22 : CarrW w22.heap cf c pS ⟨st.seen, st.want.filter (fun p => decide (p.1 ≠ d)), st.foul⟩ :=
  ⟨m2, clk2, lm2, x3, by rw [hw22]; exact set_new k21, hx22.get km21 (by simp; exact fun h => hcm h.symm), k3, k4, hm21.ext hx22 (fun b hb h => by simp at h; subst h; exact c3no hb), k6, k7, fun b hb => k8 b (hs21 b hb), fun p hp => g9 p ((List.mem_filter.1 hp).1)⟩
 have s22 := hx22.1
 have hx2122 : Ext cf W2.heap w22.heap := (hx21.mono k8).trans (hx22.mono (by simp; exact k6))
 have hx1322 : Ext cf w13.heap w22.heap := (hxW2.mono (by simp)).trans hx2122
 have hcfW : ∀ b ∈ cf, b < w22.heap.size := fun b hb => by have := hcf13 b hb; omega
 have hmo22 : Mine w22.heap w13.heap.size y_carry_pair 33 o (M.flatMap encP) := hmo.ext hx2122 (fun b hb h => by have := ownM_ge hmo b hb; have := hcf13 b h; omega)
 have hS22 := hS13.ext hx1322 (fun b hb h => (hfp13 b hb).2.1 h)
 have hn22 := hx1322.get hn13 hb7cf
 have hR22 : Bl.Rounds w22.heap := (hR.ext hx013 h0').ext hx1322 h0
 have hlen' : ∀ k L, Bl.vget r' k = some L → L.length < 1099511627776 := fun k L hv => by have := vget_le hS11.ok hv; omega
 have hNM : NodW w13.heap (decN L).1 xp xi := (((((hN5.ext hx7 (by simp)).ext hxW (by simp)).ext hx11 (fun b hb => by have := (hfp b hb).1; omega)).ext hx13 (by simp))).nodW
 have hNM22 : NodM w22.heap w4.heap.size (decN L).1 xp xi := (((((hN5.ext hx7 (by simp)).ext hxW (by simp)).ext hx11 (fun b hb => by have := (hfp b hb).1; omega)).ext hx13 (by simp))).ext hx1322 (fun b hb => by have := hcf b hb; omega)
 have hit : (decN L).1.items.length ≤ 65 ∧ (decN L).1.parts.length ≤ 65536 := by
  have h1 := rdNode_small (s := some L)
  unfold decN
  split
  ·refine ⟨h1.2.2, ?_⟩
   unfold rdNode; repeat' split
   all_goals simp [rdParts_len]
   all_goals omega
  ·simp [noNode]
 have hwfl : (st.want.filter fun p => decide (p.1 ≠ d)).length ≤ st.want.length := List.length_filter_le _ _
 have hkl : (kidsN (decN L).1).length ≤ 70000 := by simp [kidsN]; omega
 have hMl : M.length ≤ st.want.length := by rw [← hM]; exact List.length_filter_le _ _
 have hmem : ∀ p ∈ M, p.1 = d := fun p hp => by
  rw [← hM] at hp
  simpa using (List.mem_filter.1 hp).2
 obtain ⟨K, hK⟩ : ∃ K, K = 70000 + 70001 * (r.length + 1) := ⟨_, rfl⟩
 refine loopP_of (fun (s : Int) W => ∃ (i : Nat) (u : LSt) (cf2 : List Nat), s = (i : Int) ∧ i ≤ M.length ∧ (∀ z, Mets (Bl.vget r') (decN L).1 (M.drop i) u z → Mets (Bl.vget r') (decN L).1 M ⟨st.seen, st.want.filter (fun p => decide (p.1 ≠ d)), st.foul⟩ z) ∧ CarrW W.heap cf2 c pS u ∧ Wf u ∧
   ((d, (decN L).1.kind) ∈ M.drop i → u.want.length ≤ st.want.length) ∧ u.want.length ≤ st.want.length + K ∧ Ext cf w22.heap W.heap ∧ (∀ b ∈ cf2, b < W.heap.size) ∧ ∀ b ∈ cf2, b ∈ cf ∨ w22.heap.size ≤ b) (fun s _ => (M.length - s).toNat)
  ⟨0, _, cf, rfl, Nat.zero_le _, fun z h => h, hC22, wf_filter hWf, fun _ => hwfl, by simp only; omega, .refl _ _, hcfW, fun b hb => .inl hb⟩ ?_
 rintro _ W3 ⟨i, u, cf2, rfl, hi3, hz, hCu, hWu, hbu1, hbu2, hxW3, hcf2, hsub2⟩
 have sW3 := hxW3.1
 have hfp3 : ∀ b ∈ fp', b < W3.heap.size ∧ b ∉ cf2 := fun b hb => ⟨by have := (hfp13 b hb).1; omega, fun h => by
  rcases hsub2 b h with h | h
  ·exact (hfp13 b hb).2.1 h
  ·have := (hfp13 b hb).1; omega⟩
 have h03 : 0 ∉ cf2 := fun h => by
  rcases hsub2 0 h with h | h
  ·exact h0 h
  ·obtain ⟨_, _, _, hg, _⟩ := hR; have := lt_of_get hg; omega
 refine iteP_dec (fun hlt => ?_) (fun hge => ?_)
 ·have hil : i < M.length := by simp only at hlt; omega
  have hget := List.getElem?_eq_getElem hil
  have hpm := List.getElem_mem hil
  have hdropn : M.drop i = M[i] :: M.drop (i + 1) := List.drop_eq_getElem_cons hil
  have hnd' : M[i] ∉ M.drop (i + 1) := by
   have := hMnd.sublist (List.drop_sublist i M)
   rw [hdropn] at this
   exact (List.nodup_cons.1 this).1
  rw [hdropn] at hz hbu1
  generalize M[i] = p at hget hpm hz hbu1 hnd' hdropn
  have hp := hM32 p hpm
  have hpd := hmem p hpm
  refine Go.Fw.joinP_of (fun _ W' => ∃ (u' : LSt) (cf3 : List Nat), (∀ z, Mets (Bl.vget r') (decN L).1 (M.drop (i + 1)) u' z → Mets (Bl.vget r') (decN L).1 M ⟨st.seen, st.want.filter (fun p => decide (p.1 ≠ d)), st.foul⟩ z) ∧ CarrW W'.heap cf3 c pS u' ∧ Wf u' ∧
   ((d, (decN L).1.kind) ∈ M.drop (i + 1) → u'.want.length ≤ st.want.length) ∧ u'.want.length ≤ st.want.length + K ∧ Ext cf w22.heap W'.heap ∧ (∀ b ∈ cf3, b < W'.heap.size) ∧ ∀ b ∈ cf3, b ∈ cf ∨ w22.heap.size ≤ b) ?_ ?_
  rotate_left
  ·rintro _ W' ⟨u', cf3, v1, v2, v3, v4, v5, v6, v7, v8⟩
   refine addI_to ((i + 1 : Nat) : Int) (by simp) (by omega) (by omega) ?_
   exact ⟨⟨i + 1, u', cf3, rfl, by omega, v1, v2, v3, v4, v5, v6, v7, v8⟩, by omega⟩
  refine Go.Fw.joinP_of (fun _ W' => ∃ (u' : LSt) (cf3 : List Nat), (∀ z, Mets (Bl.vget r') (decN L).1 (M.drop (i + 1)) u' z → Mets (Bl.vget r') (decN L).1 M ⟨st.seen, st.want.filter (fun p => decide (p.1 ≠ d)), st.foul⟩ z) ∧ CarrW W'.heap cf3 c pS u' ∧ Wf u' ∧
   ((d, (decN L).1.kind) ∈ M.drop (i + 1) → u'.want.length ≤ st.want.length) ∧ u'.want.length ≤ st.want.length + K ∧ Ext cf w22.heap W'.heap ∧ (∀ b ∈ cf3, b < W'.heap.size) ∧ ∀ b ∈ cf3, b ∈ cf ∨ w22.heap.size ≤ b) ?_ (fun _ _ h => h)
  refine elem_ld (i := i) len_encP (by omega) rfl ((hmo22.ext hxW3 (fun b hb h => by have := ownM_ge hmo b hb; have := hcf13 b h; omega)).cells) hol hget rfl ?_
  refine var_g (v := .agg (encP p).toArray) (by rw [show P.cellsOf y_carry_pair = 33 by kernel_rfl]; simp [Value.cells, len_encP]) (by rw [show (zc P y_carry_pair).size = 33 by kernel_rfl]; simp [Value.cells, len_encP]) (by simp [Value.cells, len_encP]) (by simpa [Value.cells] using one_encP) rfl fun w25 hw25 => ?_
  have hx25 : Ext [] W3.heap w25.heap := by rw [hw25]; exact .push _
  have hb25 : w25.heap[W3.heap.size]? = some (.cells (encP p).toArray y_carry_pair (0, 0)) := by rw [hw25]; exact push_new
  have s25 := hx25.1
  have hx2225 : Ext cf w22.heap w25.heap := hxW3.trans (hx25.mono (by simp))
  refine ld_h (s := .int .i64) (t := p.2) rfl hb25 (by rw [encP_eq hp]; exact kind_cell hp) ?_
  have hn25 := hx25.get (hxW3.get hn22 hb7cf) (by simp)
  refine ld_h (s := .int .i64) (t := (decN L).1.kind) rfl hn25 rfl ?_
  have hC25 := hCu.ext hx25 (by simp)
  refine iteP_eq (fun hk => ?_) (fun hk => ?_)
  ·have hpe : p = (d, (decN L).1.kind) := Prod.ext hpd hk
   have hbu := hbu1 (by rw [hpe]; simp)
   obtain ⟨N, t', c0, hrun, hNb⟩ := look_ends r' (kidsN (decN L).1) u
   have hc0 := look_code hrun
   subst hc0
   have hun : unseen r' u.seen ≤ r.length + 1 := by
    have := List.length_filter_le (fun x : List UInt8 × _ => decide ((x.1, (decN x.2.1.2).1.kind) ∉ u.seen)) r'
    unfold unseen; omega
   have hNK : N ≤ K := by
    have : 70001 * unseen r' u.seen ≤ 70001 * (r.length + 1) := Nat.mul_le_mul_left _ hun
    omega
   have hwant := look_want hrun
   refine ldA_all rfl hn25 rfl ?_
   refine callF_of (kids_c hlen' rfl hC25 (fun b hb => by have := hcf2 b hb; omega) (hS22.ext hx2225 (fun b hb h => (hfp13 b hb).2.1 h)) (fun b hb => ⟨by have := (hfp3 b hb).1; omega, (hfp3 b hb).2⟩) (hR22.ext hx2225 h0) h03 ((hNM22.ext hx2225 (fun b hb => by have := hcf b hb; omega)).nodW) hit.2 hit.1 hrun (by omega)) ?_
   rintro e w26 ⟨rfl, cf3, hC26, hx26, hcf3, hsub3⟩
   refine ⟨(), rfl, t', cf3, fun z h => hz z (.kid hk hrun h), hC26, run_wf hrun hWu, fun h => absurd (by rw [hpe]; exact h) hnd', by omega, hx2225.own hx26 (fun b hb hlt => ?_), hcf3, fun b hb => ?_⟩
   ·rcases hsub2 b hb with h | h
    ·exact h
    ·omega
   ·rcases hsub3 b hb with h | h
    ·exact hsub2 b h
    ·right; omega
  ·obtain ⟨m4, clk4, lm4, x4, q1, q2, q3, q4, q5, q6, q7, q8, q9⟩ := hC25
   refine stC_h rfl q1 (by simp) fun w27 hw27 => ?_
   have hx27 : Ext [c] w25.heap w27.heap := by rw [hw27]; exact Ext.set _ (by simp)
   have s27 := hx27.1
   have hcm4 : c ≠ m4 := by rintro rfl; rw [q1] at q2; cases q2
   have c4no : c ∉ ownM x4 := fun h => by
    obtain ⟨cs, fr, hg⟩ := mine_type q5 _ h
    rw [q1] at hg; simp only [Option.some.injEq, Obj.cells.injEq] at hg; exact absurd hg.2.1 (by decide)
   refine ⟨⟨u.seen, u.want, true⟩, cf2, fun z h => hz z (.foul hk h), ⟨m4, clk4, lm4, x4, by rw [hw27]; exact set_new q1, hx27.get q2 (by simp; exact fun h => hcm4 h.symm), q3, q4, q5.ext hx27 (fun b hb h => by simp at h; subst h; exact c4no hb), q6, q7, q8, q9⟩, ⟨hWu.nd, hWu.sub⟩, fun h => hbu1 (List.mem_cons_of_mem _ h), hbu2, hx2225.trans (hx27.mono (by simp; exact g6)), fun b hb => by have := hcf2 b hb; omega, hsub2⟩
 ·obtain rfl : i = M.length := by simp only at hge; omega
  rw [List.drop_length] at hz
  have hmets := hz u .nil
  refine ⟨0, r', u, k', fp', cf2, rfl, .ok hexd hdec hind hP (by rw [hd, hM]; exact hmets), hCu, hWu, by omega, hS22.ext hxW3 (fun b hb h => (hfp13 b hb).2.1 h), ?_, fun b hb => ⟨hcf2 b hb, ?_⟩, fun b hb => ⟨(hfp3 b hb).1, (hfp3 b hb).2, (hfp13 b hb).2.2⟩, ht11, hrl⟩
  ·exact ((hx013.mono fun b hb => by simp [hb]).trans (hx1322.mono fun b hb => by simp [hb])).trans (hxW3.mono fun b hb => by simp [hb])
  ·rcases hsub2 b hb with h | h
   ·exact .inl h
   ·right; omega
end Go.Proofs.YtbmegmbnlajbbaaGreatDoor
namespace Go.Proofs.YtbmegmbnlajbbaaGreatDoor
open Go Go.Fw Go.Proofs Go.Sort
def fU : Fil := ⟨[47, 102], false, [104, 105]⟩
theorem nm0U : parseP fU.path = ([[102]], 0) := by decide +kernel
theorem nmU : nm fU = [[102]] := by unfold nm; rw [nm0U]
def LU : List Fil := [fU]
theorem sortU : sortF LU = [fU] := by decide +kernel
theorem parseU : parseCode LU = 0 := by decide +kernel
theorem no5U : ¬ Bad5 LU := by
 rintro ⟨i, hi, h⟩
 match i, hi with
 | 0, _ => simp [LU, nmU] at h
theorem no4U : ¬ Bad4 LU := by
 rintro ⟨f, hf, h1, h2⟩
 simp only [LU, List.mem_cons, List.not_mem_nil, or_false] at hf
 subst hf
 simp [nmU] at h1
theorem no70U : ¬ Bad70 LU := by
 rintro ⟨f, hf, g, hg, h1, h2⟩
 simp only [LU, List.mem_cons, List.not_mem_nil, or_false] at hf hg
 subst hf hg
 simp [nmU] at h1
theorem no8U : ¬ Bad8 LU := by
 rintro ⟨f, hf, h⟩
 have : (kids LU (nm f).dropLast).length ≤ 1 := List.length_filter_le _ _
 omega
theorem chkU : chkCode LU = 0 := by rw [chk_shape parseU, shape_0 no5U no4U no70U no8U]
def nCU : Nod := chunkN [104, 105]
def nFU : Nod := ⟨2, [], 2, [Sha.sum (encN nCU)], []⟩
def nRU : Nod := ⟨3, [], 0, [], [⟨[102], 2, Sha.sum (encN nFU)⟩]⟩
theorem fileU : fileBlobs fU.data = [encN nCU, encN nFU] ∧ fileSum fU.data = Sha.sum (encN nFU) := ⟨rfl, rfl⟩
theorem kidsU : kids [fU] [] = [fU] := by decide +kernel
theorem tree0U : treeB LU = ([encN nCU, encN nFU, encN nRU], Sha.sum (encN nRU)) := by
 rw [treeB_def, sortU]
 rw [show (9 : Nat) = 8 + 1 from rfl, dirB, kidsU, acc_blobs, acc_items]
 simp only [List.map_cons, List.map_nil, blobsOf, itmOf, nmU, show fU.dir = false from rfl, Bool.false_eq_true, if_false, fileU.1, fileU.2, List.flatten_cons, List.flatten_nil, List.append_nil]
 rfl
def bCU : List UInt8 := [1, 2, 104, 105]
def bFU : List UInt8 := [2, 2, 186, 81, 103, 170, 37, 105, 73, 247, 1, 63, 208, 174, 227, 219, 246, 57, 189, 176, 202, 216, 218, 247, 80, 137, 209, 38, 248, 218, 146, 140, 20, 63]
def bRU : List UInt8 := [3, 1, 1, 102, 2, 88, 201, 251, 13, 17, 115, 155, 159, 107, 201, 198, 214, 238, 62, 38, 149, 172, 205, 218, 103, 124, 157, 8, 238, 7, 125, 57, 221, 65, 183, 132, 18]
def dCU : List UInt8 := [186, 81, 103, 170, 37, 105, 73, 247, 1, 63, 208, 174, 227, 219, 246, 57, 189, 176, 202, 216, 218, 247, 80, 137, 209, 38, 248, 218, 146, 140, 20, 63]
def dFU : List UInt8 := [88, 201, 251, 13, 17, 115, 155, 159, 107, 201, 198, 214, 238, 62, 38, 149, 172, 205, 218, 103, 124, 157, 8, 238, 7, 125, 57, 221, 65, 183, 132, 18]
def dRU : List UInt8 := [20, 147, 93, 158, 92, 191, 194, 195, 92, 236, 238, 114, 183, 13, 215, 171, 150, 171, 144, 26, 149, 70, 247, 32, 216, 129, 27, 76, 220, 151, 79, 92]
theorem sCU : Sha.sum bCU = dCU := by rw [Sha.sum_eq]; kernel_rfl
theorem sFU : Sha.sum bFU = dFU := by rw [Sha.sum_eq]; kernel_rfl
theorem sRU : Sha.sum bRU = dRU := by rw [Sha.sum_eq]; kernel_rfl
theorem eCU : encN nCU = bCU := by kernel_rfl
theorem eFU : encN nFU = bFU := by
 rw [show nFU = ⟨2, [], 2, [dCU], []⟩ from by unfold nFU; rw [eCU, sCU]]; kernel_rfl
theorem eRU : encN nRU = bRU := by
 rw [show nRU = ⟨3, [], 0, [], [⟨[102], 2, dFU⟩]⟩ from by unfold nRU; rw [eFU, sFU]]; kernel_rfl
theorem treeU : treeB LU = ([bCU, bFU, bRU], dRU) := by rw [tree0U, eCU, eFU, eRU, sRU]
theorem vCU : decN bCU = (⟨1, [104, 105], 0, [], []⟩, 0) := by kernel_rfl
theorem vFU : decN bFU = (⟨2, [], 2, [dCU], []⟩, 0) := by kernel_rfl
theorem vRU : decN bRU = (⟨3, [], 0, [], [⟨[102], 2, dFU⟩]⟩, 0) := by kernel_rfl
theorem freshU : Bl.fresh [bCU, bFU, bRU] = [(dCU, bCU), (dFU, bFU), (dRU, bRU)] := by
 have h1 : (Bl.fget [] dCU).isSome = false := by decide +kernel
 have h2 : (Bl.fget [(dCU, bCU)] dFU).isSome = false := by decide +kernel
 have h3 : (Bl.fget [(dCU, bCU), (dFU, bFU)] dRU).isSome = false := by decide +kernel
 simp only [Bl.fresh, List.foldl_cons, List.foldl_nil, Bl.fstep, sCU, sFU, sRU, h1, h2, h3, Bool.false_eq_true, if_false, List.nil_append, List.cons_append]
theorem viewU {code : Int} {r' : Bl.SM} (h : Bl.PutRes 65536 [] [bCU, bFU, bRU] code r') : code = 0 ∧ ∀ k, Bl.vget r' k = if k = dCU then some bCU else if k = dFU then some bFU else if k = dRU then some bRU else none := by
 obtain ⟨_, _, h3⟩ := h
 have hl : ¬ Bl.long [bCU, bFU, bRU] := by
  rintro ⟨L, hL, h⟩
  simp only [List.mem_cons, List.not_mem_nil, or_false] at hL
  rcases hL with rfl | rfl | rfl <;> revert h <;> decide +kernel
 have hx : ¬ (65536 : Int) < ((Bl.total [] : Nat) : Int) + ((Bl.extra [] (Bl.fresh [bCU, bFU, bRU]) : Nat) : Int) := by
  rw [freshU]; decide +kernel
 obtain ⟨h0, hv⟩ := h3 hl hx
 rw [freshU] at hv
 refine ⟨h0, fun k => ?_⟩
 rw [hv]
 by_cases k1 : k = dCU
 ·subst k1; decide +kernel
 ·by_cases k2 : k = dFU
  ·subst k2; decide +kernel
  ·by_cases k3 : k = dRU
   ·subst k3; decide +kernel
   ·have g1 : (dCU == k) = false := beq_eq_false_iff_ne.2 fun e => k1 e.symm
    have g2 : (dFU == k) = false := beq_eq_false_iff_ne.2 fun e => k2 e.symm
    have g3 : (dRU == k) = false := beq_eq_false_iff_ne.2 fun e => k3 e.symm
    simp [Bl.fget, List.find?_cons, g1, g2, g3, k1, k2, k3, Bl.putv, Bl.vget, mget]
theorem ne1U : dFU ≠ dCU := by decide +kernel
theorem ne2U : dRU ≠ dCU := by decide +kernel
theorem ne3U : dRU ≠ dFU := by decide +kernel
end Go.Proofs.YtbmegmbnlajbbaaGreatDoor
namespace Go.Proofs.YtbmegmbnlajbbaaGreatDoor
open Go Go.Fw Go.Proofs Go.Sort
theorem TodosW.tail {H : Heap} {x : Option Addr × Nat × Nat} {p : Path × Itm} {ps : List (Path × Itm)} (h : TodosW H x (p :: ps)) : ∃ x', (∀ w, (Instr.sliceAt y_S_r07_todo (.slice x.1 x.2.1 x.2.2) (some (.int .i64 1)) none none).run P w = .ok (slcV x') w) ∧ TodosW H x' ps := by
 obtain ⟨ys, h1, h2, h3, h4, h5, h6⟩ := h
 cases ys with
 | nil => simp at h4
 | cons y ys =>
  simp only [List.map_cons, List.cons.injEq] at h4
  simp only [List.length_cons] at h2
  refine ⟨(if x.2.2 = 1 then x.1 else x.1.map (·.add (1 * 35)), x.2.1 - 1, x.2.2 - 1), fun w => run_slice_slc (a := x.1) (len := x.2.1) (cap := x.2.2) (l := 1) (h := x.2.1) uSQ szQ (.yes (k := .i64) (i := (1 : Int)) rfl) .no (by omega) h3, ys, ?_, by show x.2.1 - 1 = _; omega, by show x.2.1 - 1 ≤ x.2.2 - 1; omega, h4.2, fun z hz => h5 z (by simp [hz]), fun _ c hc => h6 (by simp) c ?_⟩
  ·by_cases hc : x.2.2 = 1
   ·have : ys = [] := List.eq_nil_of_length_eq_zero (by omega)
    subst this
    exact .inl rfl
   ·simp only [if_neg hc]
    have := h1.part 35 (ys.length * 35) (by rw [lenQ]; simp; omega)
    rw [List.flatMap_cons, List.drop_left' (by rw [len_encQ]), List.take_of_length_le (by rw [lenQ]; omega)] at this
    exact this
  ·by_cases hc' : x.2.2 = 1
   ·simpa [ownM, hc'] using hc
   ·simp only [ownM, if_neg hc'] at hc ⊢
    cases hx : x.1 with
    | none => rw [hx] at hc; simp at hc
    | some a => rw [hx] at hc; simpa [Addr.add] using hc
end Go.Proofs.YtbmegmbnlajbbaaGreatDoor
namespace Go.Proofs.YtbmegmbnlajbbaaGreatDoor
open Go Go.Fw Go.Proofs
end Go.Proofs.YtbmegmbnlajbbaaGreatDoor
namespace Go.Proofs.YtbmegmbnlajbbaaGreatDoor
open Go Go.Fw Go.Proofs Go.Sort
end Go.Proofs.YtbmegmbnlajbbaaGreatDoor
namespace Go.Proofs.YtbmegmbnlajbbaaGreatDoor
open Go Go.Fw Go.Proofs Go.Sort
theorem bF02' (s d : ByteArray) (w : World) : (Instr.build y_api_File #[(0, .string s), (2, .string d)]).run P w = .ok (.agg #[.string s, .bool false, .string d]) w := by kernel_rfl
end Go.Proofs.YtbmegmbnlajbbaaGreatDoor
namespace Go.Proofs.YtbmegmbnlajbbaaGreatDoor
open Go Go.Fw Go.Proofs Go.Sort
end Go.Proofs.YtbmegmbnlajbbaaGreatDoor
namespace Go.Proofs.YtbmegmbnlajbbaaGreatDoor
open Go Go.Fw Go.Proofs Go.Sort
end Go.Proofs.YtbmegmbnlajbbaaGreatDoor
namespace Go.Proofs.YtbmegmbnlajbbaaGreatDoor
open Go Go.Fw Go.Proofs Go.Sort
theorem bs1f (f : Fil) (w : World) : (Instr.buildSlice y_S_api_File 1 #[(0, .agg (encF f).toArray)]).run P w = .ok (.slice (some ⟨w.heap.size, 0, none⟩) 1 1) { w with heap := w.heap.push (.cells ([f].flatMap encF).toArray y_api_File) } := by kernel_rfl
end Go.Proofs.YtbmegmbnlajbbaaGreatDoor
namespace Go.Proofs.YtbmegmbnlajbbaaGreatDoor
open Go Go.Fw Go.Proofs Go.Sort
theorem stage {q : Int} {r r' : Bl.SM} {seen : List Pr} {d L : List UInt8} {kd : Int} {n : Nod} {code : Int} {st' : LSt} (hd : Sha.sum L = d) (hn : decN L = (n, 0)) (hk : n.kind = kd) (hl : L.length ≤ 4096) (hv : Bl.vget r d = none) (hq : (Bl.total r : Int) + L.length ≤ q)
  (h : OfferRes q r ⟨seen, [(d, kd)], false⟩ L code r' st') : code = 0 ∧ (∀ k, Bl.vget r' k = if k = d then some L else Bl.vget r k) ∧ ∃ N, Run (lookS (Bl.vget r')) N (kidsN n) ⟨seen, [], false⟩ st' 0 := by
 subst hd hk
 cases h with
 | foreign h => exact absurd rfl (h _ (List.mem_singleton.2 rfl))
 | form _ h =>
  rw [hn] at h
  rcases h with h | h
  ·exact absurd rfl h
  ·exact absurd (List.mem_singleton.2 rfl) h
 | full _ _ _ hP hpc => exact absurd (Bl.put_new hP hl hv hq).1 hpc
 | ok _ _ _ hP hm =>
  refine ⟨rfl, (Bl.put_new hP hl hv hq).2, ?_⟩
  rw [hn] at hm
  simp only [List.filter_cons, List.filter_nil, decide_true, if_true, ne_eq, not_true_eq_false, decide_false, Bool.false_eq_true, if_false] at hm
  cases hm with
  | kid _ hrun hm =>
   cases hm
   exact ⟨_, hrun⟩
  | foul hne _ => exact absurd rfl hne
theorem run_one {v : List UInt8 → Option (List UInt8)} {N : Nat} {seen : List Pr} {p : Pr} {t : LSt} (h : Run (lookS v) N [p] ⟨seen, [], false⟩ t 0) (hs : p ∉ seen) (hv : v p.1 = none) : t = ⟨seen ++ [p], [p], false⟩ := by
 rcases h.cons_c with ⟨h, _⟩ | ⟨n, _, _, h⟩
 ·exact absurd rfl h
 have hg : Bl.got (v p.1) p.1 ≠ 0 := by rw [hv]; simp [Bl.got]
 have hst : lookS v ⟨seen, [], false⟩ p = (⟨seen ++ [p], [] ++ [p], false⟩, [], 0) := by unfold lookS; rw [if_neg hs, if_pos hg]
 rw [hst] at h
 exact h.nil_c.2.1
def dgU : Nat → List UInt8 | 0 => dRU | 1 => dFU | _ => dCU
def blU : Nat → List UInt8 | 0 => bRU | 1 => bFU | _ => bCU
def stgU : Nat → LSt
 | 0 => ⟨[(dRU, 3)], [(dRU, 3)], false⟩
 | 1 => ⟨[(dRU, 3), (dFU, 2)], [(dFU, 2)], false⟩
 | 2 => ⟨[(dRU, 3), (dFU, 2), (dCU, 1)], [(dCU, 1)], false⟩
 | _ => ⟨[(dRU, 3), (dFU, 2), (dCU, 1)], [], false⟩
def viewS (k : List UInt8) : Nat → Option (List UInt8)
 | 0 => none
 | n + 1 => if k = dgU n then some (blU n) else viewS k n
theorem lRU : bRU.length ≤ 100 := by decide +kernel
theorem lFU : bFU.length ≤ 100 := by decide +kernel
theorem lCU : bCU.length ≤ 100 := by decide +kernel
theorem stepU {i : Nat} (hi : i < 3) {r r' : Bl.SM} {code : Int} {st' : LSt} (hv : ∀ k, Bl.vget r k = viewS k i) (ht : Bl.total r ≤ 4096 * i) (h : OfferRes 65536 r (stgU i) (blU i) code r' st') : code = 0 ∧ st' = stgU (i + 1) ∧ ∀ k, Bl.vget r' k = viewS k (i + 1) := by
 match i, hi with
 | 0, _ =>
  obtain ⟨h1, h2, N, h3⟩ := stage (d := dRU) (kd := 3) sRU vRU rfl (by decide +kernel) (by rw [hv]; rfl) (by have := lRU; omega) h
  refine ⟨h1, ?_, fun k => by rw [h2, hv]; rfl⟩
  have hk : kidsN (⟨3, [], 0, [], [⟨[102], 2, dFU⟩]⟩ : Nod) = [((dFU, 2) : Pr)] := rfl
  rw [hk] at h3
  exact run_one h3 (by simp) (by rw [h2, hv, if_neg (fun e => ne3U e.symm)]; rfl)
 | 1, _ =>
  obtain ⟨h1, h2, N, h3⟩ := stage (d := dFU) (kd := 2) sFU vFU rfl (by decide +kernel) (by rw [hv]; simp only [viewS, dgU]; rw [if_neg (fun e => ne3U e.symm)]) (by have := lFU; omega) h
  refine ⟨h1, ?_, fun k => by rw [h2, hv]; rfl⟩
  have hk : kidsN (⟨2, [], 2, [dCU], []⟩ : Nod) = [((dCU, 1) : Pr)] := rfl
  rw [hk] at h3
  exact run_one h3 (by simp) (by rw [h2, hv, if_neg (fun e => ne1U e.symm)]; simp only [viewS, dgU]; rw [if_neg (fun e => ne2U e.symm)])
 | 2, _ =>
  obtain ⟨h1, h2, N, h3⟩ := stage (d := dCU) (kd := 1) sCU vCU rfl (by decide +kernel) (by rw [hv]; simp only [viewS, dgU]; rw [if_neg (fun e => ne1U e.symm), if_neg (fun e => ne2U e.symm)]) (by have := lCU; omega) h
  refine ⟨h1, ?_, fun k => by rw [h2, hv]; rfl⟩
  have hk : kidsN (⟨1, [104, 105], 0, [], []⟩ : Nod) = ([] : List Pr) := rfl
  rw [hk] at h3
  exact h3.nil_c.2.1
def dX1 : List UInt8 := [45, 113, 22, 66, 183, 38, 176, 68, 1, 98, 124, 169, 251, 172, 50, 245, 200, 83, 15, 177, 144, 60, 196, 219, 2, 37, 135, 23, 146, 26, 72, 129]
theorem sX1 : Sha.sum [120] = dX1 := by rw [Sha.sum_eq]; kernel_rfl
theorem dX_ne : dX1 ≠ dRU := by decide +kernel
theorem bs1x (w : World) : (Instr.buildSlice y_S_uint8 1 #[(0, (Value.int .u8 120))]).run P w = .ok (.slice (some ⟨w.heap.size, 0, none⟩) 1 1) { w with heap := w.heap.push (.cells (byteCells [120]).toArray y_uint8) } := by kernel_rfl
theorem litX {w : World} {H : Heap} (hw : w.heap = H) {K : (Option Addr × Nat × Nat) → World → Prop}
  (hK : ∀ w', Cells w'.heap (some ⟨H.size, 0, none⟩) (byteCells [120]) → Ext [] H w'.heap → H.size < w'.heap.size → K (some ⟨H.size, 0, none⟩, 1, 1) w') :
  genL P (Instr.buildSlice y_S_uint8 1 #[(0, (Value.int .u8 120))]) .slc w fun t w1 => genL P (convert y_S_uint8 y_S_uint8 (.slice t.1 t.2.1 t.2.2)) .slc w1 K := by
 subst hw
 refine genL_of (s := .slc) (some ⟨w.heap.size, 0, none⟩, 1, 1) _ (bs1x w) ?_
 obtain ⟨w', h1, hcm, h2⟩ := mark_h (P := P) (w := { w with heap := w.heap.push (.cells (byteCells [120]).toArray y_uint8) }) (l := 1) (c := 1) (o := 0) uS8 u8 rfl push_new
 refine genL_of (s := .slc) (some ⟨w.heap.size, 0, none⟩, 1, 1) w' h1 ?_ hcm
 refine hK w' ?_ (by rw [h2]; exact (Ext.push _).set_own (.inl (Nat.le_refl _))) (by rw [h2]; simp)
 rw [h2]
 exact .inr ⟨w.heap.size, 0, _, _, _, rfl, set_new push_new, by simp [byteCells], by simp [byteCells]⟩
end Go.Proofs.YtbmegmbnlajbbaaGreatDoor
namespace Go.Proofs.YtbmegmbnlajbbaaGreatDoor
open Go Go.Fw Go.Proofs Go.Sort
theorem wantU {i : Nat} (hi : i < 3) : wantF 9 (stgU i).want [] = [dgU i] := by
 match i, hi with
 | 0, _ => rfl
 | 1, _ => rfl
 | 2, _ => rfl
theorem dgU_32 {i : Nat} : (dgU i).length = 32 := by
 match i with
 | 0 => exact by decide +kernel
 | 1 => exact by decide +kernel
 | _ + 2 => exact (show dCU.length = 32 by decide +kernel)
theorem stgU_len {i : Nat} : (stgU i).want.length ≤ 1 := by
 match i with
 | 0 => exact Nat.le_refl _
 | 1 => exact Nat.le_refl _
 | 2 => exact Nat.le_refl _
 | _ + 3 => exact Nat.zero_le _
theorem stgU_done {i : Nat} (hi : i ≤ 3) : decide ((stgU i).want = [] ∧ (stgU i).foul = false) = decide (i = 3) := by
 match i, hi with
 | 0, _ => rfl
 | 1, _ => rfl
 | 2, _ => rfl
 | 3, _ => rfl
theorem blU_got {r : Bl.SM} {i : Nat} (hi : i < 3) (h1 : Bl.vget r dCU = some bCU) (h2 : Bl.vget r dFU = some bFU) (h3 : Bl.vget r dRU = some bRU) : Bl.vget r (dgU i) = some (blU i) ∧ Bl.got (Bl.vget r (dgU i)) (dgU i) = 0 := by
 match i, hi with
 | 0, _ => exact ⟨h3, by rw [show dgU 0 = dRU from rfl, h3]; simp [Bl.got, sRU]⟩
 | 1, _ => exact ⟨h2, by rw [show dgU 1 = dFU from rfl, h2]; simp [Bl.got, sFU]⟩
 | 2, _ => exact ⟨h1, by rw [show dgU 2 = dCU from rfl, h1]; simp [Bl.got, sCU]⟩
theorem blU_len {i : Nat} : (blU i).length ≤ 100 := by
 match i with
 | 0 => exact lRU
 | 1 => exact lFU
 | _ + 2 => exact lCU
set_option maxHeartbeats 16000000 in
theorem awake8_c {w : World} {H : Heap} (hw : w.heap = H) (hR : Bl.Rounds H) : CallF P F_l08_awake #[] w fun e w' => e = .returned (.bool true) ∧ Ext [] H w'.heap := by
 have hH0 : 0 < H.size := by obtain ⟨_, _, _, h, _⟩ := hR; exact lt_of_get h
 refine fn_l08_awake ?_
 unfold T_l08_awake
 refine callF_of (Bl.new59_c 65536 hw) ?_
 rintro e w1 ⟨p, fp, rfl, hS1, hx1, hfp1⟩
 refine ⟨some ⟨p, 0, none⟩, rfl, ?_⟩
 rw [show max (65536 : Int) 0 = 65536 from by decide] at hS1
 refine genQ_of (s := .any) (.agg (encF fU).toArray) (bF02' _ _ _) ?_
 refine genL_of (s := .slc) (some ⟨w1.heap.size, 0, none⟩, 1, 1) _ (bs1f fU w1) ?_
 generalize hw2 : ({ w1 with heap := w1.heap.push (.cells ([fU].flatMap encF).toArray y_api_File) } : World) = w2
 have hh2 : w2.heap = w1.heap.push (.cells ([fU].flatMap encF).toArray y_api_File) := by rw [← hw2]
 have hx2 : Ext [] w1.heap w2.heap := by rw [hh2]; exact .push _
 have hc2 : Cells w2.heap (some ⟨w1.heap.size, 0, none⟩) (LU.flatMap encF) := .inr ⟨w1.heap.size, 0, _, _, _, rfl, by rw [hh2]; exact push_new, by simp [LU], by simp [LU, encF]⟩
 have hx02 := hx1.trans hx2
 have s1 := hx1.1
 have s2 := hx2.1
 have hS2 := hS1.ext hx2 (by simp)
 refine callF_of (tbuild_c (L := LU) (nc := 1) rfl hS2 (fun b hb => by have := (hfp1 b hb).2; omega) (hR.ext hx02 (by simp)) (fun h => by have := (hfp1 0 h).1; omega) hc2 rfl (by decide) (by simp [Bl.total]) (by decide) (by decide) (by intro k L h; simp [Bl.vget, mget] at h)) ?_
 rintro e w3 ⟨c1, d1, r3, k3, fp3, rfl, hd1, hS3, hx3, hf3a, hf3b, hP3, ht3⟩
 obtain ⟨hP, hd⟩ := hP3.2 chkU
 rw [treeU] at hP hd
 obtain ⟨rfl, hv⟩ := viewU hP
 rw [if_pos rfl] at hd
 have hd : d1 = dRU := hd
 subst hd
 have v1 : Bl.vget r3 dCU = some bCU := by rw [hv, if_pos rfl]
 have v2 : Bl.vget r3 dFU = some bFU := by rw [hv, if_neg ne1U, if_pos rfl]
 have v3 : Bl.vget r3 dRU = some bRU := by rw [hv, if_neg ne2U, if_neg ne3U, if_pos rfl]
 refine ⟨(arr dRU, 0), rfl, ?_⟩
 have hx03 : Ext [] H w3.heap := hx02.own hx3 (fun c hc hlt => by have := (hfp1 c hc).1; omega)
 have s3 := hx3.1
 have hlen3 : ∀ k L, Bl.vget r3 k = some L → L.length < 1099511627776 := fun k L hv => by
  have := vget_le hS3.ok hv
  have tz : Bl.total ([] : Bl.SM) = 0 := rfl
  have l1 : LU.length = 1 := rfl
  rw [tz, l1] at ht3
  omega
 refine varD hd1 rfl fun w5 hw5 => ?_
 have hx5 : Ext [] w3.heap w5.heap := by rw [hw5]; exact .push _
 have hb5 : w5.heap[w3.heap.size]? = some (.cells (byteCells dRU).toArray y_api_Digest (0, 0)) := by rw [hw5]; exact push_new
 refine drewP_h rfl fun w6 hw6 => ?_
 rw [← hw6] at hx5 hb5
 refine ldA_all rfl hb5 (by simp [hd1]) ?_
 have hx06 := hx03.trans hx5
 have s5 := hx5.1
 refine callF_of (Bl.new59_c 65536 rfl) ?_
 rintro e w7 ⟨p2, fp2, rfl, hT7, hx7, hfp7⟩
 rw [show max (65536 : Int) 0 = 65536 from by decide] at hT7
 refine ⟨some ⟨p2, 0, none⟩, rfl, ldA_all (K := fun t => (Value.agg t) = (Value.agg (byteCells dRU).toArray)) rfl (hx7.get hb5 (by simp)) (by simp [hd1]) rfl, ?_⟩
 have hx07 := hx06.trans hx7
 have s7 := hx7.1
 have hrun0 : Run (lookS (Bl.vget ([] : Bl.SM))) 1 [((dRU, 3) : Pr)] st0 (stgU 0) 0 := by
  have hst : lookS (Bl.vget ([] : Bl.SM)) st0 (dRU, 3) = (stgU 0, [], 0) := by
   unfold lookS
   rw [if_neg (by simp [st0]), if_pos (by simp [Bl.vget, mget, Bl.got])]
   rfl
  refine .step (by rw [hst]) ?_
  rw [hst]
  exact .nil
 refine callF_of (cnew_c (n := 1) (kind := 3) (by intro k L h; simp [Bl.vget, mget] at h) rfl hT7 (fun b hb => (hfp7 b hb).2) (hR.ext hx07 (by simp)) hd1 (.inr rfl) hrun0 (by omega)) ?_
 rintro e w8 ⟨c, cf, rfl, hC8, hx8, hcf8⟩
 refine ⟨(some ⟨c, 0, none⟩, 0), rfl, ?_⟩
 have hx08 := hx07.trans hx8
 have s8 := hx8.1
 have hS8 := ((hS3.ext hx5 (by simp)).ext hx7 (by simp)).ext hx8 (by simp)
 have hT8 := hT7.ext hx8 (by simp)
 have hR8 := hR.ext hx08 (by simp)
 have wf0 : Wf (stgU 0) := ⟨by simp [stgU], by simp [stgU]⟩
 have hS6 := hS3.ext hx5 (by simp)
 have hR6 := hR.ext hx06 (by simp)
 have hx68 := hx7.trans hx8
 have s36 : w3.heap.size ≤ w6.heap.size := s5
 have hf6 : ∀ b ∈ fp3, b < w6.heap.size := fun b hb => by have := hf3a b hb; omega
 have h6pos : 0 < w6.heap.size := by have := hx06.1; omega
 generalize hInv : (fun (i : Nat) (W : World) => ∃ (fp' cf' : List Nat) (k' : Nat) (r' : Bl.SM), CarrW W.heap cf' c p2 (stgU i) ∧ Wf (stgU i) ∧ Bl.Store W.heap fp' p2 65536 r' k' ∧ (∀ k, Bl.vget r' k = viewS k i) ∧ Bl.total r' ≤ 4096 * i ∧ r'.length ≤ i ∧ Ext [] w6.heap W.heap ∧ (∀ b ∈ cf', w6.heap.size ≤ b ∧ b < W.heap.size) ∧ ∀ b ∈ fp', w6.heap.size ≤ b ∧ b < W.heap.size ∧ b ∉ cf') = Inv
 have inv : ∀ {i W}, Inv i W ↔ ∃ (fp' cf' : List Nat) (k' : Nat) (r' : Bl.SM), CarrW W.heap cf' c p2 (stgU i) ∧ Wf (stgU i) ∧ Bl.Store W.heap fp' p2 65536 r' k' ∧ (∀ k, Bl.vget r' k = viewS k i) ∧ Bl.total r' ≤ 4096 * i ∧ r'.length ≤ i ∧ Ext [] w6.heap W.heap ∧ (∀ b ∈ cf', w6.heap.size ≤ b ∧ b < W.heap.size) ∧ ∀ b ∈ fp', w6.heap.size ≤ b ∧ b < W.heap.size ∧ b ∉ cf' := by
  intro i W; rw [← hInv]
 clear hInv
 have hI8 : Inv 0 w8 := inv.2 ⟨fp2, cf, _, [], hC8, wf0, hT8, fun k => rfl, by simp [Bl.total], by simp, hx68, fun b hb => by have := hcf8 b hb; omega, fun b hb => ⟨by have := (hfp7 b hb).1; omega, by have := (hfp7 b hb).2; omega, fun h => by have := (hfp7 b hb).2; have := (hcf8 b h).1; omega⟩⟩
 refine Go.Fw.joinP_of (fun _ W => Inv 0 W) ?_ ?_
 ·refine iteP_f rfl (iteP_f rfl (iteP_f rfl ?_))
  refine callF_of (cdone_c rfl hC8) ?_
  rintro e w9 ⟨rfl, rfl⟩
  refine ⟨_, rfl, iteP_f (by rw [stgU_done (by omega)]; rfl) ?_⟩
  refine litX rfl fun w11 hc11 hx11 hs11 => ?_
  have hC11 := hC8.ext hx11 (by simp)
  have hT11 := hT8.ext hx11 (by simp)
  refine callF_of (offer_c (L := [120]) (cf := cf) (fp := fp2) rfl hC11 wf0 (fun b hb => by have := (hcf8 b hb).2; omega) hT11 (fun b hb => ⟨by have := (hfp7 b hb).2; omega, fun h => by have := (hfp7 b hb).2; have := (hcf8 b h).1; omega⟩) (hR8.ext hx11 (by simp)) (fun h => by have := (hcf8 0 h).1; omega) (fun h => by have := (hfp7 0 h).1; omega) hc11 rfl (Nat.le_refl _) (fun _ y hy => by cases hy; exact fun h => by have := (hfp7 _ h).2; simp only at this; omega) (by simp) (by simp [Bl.total]) (by decide) (by decide) (by simp [stgU])) ?_
  rintro e w12 ⟨code, r', st', k', fp', cf', rfl, hres, hC12, _, _, hT12, hx12, hcf12, hfp12, _, _⟩
  have hno : ∀ p ∈ (stgU 0).want, p.1 ≠ Sha.sum [120] := fun p hp e => by
   have : p = (dRU, 3) := List.mem_singleton.1 hp
   subst this
   rw [sX1] at e
   exact dX_ne e.symm
  have hx612 : Ext [] w6.heap w12.heap := (hx68.trans hx11).own hx12 (fun b hb hlt => by
   rcases List.mem_append.1 hb with h | h
   ·have := (hfp7 b h).1; omega
   ·have := (hcf8 b h).1; omega)
  cases hres with
  | foreign _ =>
   refine ⟨80, rfl, iteP_f rfl ?_⟩
   exact inv.2 ⟨fp', cf', k', [], hC12, wf0, hT12, fun k => rfl, by simp [Bl.total], by simp, hx612, fun b hb => ⟨by
    rcases (hcf12 b hb).2 with h | h
    ·have := (hcf8 b h).1; omega
    ·have := hx11.1; omega, (hcf12 b hb).1⟩, fun b hb => ⟨by
    rcases (hfp12 b hb).2.2 with h | h
    ·have := (hfp7 b h).1; omega
    ·have := hx11.1; omega, (hfp12 b hb).1, (hfp12 b hb).2.1⟩⟩
  | form h _ => obtain ⟨p, hp, e⟩ := h; exact absurd e (hno p hp)
  | full h _ _ _ _ => obtain ⟨p, hp, e⟩ := h; exact absurd e (hno p hp)
  | ok h _ _ _ _ => obtain ⟨p, hp, e⟩ := h; exact absurd e (hno p hp)
 rintro _ W0 hI0
 refine Go.Fw.joinP_of (fun (s : Int) W => s = 3 ∧ Ext [] H W.heap) ?_ ?_
 rotate_left
 ·rintro _ W ⟨rfl, hx⟩
  exact ⟨rfl, hx⟩
 refine loopP_of (fun (s : Int) W => ∃ i : Nat, s = (i : Int) ∧ i ≤ 3 ∧ Inv i W) (fun s _ => (3 - s).toNat) ⟨0, rfl, by omega, hI0⟩ ?_
 rintro _ W ⟨i, rfl, hi, hI⟩
 obtain ⟨fpW, cfW, kW, rW, hCW, hWW, hTW, hvW, htW, hlW, hxW, hcfW, hfpW⟩ := inv.1 hI
 refine Go.Fw.joinP_of (fun _ W' => W' = W ∧ i < 3) ?_ ?_
 ·refine iteP_t (by simp; omega) ?_
  refine callF_of (cdone_c rfl hCW) ?_
  rintro e w15 ⟨rfl, rfl⟩
  refine ⟨_, rfl, ?_⟩
  rw [stgU_done hi]
  by_cases h3 : i = 3
  ·refine iteP_f (by simp [h3]) ⟨by omega, hx06.trans hxW⟩
  ·exact iteP_t (by simp [h3]) ⟨rfl, by omega⟩
 rintro _ W' ⟨rfl, hi3⟩
 refine callF_of (cwant_c (most := 9) rfl hCW (by have := stgU_len (i := i); omega)) ?_
 rintro e w17 ⟨x17, rfl, hm17, _, hx17⟩
 rw [wantU hi3] at hm17
 refine ⟨x17, rfl, ?_⟩
 have hxl : x17.2.1 = 1 := by have := hm17.len; rw [length_flatMap_k Bl.enc32 Bl.len_enc32] at this; simp at this; omega
 refine iteP_f (by simp [hxl]) ?_
 refine elem_ld (i := 0) Bl.len_enc32 (by omega) rfl hm17.cells (xs := [dgU i]) (v := dgU i) hxl rfl rfl ?_
 rw [Bl.enc32_eq dgU_32]
 have hx617 := hxW.trans hx17
 have hgot := blU_got hi3 v1 v2 v3
 refine callF_of (Bl.get_c (k := dgU i) rfl (hS6.ext hx617 (by simp)) dgU_32 (hR6.ext hx617 (by simp)) (hlen3 _)) ?_
 rintro e w18 ⟨x18, rfl, hx18, hg18, _⟩
 refine ⟨(x18, Bl.got (Bl.vget r3 (dgU i)) (dgU i)), rfl, ?_⟩
 obtain ⟨L18, hL18, hm18⟩ := hg18 hgot.2
 rw [hgot.1] at hL18
 simp only [Option.some.injEq] at hL18
 subst hL18
 have hx18l : x18.2.1 = (blU i).length := by have := hm18.len; simp at this; omega
 have hxW18 := hx17.trans hx18
 have s17 := hx17.1
 have s18 := hx18.1
 have hbl := blU_len (i := i)
 have hx618 := hxW.trans hxW18
 have hrl := stgU_len (i := i)
 refine callF_of (offer_c (L := blU i) (cf := cfW) (fp := fpW) rfl (hCW.ext hxW18 (by simp)) hWW (fun b hb => by have := (hcfW b hb).2; omega) (hTW.ext hxW18 (by simp)) (fun b hb => ⟨by have := (hfpW b hb).2.1; omega, (hfpW b hb).2.2⟩) (hR6.ext hx618 (by simp)) (fun h => by have := (hcfW 0 h).1; omega) (fun h => by have := (hfpW 0 h).1; omega) hm18.cells hx18l (mine_cap hm18) (fun _ y hy h => by
  have hy : x18.1 = some y := hy
  have h1 := ownM_ge hm18 y.block (by unfold ownM; rw [hy]; simp)
  have h2 := (hfpW _ h).2.1
  omega) (by omega) (by omega) (by decide) (by decide) (by omega)) ?_
 rintro e w19 ⟨code, r', st', k', fp', cf', rfl, hres, hC19, hW19, _, hT19, hx19, hcf19, hfp19, ht19, hl19⟩
 obtain ⟨rfl, rfl, hv19⟩ := stepU hi3 hvW htW hres
 refine ⟨0, rfl, iteP_f rfl ?_⟩
 refine addI_to ((i + 1 : Nat) : Int) (by simp) (by omega) (by omega) ?_
 refine ⟨⟨i + 1, rfl, by omega, inv.2 ⟨fp', cf', k', r', hC19, hW19, hT19, hv19, by omega, by omega, hx618.own hx19 (fun b hb hlt => ?_), fun b hb => ⟨?_, (hcf19 b hb).1⟩, fun b hb => ⟨?_, (hfp19 b hb).1, (hfp19 b hb).2.1⟩⟩⟩, by omega⟩
 ·rcases List.mem_append.1 hb with h | h
  ·have := (hfpW b h).1; omega
  ·have := (hcfW b h).1; omega
 ·rcases (hcf19 b hb).2 with h | h
  ·exact (hcfW b h).1
  ·have := hx618.1; omega
 ·rcases (hfp19 b hb).2.2 with h | h
  ·exact (hfpW b h).1
  ·have := hx618.1; omega
end Go.Proofs.YtbmegmbnlajbbaaGreatDoor
namespace Go.Proofs.YtbmegmbnlajbbaaGreatDoor
open Go Go.Fw Go.Proofs Go.Sort
theorem offerf_c {cf : List Nat} {pS c : Nat} {st : LSt} {w : World} {H : Heap} {a : Option Addr} {l lc : Nat} {L : List UInt8} (hw : w.heap = H) (hC : CarrW H cf c pS st) (hR : Bl.Rounds H)
  (hL : Cells H a (byteCells L)) (hl : l = L.length) (hlc : l ≤ lc) (hLb : L.length < 1152921504606846976) (hwl : st.want.length ≤ 1000000000) (hno : ∀ p ∈ st.want, p.1 ≠ Sha.sum L) :
  CallF P F_carry_Carrier_Offer #[.pointer (some ⟨c, 0, none⟩), .slice a l lc] w fun e w' => e = .returned (.int .i64 80) ∧ Ext [] H w'.heap := by
 refine fn_carry_Carrier_Offer ?_
 unfold T_carry_Carrier_Offer
 refine iteP_f rfl ?_
 refine callF_of (Bl.sum_c hw hL hl hlc hR hLb) ?_
 rintro e w1 ⟨rfl, hx1⟩
 refine ⟨arr (Sha.sum L), rfl, ?_⟩
 refine varD len_sum rfl fun w3 hw3 => ?_
 have hx3 : Ext [] w1.heap w3.heap := by rw [hw3]; exact .push _
 have hb3 : w3.heap[w1.heap.size]? = some (.cells (byteCells (Sha.sum L)).toArray y_api_Digest (0, 0)) := by rw [hw3]; exact push_new
 have hx03 := hx1.trans hx3
 refine genQ_of (s := .any) (mineG w1.heap.size) (by simp [Instr.makeFunc, mineG]; rfl) ?_
 obtain ⟨m, clk, lm, x, g1, g2, g3, g4, g5, g6, g7, g8, g9⟩ := hC.ext hx03 (by simp)
 have hxl : x.2.1 = st.want.length := by have := g5.len; rw [lenP] at this; omega
 simp only [withAddr_some, add_none, Nat.zero_add]
 refine ld_h (s := .slc) (t := x) rfl g1 rfl ?_
 refine callF_of (containsf_c (L := st.want) rfl g5.cells hxl (by omega) g9 hb3 len_sum) ?_
 rintro e w4 ⟨t, rfl, ht, hx4⟩
 refine ⟨t, rfl, ?_⟩
 cases t with
 | false => exact iteP_t rfl ⟨trivial, hx03.trans hx4⟩
 | true =>
  obtain ⟨p, hp, e⟩ := ht.1 rfl
  exact absurd e (hno p hp)
theorem offernil_c {w : World} {a : Option Addr} {l lc : Nat} : CallF P F_carry_Carrier_Offer #[.pointer none, .slice a l lc] w fun e w' => e = .returned (.int .i64 7) ∧ w' = w := by
 refine fn_carry_Carrier_Offer ?_
 unfold T_carry_Carrier_Offer
 exact iteP_t rfl ⟨rfl, rfl⟩
theorem wantnil_c {w : World} {m : Int} : CallF P F_carry_Carrier_Want #[.pointer none, .int .i64 m] w fun e w' => e = .returned (.slice none 0 0) ∧ w' = w := by
 refine fn_carry_Carrier_Want ?_
 unfold T_carry_Carrier_Want
 exact iteP_t rfl ⟨rfl, rfl⟩
theorem donenil_c {w : World} : CallF P F_carry_Carrier_Done #[.pointer none] w fun e w' => e = .returned (.bool false) ∧ w' = w := by
 refine fn_carry_Carrier_Done ?_
 unfold T_carry_Carrier_Done
 exact iteP_f rfl ⟨rfl, rfl⟩
theorem foulnil_c {w : World} : CallF P F_carry_Carrier_Foul #[.pointer none] w fun e w' => e = .returned (.bool false) ∧ w' = w := by
 refine fn_carry_Carrier_Foul ?_
 unfold T_carry_Carrier_Foul
 exact iteP_f rfl ⟨rfl, rfl⟩
theorem reachnil_c {w : World} {H : Heap} {root : List UInt8} {kind : Int} (hw : w.heap = H) : CallF P F_carry_Reach #[.pointer none, arr root, .int .i64 kind] w fun e w' => e = .returned (.tuple #[.slice none 0 0, .int .i64 7]) ∧ Ext [] H w'.heap := by
 refine fn_carry_Reach ?_
 unfold T_carry_Reach
 refine newB_h hw fun w1 hw1 => ?_
 have hx1 : Ext [] H w1.heap := by rw [hw1]; exact .push _
 have hb1 : w1.heap[H.size]? = some (.cells #[.pointer none] y_p_blob_Store (0, 0)) := by rw [hw1]; exact push_new
 refine newB_h rfl fun w2 hw2 => ?_
 have hx2 : Ext [] w1.heap w2.heap := by rw [hw2]; exact .push _
 refine joinP_in ?_
 refine joinP_in ?_
 refine ld_h (s := .ptr) (t := none) rfl (hx2.get hb1 (by simp)) rfl ?_
 exact iteP_t rfl ⟨rfl, hx1.trans hx2⟩
theorem run_root {root : List UInt8} {kind : Int} : Run (lookS (Bl.vget ([] : Bl.SM))) 1 [((root, kind) : Pr)] st0 ⟨[(root, kind)], [(root, kind)], false⟩ 0 := by
 have hst : lookS (Bl.vget ([] : Bl.SM)) st0 (root, kind) = (⟨[(root, kind)], [(root, kind)], false⟩, [], 0) := by
  unfold lookS
  rw [if_neg (by simp [st0]), if_pos (by simp [Bl.vget, mget, Bl.got])]
  rfl
 refine .step (by rw [hst]) ?_
 rw [hst]
 exact .nil
set_option maxHeartbeats 16000000 in
theorem carryrefuses {w : World} {H : Heap} {a : Option Addr} {n nc : Nat} {L : List Fil} {y : Option Addr × Nat × Nat} {D : List UInt8} (hw : w.heap = H) (hR : Bl.Rounds H) (hL : Cells H a (L.flatMap encF)) (hn : n = L.length) (hm : L.length ≤ 9223372036854775807)
  (hy : Cells H y.1 (byteCells D)) (hyl : y.2.1 = D.length) (hyc : y.2.1 ≤ y.2.2) (hD : D.length < 140737488351233) :
  CallF P F_l08_CarryRefuses #[.slice a n nc, .slice y.1 y.2.1 y.2.2] w fun e w' => e = .returned (.bool true) ∧ Ext [] H w'.heap := by
 refine fn_l08_CarryRefuses ?_
 unfold T_l08_CarryRefuses
 refine callF_of (awake8_c hw hR) ?_
 rintro e w1 ⟨rfl, hx1⟩
 refine ⟨true, rfl, iteP_f rfl ?_⟩
 refine joinP_in ?_
 refine genL_of (s := .slc) (some ⟨w1.heap.size, 0, none⟩, 1, 1) _ (build1_g EFs uSFs (v := .slice a n nc) rfl (by omega) (by omega)) ?_
 generalize hw2 : ({ w1 with heap := w1.heap.push (.cells (Value.slice a n nc).cells y_S_api_File) } : World) = w2
 have hh2 : w2.heap = w1.heap.push (.cells (Value.slice a n nc).cells y_S_api_File) := by rw [← hw2]
 have hx2 : Ext [] w1.heap w2.heap := by rw [hh2]; exact .push _
 have hb2 : w2.heap[w1.heap.size]? = some (.cells #[.slice a n nc] y_S_api_File (0, 0)) := by rw [hh2]; exact push_new
 have hx02 := hx1.trans hx2
 refine callF_of (few_c rfl hb2 (hL.ext hx02 (by simp)) hn hm) ?_
 rintro e w3 ⟨t, rfl, hw3⟩
 refine ⟨t, rfl, ?_⟩
 have hx03 : Ext [] H w3.heap := by rw [hw3]; exact hx02
 cases t with
 | false => exact iteP_t rfl ⟨rfl, hx03⟩
 | true =>
 refine iteP_f rfl ?_
 refine iteP_dec (fun _ => ⟨rfl, hx03⟩) (fun h150 => ?_)
 have hL150 : L.length ≤ 150 := by omega
 have hR3 := hR.ext hx03 (by simp)
 have hH0 : 0 < w3.heap.size := by obtain ⟨_, _, _, h, _⟩ := hR3; exact lt_of_get h
 refine callF_of (Bl.new59_c 16777216 rfl) ?_
 rintro e w5 ⟨p, fp, rfl, hS5, hx5, hfp5⟩
 refine ⟨some ⟨p, 0, none⟩, rfl, ?_⟩
 rw [show max (16777216 : Int) 0 = 16777216 from by decide] at hS5
 have hx05 := hx03.trans hx5
 have s5 := hx5.1
 refine callF_of (tbuild_c (L := L) (nc := nc) rfl hS5 (fun b hb => (hfp5 b hb).2) (hR.ext hx05 (by simp)) (fun h => by have := (hfp5 0 h).1; omega) (hL.ext hx05 (by simp)) hn (by omega) (by simp [Bl.total]) (by decide) (by decide) (by intro k L h; simp [Bl.vget, mget] at h)) ?_
 rintro e w6 ⟨c1, d1, r6, k6, fp6, rfl, hd1, hS6, hx6, _, _, _, _⟩
 refine ⟨(arr d1, c1), rfl, ?_⟩
 have hx06 : Ext [] H w6.heap := hx05.own hx6 (fun c hc hlt => by have := (hfp5 c hc).1; have := hx03.1; omega)
 refine varD hd1 rfl fun w8 hw8 => ?_
 have hx8 : Ext [] w6.heap w8.heap := by rw [hw8]; exact .push _
 have hb8 : w8.heap[w6.heap.size]? = some (.cells (byteCells d1).toArray y_api_Digest (0, 0)) := by rw [hw8]; exact push_new
 have hx08 := hx06.trans hx8
 refine iteP_ne (fun _ => ⟨rfl, hx08⟩) (fun _ => ?_)
 refine callF_of (Bl.new59_c 16777216 rfl) ?_
 rintro e w9 ⟨p2, fp2, rfl, hT9, hx9, hfp9⟩
 refine ⟨some ⟨p2, 0, none⟩, rfl, ?_⟩
 rw [show max (16777216 : Int) 0 = 16777216 from by decide] at hT9
 have hx09 := hx08.trans hx9
 have s9 := hx9.1
 refine ldA_all rfl (hx9.get hb8 (by simp)) (by simp [hd1]) ?_
 refine callF_of (cnew_c (n := 1) (kind := 3) (by intro k L h; simp [Bl.vget, mget] at h) rfl hT9 (fun b hb => (hfp9 b hb).2) (hR.ext hx09 (by simp)) hd1 (.inr rfl) run_root (by omega)) ?_
 rintro e w10 ⟨c, cf, rfl, hC10, hx10, hcf10⟩
 refine ⟨(some ⟨c, 0, none⟩, 0), rfl, ?_⟩
 have hx010 := hx09.trans hx10
 have hwant : wantF 9 [((d1, 3) : Pr)] [] = [d1] := rfl
 have hC10 : CarrW w10.heap cf c p2 ⟨[(d1, 3)], [(d1, 3)], false⟩ := hC10
 refine callF_of (cwant_c (most := 9) rfl hC10 (by simp)) ?_
 rintro e w11 ⟨x45, rfl, hm11, _, hx11⟩
 rw [hwant] at hm11
 refine ⟨x45, rfl, ?_⟩
 have hx011 := hx010.trans hx11
 have hC11 := hC10.ext hx11 (by simp)
 have hx811 := (hx9.trans hx10).trans hx11
 have hb11 := hx811.get hb8 (by simp)
 have hT11 := (hT9.ext hx10 (by simp)).ext hx11 (by simp)
 refine Go.Fw.joinP_of (fun _ W => Ext [] w11.heap W.heap) ?_ ?_
 ·refine drewP_h rfl fun w12 hw12 => ?_
  have hx12 : Ext [] w11.heap w12.heap := by rw [hw12]; exact .refl _ _
  refine ldA_all rfl (hx12.get hb11 (by simp)) (by simp [hd1]) ?_
  have hx012 := hx011.trans hx12
  refine callF_of (Bl.refsum_c (L := D) rfl (hy.ext hx012 (by simp)) hyl hD) ?_
  rintro e w13 ⟨rfl, hx13⟩
  have hx1113 := hx12.trans hx13
  refine ⟨arr (Sha.sum D), rfl, ldA_all (K := fun t => (Value.agg t) = (Value.agg (byteCells d1).toArray)) rfl (hx1113.get hb11 (by simp)) (by simp [hd1]) rfl, ?_⟩
  refine genQ_of (s := .bool) _ (neqM_arr Bl.u27 Bl.u5 Bl.c5 Bl.g27 len_sum hd1) ?_
  refine iteP_of (p := Sha.sum D ≠ d1) (by simp) (fun hne => ?_) (fun _ => hx1113)
  have hC13 := hC11.ext hx1113 (by simp)
  have hx013 := hx011.trans hx1113
  refine callF_of (offerf_c (L := D) rfl hC13 (hR.ext hx013 (by simp)) (hy.ext hx013 (by simp)) hyl hyc (by omega) (by simp) (fun p hp e => by
   have : p = (d1, 3) := List.mem_singleton.1 hp
   subst this
   exact hne e.symm)) ?_
  rintro e w14 ⟨rfl, hx14⟩
  refine ⟨80, rfl, iteP_f rfl ?_⟩
  have hx1114 := hx1113.trans hx14
  refine callF_of (Bl.count_c rfl (hT11.ext hx1114 (by simp))) ?_
  rintro e w15 ⟨rfl, rfl⟩
  refine ⟨0, rfl, iteP_f rfl ?_⟩
  refine callF_of (cwant_c (most := 9) rfl (hC11.ext hx1114 (by simp)) (by simp)) ?_
  rintro e w16 ⟨x62, rfl, hm16, _, hx16⟩
  rw [hwant] at hm16
  refine ⟨x62, rfl, ?_⟩
  have hx1116 := hx1114.trans hx16
  have l1 : x62.2.1 = ([d1] : List (List UInt8)).length := by have := hm16.len; rw [length_flatMap_k Bl.enc32 Bl.len_enc32] at this; omega
  have l2 : x45.2.1 = ([d1] : List (List UInt8)).length := by have := hm11.len; rw [length_flatMap_k Bl.enc32 Bl.len_enc32] at this; omega
  refine callF_of (digests_c (L := [d1]) (M := [d1]) rfl hm16.cells l1 (hm11.ext hx1116 (by simp)).cells l2 (by simp [hd1]) (by simp [hd1]) (by simp)) ?_
  rintro e w17 ⟨rfl, hw17⟩
  refine ⟨_, rfl, iteP_f (by simp) ?_⟩
  show Ext [] w11.heap w17.heap
  rw [hw17]; exact hx1116
 rintro _ W hxW
 have hx0W := hx011.trans hxW
 have hbW := hxW.get hb11 (by simp)
 refine ldA_all rfl hbW (by simp [hd1]) ?_
 refine callF_of (cnewnil_c rfl) ?_
 rintro e w19 ⟨rfl, hx19⟩
 refine ⟨(none, 7), rfl, ?_⟩
 refine ldA_all rfl (hx19.get hbW (by simp)) (by simp [hd1]) ?_
 refine callF_of (reachnil_c rfl) ?_
 rintro e w20 ⟨rfl, hx20⟩
 refine ⟨((none, 0, 0), 7), rfl, ?_⟩
 refine iteP_t rfl (iteP_t rfl ?_)
 refine callF_of wantnil_c ?_
 rintro e w21 ⟨rfl, rfl⟩
 refine ⟨(none, 0, 0), rfl, iteP_t rfl ?_⟩
 refine callF_of offernil_c ?_
 rintro e w22 ⟨rfl, rfl⟩
 refine ⟨7, rfl, iteP_t rfl ?_⟩
 refine callF_of donenil_c ?_
 rintro e w23 ⟨rfl, rfl⟩
 refine ⟨false, rfl, iteP_t rfl ?_⟩
 refine callF_of foulnil_c ?_
 rintro e w24 ⟨rfl, rfl⟩
 exact ⟨false, rfl, rfl, (hx0W.trans hx19).trans hx20⟩
end Go.Proofs.YtbmegmbnlajbbaaGreatDoor
