/- The contracts of New and Sum: a digest of bytes. -/
import Derived.Test.YtkolbfjheleoaaaDoorSc
namespace Go.Proofs.YtkolbfjheleoaaaDoor
open Go Go.Fw Go.Proofs


def c91 : Array Value := ((W32 Sha.init 8).toList ++ List.replicate 64 (Value.int .u8 0) ++ [Value.int .i64 0, Value.int .i64 0]).toArray
theorem build65i (w : World) : (Instr.build y_8_uint32 #[(0, .int .u32 1779033703), (1, .int .u32 3144134277), (2, .int .u32 1013904242), (3, .int .u32 2773480762), (4, .int .u32 1359893119), (5, .int .u32 2600822924), (6, .int .u32 528734635), (7, .int .u32 1541459225)]).run P w = .ok (.agg (W32 Sha.init 8)) w := by
  kernel_rfl
theorem build91 (w : World) : (Instr.build y_sha_Hash #[(0, .agg (W32 Sha.init 8))]).run P w = .ok (.agg c91) w := by kernel_rfl
theorem u65 : P.underlying y_8_uint32 = some (.array 8 y_uint32) := by kernel_rfl
theorem u64 : P.underlying y_uint32 = some (.int .u32) := by kernel_rfl
theorem i64 : (P.info? y_uint32).map (·.size) = some 1 := by kernel_rfl
theorem u92 : P.underlying y_8_uint8 = some (.array 8 y_uint8) := by kernel_rfl
theorem zc27 : zc P y_api_Digest = (List.replicate 32 (Value.int .u8 0)).toArray := by kernel_rfl
theorem zc91s : (zc P y_sha_Hash).size = 74 := by kernel_rfl
theorem zc92 : zc P y_8_uint8 = (List.replicate 8 (Value.int .u8 0)).toArray := by kernel_rfl
theorem size91 : P.cellsOf y_sha_Hash = 74 := by kernel_rfl
theorem size27 : P.cellsOf y_api_Digest = 32 := by kernel_rfl
theorem bs22 (x : Int) (w : World) : (Instr.buildSlice y_S_uint8 1 #[(0, .int .u8 x)]).run P w = .ok (.slice (some ⟨w.heap.size, 0, none⟩) 1 1) { w with heap := w.heap.push (.cells #[.int .u8 x] 5) } := by kernel_rfl

theorem new_c {w : World} {H : Heap} (hw : w.heap = H) : CallF P F_sha_New #[] w fun e w' => e = .returned (.pointer (some ⟨H.size, 0, none⟩)) ∧ w'.heap = H.push (.cells c91 y_sha_Hash) ∧ HashI w'.heap H.size [] 0 := by
  refine fn_sha_New ?_
  unfold T_sha_New
  refine genQ_of (s := .any) _ (build65i w) ?_
  refine genQ_of (s := .any) _ (build91 w) ?_
  refine newB_h hw fun w1 hw1 => ?_
  refine ⟨rfl, hw1, ?_⟩
  rw [hw1]
  refine ⟨c91, push_new, rfl, ?_, ?_, rfl, rfl, ?_⟩
  · intro i hi
    match i, hi with
    | 0, _ => rfl
    | 1, _ => rfl
    | 2, _ => rfl
    | 3, _ => rfl
    | 4, _ => rfl
    | 5, _ => rfl
    | 6, _ => rfl
    | 7, _ => rfl
  · intro i hi; simp at hi
  · intro i v hv
    have : v ∈ c91.toList := by
      have := Array.mem_of_getElem? hv
      exact Array.mem_toList_iff.2 this
    simp only [c91, List.mem_append, List.mem_replicate, List.mem_cons] at this
    rcases this with (h | ⟨_, rfl⟩) | rfl | rfl | h
    · exact one_W32 v h
    · rfl
    · rfl
    · rfl
    · cases h

theorem ix65 {c : Array Value} {i : Nat} {v : Value} (hc : c[i]? = some v) (hi : i < 8) (w : World) : (Instr.index y_8_uint32 (.agg c) (.int .i64 (i : Int))).run P w = .ok v w := by
  have hag : (isAgg 64).run P w = .ok false w := by simp [isAgg, run_underlying' u64]
  have h1 : (i : Int) < ((8 : Nat) : Int) := by omega
  simp only [Instr.index, asIntOf, Sem.run_bind, Sem.run_pure, Result.andThen_ok, run_underlying' u65]
  rw [if_pos ⟨by omega, h1⟩]
  simp [run_sizeOf_info i64, part, hag, hc]

set_option maxHeartbeats 4000000 in
theorem hsum_c {w : World} {H : Heap} {p : Nat} {D : List UInt8} (hw : w.heap = H) (hD : HashI H p D D.length) (hR : Rounds H) (hlen : D.length < 1152921504606846976) :
    CallF P F_sha_Hash_Sum #[.pointer (some ⟨p, 0, none⟩)] w fun e w' => e = .returned (arr (Sha.sum D)) ∧ Ext [] H w'.heap := by
  refine fn_sha_Hash_Sum ?_
  unfold T_sha_Hash_Sum
  refine newB_h hw fun w1 hw1 => ?_
  refine joinP_in ?_
  refine iteP_f rfl ?_
  simp only [withAddr_some]
  have hH0 : 0 < H.size := by obtain ⟨_, _, _, h, _⟩ := hR; exact lt_of_get h
  obtain ⟨c, hp, hsz, hS, hB, h72, h73, ha⟩ := hD
  have hpl := lt_of_get hp
  refine ldA_all hw1 (push_old hp) hsz ?_
  refine newB_h hw1 fun w2 hw2 => ?_
  refine storeVar_h (size91.trans (by simpa [Value.cells] using hsz.symm)) (by simp only [Value.cells]; omega) ha.one hw2 push_new (by rw [zc91s]; simp [Value.cells]; omega) fun w3 hw3 => ?_
  rw [show setCells (zc P y_sha_Hash) 0 (Value.cells (.agg c)).toList = c from by rw [setCells_all (by rw [zc91s]; simpa [Value.cells] using hsz)]; simp [Value.cells]] at hw3
  generalize hb3 : (H.push (Obj.cells (zc P y_api_Digest) y_api_Digest)).size = b3 at *
  have hb3' : b3 = H.size + 1 := by rw [← hb3]; simp
  generalize hH3 : ((H.push (Obj.cells (zc P y_api_Digest) y_api_Digest)).push (Obj.cells (zc P y_sha_Hash) y_sha_Hash)).setIfInBounds b3 (Obj.cells c y_sha_Hash (0, 0)) = H3 at *
  have hx3 : Ext [] H H3 := by rw [← hH3]; exact ((Ext.push _).push_own).set_own (.inl (by omega))
  have hp3 : H3[b3]? = some (.cells c y_sha_Hash (0, 0)) := by rw [← hH3]; exact set_new (by rw [← hb3]; exact push_new)
  have h23 : H3[H.size]? = some (.cells (zc P y_api_Digest) y_api_Digest (0, 0)) := by rw [← hH3]; exact set_old (push_old push_new) (by omega)
  have hD3 : HashI H3 b3 D D.length := ⟨c, hp3, hsz, hS, hB, h72, h73, ha⟩
  have hR3 := hR.ext hx3 (by simp)
  refine ld_h hw3 hp3 h73 ?_
  refine cvI_u64 (by omega) (by omega) ?_
  refine mul64u ((8 * D.length : Nat) : Int) (by omega) (by omega) (by omega) ?_
  refine genL_of (s := .slc) (some ⟨H3.size, 0, none⟩, 1, 1) _ (by rw [bs22 128 w3, hw3]; rfl) ?_
  have hx4 : Ext [] H3 (H3.push (Obj.cells #[Value.int .u8 128] 5)) := .push _
  have hb3l := lt_of_get hp3
  refine callF_of (write_c (w := { w3 with heap := H3.push (Obj.cells #[Value.int .u8 128] 5) }) (L := [128]) rfl (hD3.ext hx4 (by simp)) (cells_bytes (H := H3.push (Obj.cells #[Value.int .u8 128] 5)) push_new (by simp) ?_) rfl (by simp) ?_ (hR3.ext hx4 (by simp)) (by omega) (by simp; omega)) ?_
  · intro i hi
    obtain rfl : i = 0 := by simp at hi; omega
    rfl
  · intro _ x hx; cases hx; simp only; omega
  rintro e w5 ⟨rfl, hx5, hD5⟩
  refine ⟨(), rfl, ?_⟩
  have hx35 : Ext [b3] H3 w5.heap := (hx4.mono (by simp)).trans hx5
  clear hx5 hx4
  -- the noughts
  refine loopP_ix (fun m _ w => ∃ (j : Nat) (H' : Heap), j + m = (119 - D.length % 64) % 64 ∧ w.heap = H' ∧ Ext [b3] H3 H' ∧ HashI H' b3 (D ++ [128] ++ List.replicate j 0) (D ++ [128] ++ List.replicate j 0).length)
    ((119 - D.length % 64) % 64) ⟨0, _, by omega, rfl, hx35, by simpa using hD5⟩ ?_
  clear hx35 hD5
  rintro m _ w6 ⟨j, H6, hj, hw6, hx6, c6, hp6, hsz6, hS6, hB6, h726, h736, ha6⟩ K hK
  have hl6 : (D ++ [128] ++ List.replicate j 0).length = D.length + 1 + j := by simp only [List.length_append, List.length_singleton, List.length_replicate]
  rw [hl6] at h726 h736
  refine ld_h hw6 hp6 h726 ?_
  refine iteP_ne (fun hne => ?_) (fun h56 => ?_)
  · have hjlt : j < (119 - D.length % 64) % 64 := by omega
    have hx7 : Ext [b3] H6 (H6.push (Obj.cells #[Value.int .u8 0] 5)) := .push _
    have hb3l6 := lt_of_get hp6
    refine genL_of (s := .slc) (some ⟨H6.size, 0, none⟩, 1, 1) _ (by rw [bs22 0 w6, hw6]; rfl) ?_
    refine callF_of (write_c (w := { w6 with heap := H6.push (Obj.cells #[Value.int .u8 0] 5) }) (D := D ++ [128] ++ List.replicate j 0) (L := [0]) rfl ⟨c6, push_old hp6, hsz6, hS6, hB6, by rw [hl6]; exact h726, by rw [hl6]; exact h736, ha6⟩
      (cells_bytes (H := H6.push (Obj.cells #[Value.int .u8 0] 5)) push_new (by simp) ?_) rfl (by simp) ?_ ((hR3.ext hx6 (by simp; omega)).ext hx7 (by simp; omega)) (by omega) (by rw [hl6]; simp; omega)) ?_
    · intro i hi
      obtain rfl : i = 0 := by simp at hi; omega
      rfl
    · intro _ x hx; cases hx; simp only; omega
    rintro e w8 ⟨rfl, hx8, hD8⟩
    refine ⟨(), rfl, ?_⟩
    have hrep : D ++ [128] ++ List.replicate j 0 ++ [0] = D ++ [128] ++ List.replicate (j + 1) 0 := by
      rw [List.append_assoc, ← List.replicate_succ']
    rw [hrep] at hD8
    exact hK (m - 1) _ _ (by omega) ⟨j + 1, _, by omega, rfl, hx6.trans (hx7.trans hx8), hD8⟩
  have hjz : j = (119 - D.length % 64) % 64 := by omega
  subst hjz
  -- the size
  refine newB_h hw6 fun w7 hw7 => ?_
  have hb3l6 := lt_of_get hp6
  refine loopP_of (fun s w => ∃ (i : Nat) (H' : Heap) (c5 : Array Value), s = (i : Int) ∧ i ≤ 8 ∧ w.heap = H' ∧ Ext [] H6 H' ∧ H'[H6.size]? = some (.cells c5 y_8_uint8 (0, 0)) ∧ c5.size = 8 ∧ Bytes c5 0 (fun i => UInt8.ofNat (8 * D.length / 2 ^ (56 - 8 * i))) i)
    (fun s _ => (8 - s).toNat) ⟨0, _, _, rfl, by omega, hw7, .push _, push_new, by rw [zc92]; simp, fun i hi => by omega⟩ ?_
  rintro _ w8 ⟨i, H8, c5, rfl, hi, hw8, hx8, hp8, hsz8, hB8⟩
  refine iteP_dec (fun hlt => ?_) (fun hge => ?_)
  · have hlt : i < 8 := by omega
    refine mulI_to ((8 * i : Nat) : Int) (by omega) (by omega) (by omega) ?_
    refine subI_to ((56 - 8 * i : Nat) : Int) (by omega) (by omega) (by omega) ?_
    refine shr64 (56 - 8 * i) rfl (by omega) ?_
    refine cv8 ?_
    refine ixR_0 i rfl (by omega) ?_
    refine stC_h hw8 hp8 (by omega) fun w9 hw9 => ?_
    refine addI_to ((i + 1 : Nat) : Int) (by omega) (by omega) (by omega) ?_
    refine ⟨⟨i + 1, _, _, rfl, by omega, hw9, hx8.set_own (.inl (Nat.le_refl _)), set_new hp8, by simpa using hsz8, hB8.snoc (by omega) rfl⟩, by omega⟩
  have hi8 : i = 8 := by omega
  subst hi8
  refine genQ_of (s := .slc) (some ⟨H6.size, 0, none⟩, 8, 8) (by rw [run_slice_arr u92 i5 .no .no (by omega) (by omega), if_neg (by omega), add_none]; rfl) ?_
  have hl6' : (D ++ [128] ++ List.replicate ((119 - D.length % 64) % 64) (0 : UInt8)).length = D.length + 1 + (119 - D.length % 64) % 64 := by simp only [List.length_append, List.length_singleton, List.length_replicate]
  refine callF_of (write_c (D := D ++ [128] ++ List.replicate ((119 - D.length % 64) % 64) 0) (L := Sha.be8 (D.length * 8)) hw8 ⟨c6, hx8.get hp6 (by simp), hsz6, hS6, hB6, by rw [hl6]; exact h726, by rw [hl6]; exact h736, ha6⟩
    (cells_bytes hp8 (by simp [Sha.be8]; omega) ?_) (by simp [Sha.be8]) (by omega) ?_ ((hR3.ext hx6 (by simp; omega)).ext hx8 (by simp)) (by omega) (by rw [hl6]; simp [Sha.be8]; omega)) ?_
  · intro i hi
    have hi : i < 8 := by simpa [Sha.be8] using hi
    rw [hB8 i hi]
    simp [Sha.be8, hi, Nat.mul_comm]
  · intro _ x hx; cases hx; simp only; omega
  rintro e w9 ⟨rfl, hx9, hD9⟩
  refine ⟨(), rfl, ?_⟩
  have hpad : D ++ [128] ++ List.replicate ((119 - D.length % 64) % 64) 0 ++ Sha.be8 (D.length * 8) = Sha.pad D := rfl
  rw [hpad] at hD9
  obtain ⟨c9, hp9, hsz9, hS9, _⟩ := hD9
  refine newB_h rfl fun w10 hw10 => ?_
  refine ldA_h hw10 (push_old hp9) (by omega) ?_
  rw [hS9.extract (by omega)]
  generalize hs : Sha.blocks (Sha.pad D) ((Sha.pad D).length / 64) = s at *
  have hx39 : Ext [b3] H3 w9.heap := hx6.trans ((hx8.mono (by simp)).trans hx9)
  -- the digest
  refine loopP_of (fun s' w => ∃ (i : Nat) (H' : Heap) (c7 : Array Value), s' = (i : Int) ∧ i ≤ 8 ∧ w.heap = H' ∧ Ext [] w9.heap H' ∧ H'[w9.heap.size]? = some (.cells c7 y_api_Digest (0, 0)) ∧ c7.size = 32 ∧ Bytes c7 0 (Sha.out s) (4 * i))
    (fun s _ => (8 - s).toNat) ⟨0, _, _, rfl, by omega, hw10, .push _, push_new, by rw [zc27]; simp, fun i hi => by omega⟩ ?_
  rintro _ w11 ⟨i, H11, c7, rfl, hi, hw11, hx11, hp11, hsz11, hB11⟩
  refine iteP_dec (fun hlt => ?_) (fun hge => ?_)
  · have hlt : i < 8 := by omega
    refine genQ_of (s := .int .u32) _ (ix65 (words_W32.at i hlt) hlt _) ?_
    refine mulI_to ((4 * i : Nat) : Int) (by omega) (by omega) (by omega) ?_
    refine mulI_to ((4 * i : Nat) : Int) (by omega) (by omega) (by omega) ?_
    refine addI_to ((4 * i + 1 : Nat) : Int) (by omega) (by omega) (by omega) ?_
    refine mulI_to ((4 * i : Nat) : Int) (by omega) (by omega) (by omega) ?_
    refine addI_to ((4 * i + 2 : Nat) : Int) (by omega) (by omega) (by omega) ?_
    refine mulI_to ((4 * i : Nat) : Int) (by omega) (by omega) (by omega) ?_
    refine addI_to ((4 * i + 3 : Nat) : Int) (by omega) (by omega) (by omega) ?_
    refine shrW _ 24 rfl (by omega) ?_
    refine cvL _ ?_
    refine shrW _ 16 rfl (by omega) ?_
    refine cvL _ ?_
    refine shrW _ 8 rfl (by omega) ?_
    refine cvL _ ?_
    refine cvL _ ?_
    refine ixR_0 (4 * i) rfl (by omega) ?_
    refine stC_h hw11 hp11 (by omega) fun w12 hw12 => ?_
    refine ixR_0 (4 * i + 1) rfl (by omega) ?_
    refine stC_h hw12 (set_new hp11) (by simp; omega) fun w13 hw13 => ?_
    rw [set_set] at hw13
    refine ixR_0 (4 * i + 2) rfl (by omega) ?_
    refine stC_h hw13 (set_new hp11) (by simp; omega) fun w14 hw14 => ?_
    rw [set_set] at hw14
    refine ixR_0 (4 * i + 3) rfl (by omega) ?_
    refine stC_h hw14 (set_new hp11) (by simp; omega) fun w15 hw15 => ?_
    rw [set_set] at hw15
    refine addI_to ((i + 1 : Nat) : Int) (by omega) (by omega) (by omega) ?_
    refine ⟨⟨i + 1, _, _, rfl, by omega, hw15, hx11.set_own (.inl (Nat.le_refl _)), set_new hp11, by simp; omega, ?_⟩, by omega⟩
    have o0 : Sha.out s (4 * i) = lo8 (s i >>> 24) := by
      unfold Sha.out; rw [show 4 * i / 4 = i from by omega, show 4 * i % 4 = 0 from by omega]
    have o1 : Sha.out s (4 * i + 1) = lo8 (s i >>> 16) := by
      unfold Sha.out; rw [show (4 * i + 1) / 4 = i from by omega, show (4 * i + 1) % 4 = 1 from by omega]
    have o2 : Sha.out s (4 * i + 2) = lo8 (s i >>> 8) := by
      unfold Sha.out; rw [show (4 * i + 2) / 4 = i from by omega, show (4 * i + 2) % 4 = 2 from by omega]
    have o3 : Sha.out s (4 * i + 3) = lo8 (s i) := by
      unfold Sha.out; rw [show (4 * i + 3) / 4 = i from by omega, show (4 * i + 3) % 4 = 3 from by omega]; simp
    exact ((((hB11.snoc (by omega) o0.symm).snoc (by simp; omega) o1.symm).snoc (by simp; omega) o2.symm).snoc (by simp; omega) o3.symm)
  have hi8 : i = 8 := by omega
  subst hi8
  refine ldA_all hw11 hp11 hsz11 ?_
  have hc7 : c7 = B8 (Sha.out s) 32 := by
    have := hB11.extract (by omega)
    rw [← this]
    exact (Array.extract_eq_self_of_le (by omega)).symm
  subst hc7
  have h211 : H11[H.size]? = some (.cells (zc P y_api_Digest) y_api_Digest (0, 0)) := hx11.get (hx39.get h23 (by simp; omega)) (by simp)
  refine storeVar_h (size27.trans (by simp [Value.cells])) (by simp [Value.cells]) one_B8 hw11 h211 (by rw [zc27]; simp [Value.cells]) fun w12 hw12 => ?_
  rw [show setCells (zc P y_api_Digest) 0 (Value.cells (.agg (B8 (Sha.out s) 32))).toList = B8 (Sha.out s) 32 from by rw [setCells_all (by rw [zc27]; simp [Value.cells])]; simp [Value.cells]] at hw12
  refine ldA_all hw12 (set_new h211) (by simp) ?_
  refine ⟨?_, ?_⟩
  · unfold arr Sha.sum B8 byteCells
    rw [hs]
    simp
  · rw [hw12]
    refine Ext.set_own ?_ (.inl (Nat.le_refl _))
    exact hx3.own (hx39.trans (hx11.mono (by simp))) (by simp; omega)

theorem len_sum {L : List UInt8} : (Sha.sum L).length = 32 := by simp [Sha.sum]
theorem cells_arr {L : List UInt8} : (arr L).cells.size = L.length := by simp [arr, Value.cells, byteCells]
theorem sum_c {w : World} {H : Heap} {a : Option Addr} {l lc : Nat} {L : List UInt8} (hw : w.heap = H) (hL : Cells H a (byteCells L)) (hl : l = L.length) (hc : l ≤ lc) (hR : Rounds H) (hlen : L.length < 1152921504606846976) :
    CallF P F_sha_Sum #[.slice a l lc] w fun e w' => e = .returned (arr (Sha.sum L)) ∧ Ext [] H w'.heap := by
  refine fn_sha_Sum ?_
  unfold T_sha_Sum
  refine newB_h hw fun w1 hw1 => ?_
  have hps : (H.push (Obj.cells (zc P y_api_Digest) y_api_Digest (0, 0))).size = H.size + 1 := by simp
  have hx1 : Ext [] H (H.push (.cells (zc P y_api_Digest) y_api_Digest)) := .push _
  refine callF_of (new_c hw1) ?_
  rintro e w2 ⟨rfl, hw2, hD2⟩
  refine ⟨_, rfl, ?_⟩
  have hx2 : Ext [] H w2.heap := by rw [hw2]; exact hx1.push_own
  have h2 : w2.heap[H.size]? = some (.cells (zc P y_api_Digest) y_api_Digest (0, 0)) := by rw [hw2]; exact push_old push_new
  have hH0 : 0 < H.size := by obtain ⟨_, _, _, h, _⟩ := hR; exact lt_of_get h
  refine callF_of (write_c (D := []) (L := L) rfl hD2 (hL.ext hx2 (by simp)) hl hc (fun hne x hx => by obtain ⟨y, hy, hlt⟩ := hL.lt (by simpa [byteCells] using hne); rw [hx] at hy; cases hy; omega) (hR.ext hx2 (by simp)) (by simp) (by simp; omega)) ?_
  rintro e w3 ⟨rfl, hx3, hD3⟩
  refine ⟨(), rfl, ?_⟩
  rw [List.nil_append] at hD3
  have hx23 : Ext [] H w3.heap := hx2.own hx3 (by simp)
  have h3 : w3.heap[H.size]? = some (.cells (zc P y_api_Digest) y_api_Digest (0, 0)) := hx3.get h2 (by simp)
  refine callF_of (hsum_c rfl hD3 (hR.ext hx23 (by simp)) hlen) ?_
  rintro e w4 ⟨rfl, hx4⟩
  refine ⟨arr (Sha.sum L), rfl, ?_⟩
  refine storeVar_h (size27.trans (by rw [cells_arr, len_sum])) (by rw [cells_arr, len_sum]; omega) ?_ rfl (hx4.get h3 (by simp)) (by rw [zc27, cells_arr, len_sum]; simp) fun w5 hw5 => ?_
  · intro v hv
    simp only [arr, Value.cells] at hv
    exact one_byteCells v hv
  rw [show setCells (zc P y_api_Digest) 0 (Value.cells (arr (Sha.sum L))).toList = (byteCells (Sha.sum L)).toArray from by rw [setCells_all (by rw [zc27, Array.length_toList, cells_arr, len_sum]; simp)]; simp [Value.cells, arr]] at hw5
  refine ldA_all hw5 (set_new (hx4.get h3 (by simp))) (by simp [byteCells, len_sum]) ?_
  exact ⟨rfl, by rw [hw5]; exact (hx23.own hx4 (by simp)).set_own (.inl (Nat.le_refl _))⟩
end Go.Proofs.YtkolbfjheleoaaaDoor
