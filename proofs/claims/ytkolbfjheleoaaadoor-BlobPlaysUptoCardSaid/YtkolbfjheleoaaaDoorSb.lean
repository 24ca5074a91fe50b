/- The contract of mix: 64 bytes go into a state. -/
import Derived.Test.YtkolbfjheleoaaaDoorSa
namespace Go.Proofs.YtkolbfjheleoaaaDoor
open Go Go.Fw Go.Proofs

theorem zc66 : zc P y_64_uint32 = (List.replicate 64 (Value.int .u32 0)).toArray := by kernel_rfl
theorem zc65 : zc P y_8_uint32 = (List.replicate 8 (Value.int .u32 0)).toArray := by kernel_rfl
theorem size65 : P.cellsOf y_8_uint32 = 8 := by kernel_rfl
theorem build65 (a b c d e f g h : Int) (w : World) : (Instr.build y_8_uint32 #[(0, .int .u32 a), (1, .int .u32 b), (2, .int .u32 c), (3, .int .u32 d), (4, .int .u32 e), (5, .int .u32 f), (6, .int .u32 g), (7, .int .u32 h)]).run P w =
    .ok (.agg #[.int .u32 a, .int .u32 b, .int .u32 c, .int .u32 d, .int .u32 e, .int .u32 f, .int .u32 g, .int .u32 h]) w := by kernel_rfl

set_option maxHeartbeats 4000000 in
theorem mix_c {w : World} {H : Heap} {hp bb off l lc : Nat} {c cb rc : Array Value} {Tb rT : TypeId} {frb rfr : Nat × Nat} {s : Nat → BitVec 32} {f : Nat → UInt8} (hw : w.heap = H)
    (hH : H[hp]? = some (.cells c y_sha_Hash (0, 0))) (hsz : c.size = 74) (hS : Words c 0 s 8) (hB : H[bb]? = some (.cells cb Tb frb)) (hb : Bytes cb off f 64) (hl : 64 ≤ l)
    (hR : H[0]? = some (.cells rc rT rfr)) (hr : Words rc 0 Sha.K 64) (h0 : hp ≠ 0) :
    CallF P F_sha_Hash_mix #[.pointer (some ⟨hp, 0, none⟩), .slice (some ⟨bb, off, none⟩) l lc] w fun e w' => e = .returned (.tuple #[]) ∧ Ext [hp] H w'.heap ∧
      ∃ c', w'.heap[hp]? = some (.cells c' y_sha_Hash (0, 0)) ∧ c'.size = 74 ∧ Words c' 0 (Sha.comp s (Sha.word f)) 8 ∧ ∀ i, 8 ≤ i → c'[i]? = c[i]? := by
  refine fn_sha_Hash_mix ?_
  unfold T_sha_Hash_mix
  refine newB_h hw fun w1 hw1 => ?_
  -- the first sixteen words
  refine loopP_of (fun s w => ∃ (t : Nat) (H' : Heap) (c4 : Array Value), s = (t : Int) ∧ t ≤ 16 ∧ w.heap = H' ∧ Ext [] H H' ∧ H'[H.size]? = some (.cells c4 y_64_uint32 (0, 0)) ∧ c4.size = 64 ∧ Words c4 0 (Sha.W (Sha.word f)) t)
    (fun s _ => (16 - s).toNat) ⟨0, _, _, rfl, by omega, hw1, .push _, push_new, by rw [zc66]; rfl, fun i hi => by omega⟩ ?_
  rintro _ w2 ⟨t, H2, c4, rfl, ht, hw2, hx2, hc4, hs4, hW⟩
  refine iteP_dec (fun hlt => ?_) (fun hge => ?_)
  · have hlt : t < 16 := by omega
    refine drewP_h hw2 fun w3 hw3 => ?_
    have hB2 := hx2.get hB (by simp)
    refine mulI_to ((4 * t : Nat) : Int) (by omega) (by omega) (by omega) ?_
    refine ixS_1 (4 * t) rfl (by omega) ?_
    refine mulI_to ((4 * t : Nat) : Int) (by omega) (by omega) (by omega) ?_
    refine addI_to ((4 * t + 1 : Nat) : Int) (by omega) (by omega) (by omega) ?_
    refine ixS_1 (4 * t + 1) rfl (by omega) ?_
    refine mulI_to ((4 * t : Nat) : Int) (by omega) (by omega) (by omega) ?_
    refine addI_to ((4 * t + 2 : Nat) : Int) (by omega) (by omega) (by omega) ?_
    refine ixS_1 (4 * t + 2) rfl (by omega) ?_
    refine mulI_to ((4 * t : Nat) : Int) (by omega) (by omega) (by omega) ?_
    refine addI_to ((4 * t + 3 : Nat) : Int) (by omega) (by omega) (by omega) ?_
    refine ixS_1 (4 * t + 3) rfl (by omega) ?_
    refine ld_h hw3 hB2 (hb (4 * t) (by omega)) ?_
    refine cvB ?_
    refine shlW _ 24 rfl (by omega) ?_
    refine ld_h hw3 hB2 (hb (4 * t + 1) (by omega)) ?_
    refine cvB ?_
    refine shlW _ 16 rfl (by omega) ?_
    refine orW _ _ ?_
    refine ld_h hw3 hB2 (hb (4 * t + 2) (by omega)) ?_
    refine cvB ?_
    refine shlW _ 8 rfl (by omega) ?_
    refine orW _ _ ?_
    refine ld_h hw3 hB2 (hb (4 * t + 3) (by omega)) ?_
    refine cvB ?_
    refine orW _ _ ?_
    refine ixR_0 t rfl (by omega) ?_
    refine stC_h hw3 hc4 (by omega) fun w4 hw4 => ?_
    refine addI_to ((t + 1 : Nat) : Int) (by omega) (by omega) (by omega) ?_
    refine ⟨⟨t + 1, _, _, rfl, by omega, hw4, hx2.set_own (.inl (Nat.le_refl _)), set_new hc4, by simpa using hs4, ?_⟩, by omega⟩
    exact hW.snoc (by omega) (by rw [Sha.W_lt hlt]; rfl)
  have ht16 : t = 16 := by omega
  subst ht16
  clear hge ht
  -- the others
  refine loopP_of (fun s w => ∃ (t : Nat) (H' : Heap) (c4 : Array Value), s = (t : Int) ∧ 16 ≤ t ∧ t ≤ 64 ∧ w.heap = H' ∧ Ext [] H H' ∧ H'[H.size]? = some (.cells c4 y_64_uint32 (0, 0)) ∧ c4.size = 64 ∧ Words c4 0 (Sha.W (Sha.word f)) t)
    (fun s _ => (64 - s).toNat) ⟨16, _, _, rfl, by omega, by omega, hw2, hx2, hc4, hs4, hW⟩ ?_
  clear hw2 hx2 hc4 hs4 hW
  rintro _ w2 ⟨t, H2, c4, rfl, ht, ht', hw2, hx2, hc4, hs4, hW⟩
  refine iteP_dec (fun hlt => ?_) (fun hge => ?_)
  · have hlt : t < 64 := by omega
    refine drewP_h hw2 fun w3 hw3 => ?_
    refine subI_to ((t - 2 : Nat) : Int) (by omega) (by omega) (by omega) ?_
    refine ixR_0 (t - 2) rfl (by omega) ?_
    refine subI_to ((t - 15 : Nat) : Int) (by omega) (by omega) (by omega) ?_
    refine ixR_0 (t - 15) rfl (by omega) ?_
    refine ld_h hw3 hc4 (hW.at (t - 2) (by omega)) ?_
    refine ld_h hw3 hc4 (hW.at (t - 15) (by omega)) ?_
    refine callQ_of (l := [.int .u32]) _ (rot_c _ 17 rfl (by omega) (by omega) _) ?_
    refine callQ_of (l := [.int .u32]) _ (rot_c _ 19 rfl (by omega) (by omega) _) ?_
    refine xorW _ _ ?_
    refine shrW _ 10 rfl (by omega) ?_
    refine xorW _ _ ?_
    refine callQ_of (l := [.int .u32]) _ (rot_c _ 7 rfl (by omega) (by omega) _) ?_
    refine callQ_of (l := [.int .u32]) _ (rot_c _ 18 rfl (by omega) (by omega) _) ?_
    refine xorW _ _ ?_
    refine shrW _ 3 rfl (by omega) ?_
    refine xorW _ _ ?_
    refine drewP_h hw3 fun w4 hw4 => ?_
    refine subI_to ((t - 7 : Nat) : Int) (by omega) (by omega) (by omega) ?_
    refine ixR_0 (t - 7) rfl (by omega) ?_
    refine subI_to ((t - 16 : Nat) : Int) (by omega) (by omega) (by omega) ?_
    refine ixR_0 (t - 16) rfl (by omega) ?_
    refine ld_h hw4 hc4 (hW.at (t - 7) (by omega)) ?_
    refine addW _ _ ?_
    refine addW _ _ ?_
    refine ld_h hw4 hc4 (hW.at (t - 16) (by omega)) ?_
    refine addW _ _ ?_
    refine ixR_0 t rfl (by omega) ?_
    refine stC_h hw4 hc4 (by omega) fun w5 hw5 => ?_
    refine addI_to ((t + 1 : Nat) : Int) (by omega) (by omega) (by omega) ?_
    refine ⟨⟨t + 1, _, _, rfl, by omega, by omega, hw5, hx2.set_own (.inl (Nat.le_refl _)), set_new hc4, by simpa using hs4, ?_⟩, by omega⟩
    exact hW.snoc (by omega) (by rw [Sha.W_ge ht])
  have ht64 : t = 64 := by omega
  subst ht64
  clear hge ht ht'
  have hH2 := hx2.get hH (by simp)
  have hR2 := hx2.get hR (by simp)
  have hlt := lt_of_get hH2
  simp only [withAddr_some]
  refine ldA_h hw2 hH2 (by omega) ?_
  rw [hS.extract (by omega)]
  refine newB_h hw2 fun w3 hw3 => ?_
  refine storeVar_h (size65.trans (by simp [Value.cells])) (by simp [Value.cells]) one_W32 hw3 push_new (by rw [zc65]; simp [Value.cells]) fun w4 hw4 => ?_
  rw [show setCells (zc P y_8_uint32) 0 (Value.cells (.agg (W32 s 8))).toList = W32 s 8 from by rw [setCells_all (by rw [zc65]; simp [Value.cells])]; simp [Value.cells]] at hw4
  have hb4 : H.size < H2.size := lt_of_get hc4
  -- the rounds
  refine loopP_of (fun s' w => ∃ (t : Nat) (H' : Heap) (c8 : Array Value), s' = (t : Int) ∧ t ≤ 64 ∧ w.heap = H' ∧ Ext [] H2 H' ∧ H'[H2.size]? = some (.cells c8 y_8_uint32 (0, 0)) ∧ c8.size = 8 ∧ Words c8 0 (Sha.rnd (Sha.W (Sha.word f)) s t) 8)
    (fun s _ => (64 - s).toNat) ⟨0, _, _, rfl, by omega, hw4, (Ext.push _).set_own (.inl (Nat.le_refl _)), set_new push_new, by simp, words_W32⟩ ?_
  rintro _ w5 ⟨t, H5, c8, rfl, ht, hw5, hx5, hc8, hs8, hV⟩
  refine iteP_dec (fun hlt => ?_) (fun hge => ?_)
  · have hlt : t < 64 := by omega
    have hc4' := hx5.get hc4 (by simp)
    have hR' := hx5.get hR2 (by simp)
    refine drewP_h hw5 fun w6 hw6 => ?_
    refine ld_h hw6 hc8 (hV.at 4 (by omega)) ?_
    refine callQ_of (l := [.int .u32]) _ (rot_c _ 6 rfl (by omega) (by omega) _) ?_
    refine ld_h hw6 hc8 (hV.at 4 (by omega)) ?_
    refine callQ_of (l := [.int .u32]) _ (rot_c _ 11 rfl (by omega) (by omega) _) ?_
    refine xorW _ _ ?_
    refine ld_h hw6 hc8 (hV.at 4 (by omega)) ?_
    refine callQ_of (l := [.int .u32]) _ (rot_c _ 25 rfl (by omega) (by omega) _) ?_
    refine xorW _ _ ?_
    refine drewP_h hw6 fun w7 hw7 => ?_
    refine ixR_0 t rfl (by omega) ?_
    refine ixR_0 t rfl (by omega) ?_
    refine ld_h hw7 hc8 (hV.at 7 (by omega)) ?_
    refine addW _ _ ?_
    refine ld_h hw7 hc8 (hV.at 4 (by omega)) ?_
    refine ld_h hw7 hc8 (hV.at 5 (by omega)) ?_
    refine andW _ _ ?_
    refine ld_h hw7 hc8 (hV.at 4 (by omega)) ?_
    refine xorW_max _ ?_
    refine ld_h hw7 hc8 (hV.at 6 (by omega)) ?_
    refine andW _ _ ?_
    refine xorW _ _ ?_
    refine addW _ _ ?_
    refine ld_h hw7 hR' (hr.at t (by omega)) ?_
    refine addW _ _ ?_
    refine ld_h hw7 hc4' (hW.at t (by omega)) ?_
    refine addW _ _ ?_
    refine drewP_h hw7 fun w8 hw8 => ?_
    refine ld_h hw8 hc8 (hV.at 0 (by omega)) ?_
    refine callQ_of (l := [.int .u32]) _ (rot_c _ 2 rfl (by omega) (by omega) _) ?_
    refine ld_h hw8 hc8 (hV.at 0 (by omega)) ?_
    refine callQ_of (l := [.int .u32]) _ (rot_c _ 13 rfl (by omega) (by omega) _) ?_
    refine xorW _ _ ?_
    refine ld_h hw8 hc8 (hV.at 0 (by omega)) ?_
    refine callQ_of (l := [.int .u32]) _ (rot_c _ 22 rfl (by omega) (by omega) _) ?_
    refine xorW _ _ ?_
    refine ld_h hw8 hc8 (hV.at 0 (by omega)) ?_
    refine ld_h hw8 hc8 (hV.at 1 (by omega)) ?_
    refine andW _ _ ?_
    refine ld_h hw8 hc8 (hV.at 0 (by omega)) ?_
    refine ld_h hw8 hc8 (hV.at 2 (by omega)) ?_
    refine andW _ _ ?_
    refine xorW _ _ ?_
    refine ld_h hw8 hc8 (hV.at 1 (by omega)) ?_
    refine ld_h hw8 hc8 (hV.at 2 (by omega)) ?_
    refine andW _ _ ?_
    refine xorW _ _ ?_
    refine addW _ _ ?_
    refine addW _ _ ?_
    refine ld_h hw8 hc8 (hV.at 0 (by omega)) ?_
    refine ld_h hw8 hc8 (hV.at 1 (by omega)) ?_
    refine ld_h hw8 hc8 (hV.at 2 (by omega)) ?_
    refine ld_h hw8 hc8 (hV.at 3 (by omega)) ?_
    refine addW _ _ ?_
    refine ld_h hw8 hc8 (hV.at 4 (by omega)) ?_
    refine ld_h hw8 hc8 (hV.at 5 (by omega)) ?_
    refine ld_h hw8 hc8 (hV.at 6 (by omega)) ?_
    refine genQ_of _ (build65 _ _ _ _ _ _ _ _ _) ?_
    refine storeVar_h (size65.trans rfl) (by simp [Value.cells]) (by intro v hv; simp [Value.cells] at hv; rcases hv with h | h | h | h | h | h | h | h <;> subst h <;> rfl) hw8 hc8 (by simp [Value.cells]; omega) fun w9 hw9 => ?_
    refine addI_to ((t + 1 : Nat) : Int) (by omega) (by omega) (by omega) ?_
    refine ⟨⟨t + 1, _, _, rfl, by omega, hw9, hx5.set_own (.inl (Nat.le_refl _)), set_new hc8, by simpa using hs8, ?_⟩, by omega⟩
    rw [setCells_all (by simp [Value.cells]; omega)]
    intro i hi
    match i, hi with
    | 0, _ => rfl
    | 1, _ => rfl
    | 2, _ => rfl
    | 3, _ => rfl
    | 4, _ => rfl
    | 5, _ => rfl
    | 6, _ => rfl
    | 7, _ => rfl
  have ht64 : t = 64 := by omega
  subst ht64
  clear hge ht
  have hx52 : Ext [] H H5 := hx2.trans hx5
  have hH5 := hx52.get hH (by simp)
  have hne : hp ≠ H2.size := by have := lt_of_get hH; omega
  -- the sum
  refine loopP_of (fun s' w => ∃ (t : Nat) (H' : Heap) (c' : Array Value), s' = (t : Int) ∧ t ≤ 8 ∧ w.heap = H' ∧ Ext [hp] H H' ∧ H'[hp]? = some (.cells c' y_sha_Hash (0, 0)) ∧ c'.size = 74 ∧ H'[H2.size]? = some (.cells c8 y_8_uint32 (0, 0)) ∧
      Words c' 0 (Sha.comp s (Sha.word f)) t ∧ (∀ i, t ≤ i → c'[i]? = c[i]?))
    (fun s _ => (8 - s).toNat) ⟨0, _, _, rfl, by omega, hw5, hx52.mono (by simp), hH5, hsz, hc8, fun i hi => by omega, fun i _ => rfl⟩ ?_
  rintro _ w6 ⟨t, H6, c', rfl, ht, hw6, hx6, hH6, hsz6, hc86, hV6, hold⟩
  refine iteP_dec (fun hlt => ?_) (fun hge => ?_)
  · have hlt : t < 8 := by omega
    refine drewP_h hw6 fun w7 hw7 => ?_
    refine ixR_0 t rfl (by omega) ?_
    refine ixR_0 t rfl (by omega) ?_
    refine ld_h hw7 hH6 ((hold t (Nat.le_refl _)).trans (hS.at t (by omega))) ?_
    refine ld_h hw7 hc86 (hV.at t (by omega)) ?_
    refine addW _ _ ?_
    refine ixR_0 t rfl (by omega) ?_
    refine stC_h hw7 hH6 (by omega) fun w8 hw8 => ?_
    refine addI_to ((t + 1 : Nat) : Int) (by omega) (by omega) (by omega) ?_
    refine ⟨⟨t + 1, _, _, rfl, by omega, hw8, hx6.set_own (.inr (by simp)), set_new hH6, by simpa using hsz6, set_old hc86 (Ne.symm hne), hV6.snoc (by omega) rfl, ?_⟩, by omega⟩
    intro i hi
    rw [Array.getElem?_setIfInBounds_ne (by omega)]
    exact hold i (by omega)
  have ht8 : t = 8 := by omega
  subst ht8
  exact ⟨trivial, by rw [hw6]; exact hx6, c', by rw [hw6]; exact hH6, hsz6, hV6, hold⟩
end Go.Proofs.YtkolbfjheleoaaaDoor
