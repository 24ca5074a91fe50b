/- The contract of ref01.Sum. -/
import Derived.Test.YtkolbfjheleoaaaDoorSd
namespace Go.Proofs.YtkolbfjheleoaaaDoor
open Go Go.Fw Go.Proofs

theorem size66 : P.cellsOf y_64_uint32 = 64 := by kernel_rfl
theorem constant_c {w : World} {H : Heap} {t : Nat} (hw : w.heap = H) (ht : t < 64) : CallF P F_r01_constant #[.int .i64 (t : Int)] w fun e w' => e = .returned (.int .u32 ((Sha.K t).toNat : Int)) ∧ Ext [] H w'.heap := by
  refine fn_r01_constant ?_
  unfold T_r01_constant
  refine genQ_of (s := .any) (.agg (W32 Sha.K 64)) (by kernel_rfl) ?_
  refine newB_h hw fun w1 hw1 => ?_
  refine storeVar_h (size66.trans (by simp [Value.cells])) (by simp [Value.cells]) one_W32 hw1 push_new (by rw [zc66]; simp [Value.cells]) fun w2 hw2 => ?_
  rw [show setCells (zc P y_64_uint32) 0 (Value.cells (.agg (W32 Sha.K 64))).toList = W32 Sha.K 64 from by rw [setCells_all (by rw [zc66]; simp [Value.cells])]; simp [Value.cells]] at hw2
  refine ixR_0 t rfl ht ?_
  refine ld_h hw2 (set_new push_new) (words_W32.at t ht) ?_
  exact ⟨rfl, by rw [hw2]; exact (Ext.push _).set_own (.inl (Nat.le_refl _))⟩

theorem i5a : (P.info? y_uint8).map (fun i => (i.size, i.bytes, i.zero)) = some (1, 1, some (.int .u8 0)) := by kernel_rfl
theorem i5x : ∃ i, P.info? y_uint8 = some i ∧ i.size = 1 ∧ i.bytes = 1 ∧ i.zero = some (.int .u8 0) := by
  have h := i5a
  revert h
  cases P.info? y_uint8 with
  | none => intro h; cases h
  | some i => intro h; simp only [Option.map_some, Option.some.injEq, Prod.mk.injEq] at h; exact ⟨i, rfl, h.1, h.2.1, h.2.2⟩
theorem append22 {w : World} {H : Heap} {B : Nat} {x : Option Addr × Nat × Nat} {y : Value} {n : Nat} {vs us : List Value} (hw : w.heap = H) (hown : Mine H B y_uint8 1 x vs) (hB : B ≤ H.size) (hsrc : Src P w y 1 n us) (h1 : oneCells us)
    (hroom : (2 * (x.2.1 + n) + 192) ≤ 281474976710656) {K : (Option Addr × Nat × Nat) → World → Prop}
    (hK : ∀ x' w', Mine w'.heap B y_uint8 1 x' (vs ++ us) → x'.2.1 = x.2.1 + n → Ext (ownM x) H w'.heap → (∀ b, b ∈ ownM x' → b ∈ ownM x ∨ H.size ≤ b) → K x' w') :
    genL P (Builtin.append_ #[y_S_uint8, y_S_uint8] y_S_uint8 #[.slice x.1 x.2.1 x.2.2, y]) .slc w K := by
  obtain ⟨i, hi, hs, hb, hz⟩ := i5x
  obtain ⟨x', w', h1, hcm, h2, h3, h4, h5⟩ := append_h (ty := 22) u22 ⟨_, u22, by intro k h; cases h⟩ hi hs hz rfl (by omega) hw hown hB hsrc h1 (by rw [hb]; omega)
  exact ⟨x', w', h1, hcm, hK x' w' h2 h3 h4 h5⟩

/-- A byte is put behind a slice that one owns. -/
theorem push_byte {w : World} {H0 H : Heap} {B : Nat} {x : Option Addr × Nat × Nat} {D : List UInt8} (b : UInt8) {n : Int} (hn : n = (b.toNat : Int)) (hw : w.heap = H) (hx : Ext [] H0 H) (h0 : H0.size ≤ B) (hown : Mine H B y_uint8 1 x (byteCells D)) (hB : B ≤ H.size)
    (hl : x.2.1 = D.length) (hroom : D.length < 140737488355000) {K : (Option Addr × Nat × Nat) → World → Prop}
    (hK : ∀ x' w', Mine w'.heap B y_uint8 1 x' (byteCells (D ++ [b])) → x'.2.1 = (D ++ [b]).length → Ext [] H0 w'.heap → B ≤ w'.heap.size → K x' w') :
    genL P (Instr.buildSlice y_S_uint8 1 #[(0, .int .u8 n)]) .slc w fun t w_1 => genL P (Builtin.append_ #[y_S_uint8, y_S_uint8] y_S_uint8 #[.slice x.1 x.2.1 x.2.2, .slice t.1 t.2.1 t.2.2]) .slc w_1 K := by
  subst hn hw
  refine genL_of (s := .slc) (some ⟨w.heap.size, 0, none⟩, 1, 1) _ (bs22 _ w) ?_
  have hx1 : Ext [] w.heap (w.heap.push (Obj.cells #[Value.int .u8 (b.toNat : Int)] 5)) := .push _
  refine append22 (w := { w with heap := w.heap.push (Obj.cells #[Value.int .u8 (b.toNat : Int)] 5) }) (us := byteCells [b]) rfl (hown.ext hx1 (by simp)) (by simp; omega) (Src.slc rfl (cells_bytes (L := [b]) (H := w.heap.push (Obj.cells #[Value.int .u8 (b.toNat : Int)] 5)) push_new (by simp) ?_) (by simp [byteCells])) one_byteCells (by simp only; omega) ?_
  · intro i hi
    obtain rfl : i = 0 := by simp at hi; omega
    rfl
  intro x' w' h2 h3 h4 h5
  refine hK x' w' ?_ (by rw [h3, hl]; simp) ((hx.trans hx1).own h4 fun c hc hlt => ?_) ?_
  · simpa [byteCells] using h2
  · have := ownM_ge hown c hc; omega
  · have := h4.1; simp at this; omega

/-- A word out of its bytes, one by one. -/
def pw (f : Nat → UInt8) (t : Nat) : Nat → BitVec 32
  | 0 => 0#32
  | j + 1 => pw f t j <<< 8 ||| b32 (f (4 * t + j))
theorem pw_word (f : Nat → UInt8) (t : Nat) : pw f t 4 = Sha.word f t := by
  simp only [pw, Sha.word, BitVec.shiftLeft_or_distrib, ← BitVec.shiftLeft_add, BitVec.zero_shiftLeft, BitVec.zero_or, Nat.add_zero, Nat.reduceAdd]
def sh (V : Nat → BitVec 32) (j : Nat) : Nat → BitVec 32 := fun i => if i ≤ j then V i else V (i - 1)

set_option maxHeartbeats 8000000 in
theorem refsum_c {w : World} {H : Heap} {a : Option Addr} {l lc : Nat} {L : List UInt8} (hw : w.heap = H) (hL : Cells H a (byteCells L)) (hl : l = L.length) (hlen : L.length < 140737488351233) :
    CallF P F_r01_Sum #[.slice a l lc] w fun e w' => e = .returned (arr (Sha.sum L)) ∧ Ext [] H w'.heap := by
  subst hl
  refine fn_r01_Sum ?_
  unfold T_r01_Sum
  refine newB_h hw fun w1 hw1 => ?_
  generalize hH1 : H.push (Obj.cells (zc P y_api_Digest) y_api_Digest (0, 0)) = H1 at *
  have hs1 : H1.size = H.size + 1 := by rw [← hH1]; simp
  have hx1 : Ext [] H H1 := by rw [← hH1]; exact .push _
  have h2 : H1[H.size]? = some (.cells (zc P y_api_Digest) y_api_Digest (0, 0)) := by rw [← hH1]; exact push_new
  refine genL_of (s := .slc) (some ⟨H1.size, 0, none⟩, 0, 0) { w1 with heap := H1.push (.cells #[] y_uint8) } (by rw [← hw1]; kernel_rfl) ?_
  have hxp : Ext [] H1 (H1.push (.cells #[] y_uint8)) := .push _
  have hO : Mine (H1.push (.cells #[] y_uint8)) H1.size y_uint8 1 (some ⟨H1.size, 0, none⟩, 0, 0) [] := .inr ⟨H1.size, #[], rfl, Nat.le_refl _, push_new, rfl, rfl, Nat.le_refl _, rfl⟩
  refine append22 (w := { w1 with heap := H1.push (.cells #[] y_uint8) }) rfl hO (by simp) (Src.slc rfl ((hL.ext hx1 (by simp)).ext hxp (by simp)) (by simp [byteCells])) one_byteCells (by simp only; omega) ?_
  intro x2 w2 hO2 hl2 hx2 hm2
  simp only [Nat.zero_add] at hl2
  rw [List.nil_append] at hO2
  have hx12 : Ext [] H1 w2.heap := hxp.own hx2 (by intro b hb; simp [ownM] at hb; omega)
  refine push_byte 128 rfl rfl hx12 (Nat.le_refl _) hO2 hx12.1 hl2 (by omega) ?_
  intro x3 w3 hO3 hl3 hx3 hB3
  -- the noughts
  refine loopP_ix (fun m (x : Option Addr × Nat × Nat) w => ∃ (j : Nat), j + m = (119 - L.length % 64) % 64 ∧ Mine w.heap H1.size y_uint8 1 x (byteCells (L ++ [128] ++ List.replicate j 0)) ∧ x.2.1 = L.length + 1 + j ∧ Ext [] H1 w.heap ∧ H1.size ≤ w.heap.size)
    ((119 - L.length % 64) % 64) ⟨0, by omega, by simpa using hO3, by simpa using hl3, hx3, hB3⟩ ?_
  clear hO3 hl3 hx3 hB3 hx12 hx2 hm2 hO2 hl2
  rintro m x4 w4 ⟨j, hj, hO4, hl4, hx4, hB4⟩ K hK
  have hlj : (L ++ [128] ++ List.replicate j (0 : UInt8)).length = L.length + 1 + j := by simp only [List.length_append, List.length_singleton, List.length_replicate]
  refine remI_n (L.length + 1 + j) 64 (by rw [hl4]) rfl (by omega) ?_
  refine iteP_ne (fun hne => ?_) (fun h56 => ?_)
  · have hjlt : j < (119 - L.length % 64) % 64 := by omega
    refine push_byte 0 rfl rfl hx4 (Nat.le_refl _) hO4 hB4 (by rw [hl4, hlj]) (by rw [hlj]; omega) ?_
    intro x5 w5 hO5 hl5 hx5 hB5
    have hrep : L ++ [128] ++ List.replicate j 0 ++ [0] = L ++ [128] ++ List.replicate (j + 1) 0 := by
      rw [List.append_assoc, ← List.replicate_succ']
    rw [hrep] at hO5
    refine hK (m - 1) _ _ (by omega) ⟨j + 1, by omega, hO5, ?_, hx5, hB5⟩
    rw [hl5, List.length_append, hlj]; simp; omega
  have hjz : j = (119 - L.length % 64) % 64 := by omega
  subst hjz
  clear hK K h56 hj
  refine cvI_u64 (by omega) (by omega) ?_
  refine mul64u ((8 * L.length : Nat) : Int) (by omega) (by omega) (by omega) ?_
  generalize hD : L ++ [128] ++ List.replicate ((119 - L.length % 64) % 64) (0 : UInt8) = D at *
  -- the size
  refine loopP_of (fun (s : (Option Addr × Nat × Nat) × Int) w => ∃ (i : Nat), s.2 = (i : Int) ∧ i ≤ 8 ∧ Mine w.heap H1.size y_uint8 1 s.1 (byteCells (D ++ (Sha.be8 (L.length * 8)).take i)) ∧ s.1.2.1 = D.length + i ∧ Ext [] H1 w.heap ∧ H1.size ≤ w.heap.size)
    (fun s _ => (8 - s.2).toNat) ⟨0, rfl, by omega, by simpa using hO4, by rw [hl4, hlj]; rfl, hx4, hB4⟩ ?_
  clear hO4 hl4 hx4 hB4
  rintro ⟨x5, _⟩ w5 ⟨i, rfl, hi, hO5, hl5, hx5, hB5⟩
  have hli : (D ++ (Sha.be8 (L.length * 8)).take i).length = D.length + i := by simp [Sha.be8]; omega
  refine iteP_dec (fun hlt => ?_) (fun hge => ?_)
  · have hlt : i < 8 := by simp only at hlt; omega
    refine mulI_to ((8 * i : Nat) : Int) (by simp only; omega) (by omega) (by omega) ?_
    refine subI_to ((56 - 8 * i : Nat) : Int) (by omega) (by omega) (by omega) ?_
    refine cvI_u64 (by omega) (by omega) ?_
    refine shr64 (56 - 8 * i) rfl (by omega) ?_
    refine cv8 ?_
    refine push_byte (UInt8.ofNat (8 * L.length / 2 ^ (56 - 8 * i))) rfl rfl hx5 (Nat.le_refl _) hO5 hB5 (by rw [hli]; exact hl5) (by rw [hli]; omega) ?_
    intro x6 w6 hO6 hl6 hx6 hB6
    have ht : (Sha.be8 (L.length * 8)).take i ++ [UInt8.ofNat (8 * L.length / 2 ^ (56 - 8 * i))] = (Sha.be8 (L.length * 8)).take (i + 1) := by
      rw [List.take_add_one, show (Sha.be8 (L.length * 8))[i]? = some (UInt8.ofNat (8 * L.length / 2 ^ (56 - 8 * i))) from by simp [Sha.be8, hlt, Nat.mul_comm]]
      rfl
    rw [List.append_assoc, ht] at hO6
    refine addI_to ((i + 1 : Nat) : Int) (by simp only; omega) (by omega) (by omega) ?_
    refine ⟨⟨i + 1, rfl, by omega, hO6, ?_, hx6, hB6⟩, by simp only; omega⟩
    rw [hl6, List.length_append, hli]; simp; omega
  have hi8 : i = 8 := by simp only at hge; omega
  subst hi8
  clear hge hi
  have hpad : D ++ (Sha.be8 (L.length * 8)).take 8 = Sha.pad L := by
    rw [List.take_of_length_le (by simp [Sha.be8])]
    rw [← hD]; rfl
  rw [hpad] at hO5 hli
  simp only at hl5
  generalize hM : Sha.pad L = M at *
  have hM64 : M.length % 64 = 0 := by rw [hli]; omega
  have hlM : M.length < 140737488351233 + 200 := by rw [hli]; omega
  obtain ⟨xa, xl, xc⟩ := x5
  obtain ⟨bb, o, cm, Tm, frm, hxa, hbm, hcm, hbs⟩ := hO5.cells.bytes (by intro h; rw [h] at hli; simp at hli)
  simp only at hl5 hxa
  obtain rfl : xl = M.length := by omega
  subst hxa
  clear hO5
  generalize hHp : w5.heap = Hp at *
  have h2p := hx5.get h2 (by simp)
  have hxp0 : Ext [] H Hp := hx1.trans hx5
  have hs2 : H.size < Hp.size := lt_of_get h2p
  have hbmp := lt_of_get hbm
  clear hx5 hB5 hO hxp
  refine genQ_of (s := .any) _ (build65i w5) ?_
  refine newB_h hHp fun w6 hw6 => ?_
  refine storeVar_h (size65.trans (by simp [Value.cells])) (by simp [Value.cells]) one_W32 hw6 push_new (by rw [zc65]; simp [Value.cells]) fun w7 hw7 => ?_
  rw [show setCells (zc P y_8_uint32) 0 (Value.cells (.agg (W32 Sha.init 8))).toList = W32 Sha.init 8 from by rw [setCells_all (by rw [zc65]; simp [Value.cells])]; simp [Value.cells]] at hw7
  refine newB_h hw7 fun w8 hw8 => ?_
  generalize hb7 : ((Hp.push (Obj.cells (zc P y_8_uint32) y_8_uint32 (0, 0))).setIfInBounds Hp.size (.cells (W32 Sha.init 8) y_8_uint32 (0, 0))).size = b7 at *
  have hb7' : b7 = Hp.size + 1 := by rw [← hb7]; simp
  generalize hH8 : ((Hp.push (Obj.cells (zc P y_8_uint32) y_8_uint32 (0, 0))).setIfInBounds Hp.size (.cells (W32 Sha.init 8) y_8_uint32 (0, 0))).push (Obj.cells (zc P y_64_uint32) y_64_uint32 (0, 0)) = H8 at *
  have hx8 : Ext [] Hp H8 := by rw [← hH8]; exact ((Ext.push _).set_own (.inl (Nat.le_refl _))).push_own
  have h6 : H8[Hp.size]? = some (.cells (W32 Sha.init 8) y_8_uint32 (0, 0)) := by rw [← hH8]; exact push_old (set_new push_new)
  have h7 : H8[b7]? = some (.cells (zc P y_64_uint32) y_64_uint32 (0, 0)) := by rw [← hH8, ← hb7]; exact push_new
  -- the blocks
  refine loopP_of (fun s w => ∃ (k : Nat) (H' : Heap) (c6 c7 : Array Value), s = ((64 * k : Nat) : Int) ∧ k ≤ M.length / 64 ∧ w.heap = H' ∧ Ext [] Hp H' ∧ H'[Hp.size]? = some (.cells c6 y_8_uint32 (0, 0)) ∧ c6.size = 8 ∧ Words c6 0 (Sha.blocks M k) 8 ∧
      H'[b7]? = some (.cells c7 y_64_uint32 (0, 0)) ∧ c7.size = 64)
    (fun s _ => ((M.length : Int) - s).toNat) ⟨0, _, _, _, rfl, by omega, hw8, hx8, h6, by simp, words_W32, h7, by rw [zc66]; simp⟩ ?_
  clear hx8 h6 h7 hw8 hH8 hw7 hw6 hb7
  rintro _ w9 ⟨k, H9, c6, c7, rfl, hk, hw9, hx9, h6, hs6, hV6, h7, hs7⟩
  refine iteP_dec (fun hlt => ?_) (fun hge => ?_)
  · have hk : 64 * k + 64 ≤ M.length := by simp only at hlt; omega
    clear hlt
    generalize hf : (fun j => Sha.nth M (64 * k + j)) = f
    have hfa : ∀ j, Sha.nth M (64 * k + j) = f j := fun j => by rw [← hf]
    -- the schedule
    refine loopP_of (fun s w => ∃ (t : Nat) (H' : Heap) (c7 : Array Value), s = (t : Int) ∧ t ≤ 64 ∧ w.heap = H' ∧ Ext [b7] H9 H' ∧ H'[b7]? = some (.cells c7 y_64_uint32 (0, 0)) ∧ c7.size = 64 ∧ Words c7 0 (Sha.W (Sha.word f)) t)
      (fun s _ => (64 - s).toNat) ⟨0, _, _, rfl, by omega, hw9, .refl _ _, h7, hs7, fun i hi => by omega⟩ ?_
    clear h7 hs7 hw9 c7
    rintro _ w10 ⟨t, H10, c7, rfl, ht, hw10, hx10, h7, hs7, hW⟩
    refine iteP_dec (fun hlt => ?_) (fun hge => ?_)
    · have hlt : t < 64 := by omega
      refine joinP_in ?_
      refine joinP_in ?_
      refine iteP_dec (fun hlt16 => ?_) (fun hge16 => ?_)
      · have hlt16 : t < 16 := by omega
        refine ixR_0 t rfl (by omega) ?_
        refine stC_h hw10 h7 (by omega) fun w11 hw11 => ?_
        refine loopP_of (fun s w => ∃ (j : Nat) (H' : Heap) (c7 : Array Value), s = (j : Int) ∧ j ≤ 4 ∧ w.heap = H' ∧ Ext [b7] H9 H' ∧ H'[b7]? = some (.cells c7 y_64_uint32 (0, 0)) ∧ c7.size = 64 ∧ Words c7 0 (Sha.W (Sha.word f)) t ∧ c7[t]? = some (.int .u32 ((pw f t j).toNat : Int)))
          (fun s _ => (4 - s).toNat) ⟨0, _, _, rfl, by omega, hw11, hx10.set_own (.inr (by simp)), set_new h7, by simpa using hs7, (hW.put t (by omega) 0).congr (fun i hi => by simp only [if_neg (show ¬ i = t by omega)]), by simp [pw, show t < c7.size by omega]⟩ ?_
        clear hw11 hw10 hx10 h7 hs7 hW c7
        rintro _ w12 ⟨j, H12, c7, rfl, hj, hw12, hx12, h7, hs7, hW, hpw⟩
        refine iteP_dec (fun hltj => ?_) (fun hgej => ?_)
        · have hltj : j < 4 := by omega
          refine drewP_h hw12 fun w13 hw13 => ?_
          refine ixR_0 t rfl (by omega) ?_
          refine mulI_to ((4 * t : Nat) : Int) (by omega) (by omega) (by omega) ?_
          refine addI_to ((64 * k + 4 * t : Nat) : Int) (by omega) (by omega) (by omega) ?_
          refine addI_to ((64 * k + 4 * t + j : Nat) : Int) (by omega) (by omega) (by omega) ?_
          refine ixS_1 (64 * k + 4 * t + j) rfl (by simp only; omega) ?_
          refine ld_h hw13 h7 hpw ?_
          refine shlW _ 8 rfl (by omega) ?_
          refine ld_h hw13 ((hx12.get (hx9.get hbm (by simp)) (by simp; omega))) (hbs (64 * k + 4 * t + j) (by omega)) ?_
          refine cvB ?_
          refine orW _ _ ?_
          refine ixR_0 t rfl (by omega) ?_
          refine stC_h hw13 h7 (by omega) fun w14 hw14 => ?_
          refine addI_to ((j + 1 : Nat) : Int) (by omega) (by omega) (by omega) ?_
          refine ⟨⟨j + 1, _, _, rfl, by omega, hw14, hx12.set_own (.inr (by simp)), set_new h7, by simpa using hs7, (hW.put t (by omega) _).congr (fun i hi => by simp only [if_neg (show ¬ i = t by omega)]), ?_⟩, by omega⟩
          have hfj : f (4 * t + j) = M.getD (64 * k + 4 * t + j) 0 := by rw [← hfa, Nat.add_assoc]; rfl
          rw [Array.getElem?_setIfInBounds_self_of_lt (by omega)]
          simp only [pw, hfj]
        have hj4 : j = 4 := by omega
        subst hj4
        refine addI_to ((t + 1 : Nat) : Int) (by omega) (by omega) (by omega) ?_
        refine ⟨⟨t + 1, _, _, rfl, by omega, hw12, hx12, h7, hs7, ?_⟩, by omega⟩
        intro i hi
        by_cases hit : i < t
        · exact hW i hit
        · obtain rfl : i = t := by omega
          rw [Nat.zero_add, hpw, pw_word, Sha.W_lt hlt16]
      · refine subI_to ((t - 2 : Nat) : Int) (by omega) (by omega) (by omega) ?_
        refine ixR_0 (t - 2) rfl (by omega) ?_
        refine ld_h hw10 h7 (hW.at (t - 2) (by omega)) ?_
        refine subI_to ((t - 15 : Nat) : Int) (by omega) (by omega) (by omega) ?_
        refine ixR_0 (t - 15) rfl (by omega) ?_
        refine ld_h hw10 h7 (hW.at (t - 15) (by omega)) ?_
        refine drewP_h hw10 fun w11 hw11 => ?_
        refine shrW _ 10 rfl (by omega) ?_
        refine subI_to ((t - 7 : Nat) : Int) (by omega) (by omega) (by omega) ?_
        refine ixR_0 (t - 7) rfl (by omega) ?_
        refine shrW _ 3 rfl (by omega) ?_
        refine subI_to ((t - 16 : Nat) : Int) (by omega) (by omega) (by omega) ?_
        refine ixR_0 (t - 16) rfl (by omega) ?_
        refine callQ_of (l := [.int .u32]) _ (turn_c _ 17 rfl (by omega) (by omega) _) ?_
        refine callQ_of (l := [.int .u32]) _ (turn_c _ 19 rfl (by omega) (by omega) _) ?_
        refine xorW _ _ ?_
        refine xorW _ _ ?_
        refine ld_h hw11 h7 (hW.at (t - 7) (by omega)) ?_
        refine addW _ _ ?_
        refine callQ_of (l := [.int .u32]) _ (turn_c _ 7 rfl (by omega) (by omega) _) ?_
        refine callQ_of (l := [.int .u32]) _ (turn_c _ 18 rfl (by omega) (by omega) _) ?_
        refine xorW _ _ ?_
        refine xorW _ _ ?_
        refine addW _ _ ?_
        refine ld_h hw11 h7 (hW.at (t - 16) (by omega)) ?_
        refine addW _ _ ?_
        refine ixR_0 t rfl (by omega) ?_
        refine stC_h hw11 h7 (by omega) fun w12 hw12 => ?_
        refine addI_to ((t + 1 : Nat) : Int) (by omega) (by omega) (by omega) ?_
        refine ⟨⟨t + 1, _, _, rfl, by omega, hw12, hx10.set_own (.inr (by simp)), set_new h7, by simpa using hs7, ?_⟩, by omega⟩
        exact hW.snoc (by omega) (by rw [Sha.W_ge (show 16 ≤ t by omega)])
    have ht64 : t = 64 := by omega
    subst ht64
    clear hge ht
    have h6' := hx10.get h6 (by simp; omega)
    refine ldA_h hw10 h6' (by omega) ?_
    rw [hV6.extract (by omega)]
    refine newB_h hw10 fun w11 hw11 => ?_
    refine storeVar_h (size65.trans (by simp [Value.cells])) (by simp [Value.cells]) one_W32 hw11 push_new (by rw [zc65]; simp [Value.cells]) fun w12 hw12 => ?_
    rw [show setCells (zc P y_8_uint32) 0 (Value.cells (.agg (W32 (Sha.blocks M k) 8))).toList = W32 (Sha.blocks M k) 8 from by rw [setCells_all (by rw [zc65]; simp [Value.cells])]; simp [Value.cells]] at hw12
    have hb7l := lt_of_get h7
    generalize hs : Sha.blocks M k = s at *
    -- the rounds
    refine loopP_of (fun s' w => ∃ (t : Nat) (H' : Heap) (c8 : Array Value), s' = (t : Int) ∧ t ≤ 64 ∧ w.heap = H' ∧ Ext [] H10 H' ∧ H'[H10.size]? = some (.cells c8 y_8_uint32 (0, 0)) ∧ c8.size = 8 ∧ Words c8 0 (Sha.rnd (Sha.W (Sha.word f)) s t) 8)
      (fun s _ => (64 - s).toNat) ⟨0, _, _, rfl, by omega, hw12, (Ext.push _).set_own (.inl (Nat.le_refl _)), set_new push_new, by simp, words_W32⟩ ?_
    clear hw12 hw11
    rintro _ w13 ⟨t, H13, c8, rfl, ht, hw13, hx13, hc8, hs8, hV⟩
    refine iteP_dec (fun hlt => ?_) (fun hge => ?_)
    · have hlt : t < 64 := by omega
      have h7' := hx13.get h7 (by simp)
      generalize hVs : Sha.rnd (Sha.W (Sha.word f)) s t = V at *
      refine ld_h hw13 hc8 (hV.at 4 (by omega)) ?_
      refine ld_h hw13 hc8 (hV.at 0 (by omega)) ?_
      refine drewP_h hw13 fun w14 hw14 => ?_
      refine xorW_lit _ ?_
      refine ixR_0 t rfl (by omega) ?_
      refine ld_h hw14 hc8 (hV.at 7 (by omega)) ?_
      refine callQ_of (l := [.int .u32]) _ (turn_c _ 6 rfl (by omega) (by omega) _) ?_
      refine callQ_of (l := [.int .u32]) _ (turn_c _ 11 rfl (by omega) (by omega) _) ?_
      refine xorW _ _ ?_
      refine callQ_of (l := [.int .u32]) _ (turn_c _ 25 rfl (by omega) (by omega) _) ?_
      refine xorW _ _ ?_
      refine addW _ _ ?_
      refine ld_h hw14 hc8 (hV.at 5 (by omega)) ?_
      refine andW _ _ ?_
      refine ld_h hw14 hc8 (hV.at 6 (by omega)) ?_
      refine andW _ _ ?_
      refine xorW _ _ ?_
      refine addW _ _ ?_
      refine ld_h hw14 h7' (hW.at t (by omega)) ?_
      refine callF_of (l := [.int .u32]) (constant_c hw14 hlt) ?_
      rintro e w15 ⟨rfl, hx15⟩
      refine ⟨((Sha.K t).toNat : Int), rfl, ?_⟩
      generalize hH15 : w15.heap = H15 at *
      have hc15 := hx15.get hc8 (by simp)
      refine ⟨ld_h hH15 (hx15.get h7' (by simp)) (hW.at t (by omega)) rfl, ld_h hH15 hc15 (hV.at 6 (by omega)) rfl, ld_h hH15 hc15 (hV.at 5 (by omega)) rfl, ld_h hH15 hc15 (hV.at 7 (by omega)) rfl, ?_⟩
      refine addW _ _ ?_
      refine addW _ _ ?_
      refine drewP_h hH15 fun w16 hw16 => ?_
      refine callQ_of (l := [.int .u32]) _ (turn_c _ 2 rfl (by omega) (by omega) _) ?_
      refine callQ_of (l := [.int .u32]) _ (turn_c _ 13 rfl (by omega) (by omega) _) ?_
      refine xorW _ _ ?_
      refine callQ_of (l := [.int .u32]) _ (turn_c _ 22 rfl (by omega) (by omega) _) ?_
      refine xorW _ _ ?_
      refine ld_h hw16 hc15 (hV.at 1 (by omega)) ?_
      refine andW _ _ ?_
      refine ld_h hw16 hc15 (hV.at 2 (by omega)) ?_
      refine andW _ _ ?_
      refine xorW _ _ ?_
      refine ld_h hw16 hc15 (hV.at 1 (by omega)) ?_
      refine ld_h hw16 hc15 (hV.at 2 (by omega)) ?_
      refine andW _ _ ?_
      refine xorW _ _ ?_
      refine addW _ _ ?_
      -- all are moved on
      refine loopP_of (fun s' w => ∃ (j : Nat) (H' : Heap) (c8 : Array Value), s' = (j : Int) ∧ j ≤ 7 ∧ w.heap = H' ∧ Ext [] H10 H' ∧ H'[H10.size]? = some (.cells c8 y_8_uint32 (0, 0)) ∧ c8.size = 8 ∧ Words c8 0 (sh V j) 8)
        (fun s _ => s.toNat) ⟨7, _, _, rfl, by omega, hw16, hx13.trans hx15, hc15, hs8, hV.congr fun i hi => by simp only [sh, if_pos (show i ≤ 7 by omega)]⟩ ?_
      clear hc15 hw16 hx15 hx13 hc8 hs8 hV hH15 hw14 hw13 h7' c8
      rintro _ w17 ⟨j, H17, c8, rfl, hj, hw17, hx17, hc8, hs8, hV⟩
      refine iteP_dec (fun hltj => ?_) (fun hgej => ?_)
      · have hltj : 0 < j := by omega
        refine subI_to ((j - 1 : Nat) : Int) (by omega) (by omega) (by omega) ?_
        refine ixR_0 (j - 1) rfl (by omega) ?_
        refine ld_h hw17 hc8 (hV.at (j - 1) (by omega)) ?_
        refine ixR_0 j rfl (by omega) ?_
        refine stC_h hw17 hc8 (by omega) fun w18 hw18 => ?_
        refine subI_to ((j - 1 : Nat) : Int) (by omega) (by omega) (by omega) ?_
        refine ⟨⟨j - 1, _, _, rfl, by omega, hw18, hx17.set_own (.inl (Nat.le_refl _)), set_new hc8, by simpa using hs8, (hV.put j (by omega) _).congr fun i hi => ?_⟩, by omega⟩
        simp only [sh]
        by_cases e : i = j
        · subst e; simp only [if_true, if_pos (show i - 1 ≤ i by omega), if_neg (show ¬ i ≤ i - 1 by omega)]
        · simp only [if_neg e]
          by_cases e2 : i ≤ j
          · rw [if_pos e2, if_pos (by omega)]
          · rw [if_neg e2, if_neg (by omega)]
      have hj0 : j = 0 := by omega
      subst hj0
      refine ld_h hw17 hc8 (hV.at 4 (by omega)) ?_
      refine addW _ _ ?_
      refine stC_h hw17 hc8 (by omega) fun w18 hw18 => ?_
      refine addW _ _ ?_
      refine stC_h hw18 (set_new hc8) (by simp; omega) fun w19 hw19 => ?_
      rw [set_set] at hw19
      refine addI_to ((t + 1 : Nat) : Int) (by omega) (by omega) (by omega) ?_
      refine ⟨⟨t + 1, _, _, rfl, by omega, hw19, hx17.set_own (.inl (Nat.le_refl _)), set_new hc8, by simpa using hs8, ((hV.put 4 (by omega) _).put 0 (by simp; omega) _).congr fun i hi => ?_⟩, by omega⟩
      simp only [Sha.rnd, hVs]
      match i, hi with
      | 0, _ => rfl
      | 1, _ => rfl
      | 2, _ => rfl
      | 3, _ => rfl
      | 4, _ => rfl
      | 5, _ => rfl
      | 6, _ => rfl
      | 7, _ => rfl
    have ht64 : t = 64 := by omega
    subst ht64
    clear hge ht
    have h613 := hx13.get h6' (by simp)
    have hne : Hp.size ≠ H10.size := by have := lt_of_get h6'; omega
    have hx913 : Ext [] Hp H13 := hx9.own (hx10.trans (hx13.mono (by simp))) (by simp; omega)
    have h713 := hx13.get h7 (by simp)
    -- the sum
    refine loopP_of (fun s' w => ∃ (t : Nat) (H' : Heap) (c' : Array Value), s' = (t : Int) ∧ t ≤ 8 ∧ w.heap = H' ∧ Ext [] Hp H' ∧ H'[Hp.size]? = some (.cells c' y_8_uint32 (0, 0)) ∧ c'.size = 8 ∧ H'[H10.size]? = some (.cells c8 y_8_uint32 (0, 0)) ∧
        Words c' 0 (Sha.comp s (Sha.word f)) t ∧ (∀ i, t ≤ i → c'[i]? = c6[i]?) ∧ H'[b7]? = some (.cells c7 y_64_uint32 (0, 0)))
      (fun s _ => (8 - s).toNat) ⟨0, _, _, rfl, by omega, hw13, hx913, h613, hs6, hc8, fun i hi => by omega, fun i _ => rfl, h713⟩ ?_
    rintro _ w14 ⟨t, H14, c', rfl, ht, hw14, hx14, hH14, hsz14, hc84, hV14, hold, h714⟩
    refine iteP_dec (fun hlt => ?_) (fun hge => ?_)
    · have hlt : t < 8 := by omega
      refine drewP_h hw14 fun w15 hw15 => ?_
      refine ixR_0 t rfl (by omega) ?_
      refine ixR_0 t rfl (by omega) ?_
      refine ld_h hw15 hH14 ((hold t (Nat.le_refl _)).trans (hV6.at t (by omega))) ?_
      refine ld_h hw15 hc84 (hV.at t (by omega)) ?_
      refine addW _ _ ?_
      refine ixR_0 t rfl (by omega) ?_
      refine stC_h hw15 hH14 (by omega) fun w16 hw16 => ?_
      refine addI_to ((t + 1 : Nat) : Int) (by omega) (by omega) (by omega) ?_
      refine ⟨⟨t + 1, _, _, rfl, by omega, hw16, hx14.set_own (.inl (Nat.le_refl _)), set_new hH14, by simpa using hsz14, set_old hc84 (Ne.symm hne), hV14.snoc (by omega) rfl, ?_, set_old h714 (by omega)⟩, by omega⟩
      intro i hi
      rw [Array.getElem?_setIfInBounds_ne (by omega)]
      exact hold i (by omega)
    have ht8 : t = 8 := by omega
    subst ht8
    refine addI_to ((64 * (k + 1) : Nat) : Int) (by omega) (by omega) (by omega) ?_
    refine ⟨⟨k + 1, _, _, _, rfl, by omega, hw14, hx14, hH14, hsz14, ?_, h714, hs7⟩, by omega⟩
    simp only [Sha.blocks, hs, hf]
    exact hV14
  -- the digest
  have hkM : k = M.length / 64 := by simp only at hge; omega
  subst hkM
  refine newB_h hw9 fun w10 hw10 => ?_
  generalize hs : Sha.blocks M (M.length / 64) = s at *
  refine loopP_of (fun s' w => ∃ (i : Nat) (H' : Heap) (c7 : Array Value), s' = (i : Int) ∧ i ≤ 32 ∧ w.heap = H' ∧ Ext [] H9 H' ∧ H'[H9.size]? = some (.cells c7 y_api_Digest (0, 0)) ∧ c7.size = 32 ∧ Bytes c7 0 (Sha.out s) i)
    (fun s _ => (32 - s).toNat) ⟨0, _, _, rfl, by omega, hw10, .push _, push_new, by rw [zc27]; simp, fun i hi => by omega⟩ ?_
  rintro _ w11 ⟨i, H11, c9, rfl, hi, hw11, hx11, hp11, hsz11, hB11⟩
  refine iteP_dec (fun hlt => ?_) (fun hge => ?_)
  · have hlt : i < 32 := by omega
    refine quoI_n i 4 rfl rfl (by omega) (by omega) ?_
    refine ixR_0 (i / 4) rfl (by omega) ?_
    refine ld_h hw11 (hx11.get h6 (by simp)) (hV6.at (i / 4) (by omega)) ?_
    refine remI_n i 4 rfl rfl (by omega) ?_
    refine mulI_to ((8 * (i % 4) : Nat) : Int) (by omega) (by omega) (by omega) ?_
    refine subI_to ((24 - 8 * (i % 4) : Nat) : Int) (by omega) (by omega) (by omega) ?_
    refine cvI_u64 (by omega) (by omega) ?_
    refine shrW _ (24 - 8 * (i % 4)) rfl (by omega) ?_
    refine cvL _ ?_
    refine ixR_0 i rfl (by omega) ?_
    refine stC_h hw11 hp11 (by omega) fun w12 hw12 => ?_
    refine addI_to ((i + 1 : Nat) : Int) (by omega) (by omega) (by omega) ?_
    exact ⟨⟨i + 1, _, _, rfl, by omega, hw12, hx11.set_own (.inl (Nat.le_refl _)), set_new hp11, by simpa using hsz11, hB11.snoc (by omega) rfl⟩, by omega⟩
  have hi32 : i = 32 := by omega
  subst hi32
  refine ldA_all hw11 hp11 hsz11 ?_
  have hc7 : c9 = B8 (Sha.out s) 32 := by
    have := hB11.extract (by omega)
    rw [← this]
    exact (Array.extract_eq_self_of_le (by omega)).symm
  subst hc7
  have h211 : H11[H.size]? = some (.cells (zc P y_api_Digest) y_api_Digest (0, 0)) := hx11.get (hx9.get h2p (by simp)) (by simp)
  refine storeVar_h (size27.trans (by simp [Value.cells])) (by simp [Value.cells]) one_B8 hw11 h211 (by rw [zc27]; simp [Value.cells]) fun w12 hw12 => ?_
  rw [show setCells (zc P y_api_Digest) 0 (Value.cells (.agg (B8 (Sha.out s) 32))).toList = B8 (Sha.out s) 32 from by rw [setCells_all (by rw [zc27]; simp [Value.cells])]; simp [Value.cells]] at hw12
  refine ldA_all hw12 (set_new h211) (by simp) ?_
  refine ⟨?_, ?_⟩
  · unfold arr Sha.sum B8 byteCells
    rw [hM, hs]
    simp
  · rw [hw12]
    exact ((hxp0.trans hx9).trans hx11).set_own (.inl (Nat.le_refl _))
end Go.Proofs.YtkolbfjheleoaaaDoor
