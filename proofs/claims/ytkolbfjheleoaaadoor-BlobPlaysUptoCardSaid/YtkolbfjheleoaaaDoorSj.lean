/- The contract of BlobBack. -/
import Derived.Test.YtkolbfjheleoaaaDoorSi
namespace Go.Proofs.YtkolbfjheleoaaaDoor
open Go Go.Fw Go.Proofs

theorem sl_len {H : Heap} {B : Nat} {x : Option Addr × Nat × Nat} {L : List UInt8} (h : Mine H B y_uint8 1 x (byteCells L)) : x.2.1 = L.length := by
  have := h.len; rw [length_byteCells] at this; omega

set_option maxHeartbeats 8000000 in
theorem back_c {w : World} {H : Heap} {a : Option Addr} {l lc : Nat} {L : List UInt8} {at_ : Int} {t : UInt8} (hw : w.heap = H) (hR : Rounds H) (hL : Cells H a (byteCells L)) (hl : l = L.length) (hc : l ≤ lc) :
    CallF P F_l05_BlobBack #[.slice a l lc, .int .i64 at_, .int .u8 (t.toNat : Int)] w fun e w' => e = .returned (.bool true) ∧ Ext [] H w'.heap := by
  subst hl
  have hH0 : 0 < H.size := by obtain ⟨_, _, _, h, _⟩ := hR; exact lt_of_get h
  refine fn_l05_BlobBack ?_
  unfold T_l05_BlobBack
  refine callF_of (awake_c hw hR) ?_
  rintro e w1 ⟨rfl, hx1⟩
  refine ⟨true, rfl, ?_⟩
  refine iteP_f rfl ?_
  refine callF_of (new59_c 8192 rfl) ?_
  rintro e w2 ⟨p, fp, rfl, hS, hx2, hfp⟩
  refine ⟨some ⟨p, 0, none⟩, rfl, ?_⟩
  have hx02 := hx1.trans hx2
  have hfp1 : ∀ b ∈ fp, H.size ≤ b := fun b hb => Nat.le_trans hx1.1 (hfp b hb).1
  have hfp2 : ∀ b ∈ fp, b < w2.heap.size := fun b hb => (hfp b hb).2
  clear hx1 hx2 hfp
  generalize hH2 : w2.heap = H2 at *
  refine callF_of (put_c (L := L) hH2 hS hfp2 (hR.ext hx02 (by simp)) (fun h => by have := hfp1 0 h; omega) (hL.ext hx02 (by simp)) rfl hc (fun hne y hy h => by have := hfp1 _ h; obtain ⟨z, hz, hlt⟩ := hL.lt (by simpa [byteCells] using hne); rw [hy] at hz; cases hz; omega) (by simp [total]) (by decide) (by decide) (by intro k L h; simp [vget, mget] at h)) ?_
  rintro e w3 ⟨code, r1, c1, fp1, rfl, hS3, hx3, hfl3, hsub3, hres, _⟩
  refine ⟨(arr (if code = 0 then Sha.sum L else nought), code), rfl, ?_⟩
  have hx03 : Ext [] H w3.heap := hx02.own hx3 (by intro b hb hlt; have := hfp1 b hb; omega)
  have hg3 : ∀ b ∈ fp1, H.size ≤ b := fun b hb => by rcases hsub3 b hb with h | h; exact hfp1 b h; exact Nat.le_trans hx02.1 h
  clear hsub3 hx3
  generalize hH3 : w3.heap = H3 at *
  by_cases hbig : 4096 < L.length
  · obtain ⟨rfl, hr1⟩ := put_long hres hbig
    rw [hr1] at hS3
    refine var27 hH3 len_nought fun w4 hb4 hx4 hs4 => ?_
    refine iteP_t (by simp only [decide_eq_true_eq]; omega) ?_
    refine iteP_t rfl ?_
    refine callF_of (count_c rfl (hS3.ext hx4 (by simp))) ?_
    rintro e w5 ⟨rfl, rfl⟩
    refine ⟨0, rfl, ?_⟩
    refine iteP_t rfl ?_
    refine ldA_all rfl hb4 (by simp [byteCells, nought]) ?_
    refine genQ_of (s := .any) (arr nought) (b27 _) ?_
    refine genQ_of (s := .bool) _ (eqM_arr u27 u5 c5 g27 len_nought len_nought) ?_
    exact ⟨by simp, hx03.trans hx4⟩
  have hsm : L.length ≤ 4096 := by omega
  obtain ⟨rfl, hv1⟩ := put_new hres hsm rfl (by simp [total]; omega)
  obtain ⟨ht1, hn1⟩ := one_view hS3.ok (k := Sha.sum L) (L := L) hv1
  have hv1' : vget r1 (Sha.sum L) = some L := by rw [hv1, if_pos rfl]
  refine var27 hH3 len_sum fun w4 hb4 hx4 hs4 => ?_
  generalize hH4 : w4.heap = H4 at *
  refine iteP_f (by simp only [decide_eq_false_iff_not]; omega) ?_
  refine ldA_all hH4 hb4 (by simp [byteCells, len_sum]) ?_
  have hx04 := hx03.trans hx4
  have hlen : L.length < 1099511627776 := by omega
  have hlv : ∀ {L' : List UInt8} {r : SM}, L'.length = L.length → vget r (Sha.sum L) = some L' → ∀ M, vget r (Sha.sum L) = some M → M.length < 1099511627776 := by
    intro L' r h1 h2 M h3; rw [h2] at h3; cases h3; omega
  refine callF_of (get_c (k := Sha.sum L) hH4 (hS3.ext hx4 (by simp)) len_sum (hR.ext hx04 (by simp)) (hlv rfl hv1')) ?_
  rintro e w5 ⟨x5, rfl, hx5, hgot, _⟩
  have hg0 : got (vget r1 (Sha.sum L)) (Sha.sum L) = 0 := by rw [hv1']; simp [got]
  obtain ⟨L5, hL5, hO5⟩ := hgot hg0
  rw [hv1', Option.some.injEq] at hL5
  subst hL5
  refine ⟨(x5, 0), by rw [hg0]; rfl, ?_⟩
  have hx05 := hx04.trans hx5
  have hb5 := hx5.get hb4 (by simp)
  have hS5 := (hS3.ext hx4 (by simp)).ext hx5 (by simp)
  have hfl5 : ∀ b ∈ fp1, b < H3.size := hfl3
  have hx35 := hx4.trans hx5
  clear hgot hx4 hx5 hx04 hS3
  generalize hH5 : w5.heap = H5 at *
  refine joinP_of (fun _ w => Ext [] H5 w.heap) ?_ ?_
  · refine drewP_h hH5 fun w6 hw6 => ?_
    refine iteP_f rfl ?_
    refine iteP_f rfl ?_
    refine genQ_of (s := .str) _ (convS_h u22 u5 u9 hw6 hO5.cells (show x5.2.1 = _ from sl_len hO5)) ?_
    refine genQ_of (s := .str) _ (convS_h u22 u5 u9 hw6 (hL.ext hx05 (by simp)) rfl) ?_
    refine iteP_f (by simp) ?_
    refine ldA_all hw6 hb5 (by simp [byteCells, len_sum]) ?_
    refine callF_of (refsum_c hw6 (hL.ext hx05 (by simp)) rfl (by omega)) ?_
    rintro e w7 ⟨rfl, hx7⟩
    refine ⟨arr (Sha.sum L), rfl, ?_⟩
    refine ⟨ldA_all rfl (hx7.get hb5 (by simp)) (by simp [byteCells, len_sum]) rfl, ?_⟩
    refine genQ_of (s := .bool) _ (neqM_arr u27 u5 c5 g27 len_sum len_sum) ?_
    refine iteP_f (by simp) ?_
    exact hx7
  rintro _ w6 hx6
  have hx06 := hx05.trans hx6
  have hb6 := hx6.get hb5 (by simp)
  have hS6 := hS5.ext hx6 (by simp)
  have hx36 := hx35.trans hx6
  clear hx05 hS5 hx6 hx35 hO5 hb5
  generalize hH6 : w6.heap = H6 at *
  refine ldA_all hH6 hb6 (by simp [byteCells, len_sum]) ?_
  refine callF_of (spoil_c (k := Sha.sum L) (at_ := at_) (t := t) hH6 hS6 len_sum) ?_
  rintro e w7 ⟨rfl, r2, hS7, hx7, ht2, hn2, hv2⟩
  refine ⟨spoilCode (vget r1 (Sha.sum L)) at_ t, rfl, ?_⟩
  have h3fp : H3.size ∉ fp1 := fun h => by have := hfl5 _ h; omega
  have hb7 := hx7.get hb6 h3fp
  have hx07 := hx06.own hx7 (by intro b hb hlt; have := hg3 b hb; omega)
  have hfl7 : ∀ b ∈ fp1, b < w7.heap.size := fun b hb => Nat.lt_of_lt_of_le (hfl5 b hb) (Nat.le_trans hx36.1 hx7.1)
  clear hx7 hx06 hS6 hb6
  generalize hH7 : w7.heap = H7 at *
  rw [hv1'] at hv2 ⊢
  -- nothing is changed
  have same : (at_ < 0 ∨ (L.length : Int) ≤ at_ ∨ t = 0) → (ldA P 32 (⟨H3.size, 0, none⟩ : Addr) w7 fun t85 =>
      callF P F_blob_Store_Get #[(Value.pointer (some ⟨p, 0, none⟩)), (Value.agg t85)] [.slc, .int .i64] true w7 fun (t86 : ((Option Addr × Nat × Nat) × Int)) w_12 =>
      iteP (spoilCode (some L) at_ t == 1) (
      iteP (t86.2 == 0) (
      genQ P (convert y_S_uint8 y_string (Value.slice t86.1.1 t86.1.2.1 t86.1.2.2)) .str w_12 fun (t97 : ByteArray) =>
      genQ P (convert y_S_uint8 y_string (Value.slice a L.length lc)) .str w_12 fun (t99 : ByteArray) =>
      (Ending.returned (Value.bool (t97.toList == t99.toList))) = .returned (.bool true) ∧ Ext [] H w_12.heap) (
      (Ending.returned (Value.bool false)) = .returned (.bool true) ∧ Ext [] H w_12.heap)) (
      (Ending.returned (Value.bool false)) = .returned (.bool true) ∧ Ext [] H w_12.heap)) := by
    intro h
    have hs : spoilCode (some L) at_ t = 1 := by simp only [spoilCode, if_pos h]
    rw [hs] at hv2 ⊢
    have hv3 : vget r2 (Sha.sum L) = some L := by rw [hv2]; simp [hv1']
    refine ldA_all hH7 hb7 (by simp [byteCells, len_sum]) ?_
    refine callF_of (get_c (k := Sha.sum L) hH7 hS7 len_sum (hR.ext hx07 (by simp)) (hlv rfl hv3)) ?_
    rintro e w8 ⟨x8, rfl, hx8, hgot, _⟩
    have hg0 : got (vget r2 (Sha.sum L)) (Sha.sum L) = 0 := by rw [hv3]; simp [got]
    obtain ⟨L8, hL8, hO8⟩ := hgot hg0
    rw [hv3, Option.some.injEq] at hL8
    subst hL8
    refine ⟨(x8, 0), by rw [hg0]; rfl, ?_⟩
    refine iteP_t rfl ?_
    refine iteP_t rfl ?_
    refine genQ_of (s := .str) _ (convS_h u22 u5 u9 rfl hO8.cells (show x8.2.1 = _ from sl_len hO8)) ?_
    refine genQ_of (s := .str) _ (convS_h u22 u5 u9 rfl (hL.ext (hx07.trans hx8) (by simp)) rfl) ?_
    exact ⟨by simp, hx07.trans hx8⟩
  refine joinP_in ?_
  refine iteP_dec (fun h => same (.inl h)) (fun ha0 => ?_)
  refine iteP_dec (fun h => same (.inr (.inl h))) (fun hal => ?_)
  refine iteP_eq (fun h => same (.inr (.inr (UInt8.toNat_inj.1 (by simpa using h))))) (fun ht0 => ?_)
  clear same
  obtain ⟨i, rfl⟩ : ∃ i : Nat, at_ = (i : Int) := ⟨at_.toNat, by omega⟩
  have hil : i < L.length := by omega
  have hs0 : spoilCode (some L) (i : Int) t = 0 := by
    simp only [spoilCode]
    rw [if_neg]
    rintro (h | h | h)
    · omega
    · omega
    · subst h; exact ht0 rfl
  rw [hs0] at hv2 ⊢
  generalize hL' : spoilt L (i : Int) t = L' at *
  have hll : L'.length = L.length := by rw [← hL']; simp [spoilt]
  have hv3 : vget r2 (Sha.sum L) = some L' := by rw [hv2]; simp [hL']
  -- a copy is changed
  refine genL_of (s := .slc) (some ⟨H7.size, 0, none⟩, 0, 0) { w7 with heap := H7.push (.cells #[] y_uint8) } (by rw [← hH7]; kernel_rfl) ?_
  have hxp : Ext [] H7 (H7.push (.cells #[] y_uint8)) := .push _
  have hOp : Mine (H7.push (.cells #[] y_uint8)) H7.size y_uint8 1 (some ⟨H7.size, 0, none⟩, 0, 0) [] := .inr ⟨H7.size, #[], rfl, Nat.le_refl _, push_new, rfl, rfl, Nat.le_refl _, rfl⟩
  refine append22 (w := { w7 with heap := H7.push (.cells #[] y_uint8) }) rfl hOp (by simp) (Src.slc rfl ((hL.ext hx07 (by simp)).ext hxp (by simp)) (by simp [byteCells])) one_byteCells (by simp only; omega) ?_
  intro x8 w8 hO8 hl8 hx8 _
  rw [List.nil_append] at hO8
  have hx78 : Ext [] H7 w8.heap := hxp.own hx8 (by intro b hb; simp [ownM] at hb; omega)
  clear hx8 hxp hOp
  generalize hH8 : w8.heap = H8 at *
  obtain ⟨bb, cc, hxa, hbb, hic, hci, hput⟩ := hO8.put (i := i) (by simpa using hil) (.int .u8 ((L.getD i 0 ^^^ t).toNat : Int))
  have hbbg : H7.size ≤ bb := ownM_ge hO8 bb (by simp [ownM, hxa])
  have hl8' : x8.2.1 = L.length := sl_len hO8
  obtain ⟨xa, xl, xc⟩ := x8
  simp only at hxa hl8' hl8
  subst hxa
  refine ixS_1 i rfl (by simp only; omega) ?_
  rw [Nat.zero_add]
  refine ld_h (t := ((L.getD i 0).toNat : Int)) hH8 hbb (by rw [hci, byteCells_get hil]; rfl) ?_
  refine xor8 _ _ ?_
  refine ixS_1 i rfl (by simp only; omega) ?_
  rw [Nat.zero_add]
  refine stC_h hH8 hbb hic fun w9 hw9 => ?_
  have hx79 : Ext [] H7 w9.heap := by rw [hw9]; exact hx78.set_own (.inl hbbg)
  rw [← hw9, show (byteCells L).set i (.int .u8 ((L.getD i 0 ^^^ t).toNat : Int)) = byteCells L' from by rw [← hL']; simp only [spoilt, byteCells, Int.toNat_natCast, List.map_set]] at hput
  clear hw9
  generalize hH9 : w9.heap = H9 at *
  refine drewP_h hH9 fun w10 hw10 => ?_
  have hb9 := hx79.get hb7 (by simp)
  refine ldA_all hw10 hb9 (by simp [byteCells, len_sum]) ?_
  refine callF_of (refsum_c hw10 hput.cells (by rw [hll]; exact hl8') (by omega)) ?_
  rintro e w11 ⟨rfl, hx11⟩
  refine ⟨arr (Sha.sum L'), rfl, ?_⟩
  refine ⟨ldA_all rfl (hx11.get hb9 (by simp)) (by simp [byteCells, len_sum]) rfl, ?_⟩
  refine genQ_of (s := .bool) _ (eqM_arr u27 u5 c5 g27 len_sum len_sum) ?_
  refine iteP_dec (fun _ => ⟨rfl, (hx07.trans hx79).trans hx11⟩) (fun hne => ?_)
  have hx711 := hx79.trans hx11
  have hb11 := hx711.get hb7 (by simp)
  clear hx11 hx79 hput hbb hb9 hx78 hO8
  have hS11 := hS7.ext hx711 (by simp)
  have hx011 := hx07.trans hx711
  have hfl11 : ∀ b ∈ fp1, b < w11.heap.size := fun b hb => Nat.lt_of_lt_of_le (hfl7 b hb) hx711.1
  generalize hH11 : w11.heap = H11 at *
  refine ldA_all hH11 hb11 (by simp [byteCells, len_sum]) ?_
  refine callF_of (get_c (k := Sha.sum L) hH11 hS11 len_sum (hR.ext hx011 (by simp)) (hlv hll hv3)) ?_
  rintro e w12 ⟨x12, rfl, hx12, _, _⟩
  have hg51 : got (vget r2 (Sha.sum L)) (Sha.sum L) = 51 := by rw [hv3]; simp [got, hne]
  rw [hg51]
  refine ⟨(x12, 51), rfl, ?_⟩
  have hS12 := hS11.ext hx12 (by simp)
  have hx012 := hx011.trans hx12
  have hb12 := hx12.get hb11 (by simp)
  have hfl12 : ∀ b ∈ fp1, b < w12.heap.size := fun b hb => Nat.lt_of_lt_of_le (hfl11 b hb) hx12.1
  generalize hH12 : w12.heap = H12 at *
  have hsm2 : Small r2 := by
    intro k M hM
    rw [hv2] at hM
    split at hM
    · simp only [Option.map_some, Option.some.injEq, hL'] at hM; rw [← hM]; omega
    · rw [hv1] at hM; split at hM
      · cases hM; omega
      · simp [vget, mget] at hM
  refine callF_of (put_c (L := L) hH12 hS12 hfl12 (hR.ext hx012 (by simp)) (fun h => by have := hg3 0 h; omega) (hL.ext hx012 (by simp)) rfl hc (fun hne y hy h => by have := hg3 _ h; obtain ⟨z, hz, hlt⟩ := hL.lt (by simpa [byteCells] using hne); rw [hy] at hz; cases hz; omega) (by omega) (by decide) (by decide) hsm2) ?_
  rintro e w13 ⟨code, r3, c3, fp3, rfl, hS13, hx13, hfl13, hsub13, hres13, _⟩
  obtain ⟨rfl, hv13⟩ := put_old hres13 hsm hv3 (by rw [ht2, ht1]; have : max (8192 : Int) 0 = 8192 := by decide
                                                   omega)
  refine ⟨(arr (Sha.sum L), 0), rfl, ?_⟩
  have hx013 : Ext [] H w13.heap := hx012.own hx13 (by intro b hb hlt; have := hg3 b hb; omega)
  have hb13 := hx13.get hb12 h3fp
  have hv4 : ∀ k, vget r3 k = if k = Sha.sum L then some L else none := by
    intro k
    rw [hv13]
    by_cases e : k = Sha.sum L
    · subst e; rw [if_pos ⟨rfl, hne⟩, if_pos rfl]
    · rw [if_neg fun h => e h.1, if_neg e, hv2, if_neg fun h => e h.2, hv1, if_neg e]
      simp [vget, mget]
  have hv4' : vget r3 (Sha.sum L) = some L := by rw [hv4, if_pos rfl]
  obtain ⟨ht3, hn3⟩ := one_view hS13.ok (k := Sha.sum L) (L := L) hv4
  generalize hH13 : w13.heap = H13 at *
  refine var27 hH13 len_sum fun w14 hb14 hx14 hs14 => ?_
  generalize hH14 : w14.heap = H14 at *
  refine ldA_all hH14 (hx14.get hb13 (by simp)) (by simp [byteCells, len_sum]) ?_
  refine callF_of (get_c (k := Sha.sum L) hH14 (hS13.ext hx14 (by simp)) len_sum (hR.ext (hx013.trans hx14) (by simp)) (hlv rfl hv4')) ?_
  rintro e w15 ⟨x15, rfl, hx15, hgot, _⟩
  have hg0 : got (vget r3 (Sha.sum L)) (Sha.sum L) = 0 := by rw [hv4']; simp [got]
  obtain ⟨L15, hL15, hO15⟩ := hgot hg0
  rw [hv4', Option.some.injEq] at hL15
  subst hL15
  refine ⟨(x15, 0), by rw [hg0]; rfl, ?_⟩
  have hx1315 := hx14.trans hx15
  have hS15 := hS13.ext hx1315 (by simp)
  refine iteP_t rfl ?_
  refine iteP_t rfl ?_
  refine iteP_t rfl ?_
  refine ldA_all rfl (hx15.get hb14 (by simp)) (by simp [byteCells, len_sum]) ?_
  refine ldA_all rfl (hx1315.get hb13 (by simp)) (by simp [byteCells, len_sum]) ?_
  refine genQ_of (s := .bool) _ (eqM_arr u27 u5 c5 g27 len_sum len_sum) ?_
  refine iteP_t (by simp) ?_
  refine iteP_t rfl ?_
  refine genQ_of (s := .str) _ (convS_h u22 u5 u9 rfl hO15.cells (show x15.2.1 = _ from sl_len hO15)) ?_
  refine genQ_of (s := .str) _ (convS_h u22 u5 u9 rfl (hL.ext (hx013.trans hx1315) (by simp)) rfl) ?_
  refine iteP_t (by simp) ?_
  refine callF_of (count_c rfl hS15) ?_
  rintro e w16 ⟨rfl, rfl⟩
  refine ⟨1, by rw [hn3]; rfl, ?_⟩
  refine iteP_t rfl ?_
  refine callF_of (bytes_c rfl hS15) ?_
  rintro e w17 ⟨rfl, rfl⟩
  refine ⟨(L.length : Int), by rw [ht3]; rfl, ?_⟩
  exact ⟨by simp, hx013.trans hx1315⟩
end Go.Proofs.YtkolbfjheleoaaaDoor
