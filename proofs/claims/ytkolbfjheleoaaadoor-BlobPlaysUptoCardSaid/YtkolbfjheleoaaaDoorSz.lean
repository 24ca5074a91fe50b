/- One call, done to the store and to the reference. -/
import Derived.Test.YtkolbfjheleoaaaDoorSy
import Derived.Test.YtkolbfjheleoaaaDoorSr
import Derived.Test.YtkolbfjheleoaaaDoorFwW
namespace Go.Proofs.YtkolbfjheleoaaaDoor
open Go Go.Fw Go.Proofs

theorem got_mine {H : Heap} {B : Nat} {o : Option (List UInt8)} {k : List UInt8} {x : Option Addr × Nat × Nat} (h1 : got o k = 0 → ∃ L, o = some L ∧ Mine H B y_uint8 1 x (byteCells L)) (h2 : got o k ≠ 0 → x = (none, 0, 0)) :
    Mine H B y_uint8 1 x (byteCells (if got o k = 0 then o.getD [] else [])) := by
  by_cases e : got o k = 0
  · obtain ⟨L, rfl, hm⟩ := h1 e
    rw [if_pos e]; exact hm
  · rw [if_neg e, h2 e]; exact .inl ⟨rfl, rfl⟩
set_option maxHeartbeats 16000000 in
theorem do_c {w : World} {H0 : Heap} {p pr : Nat} {q : Int} {n : Nat} {kind at_ : Int} {turn : UInt8} {xB xA : Option Addr × Nat × Nat} {LB : List UInt8} {Ls : List (List UInt8)} (hP : Pair H0 p pr q n w) (hR : Rounds H0) (hq : 0 ≤ q) (hq2 : q ≤ 9223372036854775807) (hn : n ≤ 100)
    (hB : Cells H0 xB.1 (byteCells LB)) (hBl : xB.2.1 = LB.length) (hBc : xB.2.1 ≤ xB.2.2) (hBs : LB.length < 140737488351233) (hA : Rows H0 xA.1 xA.2.1 Ls) (hAl : Ls.length ≤ 1048576) (hAs : ∀ L ∈ Ls, L.length < 140737488351233) :
    CallF P F_l05_do #[.pointer (some ⟨p, 0, none⟩), .pointer (some ⟨pr, 0, none⟩), .agg #[.int .i64 kind, slcV xB, slcV xA, .int .i64 at_, .int .u8 (turn.toNat : Int)]] w fun e w' => e = .returned (.bool true) ∧ Pair H0 p pr q (n + 1) w' := by
  have hH0 : 0 < H0.size := by obtain ⟨_, _, _, h, _⟩ := hR; exact lt_of_get h
  obtain ⟨r, c, fp, rl, fpr, hxP, hS, hT, hfp, hfpr, hdis, hview, hrl, htot, hsm⟩ := hP
  obtain ⟨htt, hll⟩ := same_view hS.ok.keys hT.keys hview
  have hsm2 : Small rl := hsm.view hview
  have hsmm := small_mem hT.keys hsm2
  refine fn_l05_do ?_
  unfold T_l05_do
  refine newB_h rfl fun w1 hw1 => ?_
  have hx1 : Ext [] w.heap w1.heap := by rw [hw1]; exact .push _
  have hc1 : w1.heap[w.heap.size]? = some (.cells #[.int .i64 kind, slcV xB, slcV xA, .int .i64 at_, .int .u8 (turn.toNat : Int)] y_l05_Do (0, 0)) := by rw [hw1]; exact push_new
  refine ld_h (s := .slc) (t := xB) rfl hc1 rfl ?_
  refine callF_of (refsum_c rfl (hB.ext (hxP.trans hx1) (by simp)) hBl hBs) ?_
  rintro e w2 ⟨rfl, hx2⟩
  refine ⟨arr (Sha.sum LB), rfl, ?_⟩
  refine var27 rfl len_sum fun w4 hb4 hx4 hs4 => ?_
  have hx24 := hx2.trans hx4
  have hxw4 := hx1.trans hx24
  have hc4 := hx24.get hc1 (by simp)
  have hx04 := hxP.trans hxw4
  have hS4 := hS.ext hxw4 (by simp)
  have hT4 := hT.ext hxw4 (by simp)
  have hs1 : w.heap.size < w1.heap.size := lt_of_get hc1
  have hs2 := hx2.1
  have hs3 := hxw4.1
  have hfp4 : ∀ b ∈ fp, H0.size ≤ b ∧ b < w4.heap.size := fun b hb => ⟨(hfp b hb).1, by have := (hfp b hb).2; omega⟩
  have hfpr4 : ∀ b ∈ fpr, H0.size ≤ b ∧ b < w4.heap.size := fun b hb => ⟨(hfpr b hb).1, by have := (hfpr b hb).2; omega⟩
  have hbk : w2.heap.size ∉ fp ∧ w2.heap.size ∉ fpr := ⟨fun h => by have := (hfp _ h).2; omega, fun h => by have := (hfpr _ h).2; omega⟩
  have hbc : w.heap.size ∉ fp ∧ w.heap.size ∉ fpr := ⟨fun h => by have := (hfp _ h).2; omega, fun h => by have := (hfpr _ h).2; omega⟩
  generalize w2.heap.size = bk at *
  generalize w.heap.size = bc at *
  clear hx1 hx2 hx24 hx4 hw1 hc1 hs1 hs2 hs3 hs4 hS hT hfp hfpr hxP hxw4 w1 w2 w
  have h0 : 0 ∉ fp := fun h => by have := (hfp4 _ h).1; omega
  refine ld_h (s := .int .i64) (t := kind) rfl hc4 rfl ?_
  refine ⟨_, rfl, ?_⟩
  refine ⟨by decide, _, rfl, ?_⟩
  refine iteP_eq (fun _ => ?_) (fun _ => iteP_eq (fun _ => ?_) (fun _ => iteP_eq (fun _ => ?_) (fun _ => iteP_eq (fun _ => ?_) (fun _ => ?_))))
  · -- Put
    refine ld_h (s := .slc) (t := xB) rfl hc4 rfl ?_
    have hna : ∀ F : List Nat, (∀ b ∈ F, H0.size ≤ b) → LB ≠ [] → ∀ y, xB.1 = some y → y.block ∉ F := by
      intro F hF hne y hy h
      obtain ⟨z, hz, hlt⟩ := hB.lt (by simpa [byteCells] using hne)
      rw [hy] at hz; cases hz
      have := hF _ h; omega
    refine callF_of (put_c (L := LB) rfl hS4 (fun b hb => (hfp4 b hb).2) (hR.ext hx04 (by simp)) h0 (hB.ext hx04 (by simp)) hBl hBc (hna _ fun b hb => (hfp4 b hb).1) (by omega) hq hq2 hsm) ?_
    rintro e w5 ⟨code, r', c', fp', rfl, hS5, hx5, hfl5, hsub5, hres, htb⟩
    refine ⟨(arr (if code = 0 then Sha.sum LB else nought), code), rfl, ?_⟩
    have hlr : (if code = 0 then Sha.sum LB else nought).length = 32 := by split; exact len_sum; exact len_nought
    refine var27 rfl hlr fun w7 hb7 hx7 hs7 => ?_
    have hc7 := hx7.get (hx5.get hc4 hbc.1) (by simp)
    have hx47 : Ext fp w4.heap w7.heap := hx5.trans (hx7.mono (by simp))
    have hx07 : Ext [] H0 w7.heap := hx04.own hx47 (by intro b hb hlt; have := (hfp4 b hb).1; omega)
    have hT7 := hT4.ext hx47 (fun b hb hb2 => hdis b hb2 hb)
    have hs47 := hx47.1
    refine ld_h (s := .slc) (t := xB) rfl hc7 rfl ?_
    refine callF_of (rput_c (L := LB) rfl hT7 (fun b hb => by have := (hfpr4 b hb).2; omega) (hB.ext hx07 (by simp)) hBl hBc (hna _ fun b hb => (hfpr4 b hb).1) (by omega) (by omega) hq hq2 hsmm hBs) ?_
    rintro e w8 ⟨code', rl', fpr', rfl, hT8, hx8, hsub8, hres', hl8, ht8, hsm8⟩
    obtain ⟨rfl, hview'⟩ := putres_same hres hres' hview htt
    refine ⟨(arr (if code = 0 then Sha.sum LB else nought), code), rfl, ?_⟩
    refine var27 rfl hlr fun w10 hb10 hx10 hs10 => ?_
    have hbn : w5.heap.size ∉ fpr := fun h => by have := (hfpr4 _ h).2; have := hx5.1; omega
    refine ldA_all rfl (hx10.get (hx8.get hb7 hbn) (by simp)) (by simp [byteCells, hlr]) ?_
    refine ldA_all rfl hb10 (by simp [byteCells, hlr]) ?_
    refine genQ_of (s := .bool) _ (eqM_arr u27 u5 c5 g27 hlr hlr) ?_
    refine iteP_t (by simp) ?_
    have hx710 : Ext fpr w7.heap w10.heap := hx8.trans (hx10.mono (by simp))
    have hfp7 : ∀ b ∈ fp', H0.size ≤ b ∧ b < w7.heap.size ∧ b ∉ fpr := fun b hb => by
      have h1 := hfl5 b hb
      have h2 := hx7.1
      rcases hsub5 b hb with h | h
      · exact ⟨(hfp4 b h).1, by omega, hdis b h⟩
      · exact ⟨by have := hx04.1; omega, by omega, fun hh => by have := (hfpr4 _ hh).2; omega⟩
    have hS10 := (hS5.ext hx7 (by simp)).ext hx710 (fun b hb => (hfp7 b hb).2.2)
    have hT10 := hT8.ext hx10 (by simp)
    have hsv := same_view hS10.ok.keys hT10.keys hview'
    have hs8 := hx8.1
    have hs10' := hx10.1
    refine ⟨by simp, r', c', fp', rl', fpr', hx07.own hx710 (by intro b hb hlt; have := (hfpr4 b hb).1; omega), hS10, hT10, fun b hb => ⟨(hfp7 b hb).1, by have := (hfp7 b hb).2.1; omega⟩, fun b hb => ?_, fun b hb hb2 => ?_, hview', by omega, by omega, (small_of hsm8).view fun k => (hview' k).symm⟩
    · rcases hsub8 b hb with h | h
      · exact ⟨(hfpr4 b h).1, by have := (hfpr4 b h).2; omega⟩
      · exact ⟨by have := hx07.1; omega, by omega⟩
    · have h1 := hfp7 b hb
      rcases hsub8 b hb2 with h | h
      · exact h1.2.2 h
      · omega
  · -- Get
    refine ldA_all rfl hb4 (by simp [byteCells, len_sum]) ?_
    refine callF_of (get_c rfl hS4 len_sum (hR.ext hx04 (by simp)) (fun L h => hsm _ _ h)) ?_
    rintro e w11 ⟨x, rfl, hx11, hg1, hg2⟩
    refine ⟨(x, got (vget r (Sha.sum LB)) (Sha.sum LB)), rfl, ?_⟩
    refine ldA_all rfl (hx11.get hb4 (by simp)) (by simp [byteCells, len_sum]) ?_
    refine callF_of (rget_c rfl (hT4.ext hx11 (by simp)) len_sum (by omega) (fun L h => hsm2 _ _ h)) ?_
    rintro e w12 ⟨x', rfl, hx12, hg3, hg4⟩
    refine ⟨(x', got (vget rl (Sha.sum LB)) (Sha.sum LB)), rfl, ?_⟩
    have hm1 := (got_mine hg1 hg2).ext hx12 (by simp)
    have hm2 := got_mine hg3 hg4
    rw [← hview] at hm2 ⊢
    have hLs : (if got (vget r (Sha.sum LB)) (Sha.sum LB) = 0 then (vget r (Sha.sum LB)).getD [] else []).length < 1099511627776 := by
      split
      · cases hv : vget r (Sha.sum LB) with
        | none => simp
        | some M => exact hsm _ _ hv
      · simp
    generalize (if got (vget r (Sha.sum LB)) (Sha.sum LB) = 0 then (vget r (Sha.sum LB)).getD [] else []) = L at *
    have hl1 : x.2.1 = L.length := by have := hm1.len; simp at this; omega
    have hl2 : x'.2.1 = L.length := by have := hm2.len; simp at this; omega
    refine joinP_of (fun s W => s = true ∧ W = w12) ?_ ?_
    · refine genQ_of (s := .str) _ (convS_h u22 u5 u9 rfl hm1.cells hl1) ?_
      refine genQ_of (s := .str) _ (convS_h u22 u5 u9 rfl hm2.cells hl2) ?_
      refine iteP_t (by simp) ?_
      exact ⟨by simp, rfl⟩
    rintro _ w12 ⟨rfl, rfl⟩
    have hx412 := hx11.trans hx12
    have hg := ownM_ge hm1
    refine loopP_of (fun (s : Int) W => ∃ (i : Nat) (vs : List Value), s = (i : Int) ∧ i ≤ x.2.1 ∧ Ext (ownM x) w12.heap W.heap ∧ Mine W.heap w4.heap.size y_uint8 1 x vs ∧ vs.length = x.2.1) (fun s _ => (x.2.1 - s).toNat) ⟨0, byteCells L, rfl, Nat.zero_le _, .refl _ _, hm1, by simp [hl1]⟩ ?_
    rintro _ W ⟨i, vs, rfl, hi, hxW, hmW, hvl⟩
    have hs412 := hx412.1
    refine iteP_dec (fun hlt => ?_) (fun hge => ?_)
    · have hil : i < x.2.1 := by simp only at hlt; omega
      obtain ⟨bb, cc, hxa, hbb, hic, _, hput⟩ := hmW.put (i := i) (by omega) (.int .u8 238)
      have hxa' : x.1 = some ⟨bb, 0, none⟩ := hxa
      simp only
      rw [hxa']
      refine ixS_1 i rfl hil ?_
      rw [Nat.zero_add]
      refine stC_h rfl hbb hic fun W2 hW2 => ?_
      refine addI_to ((i + 1 : Nat) : Int) (by omega) (by omega) (by omega) ?_
      rw [← hW2] at hput
      refine ⟨⟨i + 1, vs.set i (.int .u8 238), rfl, by omega, hxW.trans (by rw [hW2]; exact Ext.set _ (by simp [ownM, hxa'])), hput, by simpa using hvl⟩, by omega⟩
    · have hx012 := hx04.trans hx412
      have hn1 : ∀ b, b < w4.heap.size → b ∉ ownM x := fun b hb h => by have := hg b h; omega
      refine ⟨rfl, r, c, fp, rl, fpr, hx012.own hxW (by intro b hb hlt; have := hg b hb; have := hx04.1; omega), (hS4.ext hx412 (by simp)).ext hxW (fun b hb => hn1 b (hfp4 b hb).2), (hT4.ext hx412 (by simp)).ext hxW (fun b hb => hn1 b (hfpr4 b hb).2), fun b hb => ⟨(hfp4 b hb).1, by have := (hfp4 b hb).2; have := hxW.1; omega⟩, fun b hb => ⟨(hfpr4 b hb).1, by have := (hfpr4 b hb).2; have := hxW.1; omega⟩, hdis, hview, by omega, by omega, hsm⟩
  · -- Drop
    refine drewP_h rfl fun w16 hw16 => ?_
    have hx16 : Ext [] w4.heap w16.heap := by rw [hw16]; exact .refl _ _
    have hb16 := hx16.get hb4 (by simp)
    refine ldA_all rfl hb16 (by simp [byteCells, len_sum]) ?_
    refine ldA_all rfl hb16 (by simp [byteCells, len_sum]) ?_
    refine callF_of (drop_c rfl (hS4.ext hx16 (by simp)) len_sum (by omega)) ?_
    rintro e w17 ⟨rfl, hS17, hx17⟩
    refine ⟨_, rfl, ?_⟩
    refine ⟨ldA_all rfl (hx17.get hb16 hbk.1) (by simp [byteCells, len_sum]) rfl, ?_⟩
    have hT17 := (hT4.ext hx16 (by simp)).ext hx17 (fun b hb hb2 => hdis b hb2 hb)
    refine callF_of (rdrop_c rfl hT17 len_sum (by omega)) ?_
    rintro e w18 ⟨rfl, rl', fpr', hT18, hx18, hsub18, hv18⟩
    refine ⟨_, rfl, ?_⟩
    have hview' : ∀ k, vget (mdel r (Sha.sum LB)) k = vget rl' k := fun k => by rw [vget_del, hv18, hview]
    have hs16 : w16.heap.size = w4.heap.size := by rw [hw16]
    have hS18 := hS17.ext hx18 hdis
    have hx017 : Ext [] H0 w17.heap := (hx04.trans hx16).own hx17 (by intro b hb hlt; have := (hfp4 b hb).1; omega)
    have hs17 := hx17.1
    have hs18 := hx18.1
    refine ⟨by simp [hview], mdel r (Sha.sum LB), c, fp, rl', fpr', hx017.own hx18 (by intro b hb hlt; have := (hfpr4 b hb).1; omega), hS18, hT18, fun b hb => ⟨(hfp4 b hb).1, by have := (hfp4 b hb).2; omega⟩, fun b hb => ?_, fun b hb hb2 => ?_, hview', ?_, ?_, ?_⟩
    · rcases hsub18 b hb with h | h
      · exact ⟨(hfpr4 b h).1, by have := (hfpr4 b h).2; omega⟩
      · exact ⟨by have := hx017.1; omega, h.2⟩
    · have h1 := hfp4 b hb
      rcases hsub18 b hb2 with h | h
      · exact hdis b hb h
      · omega
    · have h2 : (mdel r (Sha.sum LB)).length ≤ r.length := by unfold mdel; exact List.length_filter_le _ _
      omega
    · cases hg : mget r (Sha.sum LB) with
      | none => rw [mdel_none (mget_none hg)]; omega
      | some v => have := total_del' hS4.ok.keys hg; omega
    · intro k L h
      rw [vget_del] at h
      split at h
      · cases h
      · exact hsm k L h
  · -- Spoil
    refine drewP_h rfl fun w16 hw16 => ?_
    have hx16 : Ext [] w4.heap w16.heap := by rw [hw16]; exact .refl _ _
    have hb16 := hx16.get hb4 (by simp)
    have hc16 := hx16.get hc4 (by simp)
    refine ldA_all rfl hb16 (by simp [byteCells, len_sum]) ?_
    refine ld_h (s := .int .i64) (t := at_) rfl hc16 rfl ?_
    refine ld_h (s := .int .u8) (t := (turn.toNat : Int)) rfl hc16 rfl ?_
    refine ldA_all rfl hb16 (by simp [byteCells, len_sum]) ?_
    refine ld_h (s := .int .i64) (t := at_) rfl hc16 rfl ?_
    refine ld_h (s := .int .u8) (t := (turn.toNat : Int)) rfl hc16 rfl ?_
    refine callF_of (spoil_c rfl (hS4.ext hx16 (by simp)) len_sum) ?_
    rintro e w17 ⟨rfl, r', hS17, hx17, ht17, hl17, hv17⟩
    refine ⟨_, rfl, ?_⟩
    have hc17 := hx17.get hc16 hbc.1
    refine ⟨ld_h (s := .int .u8) (t := (turn.toNat : Int)) rfl hc17 rfl rfl, ?_⟩
    refine ⟨ld_h (s := .int .i64) (t := at_) rfl hc17 rfl rfl, ?_⟩
    refine ⟨ldA_all rfl (hx17.get hb16 hbk.1) (by simp [byteCells, len_sum]) rfl, ?_⟩
    have hT17 := (hT4.ext hx16 (by simp)).ext hx17 (fun b hb hb2 => hdis b hb2 hb)
    refine callF_of (rspoil_c rfl hT17 len_sum (by omega)) ?_
    rintro e w18 ⟨rfl, rl', hT18, hx18, hv18⟩
    refine ⟨_, rfl, ?_⟩
    have hview' : ∀ k, vget r' k = vget rl' k := fun k => by rw [hv17, hv18, hview, hview]
    have hs16 : w16.heap.size = w4.heap.size := by rw [hw16]
    have hx017 : Ext [] H0 w17.heap := (hx04.trans hx16).own hx17 (by intro b hb hlt; have := (hfp4 b hb).1; omega)
    have hs17 := hx17.1
    have hs18 := hx18.1
    refine ⟨by simp [hview], r', c, fp, rl', fpr, hx017.own hx18 (by intro b hb hlt; have := (hfpr4 b hb).1; omega), hS17.ext hx18 hdis, hT18, fun b hb => ⟨(hfp4 b hb).1, by have := (hfp4 b hb).2; omega⟩, fun b hb => ⟨(hfpr4 b hb).1, by have := (hfpr4 b hb).2; omega⟩, hdis, hview', by omega, by omega, ?_⟩
    intro k L h
    rw [hv17] at h
    split at h
    · obtain ⟨M, hM, rfl⟩ := Option.map_eq_some_iff.1 h
      have := hsm _ _ hM
      simpa [spoilt] using this
    · exact hsm k L h
  · -- PutAll
    refine drewP_h rfl fun w16 hw16 => ?_
    have hx16 : Ext [] w4.heap w16.heap := by rw [hw16]; exact .refl _ _
    have hc16 := hx16.get hc4 (by simp)
    have hs16 : w16.heap.size = w4.heap.size := by rw [hw16]
    have hx016 := hx04.trans hx16
    refine ld_h (s := .slc) (t := xA) rfl hc16 rfl ?_
    refine ld_h (s := .slc) (t := xA) rfl hc16 rfl ?_
    refine callF_of (putall_c rfl (hS4.ext hx16 (by simp)) (fun b hb => by have := (hfp4 b hb).2; omega) (hR.ext hx016 (by simp)) h0 (hA.ext hx016 (by simp)) (by omega) hq hq2 hsm) ?_
    rintro e w17 ⟨code, r', c', fp', rfl, hS17, hx17, hfl17, hsub17, hres, htb⟩
    refine ⟨code, rfl, ?_⟩
    refine ⟨ld_h (s := .slc) (t := xA) rfl (hx17.get hc16 hbc.1) rfl rfl, ?_⟩
    have hT17 := (hT4.ext hx16 (by simp)).ext hx17 (fun b hb hb2 => hdis b hb2 hb)
    have hx017 : Ext [] H0 w17.heap := hx016.own hx17 (by intro b hb hlt; have := (hfp4 b hb).1; omega)
    have hs17 := hx17.1
    refine callF_of (rputall_c rfl hT17 (fun b hb => by have := (hfpr4 b hb).2; omega) (hA.ext hx017 (by simp)) (by omega) (by omega) hq hq2 hsmm hAs) ?_
    rintro e w18 ⟨code', rl', fpr', rfl, hT18, hx18, hsub18, hres', hl18, ht18, hsm18⟩
    obtain ⟨rfl, hview'⟩ := putres_same hres hres' hview htt
    refine ⟨code, rfl, ?_⟩
    have hfp7 : ∀ b ∈ fp', H0.size ≤ b ∧ b < w17.heap.size ∧ b ∉ fpr := fun b hb => by
      have h1 := hfl17 b hb
      rcases hsub17 b hb with h | h
      · exact ⟨(hfp4 b h).1, by omega, hdis b h⟩
      · exact ⟨by have := hx04.1; omega, by omega, fun hh => by have := (hfpr4 _ hh).2; omega⟩
    have hS18 := hS17.ext hx18 (fun b hb => (hfp7 b hb).2.2)
    have hsv := same_view hS18.ok.keys hT18.keys hview'
    have hs18 := hx18.1
    refine ⟨by simp, r', c', fp', rl', fpr', hx017.own hx18 (by intro b hb hlt; have := (hfpr4 b hb).1; omega), hS18, hT18, fun b hb => ⟨(hfp7 b hb).1, by have := (hfp7 b hb).2.1; omega⟩, fun b hb => ?_, fun b hb hb2 => ?_, hview', by omega, by omega, (small_of hsm18).view fun k => (hview' k).symm⟩
    · rcases hsub18 b hb with h | h
      · exact ⟨(hfpr4 b h).1, by have := (hfpr4 b h).2; omega⟩
      · exact ⟨by have := hx017.1; omega, by omega⟩
    · have h1 := hfp7 b hb
      rcases hsub18 b hb2 with h | h
      · exact h1.2.2 h
      · omega
end Go.Proofs.YtkolbfjheleoaaaDoor

/- The store has what the reference has. -/
namespace Go.Proofs.YtkolbfjheleoaaaDoor
open Go Go.Fw Go.Proofs

/-- One rising row of keys. -/
theorem rise_one : ∀ {a b : List (List UInt8)}, a.Pairwise (fun x y => Lib.compareBytes x y < 0) → b.Pairwise (fun x y => Lib.compareBytes x y < 0) → (∀ k, k ∈ a ↔ k ∈ b) → a = b
  | [], [], _, _, _ => rfl
  | [], y :: b, _, _, h => by have := (h y).2 (by simp); simp at this
  | x :: a, [], _, _, h => by have := (h x).1 (by simp); simp at this
  | x :: a, y :: b, ha, hb, h => by
    obtain ⟨ha1, ha2⟩ := List.pairwise_cons.1 ha
    obtain ⟨hb1, hb2⟩ := List.pairwise_cons.1 hb
    have hxy : x = y := by
      rcases List.mem_cons.1 ((h x).1 (by simp)) with e | h1
      · exact e
      · rcases List.mem_cons.1 ((h y).2 (by simp)) with e | h2
        · exact e.symm
        · have h3 := hb1 x h1
          have h4 := ha1 y h2
          exact absurd (cmpB_lt.1 h3) (List.lt_asymm (cmpB_lt.1 h4))
    subst hxy
    congr 1
    refine rise_one ha2 hb2 fun k => ⟨fun hk => ?_, fun hk => ?_⟩
    · rcases List.mem_cons.1 ((h k).1 (by simp [hk])) with e | h1
      · subst e; exact absurd rfl (lt_ne (ha1 _ hk))
      · exact h1
    · rcases List.mem_cons.1 ((h k).2 (by simp [hk])) with e | h1
      · subst e; exact absurd rfl (lt_ne (hb1 _ hk))
      · exact h1
theorem in_order {ys ks : List (List UInt8)} (ho : InOrder ys) (h32 : ∀ L ∈ ys, L.length = 32) (hn : ys.Nodup) (hk : ks.Pairwise (fun x y => Lib.compareBytes x y < 0)) (hm : ∀ k, k ∈ ys ↔ k ∈ ks) : ys = ks := by
  refine rise_one ?_ hk hm
  have h2 : ys.Pairwise fun a b => (¬ Lib.compareBytes (pad b) (pad a) < 0) ∧ a ≠ b := List.Pairwise.and ho (List.nodup_iff_pairwise_ne.1 hn)
  refine List.Pairwise.imp_of_mem (fun {a b} ha hb h => ?_) h2
  obtain ⟨h3, h4⟩ := h
  rw [pad_eq (h32 a ha), pad_eq (h32 b hb)] at h3
  have h5 : Lib.compareBytes a b ≠ 0 := fun e => h4 (cmpB_eq.1 e)
  rw [cmpB_neg] at h3
  rcases cmpB_range (a := a) (b := b) with e | e | e <;> omega
theorem zcptr_r : zc P y_p_r05_Store = #[.pointer none] := by kernel_rfl

set_option maxHeartbeats 16000000 in
theorem same_c {w : World} {H0 : Heap} {p pr : Nat} {q : Int} {n : Nat} (hP : Pair H0 p pr q n w) (hR : Rounds H0) (hn : n ≤ 101) :
    CallF P F_l05_same #[.pointer (some ⟨p, 0, none⟩), .pointer (some ⟨pr, 0, none⟩)] w fun e w' => e = .returned (.bool true) ∧ Ext [] H0 w'.heap := by
  obtain ⟨r, c, fp, rl, fpr, hxP, hS, hT, hfp, hfpr, hdis, hview, hrl, htot, hsm⟩ := hP
  obtain ⟨htt, hll⟩ := same_view hS.ok.keys hT.keys hview
  have hsm2 : Small rl := hsm.view hview
  refine fn_l05_same ?_
  unfold T_l05_same
  refine newB_h rfl fun w1 hw1 => ?_
  refine newB_h hw1 fun w2 hw2 => ?_
  refine box_h zcbool hw2 fun w3 hw3 => ?_
  have hb2 : w3.heap[w.heap.size]? = some (.cells #[.pointer (some ⟨p, 0, none⟩)] y_p_blob_Store (0, 0)) := by rw [hw3]; exact push_old (push_old push_new)
  have hb3 : w3.heap[(w.heap.push (.cells #[.pointer (some ⟨p, 0, none⟩)] y_p_blob_Store)).size]? = some (.cells #[.pointer (some ⟨pr, 0, none⟩)] y_p_r05_Store (0, 0)) := by rw [hw3]; exact push_old push_new
  have hb4 : w3.heap[((w.heap.push (.cells #[.pointer (some ⟨p, 0, none⟩)] y_p_blob_Store)).push (.cells #[.pointer (some ⟨pr, 0, none⟩)] y_p_r05_Store)).size]? = some (.cells #[.bool false] y_bool (0, 0)) := by rw [hw3]; exact push_new
  have hx3 : Ext [] w.heap w3.heap := by rw [hw3]; exact ((Ext.push _).trans (Ext.push _)).trans (Ext.push _)
  have hs1 : (w.heap.push (.cells #[.pointer (some ⟨p, 0, none⟩)] y_p_blob_Store)).size = w.heap.size + 1 := by simp
  have hs2 : ((w.heap.push (.cells #[.pointer (some ⟨p, 0, none⟩)] y_p_blob_Store)).push (.cells #[.pointer (some ⟨pr, 0, none⟩)] y_p_r05_Store)).size = w.heap.size + 2 := by simp
  rw [hs1] at hb3
  rw [hs2] at hb4
  rw [hs1, hs2]
  generalize w.heap.size = B at *
  have hx03 := hxP.trans hx3
  have hS3 := hS.ext hx3 (by simp)
  have hT3 := hT.ext hx3 (by simp)
  clear hw1 hw2 hw3 hs1 hs2 hS hT hxP hx3 w1 w2
  refine drewP_h rfl fun w4 hw4 => ?_
  have hx34 : Ext [] w3.heap w4.heap := by rw [hw4]; exact .refl _ _
  have hs34 : w4.heap.size = w3.heap.size := by rw [hw4]
  have hx04 := hx03.trans hx34
  have hS4 := hS3.ext hx34 (by simp)
  have hT4 := hT3.ext hx34 (by simp)
  replace hb2 := hx34.get hb2 (by simp)
  replace hb3 := hx34.get hb3 (by simp)
  replace hb4 := hx34.get hb4 (by simp)
  clear hx03 hS3 hT3 hx34 hs34 hw4 w3 w
  obtain ⟨x, t1, t2, t3, t4, t5, t6, t7⟩ := id hT4
  have hxl := mine_len t2
  refine ld_h (s := .ptr) (t := some ⟨p, 0, none⟩) rfl hb2 rfl ?_
  refine ld_h (s := .ptr) (t := some ⟨pr, 0, none⟩) rfl hb3 rfl ?_
  simp only [withAddr_some, add_none, Nat.zero_add]
  refine ld_h (s := .slc) (t := x) rfl t1 rfl ?_
  refine callF_of (count_c rfl hS4) ?_
  rintro e w5 ⟨rfl, hw5⟩
  subst w5
  refine ⟨(r.length : Int), rfl, ?_⟩
  refine ⟨ld_h (s := .slc) (t := x) rfl t1 rfl rfl, ?_⟩
  refine ⟨ld_h (s := .ptr) (t := some ⟨pr, 0, none⟩) rfl hb3 rfl rfl, ?_⟩
  refine iteP_ne (fun h => absurd (by rw [hxl, hll]) h) (fun _ => ?_)
  refine ld_h (s := .ptr) (t := some ⟨p, 0, none⟩) rfl hb2 rfl ?_
  refine ld_h (s := .ptr) (t := some ⟨pr, 0, none⟩) rfl hb3 rfl ?_
  refine callF_of (bytes_c rfl hS4) ?_
  rintro e w5 ⟨rfl, hw5⟩
  subst w5
  refine ⟨(total r : Int), rfl, ?_⟩
  refine ⟨ld_h (s := .ptr) (t := some ⟨pr, 0, none⟩) rfl hb3 rfl rfl, ?_⟩
  refine callF_of (rbytes_c rfl hT4 (by omega) (by omega)) ?_
  rintro e w5 ⟨rfl, hw5⟩
  subst w5
  refine ⟨(total rl : Int), rfl, ?_⟩
  refine iteP_ne (fun h => absurd (by rw [htt]) h) (fun _ => ?_)
  refine box_h zcint rfl fun w10 hw10 => ?_
  have hb10 : w10.heap[w4.heap.size]? = some (.cells #[.int .i64 0] y_int (0, 0)) := by rw [hw10]; exact push_new
  refine stC_h rfl hb10 (by simp) fun w11 hw11 => ?_
  have hx411 : Ext [] w4.heap w11.heap := by rw [hw11, hw10]; exact (Ext.push _).set_own (.inl (Nat.le_refl _))
  have hb5 : w11.heap[w4.heap.size]? = some (.cells #[.int .i64 0] y_int (0, 0)) := by rw [hw11]; exact set_new hb10
  refine ld_h (s := .ptr) (t := some ⟨p, 0, none⟩) rfl (hx411.get hb2 (by simp)) rfl ?_
  refine callF_of (all_c rfl (hS4.ext hx411 (by simp)) (by omega)) ?_
  rintro e w12 ⟨gv, ys, rfl, hx12, hlist, hperm, hord⟩
  refine ⟨gv, rfl, ?_⟩
  have hx412 := hx411.trans hx12
  have hx012 := hx04.trans hx412
  have hc12 := hx12.get hb5 (by simp)
  obtain ⟨bl, xs, hgv, hbl, hbc, hxm, h32⟩ := hlist
  have hys : ys = rl.map (·.1) := by
    refine in_order hord h32 (hperm.nodup_iff.2 hS4.ok.keys) (List.pairwise_map.2 hT4.rise) fun k => ?_
    rw [hperm.mem_iff]
    have hmem : ∀ {s : SM}, (s.map (·.1)).Nodup → (k ∈ s.map (·.1) ↔ (vget s k).isSome = true) := by
      intro s hs
      constructor
      · intro h
        obtain ⟨z, hz, rfl⟩ := List.mem_map.1 h
        rw [vget_mem hs hz]; rfl
      · intro h
        obtain ⟨L, hL⟩ := Option.isSome_iff_exists.1 h
        unfold vget at hL
        obtain ⟨v, hv1, rfl⟩ := Option.map_eq_some_iff.1 hL
        obtain ⟨b, hb⟩ := mget_some_mem hv1
        exact List.mem_map.2 ⟨_, hb, rfl⟩
    rw [hmem hS4.ok.keys, hmem hT4.keys, hview]
  have hyl : ys.length = rl.length := by rw [hys, List.length_map]
  have h511 : w4.heap.size < w11.heap.size := lt_of_get hb5
  have hs1112 := hx12.1
  have hblt := lt_of_get hbc
  have hB4 := lt_of_get hb2
  have hb3l := lt_of_get hb3
  have hb4l := lt_of_get hb4
  have hfpl : ∀ b ∈ bl :: ownM xs, w11.heap.size ≤ b ∧ b < w12.heap.size := by
    intro b hb
    rcases List.mem_cons.1 hb with rfl | hb
    · exact ⟨hbl, hblt⟩
    · exact ⟨ownM_ge hxm b hb, (mine_lt hxm b hb).1⟩
  rw [hgv]
  refine range_of (α := List UInt8) (shs := [.any]) (tv := fun x => arr x) (fp := bl :: ownM xs) (seq_values rfl hbc hxm h32 (by omega)) [w4.heap.size] ?_ (fun b hb => (hfpl b hb).2)
    (fun pre W1 => Ext [w4.heap.size] w12.heap W1.heap ∧ W1.heap[w4.heap.size]? = some (.cells #[.int .i64 (pre.length : Int)] y_int (0, 0)))
    (fun _ => False) (fun _ _ => False) ?_ (fun _ _ h _ => h.elim) (fun _ _ _ h _ => h.elim) ⟨.refl _ _, hc12⟩ ?_ ?_ (fun _ h => h.elim) (fun _ _ h => h.elim)
  · intro b hb
    simp only [List.mem_singleton] at hb
    subst hb
    exact ⟨by omega, fun h => by have := (hfpl _ h).1; omega⟩
  · rintro pre W1 W2 ⟨h1, h2⟩ hB
    exact ⟨hB.ext (Nat.le_refl _) h1, hB.cells h2⟩
  · rintro pre k W1 ⟨rest, hyr⟩ ⟨hxW1, hkW1⟩ hsz beg kc kr kx hbeg
    have hk32 : k.length = 32 := h32 k (by rw [hyr]; simp)
    have hprel : pre.length < rl.length := by rw [← hyl, hyr]; simp
    have hget : rl[pre.length]? = some rl[pre.length] := List.getElem?_eq_getElem hprel
    have hkey : (rl[pre.length]).1 = k := by
      have h1 : (rl.map (·.1))[pre.length]? = some k := by rw [← hys, hyr]; simp
      rw [List.getElem?_map, hget] at h1
      simpa using h1
    refine var_g (P := P) (v := arr k) (size27.trans (by rw [cells_arr, hk32])) (by rw [zc27, cells_arr, hk32]; simp) (by rw [cells_arr, hk32]; omega) oneCells_arr rfl fun W2 hW2 => ?_
    have hxx12 : Ext [] W1.heap W2.heap := by rw [hW2]; exact .push _
    refine hbeg W2 _ hxx12 fun W3 hB3 hs3 hkc _ _ => ?_
    have hxW3 : Ext [w4.heap.size] w12.heap W3.heap := hB3.ext (Nat.le_refl _) (hxW1.trans (hxx12.mono (by simp)))
    have hkey3 : W3.heap[W1.heap.size]? = some (.cells (arr k).cells y_api_Digest (0, 0)) := hB3.cells (by rw [hW2]; exact push_new)
    have hkW3 := hB3.cells (hxx12.get hkW1 (by simp))
    refine joinP_in ?_
    refine joinP_in ?_
    refine drewP_h rfl fun W4 hW4 => ?_
    have hx34 : Ext [] W3.heap W4.heap := by rw [hW4]; exact .refl _ _
    have hxW4 : Ext [w4.heap.size] w12.heap W4.heap := hxW3.trans (hx34.mono (by simp))
    have hne : ∀ b, b < w4.heap.size → b ∉ [w4.heap.size] := fun b hb => by simp only [List.mem_singleton]; omega
    have hx4W4 : Ext [w4.heap.size] w4.heap W4.heap := (hx412.mono (by simp)).trans hxW4
    have hx0W4 : Ext [] H0 W4.heap := hx012.own hxW4 (by intro b hb hlt; simp only [List.mem_singleton] at hb; have := hx04.1; omega)
    have hSW := hS4.ext hx4W4 (fun b hb => hne b (Nat.lt_of_lt_of_le (hfp b hb).2 (by omega)))
    have hTW := hT4.ext hx4W4 (fun b hb => hne b (Nat.lt_of_lt_of_le (hfpr b hb).2 (by omega)))
    have t1W := hx4W4.get t1 (hne _ (Nat.lt_of_lt_of_le (hfpr _ t3).2 (by omega)))
    have t2W := t2.ext hx4W4 (fun b hb => hne b (Nat.lt_of_lt_of_le (hfpr b (t4 b hb)).2 (by omega)))
    have hb2W := hx4W4.get hb2 (hne _ hB4)
    have hb3W := hx4W4.get hb3 (hne _ hb3l)
    have hkW4 := hx34.get hkW3 (by simp)
    have hkey4 := hx34.get hkey3 (by simp)
    refine ld_h (s := .int .i64) (t := (pre.length : Int)) rfl hkW4 rfl ?_
    refine ld_h (s := .ptr) (t := some ⟨pr, 0, none⟩) rfl hb3W rfl ?_
    simp only [withAddr_some, add_none, Nat.zero_add]
    refine ld_h (s := .slc) (t := x) rfl t1W rfl ?_
    refine iteP_dec (fun h => absurd h (by omega)) (fun _ => ?_)
    refine ld_h (s := .ptr) (t := some ⟨pr, 0, none⟩) rfl hb3W rfl ?_
    refine ld_h (s := .slc) (t := x) rfl t1W rfl ?_
    refine ld_h (s := .int .i64) (t := (pre.length : Int)) rfl hkW4 rfl ?_
    refine blob_key rfl t2W.cells hxl hget rfl (by rw [hkey]; exact hk32) ?_
    rw [hkey]
    refine ldA_all (c := (arr k).cells) rfl hkey4 (by rw [cells_arr, hk32]) ?_
    refine genQ_of (s := .bool) _ (neqM_arr u27 u5 c5 g27 hk32 hk32) ?_
    refine iteP_f (by simp) ?_
    refine ld_h (s := .ptr) (t := some ⟨p, 0, none⟩) rfl hb2W rfl ?_
    refine ldA_all (c := (arr k).cells) rfl hkey4 (by rw [cells_arr, hk32]) ?_
    refine callF_of (has_c rfl hSW hk32) ?_
    rintro e W5 ⟨rfl, hx45⟩
    refine ⟨_, rfl, ?_⟩
    have hkr : (vget r k).isSome = true := by rw [hview, ← hkey, vget_mem hT4.keys (List.getElem_mem hprel)]; rfl
    refine iteP_f (by rw [hkr]; rfl) ?_
    refine ld_h (s := .ptr) (t := some ⟨p, 0, none⟩) rfl (hx45.get hb2W (by simp)) rfl ?_
    refine ldA_all (c := (arr k).cells) rfl (hx45.get hkey4 (by simp)) (by rw [cells_arr, hk32]) ?_
    refine callF_of (get_c rfl (hSW.ext hx45 (by simp)) hk32 (hR.ext (hx0W4.trans hx45) (by simp)) (fun L h => hsm _ _ h)) ?_
    rintro e W6 ⟨x6, rfl, hx56, hg1, hg2⟩
    refine ⟨(x6, got (vget r k) k), rfl, ?_⟩
    have hx46 := hx45.trans hx56
    refine ld_h (s := .ptr) (t := some ⟨pr, 0, none⟩) rfl (hx46.get hb3W (by simp)) rfl ?_
    refine ldA_all (c := (arr k).cells) rfl (hx46.get hkey4 (by simp)) (by rw [cells_arr, hk32]) ?_
    refine callF_of (rget_c rfl (hTW.ext hx46 (by simp)) hk32 (by omega) (fun L h => hsm2 _ _ h)) ?_
    rintro e W7 ⟨x7, rfl, hx67, hg3, hg4⟩
    refine ⟨(x7, got (vget rl k) k), rfl, ?_⟩
    have hm1 := (got_mine hg1 hg2).ext hx67 (by simp)
    have hm2 := got_mine hg3 hg4
    rw [← hview] at hm2 ⊢
    generalize (if got (vget r k) k = 0 then (vget r k).getD [] else []) = L at *
    have hl1 : x6.2.1 = L.length := by have := hm1.len; simp at this; omega
    have hl2 : x7.2.1 = L.length := by have := hm2.len; simp at this; omega
    refine joinP_in ?_
    refine genQ_of (s := .str) _ (convS_h u22 u5 u9 rfl hm1.cells hl1) ?_
    refine genQ_of (s := .str) _ (convS_h u22 u5 u9 rfl hm2.cells hl2) ?_
    refine iteP_f (by simp) ?_
    refine iteP_f (by simp) ?_
    have hx47 := hx46.trans hx67
    have hk7 := hx47.get hkW4 (by simp)
    refine ld_h (s := .int .i64) (t := (pre.length : Int)) rfl hk7 rfl ?_
    refine addI_to ((pre.length + 1 : Nat) : Int) (by omega) (by omega) (by omega) ?_
    refine stC_h rfl hk7 (by simp) fun W8 hW8 => ?_
    have hx38 : Ext [w4.heap.size] W3.heap W8.heap := by rw [hW8]; exact ((hx34.trans hx47).mono (by simp)).set_own (.inr (by simp))
    refine hkc W8 (.of hx38 (fun b hb => .inl hb) (by simp; omega)) ⟨hxW3.trans hx38, ?_⟩
    rw [hW8, List.length_append, List.length_singleton]; exact set_new hk7
  rintro xs1 W1 rfl ⟨hxW1, hkW1⟩ hD
  refine drewP_h rfl fun W2 hW2 => ?_
  have hx12' : Ext [] W1.heap W2.heap := by rw [hW2]; exact .refl _ _
  have hx4W : Ext [w4.heap.size] w4.heap W2.heap := ((hx412.mono (by simp)).trans hxW1).trans (hx12'.mono (by simp))
  have hne : ∀ b, b < w4.heap.size → b ∉ [w4.heap.size] := fun b hb => by simp only [List.mem_singleton]; omega
  refine ld_h (s := .int .i64) (t := (xs1.length : Int)) rfl (hx12'.get hkW1 (by simp)) rfl ?_
  refine ld_h (s := .ptr) (t := some ⟨pr, 0, none⟩) rfl (hx4W.get hb3 (hne _ hb3l)) rfl ?_
  simp only [withAddr_some, add_none, Nat.zero_add]
  refine ld_h (s := .slc) (t := x) rfl (hx4W.get t1 (hne _ (Nat.lt_of_lt_of_le (hfpr _ t3).2 (by omega)))) rfl ?_
  have hb4W := hx4W.get hb4 (hne _ hb4l)
  refine stC_h rfl hb4W (by simp) fun W3 hW3 => ?_
  have heq1 : (((xs1.length : Nat) : Int) == (x.2.1 : Int)) = true := by rw [hxl, hyl]; exact beq_self_eq_true _
  have hneD : w12.heap.size ≠ B + 2 := by have := lt_of_get hb4; omega
  have hD3 : W3.heap[w12.heap.size]? = some (.deferred (some [])) := by rw [hW3]; exact set_old (hx12'.get hD (by simp)) hneD
  refine ⟨hD3, fun W4 hW4 => ?_⟩
  have hh4 : W4.heap = W3.heap.setIfInBounds w12.heap.size (.deferred none) := by rw [hW4, heap_putObj]
  refine ld_h (s := .bool) (t := true) rfl (by rw [hh4]; exact set_old (by rw [hW3]; exact set_new hb4W) (Ne.symm hneD)) (by rw [heq1]; rfl) ?_
  refine ⟨rfl, ?_⟩
  have hx42 : Ext [] H0 W2.heap := hx04.own hx4W (by intro b hb hlt; simp only [List.mem_singleton] at hb; have := hx04.1; omega)
  have hHB : H0.size ≤ B := by have := hfpr _ t3; omega
  rw [hh4, hW3]
  exact (hx42.set_own (.inl (by omega))).set_own (.inl (by omega))
end Go.Proofs.YtkolbfjheleoaaaDoor

/- The contract of BlobPlays. -/
namespace Go.Proofs.YtkolbfjheleoaaaDoor
open Go Go.Fw Go.Proofs

/-- A call of a script's, in a row's cells. -/
def DoAt (H : Heap) (c : Array Value) (off : Nat) (kind at_ : Int) (turn : UInt8) (xB xA : Option Addr × Nat × Nat) (LB : List UInt8) (Ls : List (List UInt8)) : Prop :=
  c[off]? = some (.int .i64 kind) ∧ c[off + 1]? = some (slcV xB) ∧ c[off + 2]? = some (slcV xA) ∧ c[off + 3]? = some (.int .i64 at_) ∧ c[off + 4]? = some (.int .u8 (turn.toNat : Int)) ∧
  Cells H xB.1 (byteCells LB) ∧ xB.2.1 = LB.length ∧ xB.2.1 ≤ xB.2.2 ∧ Rows H xA.1 xA.2.1 Ls ∧ LB.length ≤ 1048576 ∧ Ls.length ≤ 1048576 ∧ ∀ L ∈ Ls, L.length ≤ 1048576
def Dos (H : Heap) (a : Option Addr) (n : Nat) : Prop := n ≤ 1048576 ∧ ∀ i, i < n → ∃ b o c T fr kind at_ turn xB xA LB Ls, a = some ⟨b, o, none⟩ ∧ H[b]? = some (.cells c T fr) ∧ DoAt H c (o + i * 5) kind at_ turn xB xA LB Ls

theorem eq_bool (x y : Operand) (a b : Bool) (w : World) (h : a = b) : (eqM .eql y_bool x y (.bool a) (.bool b)).run P w = .ok (Sh.bool.val true) w := by
  subst h
  have h : (Op.equal 4 (.bool a) (.bool a)).run P w = .ok (a == a) w := run_equalIn_bool' w 9999 4 a a (by kernel_rfl)
  simp [eqM, eqGuard, binOp, h]
  rfl
theorem bs22_5 (w : World) : (Instr.buildSlice y_S_uint8 5 #[(0, .int .u8 97), (1, .int .u8 112), (2, .int .u8 97), (3, .int .u8 114), (4, .int .u8 116)]).run P w = .ok (.slice (some ⟨w.heap.size, 0, none⟩) 5 5) { w with heap := w.heap.push (.cells #[.int .u8 97, .int .u8 112, .int .u8 97, .int .u8 114, .int .u8 116] y_uint8) } := by kernel_rfl
/-- Five bytes of the program's text. -/
theorem lit5 {w : World} {H : Heap} (hw : w.heap = H) {K : (Option Addr × Nat × Nat) → World → Prop}
    (hK : ∀ w', Cells w'.heap (some ⟨H.size, 0, none⟩) (byteCells [97, 112, 97, 114, 116]) → Ext [] H w'.heap → H.size < w'.heap.size → K (some ⟨H.size, 0, none⟩, 5, 5) w') :
    genL P (Instr.buildSlice y_S_uint8 5 #[(0, .int .u8 97), (1, .int .u8 112), (2, .int .u8 97), (3, .int .u8 114), (4, .int .u8 116)]) .slc w fun t w1 => genL P (convert y_S_uint8 y_S_uint8 (.slice t.1 t.2.1 t.2.2)) .slc w1 K := by
  subst hw
  refine genL_of (s := .slc) (some ⟨w.heap.size, 0, none⟩, 5, 5) _ (bs22_5 w) ?_
  obtain ⟨w', h1, hcm, h2⟩ := mark_h (P := P) (w := { w with heap := w.heap.push (.cells #[.int .u8 97, .int .u8 112, .int .u8 97, .int .u8 114, .int .u8 116] y_uint8) }) (l := 5) (c := 5) (o := 0) u22 u5 rfl push_new
  refine genL_of (s := .slc) (some ⟨w.heap.size, 0, none⟩, 5, 5) w' h1 ?_ hcm
  refine hK w' ?_ (by rw [h2]; exact (Ext.push _).set_own (.inl (Nat.le_refl _))) (by rw [h2]; simp)
  rw [h2]
  exact .inr ⟨w.heap.size, 0, _, y_uint8, _, rfl, set_new push_new, by simp [byteCells], by simp [byteCells]⟩

theorem heavy_c {w : World} {H : Heap} {a : Option Addr} {n nc : Nat} (hw : w.heap = H) (hD : Dos H a n) : CallF P F_l05_heavy #[.slice a n nc] w fun e w' => ∃ b, e = .returned (.bool b) ∧ w' = w := by
  obtain ⟨hn, hD⟩ := hD
  refine fn_l05_heavy ?_
  unfold T_l05_heavy
  refine loopP_of (fun (s : Int × Int) W => ∃ i : Nat, s.2 = (i : Int) ∧ i ≤ n ∧ 0 ≤ s.1 ∧ s.1 ≤ (i : Int) * 1099512676352 ∧ W = w) (fun s _ => (n - s.2).toNat) ⟨0, rfl, Nat.zero_le _, Int.le_refl _, by simp, rfl⟩ ?_
  rintro ⟨t, _⟩ w ⟨i, rfl, hi, h0, h1, rfl⟩
  refine iteP_dec (fun hlt => ?_) (fun hge => ⟨_, rfl, rfl⟩)
  have hil : i < n := by simp only at hlt; omega
  obtain ⟨b, o, c, T, fr, kind, at_, turn, xB, xA, LB, Ls, rfl, hb, hc0, hc1, hc2, hc3, hc4, hB, hBl, hBc, hA, hLB, hLs, hLL⟩ := hD i hil
  simp only at h0 h1
  refine ixS_h i rfl hil ?_
  simp only [add_none]
  refine ld_h (s := .slc) (t := xB) hw hb hc1 ?_
  refine addI_to (t + LB.length) (by rw [hBl]) (by omega) (by omega) ?_
  obtain ⟨hAl, hA⟩ := hA
  refine loopP_of (fun (s : Int × Int) W => ∃ j : Nat, s.2 = (j : Int) ∧ j ≤ Ls.length ∧ 0 ≤ s.1 ∧ s.1 ≤ (i : Int) * 1099512676352 + 1048576 + (j : Int) * 1048576 ∧ W = w) (fun s _ => (Ls.length - s.2).toNat) ⟨0, rfl, Nat.zero_le _, by simp only; omega, by simp only; omega, rfl⟩ ?_
  rintro ⟨u, _⟩ w ⟨j, rfl, hj, h2, h3, rfl⟩
  simp only at h2 h3
  refine ixS_h i rfl hil ?_
  simp only [add_none]
  refine ld_h (s := .slc) (t := xA) hw hb hc2 ?_
  refine iteP_dec (fun hlt2 => ?_) (fun hge2 => ?_)
  · have hjl : j < Ls.length := by omega
    obtain ⟨b2, o2, c2, T2, fr2, x2, hxa, hb2, hcc, _, hx2, _⟩ := hA j hjl
    refine ixS_h i rfl hil ?_
    simp only [add_none]
    refine ld_h (s := .slc) (t := xA) hw hb hc2 ?_
    rw [hxa]
    refine ixS_1 j rfl (by omega) ?_
    refine ld_h (s := .slc) (t := x2) hw hb2 hcc ?_
    have hl2 := hLL _ (List.getElem_mem hjl)
    refine addI_to (u + (Ls[j]).length) (by rw [hx2]) (by omega) (by omega) ?_
    refine addI_to ((j + 1 : Nat) : Int) (by omega) (by omega) (by omega) ?_
    exact ⟨⟨j + 1, rfl, by omega, by omega, by omega, trivial⟩, by omega⟩
  · refine addI_to ((i + 1 : Nat) : Int) (by omega) (by omega) (by omega) ?_
    exact ⟨⟨i + 1, rfl, by omega, h2, by omega, trivial⟩, by omega⟩

set_option maxHeartbeats 16000000 in
theorem plays_c {w : World} {H : Heap} {quota : Int} {a : Option Addr} {n nc : Nat} (hw : w.heap = H) (hR : Rounds H) (hq : quota ≤ 9223372036854775807) (hD : Dos H a n) :
    CallF P F_l05_BlobPlays #[.int .i64 quota, .slice a n nc] w fun e w' => e = .returned (.bool true) ∧ Ext [] H w'.heap := by
  have hH0 : 0 < H.size := by obtain ⟨_, _, _, h, _⟩ := hR; exact lt_of_get h
  refine fn_l05_BlobPlays ?_
  unfold T_l05_BlobPlays
  refine callF_of (awake_c hw hR) ?_
  rintro e w1 ⟨rfl, hx1⟩
  refine ⟨true, rfl, ?_⟩
  refine iteP_f rfl ?_
  have hD0 := hD
  obtain ⟨hn, hD⟩ := hD
  have dosExt : ∀ {W : World}, Ext [] H W.heap → Dos W.heap a n := by
    intro W hx
    refine ⟨hn, fun i hi => ?_⟩
    obtain ⟨b, o, c, T, fr, kind, at_, turn, xB, xA, LB, Ls, h1, hb, hc0, hc1, hc2, hc3, hc4, hB, hBl, hBc, hA, hLL⟩ := hD i hi
    exact ⟨b, o, c, T, fr, kind, at_, turn, xB, xA, LB, Ls, h1, hx.get hb (by simp), hc0, hc1, hc2, hc3, hc4, hB.ext hx (by simp), hBl, hBc, hA.ext hx (by simp), hLL⟩
  refine callF_of (heavy_c rfl (dosExt hx1)) ?_
  rintro e w2 ⟨hv, rfl, hw2⟩
  subst w2
  refine ⟨hv, rfl, ?_⟩
  cases hv with
  | true => exact iteP_t rfl ⟨rfl, hx1⟩
  | false =>
  refine iteP_f rfl ?_
  refine callF_of (new59_c quota rfl) ?_
  rintro e w3 ⟨p0, fp0, rfl, hS0, hx3, hfp0⟩
  refine ⟨some ⟨p0, 0, none⟩, rfl, ?_⟩
  refine callF_of (newr_c quota rfl) ?_
  rintro e w4 ⟨pr0, rfl, hT0, hx4, hpr0, hpr1⟩
  refine ⟨some ⟨pr0, 0, none⟩, rfl, ?_⟩
  refine iteP_f rfl ?_
  generalize hQ : max quota 0 = q at *
  have hq0 : 0 ≤ q := by omega
  have hq1 : q ≤ 9223372036854775807 := by omega
  have hx03 := hx1.trans hx3
  have hx04 := hx03.trans hx4
  have hP0 : Pair H p0 pr0 q 0 w4 := by
    refine ⟨[], 0, fp0, [], [pr0], hx04, hS0.ext hx4 (by simp), hT0, fun b hb => ⟨by have := (hfp0 b hb).1; have := hx1.1; omega, by have := (hfp0 b hb).2; have := hx4.1; omega⟩, fun b hb => ?_, fun b hb hb2 => ?_, fun _ => rfl, by simp, by simp [total], by intro k L h; simp [vget, mget] at h⟩
    · simp only [List.mem_singleton] at hb; subst hb; exact ⟨by have := hx03.1; omega, hpr1⟩
    · simp only [List.mem_singleton] at hb2; subst hb2; have := (hfp0 _ hb).2; omega
  refine joinP_of (fun (s : Option Addr × Option Addr) W => ∃ p pr m, s = (some ⟨p, 0, none⟩, some ⟨pr, 0, none⟩) ∧ m ≤ 100 ∧ Pair H p pr q m W) ?_ ?_
  · refine loopP_of (fun (s : Option Addr × Option Addr × Int) W => ∃ p pr i, s = (some ⟨p, 0, none⟩, some ⟨pr, 0, none⟩, ((i : Nat) : Int)) ∧ i ≤ 100 ∧ Pair H p pr q i W) (fun s _ => (100 - s.2.2).toNat) ⟨p0, pr0, 0, rfl, by omega, hP0⟩ ?_
    rintro _ W ⟨p, pr, i, rfl, hi, hP⟩
    refine joinP_in ?_
    simp only
    refine iteP_dec (fun hlt => ?_) (fun _ => ⟨p, pr, i, rfl, hi, hP⟩)
    refine iteP_dec (fun hlt2 => ?_) (fun _ => ⟨p, pr, i, rfl, hi, hP⟩)
    have hil : i < n := by omega
    obtain ⟨b, o, c, T, fr, kind, at_, turn, xB, xA, LB, Ls, rfl, hb, hc0, hc1, hc2, hc3, hc4, hB, hBl, hBc, hA, hLB, hLs, hLL⟩ := hD i hil
    have hxP : Ext [] H W.heap := by obtain ⟨_, _, _, _, _, h, _⟩ := hP; exact h
    refine joinP_of (fun (s : Option Addr × Option Addr) W' => ∃ p pr, s = (some ⟨p, 0, none⟩, some ⟨pr, 0, none⟩) ∧ Pair H p pr q (i + 1) W') ?_ ?_
    rotate_left
    · rintro _ W' ⟨p', pr', rfl, hP'⟩
      refine addI_to ((i + 1 : Nat) : Int) (by omega) (by omega) (by omega) ?_
      exact ⟨⟨p', pr', i + 1, rfl, by omega, hP'⟩, by omega⟩
    refine ixS_h i rfl hil ?_
    refine ld_h (s := .int .i64) (t := kind) rfl (hxP.get hb (by simp)) hc0 ?_
    refine ⟨_, rfl, ?_⟩
    refine ⟨by decide, _, rfl, ?_⟩
    refine iteP_eq (fun _ => ?_) (fun _ => ?_)
    · obtain ⟨r, cc, fp, rl, fpr, _, hS, hT, hfp, hfpr, hdis, hview, hrl, htot, hsm⟩ := hP
      obtain ⟨htt, hll⟩ := same_view hS.ok.keys hT.keys hview
      have hsm2 : Small rl := hsm.view hview
      refine callF_of (clonestore_c rfl hS hq0 hsm) ?_
      rintro e w7 ⟨p', fp', r', c', rfl, hS7, hx7, hfp7, hv7⟩
      refine ⟨some ⟨p', 0, none⟩, rfl, ?_⟩
      refine callF_of (rclone_c rfl (hT.ext hx7 (by simp)) (by omega) (small_mem hT.keys hsm2)) ?_
      rintro e w8 ⟨pr', fpr', rl', rfl, hT8, hx8, hfpr8, hbare⟩
      refine ⟨some ⟨pr', 0, none⟩, rfl, ?_⟩
      have hx78 := hx7.trans hx8
      have hx08 := hxP.trans hx78
      refine ixS_h i rfl hil ?_
      simp only [add_none]
      refine ld_h (s := .slc) (t := xB) rfl (hx08.get hb (by simp)) hc1 ?_
      refine callF_of (refsum_c rfl (hB.ext hx08 (by simp)) hBl (by omega)) ?_
      rintro e w9 ⟨rfl, hx9⟩
      refine ⟨arr (Sha.sum LB), rfl, ?_⟩
      have hx79 := hx78.trans hx9
      refine callF_of (drop_c rfl (hS.ext hx79 (by simp)) len_sum (by omega)) ?_
      rintro e w10 ⟨rfl, hS10, hx10⟩
      refine ⟨_, rfl, ?_⟩
      refine lit5 rfl fun w12 hC12 hx12 hs12 => ?_
      have hS12 := hS10.ext hx12 (by simp)
      have hx912 : Ext fp w9.heap w12.heap := hx10.trans (hx12.mono (by simp))
      have hx09 := hx08.trans hx9
      have hx012 : Ext [] H w12.heap := hx09.own hx912 (by intro b hb hlt; have := (hfp b hb).1; omega)
      have hs7 := hx7.1
      have hs8 := hx8.1
      have hs9 := hx9.1
      have hs10 := hx10.1
      have htd : total (mdel r (Sha.sum LB)) ≤ total r := by
        cases hg : mget r (Sha.sum LB) with
        | none => rw [mdel_none (mget_none hg)]; omega
        | some v => have := total_del' hS.ok.keys hg; omega
      refine callF_of (put_c (L := [97, 112, 97, 114, 116]) rfl hS12 (fun b hb => by have := (hfp b hb).2; omega) (hR.ext hx012 (by simp)) (fun h => by have := (hfp _ h).1; omega) hC12 rfl (by simp only; omega)
        (fun _ y hy => by cases hy; exact fun h => by have := (hfp _ h).2; simp only at this; omega) (by omega) hq0 hq1 (fun k L h => by rw [vget_del] at h; split at h; cases h; exact hsm k L h)) ?_
      rintro e w13 ⟨code, r13, c13, fp13, rfl, _, hx13, _, _, _, _⟩
      refine ⟨(arr (if code = 0 then Sha.sum [97, 112, 97, 114, 116] else nought), code), rfl, ?_⟩
      have hx913 : Ext fp w9.heap w13.heap := hx912.trans hx13
      have hs13 := hx913.1
      have hnf : ∀ b, W.heap.size ≤ b → b ∉ fp := fun b hb h => by have := (hfp b h).2; omega
      have hv' : ∀ k, vget r' k = vget rl' k := fun k => by rw [hv7, hview, bare_vget hbare]
      have hsv := same_view hS7.ok.keys hS.ok.keys hv7
      refine ⟨p', pr', rfl, r', c', fp', rl', fpr', hx09.own hx913 (by intro b hb hlt; have := (hfp b hb).1; omega), (hS7.ext (hx8.trans hx9) (by simp)).ext hx913 (fun b hb => hnf b (hfp7 b hb).1), (hT8.ext hx9 (by simp)).ext hx913 (fun b hb => hnf b (by have := (hfpr8 b hb).1; omega)),
        fun b hb => ⟨by have := (hfp7 b hb).1; have := hxP.1; omega, by have := (hfp7 b hb).2; omega⟩, fun b hb => ⟨by have := (hfpr8 b hb).1; have := hxP.1; omega, by have := (hfpr8 b hb).2; omega⟩, fun b hb hb2 => by have := (hfp7 b hb).2; have := (hfpr8 b hb2).1; omega, hv', by omega, by omega, hsm.view fun k => (hv7 k).symm⟩
    · refine ixS_h i rfl hil ?_
      refine ldA_h rfl (hxP.get hb (by simp)) (by have := (Array.getElem?_eq_some_iff.1 hc4).1; omega) ?_
      have hcs : c.extract (o + i * 5) (o + i * 5 + 5) = #[.int .i64 kind, slcV xB, slcV xA, .int .i64 at_, .int .u8 (turn.toNat : Int)] := by
        apply Array.ext_getElem?
        intro j
        rw [Array.getElem?_extract]
        have h4 := (Array.getElem?_eq_some_iff.1 hc4).1
        match j with
        | 0 => rw [if_pos (by omega)]; exact hc0
        | 1 => rw [if_pos (by omega)]; exact hc1
        | 2 => rw [if_pos (by omega)]; exact hc2
        | 3 => rw [if_pos (by omega)]; exact hc3
        | 4 => rw [if_pos (by omega)]; exact hc4
        | j + 5 => rw [if_neg (by omega)]; simp
      rw [hcs]
      refine callF_of (do_c hP hR hq0 hq1 hi hB hBl hBc (by omega) hA hLs (fun L hL => by have := hLL L hL; omega)) ?_
      rintro e w14 ⟨rfl, hP'⟩
      refine ⟨true, rfl, ?_⟩
      refine iteP_f rfl ?_
      exact ⟨p, pr, rfl, hP'⟩
  · rintro _ W ⟨p, pr, m, rfl, hm, hP⟩
    obtain ⟨r, cc, fp, rl, fpr, hxP, hS, hT, hfp, hfpr, hdis, hview, hrl, htot, hsm⟩ := id hP
    obtain ⟨htt, hll⟩ := same_view hS.ok.keys hT.keys hview
    have hnil : ∀ {W : World}, Cells W.heap none (byteCells []) := .inl rfl
    simp only
    refine callF_of (refsum_c (L := []) rfl hnil rfl (by simp)) ?_
    rintro e w17 ⟨rfl, hx17⟩
    refine ⟨arr (Sha.sum []), rfl, ?_⟩
    refine callF_of (has_c rfl (hS.ext hx17 (by simp)) len_sum) ?_
    rintro e w18 ⟨rfl, hx18⟩
    refine ⟨_, rfl, ?_⟩
    refine callF_of (refsum_c (L := []) rfl hnil rfl (by simp)) ?_
    rintro e w19 ⟨rfl, hx19⟩
    refine ⟨arr (Sha.sum []), rfl, ?_⟩
    have hxW19 := (hx17.trans hx18).trans hx19
    refine callF_of (rhas_c rfl (hT.ext hxW19 (by simp)) len_sum (by omega)) ?_
    rintro e w20 ⟨rfl, hx20⟩
    refine ⟨_, rfl, ?_⟩
    refine genQ_of (s := .bool) true (eq_bool _ _ _ _ _ (by rw [hview])) ?_
    refine iteP_t rfl ?_
    have hx := hxW19.trans hx20
    have hP' : Pair H p pr q m w20 := ⟨r, cc, fp, rl, fpr, hxP.trans hx, hS.ext hx (by simp), hT.ext hx (by simp), fun b hb => ⟨(hfp b hb).1, by have := (hfp b hb).2; have := hx.1; omega⟩, fun b hb => ⟨(hfpr b hb).1, by have := (hfpr b hb).2; have := hx.1; omega⟩, hdis, hview, hrl, htot, hsm⟩
    refine callF_of (same_c hP' hR (by omega)) ?_
    rintro e w21 ⟨rfl, hx21⟩
    refine ⟨true, rfl, ?_⟩
    exact ⟨rfl, hx21⟩
end Go.Proofs.YtkolbfjheleoaaaDoor

/- A script of calls, opened; the bulk of what is read. -/
namespace Go.Proofs.YtkolbfjheleoaaaDoor
open Go Go.Fw Go.Proofs Go.ChangeShapes Go.WideShapes Go.ChangeAt Go.RowKit
variable {H : Type}
theorem bulk_pos (d : DataW H) : 1 ≤ Rows.uptoBulk d := by
  cases d with
  | lit l => cases l <;> simp [Rows.uptoBulk]
  | _ => simp [Rows.uptoBulk]
theorem bulk_all_len : ∀ {l : List (DataW H)}, l.length ≤ Rows.uptoBulkAll l
  | [] => by simp [Rows.uptoBulkAll]
  | d :: l => by
    have := bulk_all_len (l := l)
    have := bulk_pos d
    simp only [Rows.uptoBulkAll, List.length_cons]; omega
theorem bulk_mem : ∀ {l : List (DataW H)} {d : DataW H}, d ∈ l → Rows.uptoBulk d ≤ Rows.uptoBulkAll l
  | x :: l, d, h => by
    simp only [Rows.uptoBulkAll]
    rcases List.mem_cons.1 h with rfl | h
    · omega
    · have := bulk_mem h; omega
theorem bulk_big (d : DataW H) : big d ≤ Rows.uptoBulk d := by
  cases d with
  | slice es rest => have := bulk_all_len (l := es); simp only [big, Rows.uptoBulk]; omega
  | _ => simp [big]
theorem bulk_slice {es rest : List (DataW H)} {d : DataW H} (h : d ∈ es) : Rows.uptoBulk d ≤ Rows.uptoBulk (.slice es rest) := by
  have := bulk_mem h; simp only [Rows.uptoBulk]; omega
theorem bulk_agg {es : List (DataW H)} {d : DataW H} (h : d ∈ es) : Rows.uptoBulk d ≤ Rows.uptoBulk (.agg es) := by
  have := bulk_mem h; simp only [Rows.uptoBulk]; omega

theorem shDo : shapeOf P y_l05_Do = some [(y_int, 0), (y_S_uint8, 1), (y_S_S_uint8, 2), (y_int, 3), (y_uint8, 4)] := by kernel_rfl
theorem cDo : P.cellsOf y_l05_Do = 5 := by kernel_rfl
theorem c22' : P.cellsOf y_S_uint8 = 1 := by kernel_rfl
theorem c37' : P.cellsOf y_S_S_uint8 = 1 := by kernel_rfl
theorem cint : P.cellsOf y_int = 1 := by kernel_rfl
theorem uint' : P.underlying y_int = some (.int .i64) := by kernel_rfl
theorem u37' : P.underlying y_S_S_uint8 = some (.slice y_S_uint8) := by kernel_rfl

theorem open_dos {enc : TypeId × Value → H} {W : World} {t : TypeId} (ht : P.underlying t = some (.slice y_l05_Do)) {v : Value} {fuel : Nat} {x : DataW H × List MemPlace} (h : DataW.trod enc P W 0 (fun _ => true) true fuel t [v] = some x) (hb : Rows.uptoBulk x.1 ≤ 1048576) :
    ∃ a n nc, v = .slice a n nc ∧ Dos W.heap a n := by
  obtain ⟨a, n, nc, ys, rfl, hle, hn, hx, hel⟩ := row_of ht cDo (by omega) h
  refine ⟨a, n, nc, rfl, ?_, fun i hi => ?_⟩
  · have := bulk_big x.1
    rcases hx with ⟨h1, _, _⟩ | ⟨rest, h3⟩
    · omega
    · rw [h3] at this hb; simp only [big] at this; omega
  · have hbi : Rows.uptoBulk (ys[i]'(by omega)) ≤ 1048576 := by
      rcases hx with ⟨h1, _, _⟩ | ⟨rest, h3⟩
      · omega
      · rw [h3] at hb
        have := bulk_slice (rest := rest) (List.getElem_mem (l := ys) (n := i) (by omega))
        omega
    obtain ⟨b, o, c, T, fr, m, ps, rfl, hbk, hsz, ht2⟩ := hel i (by omega)
    generalize ys[i]'(by omega) = y at *
    obtain ⟨zs, hy, _, hzl, hf⟩ := struct_of shDo ht2
    have hy : y = .agg zs := hy
    subst hy
    have field : ∀ j ti, ([(y_int, 0), (y_S_uint8, 1), (y_S_S_uint8, 2), (y_int, 3), (y_uint8, 4)] : List (TypeId × Nat))[j]? = some (ti, j) → P.cellsOf ti = 1 → j < 5 → ∃ m ps z v, z ∈ zs ∧ c[o + i * 5 + j]? = some v ∧ DataW.trod enc P W 0 (fun _ => true) true m ti [v] = some (z, ps) := by
      intro j ti hj hc1 hj5
      obtain ⟨m', ps', z, hz, htr⟩ := hf j ti j hj
      rw [hc1, field_one hj5 hsz] at htr
      exact ⟨m', ps', z, _, List.mem_of_getElem? hz, Array.getElem?_eq_getElem _, htr⟩
    obtain ⟨m0, p0, z0, v0, hz0, hc0, ht0⟩ := field 0 y_int rfl cint (by omega)
    obtain ⟨m1, p1, z1, v1, hz1, hc1, ht1⟩ := field 1 y_S_uint8 rfl c22' (by omega)
    obtain ⟨m2, p2, z2, v2, hz2, hc2, ht2'⟩ := field 2 y_S_S_uint8 rfl c37' (by omega)
    obtain ⟨m3, p3, z3, v3, hz3, hc3, ht3⟩ := field 3 y_int rfl cint (by omega)
    obtain ⟨m4, p4, z4, v4, hz4, hc4, ht4⟩ := field 4 y_uint8 rfl c5 (by omega)
    obtain ⟨k0, rfl, _⟩ := int_of uint' ht0
    obtain ⟨k3, rfl, _⟩ := int_of uint' ht3
    obtain ⟨k4, rfl, hw4⟩ := int_of u5 ht4
    obtain ⟨aB, lB, cB, LB, rfl, hCB, hlB, hcB, hbB⟩ := bytesW u22 u5 c5 ht1
    obtain ⟨aA, nA, ncA, Ls, es, rfl, hleA, hRA, hnA, hxA, hLA⟩ := rowsW u37' u22 u5 c5 c22' ht2'
    have h4b : 0 ≤ k4 ∧ k4 < 256 := by
      have h1 : IntKind.u8.min = 0 := rfl
      have h2 : IntKind.u8.max = 255 := rfl
      simp only [Lit.wf, Bool.and_eq_true, decide_eq_true_eq] at hw4
      omega
    have hbz1 := bulk_agg hz1
    have hbz2 := bulk_agg hz2
    have hbg1 := bulk_big z1
    have hbg2 := bulk_big z2
    simp only at hbB
    refine ⟨b, o, c, T, fr, k0, k3, UInt8.ofNat k4.toNat, (aB, lB, cB), (aA, nA, ncA), LB, Ls, rfl, hbk, hc0, hc1, hc2, hc3, ?_, hCB, hlB, hcB, hRA, by omega, ?_, ?_⟩
    · rw [hc4]
      have : ((UInt8.ofNat k4.toNat).toNat : Int) = k4 := by simp; omega
      rw [this]
    · have hnl := hRA.1
      rcases hxA with ⟨h1, _, _⟩ | ⟨rest, h3⟩
      · omega
      · have h3 : z2 = .slice es rest := h3
        rw [h3] at hbg2; simp only [big] at hbg2; rw [h3] at hbz2; omega
    · intro L hL
      obtain ⟨e, he, hel⟩ := hLA L hL
      have := bulk_big e
      rcases hxA with ⟨_, h2, _⟩ | ⟨rest, h3⟩
      · rw [h2] at he; cases he
      · have h3 : z2 = .slice es rest := h3
        have := bulk_slice (rest := rest) he
        rw [← h3] at this; omega
end Go.Proofs.YtkolbfjheleoaaaDoor
