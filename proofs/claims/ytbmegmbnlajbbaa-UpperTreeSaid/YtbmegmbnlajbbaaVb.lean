/- The contract of UpperTree. -/
import Derived.Test.YtbmegmbnlajbbaaUw
namespace Go.Proofs.Ytbmegmbnlajbbaa
open Go Go.Fw Go.Proofs Go.Sort

theorem encI_at0 {v : Ino} : (encI v)[0]? = some (.string (strOf (showP v.names))) := rfl
theorem encI_at1 {v : Ino} : (encI v)[1]? = some (.int .i64 v.kind) := rfl
theorem ext4 {v : Ino} {c : Array Value} {o : Nat} (hs : o + 4 ≤ c.size) (hc : ∀ j, j < 4 → c[o + j]? = (encI v)[j]?) : c.extract o (o + 4) = (encI v).toArray := by
  apply Array.ext_getElem?
  intro j
  rw [Array.getElem?_extract]
  by_cases hj : j < 4
  · rw [if_pos (by omega), hc j hj]; simp
  · rw [if_neg (by omega), Array.getElem?_eq_none (by simp [len_encI]; omega)]

set_option maxHeartbeats 8000000 in
theorem tree_c {w : World} {H : Heap} {a : Option Addr} {n nc : Nat} (hw : w.heap = H) (hD : Steps H a n) :
    CallF P F_l12_UpperTree #[.slice a n nc] w fun e w' => e = .returned (.bool true) ∧ Ext [] H w'.heap := by
  refine fn_l12_UpperTree ?_
  unfold T_l12_UpperTree
  refine callF_of (awake_c hw) ?_
  rintro e w1 ⟨rfl, hx1⟩
  refine ⟨true, rfl, ?_⟩
  refine iteP_f rfl ?_
  refine callF_of (fits_c rfl (hD.ext hx1)) ?_
  rintro e w2 ⟨fb, rfl, hw2⟩
  refine ⟨fb, rfl, ?_⟩
  have hx2 : Ext [] H w2.heap := by rw [hw2]; exact hx1
  cases fb with
  | false => exact iteP_t rfl ⟨rfl, hx2⟩
  | true =>
  refine iteP_f rfl ?_
  have hok : newOk 128 8192 := by unfold newOk; omega
  refine callF_of (new_c 128 8192 rfl) ?_
  rintro e w3 (⟨h, _⟩ | ⟨_, p, m, rfl, hU, hx3, hp1, hp2, hm1, hm2⟩)
  · exact absurd hok h
  refine ⟨(some ⟨p, 0, none⟩, 0), rfl, ?_⟩
  refine callF_of (rnew_c 128 8192 rfl) ?_
  rintro e w4 (⟨h, _⟩ | ⟨_, pr, rfl, hR, hx4, hr1, hr2⟩)
  · exact absurd hok h
  refine ⟨(some ⟨pr, 0, none⟩, 0), rfl, ?_⟩
  have hx03 := hx2.trans hx3
  have hx04 := hx03.trans hx4
  have hs2 := hx2.1
  have hs3 := hx3.1
  have hB4 : Both H p m pr 128 8192 w4 := ⟨[], [pr], hx04, hU.ext hx4 (by simp) (by simp), hR, by omega, by omega, (by intro b hb; simp only [List.mem_singleton] at hb; omega), (by simp only [List.mem_singleton]; omega), (by simp only [List.mem_singleton]; omega), Tree.nil⟩
  refine joinP_in ?_
  refine iteP_f rfl ?_
  refine callF_of (play_c hB4 hD) ?_
  rintro e w6 ⟨rfl, hB6⟩
  refine ⟨true, rfl, ?_⟩
  refine iteP_f rfl ?_
  obtain ⟨L, fp, hx6, hU6, hR6, hp0, hm0, hf0, hpf, hmf, hT⟩ := hB6
  have hG := hU6.good
  have hmany := hG.many
  refine callF_of (below_c (q := []) rfl hU6 (.inl rfl) rfl (by simp)) ?_
  rintro e w7 ⟨y, rfl, hm7, hx67⟩
  refine ⟨y, rfl, ?_⟩
  rw [below_all hG] at hm7
  have hyl := mineI_len hm7
  have hU7 := hU6.ext hx67 (by simp) (by simp)
  have hx7 := hx6.trans hx67
  refine loopP_of (fun (s : Int) W => ∃ i : Nat, s = (i : Int) ∧ i ≤ L.length ∧ Ext [] w7.heap W.heap) (fun s _ => (L.length - s).toNat) ⟨0, rfl, Nat.zero_le _, .refl _ _⟩ ?_
  rintro _ W ⟨i, rfl, hi, hxW⟩
  refine iteP_dec (fun hlt => ?_) (fun hge => ?_)
  · have hil : i < L.length := by omega
    have hget := List.getElem?_eq_getElem hil
    have hmem : L[i] ∈ L := List.getElem_mem hil
    have hprev : ∀ h : 0 < i, ∃ u ∈ L, L[i - 1]? = some u ∧ cmpP u.names L[i].names < 0 := fun h => ⟨L[i - 1], List.getElem_mem _, List.getElem?_eq_getElem (by omega), List.pairwise_iff_getElem.1 hG.rise (i - 1) i (by omega) hil (by omega)⟩
    generalize L[i] = v at hget hmem hprev
    obtain ⟨hokv, hnev⟩ := hG.ok v hmem
    have hfit := hokv.fit
    have hsm := hokv.small
    have hvl := hokv.2
    refine joinP_of (fun _ W' => Ext [] w7.heap W'.heap) ?_ ?_
    rotate_left
    · rintro _ W' hW'
      refine addI_to ((i + 1 : Nat) : Int) (by omega) (by omega) (by omega) ?_
      exact ⟨⟨i + 1, rfl, by omega, hW'⟩, by omega⟩
    refine joinP_in ?_
    have hc7 := hm7.cells
    refine inoIx rfl (hc7.ext hxW (by simp)) hyl hget rfl fun b1 o1 c1 T1 fr1 hb1 hsz1 hc1 => ?_
    have c10 : c1[o1]? = some (.string (strOf (showP v.names))) := hc1 0 (by omega)
    refine ld_h (s := .str) (t := strOf (showP v.names)) rfl hb1 c10 ?_
    refine callF_of (rnames_c (showP v.names) rfl) ?_
    rintro e w9 ⟨x, rfl, hm9, hxW9⟩
    refine ⟨x, rfl, ?_⟩
    rw [parse_show hokv] at hm9
    have hm9 : Mine w9.heap W.heap.size y_string 1 x (strRow v.names) := hm9
    have hxl : x.2.1 = v.names.length := by have := hm9.len; simp at this; omega
    have hxc := mine_ok hm9
    have hx79 := hxW.trans hxW9
    refine joinP_of (fun _ W' => Ext [] w9.heap W'.heap) ?_ ?_
    · refine drewP_h rfl fun w10 hw10 => ?_
      have hx910 : Ext [] w9.heap w10.heap := by rw [hw10]; exact .refl _ _
      have hb10 := (hxW9.trans hx910).get hb1 (by simp)
      refine inoIx rfl (hc7.ext hxW (by simp)) hyl hget rfl fun b2 o2 c2 T2 fr2 hb2 hsz2 hc2 => ?_
      have hb2' := (hxW9.trans hx910).get hb2 (by simp)
      refine ld_h (s := .str) (t := strOf (showP v.names)) rfl hb2' (hc2 0 (by omega)) ?_
      refine callF_of (rshow_c rfl (hm9.ext hx910 (by simp)).cells hxl (by omega)) ?_
      rintro e w11 ⟨rfl, rfl⟩
      refine ⟨strOf (showP v.names), rfl, ?_⟩
      refine ⟨ld_h (s := .str) (t := strOf (showP v.names)) rfl hb2' (hc2 0 (by omega)) rfl, ?_⟩
      refine iteP_f (by simp) ?_
      refine iteP_f (by have := List.length_pos_iff.2 hnev; simp; omega) ?_
      refine iteP_dec (fun h0 => ?_) (fun _ => hx910)
      have h0 : 0 < i := by omega
      obtain ⟨u, hu, hgu, hcmp⟩ := hprev h0
      obtain ⟨hoku, hneu⟩ := hG.ok u hu
      have hul := hoku.2
      refine subI_to ((i - 1 : Nat) : Int) (by omega) (by omega) (by omega) ?_
      refine inoIx rfl (hc7.ext (hx79.trans hx910) (by simp)) hyl hgu rfl fun b3 o3 c3 T3 fr3 hb3 hsz3 hc3 => ?_
      refine ld_h (s := .str) (t := strOf (showP u.names)) rfl hb3 (hc3 0 (by omega)) ?_
      refine callF_of (rnames_c (showP u.names) rfl) ?_
      rintro e w12 ⟨z, rfl, hm12, hx12⟩
      refine ⟨z, rfl, ?_⟩
      rw [parse_show hoku] at hm12
      have hm12 : Mine w12.heap w11.heap.size y_string 1 z (strRow u.names) := hm12
      have hzl : z.2.1 = u.names.length := by have := hm12.len; simp at this; omega
      refine callF_of (rcompare_c rfl hm12.cells hzl (hm9.ext (hx910.trans hx12) (by simp)).cells hxl (by omega)) ?_
      rintro e w13 ⟨rfl, hw13⟩
      refine ⟨cmpP u.names v.names, rfl, ?_⟩
      refine iteP_f (by simp; omega) ?_
      show Ext [] w9.heap w13.heap
      rw [hw13]; exact hx910.trans hx12
    rintro _ w14 hx914
    have hx14 := hx79.trans hx914
    have hm14 := hm9.ext hx914 (by simp)
    refine callF_of (get_c rfl (hU7.ext hx14 (by simp) (by simp)) hm14.cells hxl hxc hfit (by omega)) ?_
    rintro e w15 ⟨rfl, hx15⟩
    refine ⟨(.agg (gotI (getL L v.names)).toArray, (getL L v.names).isSome), rfl, ?_⟩
    rw [get_mem hG hmem, zcI]
    refine newB_h rfl fun w16 hw16 => ?_
    have hb16 : w16.heap[w15.heap.size]? = some (.cells (raw [] 0 false []).toArray y_api_Inode (0, 0)) := by rw [hw16]; exact push_new
    refine stI rfl hb16 rfl len_gotI one_gotI fun w17 hw17 => ?_
    have hb17 : w17.heap[w15.heap.size]? = some (.cells (gotI (some v)).toArray y_api_Inode (0, 0)) := by rw [hw17]; exact set_new hb16
    have hx1517 : Ext [] w15.heap w17.heap := by rw [hw17, hw16]; exact (Ext.push _).set_own (.inl (Nat.le_refl _))
    have hx1417 := hx15.trans hx1517
    have hx17 := hx14.trans hx1417
    have hm17 := hm14.ext hx1417 (by simp)
    have hnp := List.length_pos_iff.2 hnev
    refine subI_to ((x.2.1 - 1 : Nat) : Int) (by omega) (by omega) (by omega) ?_
    refine genQ_of (s := .slc) (if x.2.2 = 0 then x.1 else x.1.map (·.add (0 * 1)), (x.2.1 - 1) - 0, x.2.2 - 0) (run_slice_slc uSstr szStr .no (.yes rfl) (Nat.zero_le _) (show x.2.1 - 1 ≤ x.2.2 by omega)) ?_
    have hcut := (Mine.cut hm17 (k := x.2.1 - 1) (by omega)).cells
    rw [strRow_take] at hcut
    have hdl : v.names.take (x.2.1 - 1) = v.names.dropLast := by rw [List.dropLast_eq_take, hxl]
    have hcut : Cells w17.heap (if x.2.2 = 0 then x.1 else x.1.map (·.add (0 * 1))) (strRow (v.names.take (x.2.1 - 1))) := hcut
    rw [hdl] at hcut
    have hql : v.names.dropLast.length = x.2.1 - 1 := by rw [List.length_dropLast]; omega
    have hokd : okP v.names.dropLast := by rw [← hdl]; exact hokv.take _
    refine callF_of (get_c rfl (hU7.ext hx17 (by simp) (by simp)) hcut (by rw [hql]; simp) (by simp only; omega) hokd.fit (by omega)) ?_
    rintro e w18 ⟨rfl, hx18⟩
    refine ⟨(.agg (gotI (getL L v.names.dropLast)).toArray, (getL L v.names.dropLast).isSome), rfl, ?_⟩
    refine newB_h rfl fun w19 hw19 => ?_
    have hb19 : w19.heap[w18.heap.size]? = some (.cells (raw [] 0 false []).toArray y_api_Inode (0, 0)) := by rw [hw19]; exact push_new
    refine stI rfl hb19 rfl len_gotI one_gotI fun w20 hw20 => ?_
    have hb20 : w20.heap[w18.heap.size]? = some (.cells (gotI (getL L v.names.dropLast)).toArray y_api_Inode (0, 0)) := by rw [hw20]; exact set_new hb19
    have hx1820 : Ext [] w18.heap w20.heap := by rw [hw20, hw19]; exact (Ext.push _).set_own (.inl (Nat.le_refl _))
    have hx1720 := hx18.trans hx1820
    refine drewP_h rfl fun w21 hw21 => ?_
    have hx2021 : Ext [] w20.heap w21.heap := by rw [hw21]; exact .refl _ _
    have hx1721 := hx1720.trans hx2021
    have hx21 := hx17.trans hx1721
    have hm21 := hm17.ext hx1721 (by simp)
    refine iteP_f rfl ?_
    refine inoIx rfl (hc7.ext hx21 (by simp)) hyl hget rfl fun b4 o4 c4 T4 fr4 hb4 hsz4 hc4 => ?_
    refine ldA_all rfl (hx1721.get hb17 (by simp)) (by simp [len_gotI]) ?_
    refine ldA_h rfl hb4 hsz4 ?_
    rw [ext4 hsz4 hc4]
    refine genQ_of (s := .bool) _ neRaw ?_
    refine iteP_f (by rw [same_self]; rfl) ?_
    refine iteP_dec (fun h1 => ?_) (fun h1 => ?_)
    · have h1 : 1 < v.names.length := by omega
      obtain ⟨d, hd, hdk⟩ := hT.dir hG hmem h1
      refine iteP_f (by rw [hd]; rfl) ?_
      refine ld_h (s := .int .i64) (t := kindOf (getL L v.names.dropLast)) rfl (hx2021.get hb20 (by simp)) (by rw [List.getElem?_toArray]; exact gotI_kind) ?_
      refine iteP_f (by rw [hd]; simp [kindOf, hdk]) ?_
      refine inoIx rfl (hc7.ext hx21 (by simp)) hyl hget rfl fun b5 o5 c5 T5 fr5 hb5 hsz5 hc5 => ?_
      refine ld_h (s := .int .i64) (t := v.kind) rfl hb5 (hc5 1 (by omega)) ?_
      refine iteP_ne (fun hk => ?_) (fun _ => hx21)
      refine callF_of (below_c rfl (hU7.ext hx21 (by simp) (by simp)) hm21.cells hxl (by omega)) ?_
      rintro e w22 ⟨z, rfl, hm22, hx22⟩
      refine ⟨z, rfl, ?_⟩
      rw [hT.none_below hG hmem hk] at hm22
      have hz := mineI_len hm22
      exact iteP_f (by rw [hz]; rfl) (hx21.trans hx22)
    · refine inoIx rfl (hc7.ext hx21 (by simp)) hyl hget rfl fun b5 o5 c5 T5 fr5 hb5 hsz5 hc5 => ?_
      refine ld_h (s := .int .i64) (t := v.kind) rfl hb5 (hc5 1 (by omega)) ?_
      refine iteP_ne (fun hk => ?_) (fun _ => hx21)
      refine callF_of (below_c rfl (hU7.ext hx21 (by simp) (by simp)) hm21.cells hxl (by omega)) ?_
      rintro e w22 ⟨z, rfl, hm22, hx22⟩
      refine ⟨z, rfl, ?_⟩
      rw [hT.none_below hG hmem hk] at hm22
      have hz := mineI_len hm22
      exact iteP_f (by rw [hz]; rfl) (hx21.trans hx22)
  · have hUW := hU7.ext hxW (by simp) (by simp)
    refine callF_of (count_c rfl hUW) ?_
    rintro e w26 ⟨rfl, hw26⟩
    subst w26
    refine ⟨(L.length : Int), rfl, ?_⟩
    refine iteP_t (by simp [hyl]) ?_
    refine callF_of (drop_c (q := []) rfl hUW (.inl rfl) rfl (Nat.le_refl _) (by intro x hx; simp at hx) (by simp)) ?_
    rintro e w27 ⟨rfl, hU27, hx27⟩
    rw [drop_root] at hU27
    refine ⟨(L.length : Int), by rw [drop_root]; simp; rfl, ?_⟩
    refine iteP_t (by simp) ?_
    refine callF_of (count_c rfl hU27) ?_
    rintro e w28 ⟨rfl, hw28⟩
    subst w28
    refine ⟨0, rfl, ?_⟩
    refine iteP_t rfl ?_
    refine callF_of (size_c rfl hU27) ?_
    rintro e w29 ⟨rfl, hw29⟩
    subst w29
    refine ⟨0, rfl, ?_⟩
    exact ⟨rfl, (hx7.trans hxW).own hx27 (by intro b hb hlt; simp at hb; omega)⟩
end Go.Proofs.Ytbmegmbnlajbbaa
