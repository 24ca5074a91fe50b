/- The upper branch: Put. -/
import Derived.Test.YtbmegmbnlajbbaaGreatUm
namespace Go.Proofs.YtbmegmbnlajbbaaGreat
open Go Go.Fw Go.Proofs Go.Sort

theorem gotI_kind {o : Option Ino} : (gotI o)[1]? = some (.int .i64 (kindOf o)) := by cases o <;> rfl
theorem gotI_data {o : Option Ino} : ∃ D : List UInt8, (gotI o)[3]? = some (.string (strOf D)) ∧ D.length = olenL o := by
  cases o with
  | none => exact ⟨[], rfl, rfl⟩
  | some i => exact ⟨i.data, rfl, rfl⟩
theorem formE_small {k : Int} {o : Bool} {d : List UInt8} (h : formE k o d = 0) : d.length ≤ 1024 := by
  unfold formE at h
  split at h
  · omega
  split at h
  · omega
  split at h
  · omega
  · omega
theorem getL_eq {L : List Ino} {q : Path} (hq : okP q) (hne : q ≠ []) : getL L q = L.find? fun i => decide (i.names = q) := by unfold getL; rw [if_pos ⟨hne, check_ok.2 hq⟩]
theorem tot_le : ∀ {L : List Ino}, (∀ i ∈ L, i.data.length ≤ 1024) → tot L ≤ 1024 * L.length
  | [], _ => by simp [tot]
  | i :: L, h => by
    have h1 := h i (by simp)
    have h2 := tot_le (L := L) fun j hj => h j (by simp [hj])
    rw [tot_cons, List.length_cons]; omega
theorem Up.good {H : Heap} {p m : Nat} {n b : Int} {L : List Ino} (h : Up H p m n b L) : Good L := by obtain ⟨_, _, _, _, _, h4⟩ := h; exact h4.good

set_option maxHeartbeats 8000000 in
theorem put_c {w : World} {H : Heap} {p m : Nat} {nn bb : Int} {L : List Ino} {t d : List UInt8} {k : Int} {o : Bool} (hw : w.heap = H) (hU : Up H p m nn bb L) :
    CallF P F_upper_Upper_Put #[.pointer (some ⟨p, 0, none⟩), rawV t k o d] w fun e w' => e = .returned (.int .i64 (putL L t k o d).1) ∧ Up w'.heap p m nn bb (putL L t k o d).2 ∧ Ext [p, m] H w'.heap := by
  have hG := hU.good
  have hmany := hG.many
  have htot := tot_le hG.small
  obtain ⟨M, c, u1, u2, u3, u4⟩ := id hU
  have hpl := lt_of_get u1
  have hml := lt_of_get u2
  have hpm : p ≠ m := by rintro rfl; rw [u1] at u2; cases u2
  refine fn_upper_Upper_Put ?_
  unfold T_upper_Upper_Put
  refine newB_h hw fun w1 hw1 => ?_
  have hx1 : Ext [] H w1.heap := by rw [hw1]; exact .push _
  have hb1 : w1.heap[H.size]? = some (.cells (raw t k o d).toArray y_api_Inode (0, 0)) := by rw [hw1]; exact push_new
  have keep : ∀ {w : World} {C : Int}, putL L t k o d = (C, L) → Ext [] H w.heap → (Ending.returned (Value.int .i64 C) = .returned (.int .i64 (putL L t k o d).1) ∧ Up w.heap p m nn bb (putL L t k o d).2 ∧ Ext [p, m] H w.heap) := by
    intro w C h hx
    rw [h]
    exact ⟨rfl, hU.ext hx (by simp) (by simp), hx.mono (by simp)⟩
  refine iteP_f rfl ?_
  refine ld_h (s := .str) (t := strOf t) rfl hb1 rfl ?_
  refine callF_of (parse_c t rfl) ?_
  rintro e w2 ⟨x, rfl, hm2, hx12⟩
  refine ⟨(x, (parseP t).2), rfl, ?_⟩
  have hx2 := hx1.trans hx12
  have hb2 := hx12.get hb1 (by simp)
  refine iteP_ne (fun h => keep (by unfold putL; rw [if_pos h]) hx2) (fun h0 => ?_)
  have hq := parse_ok t
  have hP1 : putL L t k o d = if (parseP t).1 = [] then (132, L) else if formE k o d ≠ 0 then (formE k o d, L)
      else if 1 < (parseP t).1.length ∧ (getL L (parseP t).1.dropLast).isSome = false then (4, L)
      else if 1 < (parseP t).1.length ∧ kindOf (getL L (parseP t).1.dropLast) ≠ 2 then (70, L)
      else if k ≠ 2 ∧ 0 < (belowL L (parseP t).1).length then (130, L)
      else if (getL L (parseP t).1).isSome = false ∧ 1024 ≤ L.length then (8, L)
      else (0, insL L ⟨(parseP t).1, k, o, d⟩) := by unfold putL; rw [if_neg fun h => h h0]
  generalize (parseP t).1 = q at *
  have hxl : x.2.1 = q.length := by have := hm2.len; simp at this; omega
  have hxc : x.2.1 ≤ x.2.2 := by
    rcases hm2 with ⟨rfl, _⟩ | ⟨_, _, _, _, _, _, _, h, _⟩
    · exact Nat.le_refl _
    · exact h
  have hq8 := hq.2
  refine iteP_eq (fun h => keep (by rw [hP1, if_pos (List.eq_nil_of_length_eq_zero (by simp only at h; omega))]) hx2) (fun h => ?_)
  have hne : q ≠ [] := by rintro rfl; apply h; simp only; simp at hxl; omega
  have hqpos : 0 < q.length := by cases q with | nil => exact absurd rfl hne | cons a b => simp
  rw [if_neg hne] at hP1
  refine ldA_all rfl hb2 rfl ?_
  refine callF_of (form_c t d k o rfl) ?_
  rintro e w3 ⟨rfl, hx23⟩
  refine ⟨formE k o d, rfl, ?_⟩
  have hx3 := hx2.trans hx23
  have hx13 := hx12.trans hx23
  refine iteP_ne (fun h => keep (by rw [hP1, if_pos h]) hx3) (fun hform => ?_)
  rw [if_neg fun h => h hform] at hP1
  have hm3 := hm2.ext hx23 (by simp)
  have hgq := getL_eq (L := L) hq hne
  refine joinP_of (fun _ w7 => Ext [] w3.heap w7.heap ∧ ¬ (1 < q.length ∧ (getL L q.dropLast).isSome = false) ∧ ¬ (1 < q.length ∧ kindOf (getL L q.dropLast) ≠ 2)) ?_ ?_
  · refine subI_to ((x.2.1 - 1 : Nat) : Int) (by simp only; omega) (by omega) (by omega) ?_
    refine genQ_of (s := .slc) (if x.2.2 = 0 then x.1 else x.1.map (·.add (0 * 1)), (x.2.1 - 1) - 0, x.2.2 - 0) (run_slice_slc uSstr szStr .no (.yes rfl) (Nat.zero_le _) (show x.2.1 - 1 ≤ x.2.2 by omega)) ?_
    have hcut := (Mine.cut hm3 (k := x.2.1 - 1) (by omega)).cells
    rw [strRow_take] at hcut
    have hdl : q.take (x.2.1 - 1) = q.dropLast := by rw [List.dropLast_eq_take, hxl]
    have hcut : Cells w3.heap (if x.2.2 = 0 then x.1 else x.1.map (·.add (0 * 1))) (strRow (q.take (x.2.1 - 1))) := hcut
    rw [hdl] at hcut
    have hql : q.dropLast.length = x.2.1 - 1 := by rw [List.length_dropLast]; omega
    have hokd : okP q.dropLast := by rw [← hdl]; exact hq.take _
    refine iteP_dec (fun hpos => ?_) (fun hnp => ?_)
    · have hpos : 1 < q.length := by simp only at hpos; omega
      refine callF_of (get_c rfl (hU.ext hx3 (by simp) (by simp)) hcut (by rw [hql]; simp) (by simp only; omega) hokd.fit (by omega)) ?_
      rintro e w4 ⟨rfl, hx34⟩
      refine ⟨(.agg (gotI (getL L q.dropLast)).toArray, (getL L q.dropLast).isSome), rfl, ?_⟩
      rw [zcI]
      refine newB_h rfl fun w5 hw5 => ?_
      have hb5 : w5.heap[w4.heap.size]? = some (.cells (raw [] 0 false []).toArray y_api_Inode (0, 0)) := by rw [hw5]; exact push_new
      refine stI rfl hb5 rfl len_gotI one_gotI fun w6 hw6 => ?_
      have hb6 : w6.heap[w4.heap.size]? = some (.cells (gotI (getL L q.dropLast)).toArray y_api_Inode (0, 0)) := by rw [hw6]; exact set_new hb5
      have hx46 : Ext [] w4.heap w6.heap := by rw [hw6, hw5]; exact (Ext.push _).set_own (.inl (Nat.le_refl _))
      have hx36 := hx34.trans hx46
      cases hs : (getL L q.dropLast).isSome with
      | false => exact iteP_t rfl (keep (by rw [hP1, if_pos ⟨hpos, hs⟩]) (hx3.trans hx36))
      | true =>
        refine iteP_f rfl ?_
        refine ld_h (s := .int .i64) (t := kindOf (getL L q.dropLast)) rfl hb6 (by rw [List.getElem?_toArray]; exact gotI_kind) ?_
        refine iteP_ne (fun hk2 => keep (by rw [hP1, if_neg (by simp [hs]), if_pos ⟨hpos, hk2⟩]) (hx3.trans hx36)) (fun hk2 => ⟨hx36, by simp [hs], fun h => h.2 hk2⟩)
    · have hnp : ¬ 1 < q.length := by simp only at hnp; omega
      exact ⟨.refl _ _, fun h => hnp h.1, fun h => hnp h.1⟩
  rintro _ w7 ⟨hx37, hA, hB⟩
  rw [if_neg hA, if_neg hB] at hP1
  have hx7 := hx3.trans hx37
  have hsm := hq.small
  refine callF_of (show_c rfl (hm3.ext hx37 (by simp)).cells hxl hxc (by omega)) ?_
  rintro e w8 ⟨rfl, hx78⟩
  refine ⟨strOf (showP q), rfl, ?_⟩
  have hx18 := hx13.trans (hx37.trans hx78)
  have hb8 := hx18.get hb1 (by simp)
  refine stC_h rfl hb8 (by simp [raw]) fun w9 hw9 => ?_
  have hb9 : w9.heap[H.size]? = some (.cells (raw (showP q) k o d).toArray y_api_Inode (0, 0)) := by rw [hw9]; exact set_new hb8
  have hx9 : Ext [] H w9.heap := by rw [hw9]; exact (hx1.trans hx18).set_own (.inl (Nat.le_refl _))
  have hH1 : H.size < w1.heap.size := lt_of_get hb1
  have hx29 : Ext [H.size] w2.heap w9.heap := by rw [hw9]; exact ((hx23.trans (hx37.trans hx78)).mono (by simp)).set_own (.inr (by simp))
  refine drewP_h rfl fun w10 hw10 => ?_
  have hx910 : Ext [] w9.heap w10.heap := by rw [hw10]; exact .refl _ _
  have hx10 := hx9.trans hx910
  have hb10 := hx910.get hb9 (by simp)
  simp only [withAddr_some, add_none, Nat.zero_add]
  refine ld_h (s := .map) (t := some m) rfl (hx10.get u1 (by simp)) rfl ?_
  refine ld_h (s := .str) (t := strOf (showP q)) rfl hb10 rfl ?_
  have hget := st_get u3 u4 hq
  rw [← hgq] at hget
  have hval : ((mget M (showP q)).map valI).getD zI = .agg (gotI (getL L q)).toArray := by rw [hget]; cases getL L q <;> rfl
  have look : ∀ {w : World}, w.heap[m]? = some (.map (ents keyS (vl valI M)) c) → (Instr.lookup y_M_string_api_Inode (.map (some m)) (.string (strOf (showP q))) true).run P w = .ok (.tuple #[.agg (gotI (getL L q)).toArray, .bool (getL L q).isSome]) w := by
    intro w hm
    have h := lookup_v Kstr uM zMI rfl hm u3 (k := showP q) trivial
    rw [hval, hget] at h
    exact h
  refine genT_of (l := [.any, .bool]) (.agg (gotI (getL L q)).toArray, (getL L q).isSome) (look (hx10.get u2 (by simp))) ?_
  rw [zcI]
  refine newB_h rfl fun w11 hw11 => ?_
  have hx1011 : Ext [] w10.heap w11.heap := by rw [hw11]; exact .push _
  have hx11 := hx10.trans hx1011
  have hb11 := hx1011.get hb10 (by simp)
  refine ⟨genT_of (l := [.any, .bool]) (.agg (gotI (getL L q)).toArray, (getL L q).isSome) (look (hx11.get u2 (by simp))) rfl, ?_⟩
  refine ⟨ld_h (s := .str) (t := strOf (showP q)) rfl hb11 rfl rfl, ?_⟩
  refine ⟨ld_h (s := .map) (t := some m) rfl (hx11.get u1 (by simp)) rfl rfl, ?_⟩
  have ho11 : w11.heap[w10.heap.size]? = some (.cells (raw [] 0 false []).toArray y_api_Inode (0, 0)) := by rw [hw11]; exact push_new
  refine stI rfl ho11 rfl len_gotI one_gotI fun w12 hw12 => ?_
  have hHs : H.size < w10.heap.size := by have := hx910.1; have := lt_of_get hb9; omega
  have ho12 : w12.heap[w10.heap.size]? = some (.cells (gotI (getL L q)).toArray y_api_Inode (0, 0)) := by rw [hw12]; exact set_new ho11
  have hb12 : w12.heap[H.size]? = some (.cells (raw (showP q) k o d).toArray y_api_Inode (0, 0)) := by rw [hw12]; exact set_old hb11 (by omega)
  have hx1012 : Ext [] w10.heap w12.heap := by rw [hw12, hw11]; exact (Ext.push _).set_own (.inl (Nat.le_refl _))
  have hx12' := hx10.trans hx1012
  generalize w10.heap.size = bo at *
  refine joinP_of (fun _ w15 => Ext [] w12.heap w15.heap ∧ ¬ (k ≠ 2 ∧ 0 < (belowL L q).length) ∧ ¬ ((getL L q).isSome = false ∧ 1024 ≤ L.length)) ?_ ?_
  · refine joinP_in ?_
    have many : ∀ {w : World}, Ext [] w12.heap w.heap → ¬ (k ≠ 2 ∧ 0 < (belowL L q).length) → ∀ {R1 R2 : Prop}, (1024 ≤ L.length → (getL L q).isSome = false → R1) → (¬ ((getL L q).isSome = false ∧ 1024 ≤ L.length) → R2) → iteP (!(getL L q).isSome) (ld .map (⟨p, 3, none⟩ : Addr) w fun (t84 : (Option Nat)) => genQ P (Builtin.len_ #[y_M_string_api_Inode] y_int #[(Value.map t84)]) (.int .i64) w fun (t85 : Int) => iteP (t85 == 1024) R1 R2) R2 := by
      intro w hx _ R1 R2 h1 h2
      have hxx := hx12'.trans hx
      cases hs : (getL L q).isSome with
      | true => exact iteP_f rfl (h2 (by simp [hs]))
      | false =>
        refine iteP_t rfl ?_
        refine ld_h (s := .map) (t := some m) rfl (hxx.get u1 (by simp)) rfl ?_
        refine genQ_of (s := .int .i64) _ (len_map_v uM rfl (hxx.get u2 (by simp))) ?_
        have hmll : M.length = L.length := by have := u4.perm.length_eq; rwa [List.length_map] at this
        refine iteP_eq (fun h => h1 (by omega) hs) (fun h => h2 (fun h3 => h (by omega)))
    refine ld_h (s := .int .i64) (t := k) rfl hb12 rfl ?_
    refine iteP_ne (fun hk2 => ?_) (fun hk2 => ?_)
    · have hcq : Cells w12.heap x.1 (strRow q) := by
        have h1 := hm2.ext hx29 (fun b hb => by have := ownM_ge hm2 b hb; simp only [List.mem_singleton]; omega)
        exact ((h1.ext hx910 (by simp)).ext hx1012 (by simp)).cells
      refine callF_of (below_c rfl (hU.ext hx12' (by simp) (by simp)) hcq hxl (by omega)) ?_
      rintro e w13 ⟨y, rfl, hm13, hx13'⟩
      refine ⟨y, rfl, ?_⟩
      have hyl : y.2.1 = (belowL L q).length := by have := hm13.len; rw [length_flatMap_k encI len_encI] at this; omega
      refine iteP_dec (fun hpos => keep (by rw [hP1, if_pos ⟨hk2, by omega⟩]) (hx12'.trans hx13')) (fun hnp => ?_)
      have hnb : ¬ (k ≠ 2 ∧ 0 < (belowL L q).length) := fun h => hnp (by omega)
      exact many hx13' hnb (fun h1 h2 => keep (by rw [hP1, if_neg hnb, if_pos ⟨h2, h1⟩]) (hx12'.trans hx13')) (fun h => ⟨hx13', hnb, h⟩)
    · have hnb : ¬ (k ≠ 2 ∧ 0 < (belowL L q).length) := fun h => h.1 hk2
      exact many (.refl _ _) hnb (fun h1 h2 => keep (by rw [hP1, if_neg hnb, if_pos ⟨h2, h1⟩]) hx12') (fun h => ⟨.refl _ _, hnb, h⟩)
  rintro _ w15 ⟨hx15, hC, hD⟩
  rw [if_neg hC, if_neg hD] at hP1
  have hx015 := hx12'.trans hx15
  obtain ⟨D, hDd, hDl⟩ := gotI_data (o := getL L q)
  have hins := ins_good (L := L) (i := ⟨q, k, o, d⟩) hG ⟨hq, hne⟩ (formE_small hform) (by
    by_cases h : (getL L q).isSome = true
    · left; rw [← hgq]; exact h
    · right
      have h2 : (getL L q).isSome = false := by simpa using h
      have : ¬ 1024 ≤ L.length := fun h3 => hD ⟨h2, h3⟩
      omega)
  obtain ⟨hg2, ht2, hst2⟩ := hins
  have ht2' : tot (insL L ⟨q, k, o, d⟩) + olenL (getL L q) = tot L + d.length := by rw [hgq]; exact ht2
  have hdl := formE_small hform
  refine drewP_h rfl fun w16 hw16 => ?_
  have hx16 : Ext [] w15.heap w16.heap := by rw [hw16]; exact .refl _ _
  have hx016 := hx015.trans hx16
  have hp16 := hx016.get u1 (by simp)
  refine ld_h (s := .int .i64) (t := (tot L : Int)) rfl hp16 rfl ?_
  refine ld_h (s := .str) (t := strOf d) rfl ((hx15.trans hx16).get hb12 (by simp)) rfl ?_
  refine ld_h (s := .str) (t := strOf D) rfl ((hx15.trans hx16).get ho12 (by simp)) (by rw [List.getElem?_toArray]; exact hDd) ?_
  simp only [strOf_size]
  have hDs : D.length ≤ 1024 := by
    rw [hDl, hgq]
    cases hf : L.find? (fun i => decide (i.names = q)) with
    | none => simp [olenL]
    | some i => exact hG.small i (List.mem_of_find?_eq_some hf)
  refine subI_to ((d.length : Int) - D.length) rfl (by omega) (by omega) ?_
  refine addI_to ((tot (insL L ⟨q, k, o, d⟩) : Nat) : Int) (by omega) (by omega) (by omega) ?_
  refine stC_h rfl hp16 (by simp) fun w17 hw17 => ?_
  have hx17 : Ext [p] w16.heap w17.heap := by rw [hw17]; exact Ext.set _ (by simp)
  have hp17 : w17.heap[p]? = some (.cells #[.int .i64 nn, .int .i64 bb, .int .i64 (tot (insL L ⟨q, k, o, d⟩) : Int), .map (some m)] y_upper_Upper (0, 0)) := by rw [hw17]; exact set_new hp16
  refine drewP_h rfl fun w18 hw18 => ?_
  have hx18' : Ext [] w17.heap w18.heap := by rw [hw18]; exact .refl _ _
  have hp18 := hx18'.get hp17 (by simp)
  have hb18 := hx18'.get (hx17.get ((hx15.trans hx16).get hb12 (by simp)) (by simp; omega)) (by simp)
  have hm18 := hx18'.get (hx17.get (hx016.get u2 (by simp)) (by simp; omega)) (by simp)
  refine ld_h (s := .map) (t := some m) rfl hp18 rfl ?_
  refine ld_h (s := .str) (t := strOf (showP q)) rfl hb18 rfl ?_
  refine ldA_all rfl hb18 rfl ?_
  refine genU_of _ (update_v Kstr uM rfl hm18 u3 (k := showP q) trivial ⟨q, k, o, d⟩ rfl) ?_
  rw [hP1]
  refine ⟨rfl, ⟨_, _, set_old hp18 hpm, set_new hm18, u3.upd trivial _, hst2 u3 u4⟩, ?_⟩
  exact (((hx016.mono (by simp)).trans (hx17.mono (by simp))).trans (hx18'.mono (by simp))).set_own (.inr (by simp))
end Go.Proofs.YtbmegmbnlajbbaaGreat

/- The upper branch: Drop. -/
namespace Go.Proofs.YtbmegmbnlajbbaaGreat
open Go Go.Fw Go.Proofs Go.Sort

def dropL (L : List Ino) (q : Path) : List Ino := L.filter fun i => !withinP i.names q
theorem Good.sub {L L' : List Ino} (h : Good L) (hs : L'.Sublist L) : Good L' :=
  ⟨fun i hi => h.ok i (hs.subset hi), h.rise.sublist hs, fun i hi => h.small i (hs.subset hi), Nat.le_trans hs.length_le h.many⟩
theorem same_names {L : List Ino} (h : Good L) {i j : Ino} (hi : i ∈ L) (hj : j ∈ L) (e : i.names = j.names) : i = j := by
  obtain ⟨lo, hi', g1, g2, g3⟩ := split_rise (p := i.names) h.rise
  have key : ∀ {x : Ino}, x ∈ L → x.names = i.names → L.find? (fun y => decide (y.names = i.names)) = some x := by
    intro x hx ex
    rcases g3 with ⟨e1, e2⟩ | ⟨y, e0, e1, e2⟩
    · exact absurd (by simpa using ex) (List.find?_eq_none.1 e2 x hx)
    · rw [e1] at hx
      rcases List.mem_append.1 hx with h1 | h1
      · have := g1 x h1; rw [ex, cmpP_eq.2 rfl] at this; omega
      · rcases List.mem_cons.1 h1 with rfl | h1
        · exact e2
        · have := g2 x h1; rw [ex, cmpP_eq.2 rfl] at this; omega
  have h1 := key hi rfl
  rw [key hj e.symm] at h1
  exact (Option.some.inj h1).symm
/-- One inode goes. -/
theorem del_good {L : List Ino} {i : Ino} (hG : Good L) (hi : i ∈ L) : tot (L.filter fun j => decide (j.names ≠ i.names)) + i.data.length = tot L ∧
    ∀ {M : IM}, St M L → St (mdel M (showP i.names)) (L.filter fun j => decide (j.names ≠ i.names)) := by
  have hgood := hG.sub (L' := L.filter fun j => decide (j.names ≠ i.names)) List.filter_sublist
  constructor
  · obtain ⟨lo, hi', g1, g2, g3⟩ := split_rise (p := i.names) hG.rise
    rcases g3 with ⟨e1, e2⟩ | ⟨y, e0, e1, e2⟩
    · exact absurd (by simp) (List.find?_eq_none.1 e2 i hi)
    · have hy : y = i := same_names hG (by rw [e1]; simp) hi e0
      subst hy
      have k1 : lo.filter (fun j => decide (j.names ≠ y.names)) = lo := by
        rw [List.filter_eq_self]; intro x hx
        have := g1 x hx
        simp only [decide_eq_true_eq]; intro e; rw [e, cmpP_eq.2 rfl] at this; omega
      have k2 : hi'.filter (fun j => decide (j.names ≠ y.names)) = hi' := by
        rw [List.filter_eq_self]; intro x hx
        have := g2 x hx
        simp only [decide_eq_true_eq]; intro e; rw [e, cmpP_eq.2 rfl] at this; omega
      have k3 : L.filter (fun j => decide (j.names ≠ y.names)) = lo ++ hi' := by
        rw [e1, List.filter_append, List.filter_cons, k1, k2]; simp
      rw [k3, e1, tot_app, tot_app, tot_cons]; omega
  · intro M hS
    have hiff : ∀ x ∈ M, (x.1 = showP i.names ↔ x.2.1.names = i.names) := by
      intro x hx
      have h1 : x.2.1 ∈ L := hS.perm.mem_iff.1 (List.mem_map.2 ⟨x, hx, rfl⟩)
      have h2 := hS.key x hx
      exact ⟨fun e => show_inj (hG.ok _ h1).1 (hG.ok _ hi).1 (by rw [← h2, e]), fun e => by rw [h2, e]⟩
    refine ⟨?_, fun x hx => hS.key x (List.mem_filter.1 hx).1, hgood⟩
    have h1 : (mdel M (showP i.names)).map (·.2.1) = (M.map (·.2.1)).filter fun j => decide (j.names ≠ i.names) := by
      rw [List.filter_map, mdel]
      congr 1
      apply List.filter_congr
      intro x hx
      simp only [Function.comp]
      by_cases e : x.1 = showP i.names
      · rw [decide_eq_false (by simpa using (hiff x hx).1 e)]
        simp [e]
      · have h7 : x.2.1.names ≠ i.names := fun h => e ((hiff x hx).2 h)
        rw [decide_eq_true h7]
        simp [e]
    rw [h1]
    exact hS.perm.filter _
/-- Those that go. -/
def goneL (L : List Ino) (q : Path) : List Ino := belowL L q ++ (getL L q).toList
theorem gone_mem {L : List Ino} (hG : Good L) {q : Path} {i : Ino} : i ∈ goneL L q ↔ i ∈ L ∧ withinP i.names q = true := by
  unfold goneL
  rw [List.mem_append]
  constructor
  · rintro (h | h)
    · obtain ⟨h1, h2⟩ := List.mem_filter.1 h
      unfold belowQ at h2
      simp only [Bool.and_eq_true] at h2
      exact ⟨h1, h2.2⟩
    · rw [Option.mem_toList] at h
      unfold getL at h
      split at h
      · have h1 := List.mem_of_find?_eq_some h
        have h2 : i.names = q := by simpa using List.find?_some h
        exact ⟨h1, by rw [h2, within_iff]; exact ⟨Nat.le_refl _, List.take_length⟩⟩
      · cases h
  · rintro ⟨h1, h2⟩
    obtain ⟨h3, h4⟩ := within_iff.1 h2
    by_cases hlt : q.length < i.names.length
    · left
      exact List.mem_filter.2 ⟨h1, by unfold belowQ; rw [decide_eq_true hlt, h2]; rfl⟩
    · right
      have he : i.names = q := by rw [← h4, List.take_of_length_le (by omega)]
      have hok := hG.ok i h1
      rw [he] at hok
      rw [Option.mem_toList, getL_eq hok.1 hok.2]
      cases hf : L.find? (fun j => decide (j.names = q)) with
      | none => exact absurd (by simpa using he) (List.find?_eq_none.1 hf i h1)
      | some j =>
        have h5 := List.mem_of_find?_eq_some hf
        have h6 : j.names = q := by simpa using List.find?_some hf
        rw [same_names hG h5 h1 (by rw [h6, he])]
theorem gone_nodup {L : List Ino} (hG : Good L) {q : Path} : ((goneL L q).map (·.names)).Nodup := by
  unfold goneL
  rw [List.map_append, List.nodup_append]
  refine ⟨?_, ?_, ?_⟩
  · rw [List.nodup_iff_pairwise_ne, List.pairwise_map]
    exact (hG.rise.filter _).imp fun {a b} h e => by rw [e, cmpP_eq.2 rfl] at h; omega
  · cases getL L q <;> simp
  · intro a ha b hb
    obtain ⟨x, hx, rfl⟩ := List.mem_map.1 ha
    obtain ⟨y, hy, rfl⟩ := List.mem_map.1 hb
    have h2 := (List.mem_filter.1 hx).2
    unfold belowQ at h2
    simp only [Bool.and_eq_true, decide_eq_true_eq] at h2
    rw [Option.mem_toList] at hy
    unfold getL at hy
    split at hy
    · have h3 : y.names = q := by simpa using List.find?_some hy
      intro e
      rw [e, h3] at h2; omega
    · cases hy
theorem gone_len {L : List Ino} (hG : Good L) {q : Path} : (goneL L q).length + (dropL L q).length = L.length := by
  have h1 : (goneL L q).Perm (L.filter fun i => withinP i.names q) := by
    have n1 : (goneL L q).Nodup := List.nodup_iff_pairwise_ne.2 ((List.pairwise_map.1 (List.nodup_iff_pairwise_ne.1 (gone_nodup hG))).imp fun h e => h (by rw [e]))
    have n2 : L.Nodup := by
      rw [List.nodup_iff_pairwise_ne]
      exact hG.rise.imp fun {a b} h e => by rw [e, cmpP_eq.2 rfl] at h; omega
    refine (List.perm_ext_iff_of_nodup n1 (n2.sublist List.filter_sublist)).2 fun i => ?_
    rw [gone_mem hG, List.mem_filter]
  rw [h1.length_eq]
  unfold dropL
  have := (List.filter_append_perm (fun i : Ino => withinP i.names q) L).length_eq
  rw [List.length_append] at this
  exact this

set_option maxHeartbeats 8000000 in
theorem drop_c {w : World} {H : Heap} {p m : Nat} {nn bb : Int} {L : List Ino} {a : Option Addr} {n nc : Nat} {q : Path} (hw : w.heap = H) (hU : Up H p m nn bb L) (hL : Cells H a (strRow q)) (hn : n = q.length) (hnc : n ≤ nc) (hf : Fit q) (hq : q.length ≤ 9223372036854775807) :
    CallF P F_upper_Upper_Drop #[.pointer (some ⟨p, 0, none⟩), .slice a n nc] w fun e w' => e = .returned (.int .i64 ((L.length : Int) - (dropL L q).length)) ∧ Up w'.heap p m nn bb (dropL L q) ∧ Ext [p, m] H w'.heap := by
  have hG := hU.good
  have hmany := hG.many
  have hU0 := hU
  obtain ⟨M, c, u1, u2, u3, u4⟩ := id hU
  have hpl := lt_of_get u1
  have hml := lt_of_get u2
  have hpm : p ≠ m := by rintro rfl; rw [u1] at u2; cases u2
  refine fn_upper_Upper_Drop ?_
  unfold T_upper_Upper_Drop
  refine callF_of (below_c hw hU hL hn hq) ?_
  rintro e w1 ⟨x, rfl, hm1, hx1⟩
  refine ⟨x, rfl, ?_⟩
  have hgl := gone_len hG (q := q)
  refine joinP_of (fun (s : Option Addr × Nat × Nat) W => Ext [] H W.heap ∧ Mine W.heap H.size y_api_Inode 4 s ((goneL L q).flatMap encI)) ?_ ?_
  · refine callF_of (get_c rfl (hU.ext hx1 (by simp) (by simp)) (hL.ext hx1 (by simp)) hn hnc hf hq) ?_
    rintro e w2 ⟨rfl, hx12⟩
    refine ⟨(.agg (gotI (getL L q)).toArray, (getL L q).isSome), rfl, ?_⟩
    rw [zcI]
    refine newB_h rfl fun w3 hw3 => ?_
    have hb3 : w3.heap[w2.heap.size]? = some (.cells (raw [] 0 false []).toArray y_api_Inode (0, 0)) := by rw [hw3]; exact push_new
    refine stI rfl hb3 rfl len_gotI one_gotI fun w4 hw4 => ?_
    have hb4 : w4.heap[w2.heap.size]? = some (.cells (gotI (getL L q)).toArray y_api_Inode (0, 0)) := by rw [hw4]; exact set_new hb3
    have hx24 : Ext [] w2.heap w4.heap := by rw [hw4, hw3]; exact (Ext.push _).set_own (.inl (Nat.le_refl _))
    have hx14 := hx12.trans hx24
    have hm4 := hm1.ext hx14 (by simp)
    have hxl : x.2.1 = (belowL L q).length := by have := hm1.len; rw [length_flatMap_k encI len_encI] at this; omega
    cases hs : getL L q with
    | none =>
      refine iteP_f rfl ?_
      exact ⟨hx1.trans hx14, by unfold goneL; rw [hs, Option.toList_none, List.append_nil]; exact hm4⟩
    | some i =>
      refine iteP_t rfl ?_
      rw [hs] at hb4
      refine ldA_all rfl hb4 rfl ?_
      refine genL_of (s := .slc) (some ⟨w4.heap.size, 0, none⟩, 1, 1) _ (build1_g EI uI (v := .agg (encI i).toArray) rfl (by omega) (by omega)) ?_
      have hxp : Ext [] w4.heap (w4.heap.push (.cells (Value.agg (encI i).toArray).cells y_api_Inode)) := .push _
      have hHs : H.size ≤ w4.heap.size := by have := hx1.1; have := hx14.1; omega
      have hgl2 : (belowL L q).length ≤ (goneL L q).length := by unfold goneL; simp
      refine append_g (n := 1) (us := encI i) (H := w4.heap.push (.cells (Value.agg (encI i).toArray).cells y_api_Inode)) EI (by omega) uI (slice_noint uI) rfl (hm4.ext hxp (by simp)) (by simp; omega)
        (Src.slc rfl (.inr ⟨w4.heap.size, 0, _, _, _, rfl, push_new, by simp [Value.cells, len_encI], by simp [Value.cells]⟩) (by rw [len_encI])) one_encI (by omega) ?_
      intro x' W9 hm9 hl9 hx9 _
      refine ⟨((hx1.trans hx14).trans hxp).own hx9 (by intro b hb hlt; have := ownM_ge hm4 b hb; omega), ?_⟩
      unfold goneL
      rw [hs, Option.toList_some, List.flatMap_append, List.flatMap_singleton]
      exact hm9
  rintro s w7 ⟨hx7, hm7⟩
  have hsl : s.2.1 = (goneL L q).length := by have := hm7.len; rw [length_flatMap_k encI len_encI] at this; omega
  have hnd := gone_nodup hG (q := q)
  have hUw := hU.ext hx7 (by simp) (by simp)
  have hHs := hx7.1
  refine loopP_of (fun (t : Int) W => ∃ i : Nat, t = (i : Int) ∧ i ≤ (goneL L q).length ∧ Ext [p, m] w7.heap W.heap ∧ Up W.heap p m nn bb (L.filter fun j => decide (j.names ∉ ((goneL L q).take i).map (·.names)))) (fun t _ => ((goneL L q).length - t).toNat)
    ⟨0, rfl, Nat.zero_le _, .refl _ _, by rw [List.take_zero, List.map_nil, List.filter_eq_self.2 (by simp)]; exact hUw⟩ ?_
  rintro _ W ⟨i, rfl, hi, hxW, hUW⟩
  have hpn : p ∉ ownM s ∧ m ∉ ownM s := ⟨fun h => by have := ownM_ge hm7 _ h; omega, fun h => by have := ownM_ge hm7 _ h; omega⟩
  refine iteP_dec (fun hlt => ?_) (fun hge => ?_)
  · have hil : i < (goneL L q).length := by omega
    have hget := List.getElem?_eq_getElem hil
    have hymem : (goneL L q)[i] ∈ goneL L q := List.getElem_mem hil
    have hyL := ((gone_mem hG).1 hymem).1
    have hnot : (goneL L q)[i].names ∉ ((goneL L q).take i).map (·.names) := by
      intro hm
      obtain ⟨z, hz, he⟩ := List.mem_map.1 hm
      obtain ⟨j, hj, hzj⟩ := List.mem_take_iff_getElem.1 hz
      have h1 : ((goneL L q).map (·.names))[j]'(by simp; omega) = ((goneL L q).map (·.names))[i]'(by simpa using hil) := by
        simp only [List.getElem_map]
        rw [hzj]; exact he
      have h2 := (List.getElem_inj hnd).1 h1
      omega
    have hmW : Mine W.heap H.size y_api_Inode 4 s ((goneL L q).flatMap encI) := hm7.ext hxW (fun b hb h => by simp only [List.mem_cons, List.not_mem_nil, or_false] at h; rcases h with rfl | rfl; exact hpn.1 hb; exact hpn.2 hb)
    generalize (goneL L q)[i] = y at *
    refine elem_ld (i := i) len_encI (by omega) rfl hmW.cells hsl hget rfl ?_
    rw [zcI]
    refine newB_h rfl fun w9 hw9 => ?_
    have hb9 : w9.heap[W.heap.size]? = some (.cells (raw [] 0 false []).toArray y_api_Inode (0, 0)) := by rw [hw9]; exact push_new
    refine stI rfl hb9 rfl (len_encI y) one_encI fun w10 hw10 => ?_
    have hb10 : w10.heap[W.heap.size]? = some (.cells (encI y).toArray y_api_Inode (0, 0)) := by rw [hw10]; exact set_new hb9
    have hx10 : Ext [] W.heap w10.heap := by rw [hw10, hw9]; exact (Ext.push _).set_own (.inl (Nat.le_refl _))
    refine drewP_h rfl fun w11 hw11 => ?_
    have hx11 : Ext [] W.heap w11.heap := by rw [hw11]; exact hx10
    have hb11 : w11.heap[W.heap.size]? = some (.cells (encI y).toArray y_api_Inode (0, 0)) := by rw [hw11]; exact hb10
    have hGW := hUW.good
    obtain ⟨MW, cW, v1, v2, v3, v4⟩ := hUW
    have hvp := lt_of_get v1
    have hvm := lt_of_get v2
    have hyW : y ∈ L.filter fun j => decide (j.names ∉ ((goneL L q).take i).map (·.names)) := List.mem_filter.2 ⟨hyL, decide_eq_true hnot⟩
    obtain ⟨ht, hst⟩ := del_good hGW hyW
    have htl := tot_le hGW.small
    have hmanyW := hGW.many
    have hnext : (L.filter fun j => decide (j.names ∉ ((goneL L q).take i).map (·.names))).filter (fun j => decide (j.names ≠ y.names)) = L.filter fun j => decide (j.names ∉ ((goneL L q).take (i + 1)).map (·.names)) := by
      rw [List.filter_filter]
      apply List.filter_congr
      intro j _
      rw [List.take_add_one, hget, Option.toList_some, List.map_append, Bool.eq_iff_iff]
      simp only [Bool.and_eq_true, decide_eq_true_eq, List.mem_append, List.map_cons, List.map_nil, List.mem_singleton, not_or]
      exact and_comm
    simp only [withAddr_some, add_none, Nat.zero_add]
    have hp11 := hx11.get v1 (by simp)
    refine ld_h (s := .int .i64) rfl hp11 rfl ?_
    refine ld_h (s := .str) (t := strOf y.data) rfl hb11 rfl ?_
    rw [hnext] at ht hst
    simp only [strOf_size]
    refine subI_to ((tot (L.filter fun j => decide (j.names ∉ ((goneL L q).take (i + 1)).map (·.names))) : Nat) : Int) (by omega) (by omega) (by omega) ?_
    refine stC_h rfl hp11 (by simp) fun w12 hw12 => ?_
    have hx12 : Ext [p] w11.heap w12.heap := by rw [hw12]; exact Ext.set _ (by simp)
    have hp12 : w12.heap[p]? = some (.cells #[.int .i64 nn, .int .i64 bb, .int .i64 (tot (L.filter fun j => decide (j.names ∉ ((goneL L q).take (i + 1)).map (·.names))) : Int), .map (some m)] y_upper_Upper (0, 0)) := by rw [hw12]; exact set_new hp11
    refine drewP_h rfl fun w13 hw13 => ?_
    have hx13 : Ext [] w12.heap w13.heap := by rw [hw13]; exact .refl _ _
    have hp13 := hx13.get hp12 (by simp)
    have hb13 := hx13.get (hx12.get hb11 (by simp only [List.mem_singleton]; omega)) (by simp)
    have hm13 := hx13.get (hx12.get (hx11.get v2 (by simp)) (by simp only [List.mem_singleton]; omega)) (by simp)
    refine ld_h (s := .map) (t := some m) rfl hp13 rfl ?_
    refine ld_h (s := .str) (t := strOf (showP y.names)) rfl hb13 rfl ?_
    refine genL_of (s := .any) _ _ (delete_v Kstr uM rfl hm13 v3 (k := showP y.names) trivial) ?_
    refine addI_to ((i + 1 : Nat) : Int) (by omega) (by omega) (by omega) ?_
    refine ⟨⟨i + 1, rfl, by omega, ?_, ⟨_, _, set_old hp13 hpm, set_new hm13, v3.del _, hst v4⟩⟩, by omega⟩
    exact (((hxW.trans (hx11.mono (by simp))).trans (hx12.mono (by simp))).trans (hx13.mono (by simp))).set_own (.inr (by simp))
  · have hie : i = (goneL L q).length := by omega
    subst hie
    have hfin : (L.filter fun j => decide (j.names ∉ ((goneL L q).take (goneL L q).length).map (·.names))) = dropL L q := by
      unfold dropL
      apply List.filter_congr
      intro j hj
      rw [List.take_length, Bool.eq_iff_iff, decide_eq_true_eq, Bool.not_eq_true', ← Bool.not_eq_true]
      constructor
      · intro h1 h2
        exact h1 (List.mem_map.2 ⟨j, (gone_mem hG).2 ⟨hj, h2⟩, rfl⟩)
      · intro h1 h2
        obtain ⟨z, hz, he⟩ := List.mem_map.1 h2
        have h3 := (gone_mem hG).1 hz
        rw [same_names hG h3.1 hj he] at h3
        exact h1 h3.2
    rw [hfin] at hUW
    refine ⟨?_, hUW, (hx7.mono (by simp)).trans hxW⟩
    congr 2; omega
end Go.Proofs.YtbmegmbnlajbbaaGreat
