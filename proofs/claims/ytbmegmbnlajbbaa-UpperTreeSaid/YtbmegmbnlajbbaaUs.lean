/- The reference's upper branch: Put. -/
import Derived.Test.YtbmegmbnlajbbaaUr
namespace Go.Proofs.Ytbmegmbnlajbbaa
open Go Go.Fw Go.Proofs Go.Sort

theorem nilI {w : World} {H : Heap} (hw : w.heap = H) {K : (Option Addr × Nat × Nat) → World → Prop} (hK : ∀ w', Ext [] H w'.heap → Mine w'.heap H.size y_api_Inode 4 (some ⟨H.size, 0, none⟩, 0, 0) (([] : List Ino).flatMap encI) → K (some ⟨H.size, 0, none⟩, 0, 0) w') : genL P (Instr.buildSlice y_S_api_Inode 0 #[]) .slc w K := by
  refine genL_of (s := .slc) (some ⟨H.size, 0, none⟩, 0, 0) { w with heap := H.push (.cells #[] y_api_Inode) } (by rw [← hw]; kernel_rfl) ?_
  exact hK _ (.push _) (.inr ⟨H.size, #[], rfl, Nat.le_refl _, push_new, rfl, rfl, Nat.le_refl _, rfl⟩)
theorem appI {w : World} {H : Heap} {B : Nat} {x : Option Addr × Nat × Nat} {a : Option Addr} {l c : Nat} {xs ys : List Ino} (hw : w.heap = H) (hx : Mine H B y_api_Inode 4 x (xs.flatMap encI)) (hB : B ≤ H.size) (hL : Cells H a (ys.flatMap encI)) (hl : l = ys.length) (hlen : xs.length + ys.length ≤ 1099511627) {K : (Option Addr × Nat × Nat) → World → Prop}
    (hK : ∀ x' w', Mine w'.heap B y_api_Inode 4 x' ((xs ++ ys).flatMap encI) → Ext (ownM x) H w'.heap → K x' w') : genL P (Builtin.append_ #[y_S_api_Inode, y_S_api_Inode] y_S_api_Inode #[.slice x.1 x.2.1 x.2.2, .slice a l c]) .slc w K := by
  have hxl := mineI_len hx
  have one : oneCells (ys.flatMap encI) := by
    intro v hv
    obtain ⟨i, _, hi⟩ := List.mem_flatMap.1 hv
    exact one_encI v hi
  refine append_g EI (by omega) uI (slice_noint uI) hw hx hB (Src.slc hw hL (by rw [lenI, hl])) one (by omega) ?_
  intro x' w' hm hl' hx' hs
  refine hK x' w' ?_ hx'
  rw [List.flatMap_append]; exact hm
theorem Cells.dropI {H : Heap} {a : Option Addr} {rl : List Ino} (h : Cells H a (rl.flatMap encI)) (k cap : Nat) (hcap : rl.length ≤ cap) : Cells H (if cap = k then a else a.map (·.add (k * 4))) ((rl.drop k).flatMap encI) := by
  by_cases hk : k < rl.length
  · rw [if_neg (by omega)]
    have hl := lenI rl
    have := h.part (k * 4) ((rl.length - k) * 4) (by rw [hl]; omega)
    have he : ((rl.flatMap encI).drop (k * 4)).take ((rl.length - k) * 4) = (rl.drop k).flatMap encI := by
      have h1 : rl.flatMap encI = (rl.take k).flatMap encI ++ (rl.drop k).flatMap encI := by rw [← List.flatMap_append, List.take_append_drop]
      have h2 : ((rl.take k).flatMap encI).length = k * 4 := by rw [lenI, List.length_take, Nat.min_eq_left (by omega)]
      have h3 : ((rl.drop k).flatMap encI).length = (rl.length - k) * 4 := by rw [lenI, List.length_drop]
      rw [h1, List.drop_left' h2, List.take_of_length_le (by omega)]
    rwa [he] at this
  · left; rw [List.drop_eq_nil_of_le (by omega)]; rfl
theorem Cells.takeI {H : Heap} {a : Option Addr} {rl : List Ino} (h : Cells H a (rl.flatMap encI)) (k : Nat) : Cells H a ((rl.take k).flatMap encI) := by
  have := h.take (((rl.take k).flatMap encI).length)
  have h1 : rl.flatMap encI = (rl.take k).flatMap encI ++ (rl.drop k).flatMap encI := by rw [← List.flatMap_append, List.take_append_drop]
  rwa [h1, List.take_left] at this
theorem slI_to {H : Heap} {a : Option Addr} {l c : Nat} {rl : List Ino} {i : Nat} {n : Int} (hL : Cells H a (rl.flatMap encI)) (hlen : l = rl.length) (hc : l ≤ c) (hi : i ≤ rl.length) (hn : n = (i : Int)) :
    ∃ a', (∀ w, (Instr.sliceAt y_S_api_Inode (.slice a l c) none (some (.int .i64 n)) none).run P w = .ok (.slice a' i c) w) ∧ Cells H a' ((rl.take i).flatMap encI) := by
  refine ⟨_, fun w => run_slice_slc (l := 0) (h := i) uI szIi .no (.yes hn) (Nat.zero_le _) (by omega), ?_⟩
  exact Cells.takeI (rl := rl) (Cells.dropI hL 0 c (by omega)) i
theorem slI_from {H : Heap} {a : Option Addr} {l c : Nat} {rl : List Ino} {i : Nat} {n : Int} (hL : Cells H a (rl.flatMap encI)) (hlen : l = rl.length) (hc : l ≤ c) (hi : i ≤ rl.length) (hn : n = (i : Int)) :
    ∃ a', (∀ w, (Instr.sliceAt y_S_api_Inode (.slice a l c) (some (.int .i64 n)) none none).run P w = .ok (.slice a' (l - i) (c - i)) w) ∧ Cells H a' ((rl.drop i).flatMap encI) := by
  refine ⟨_, fun w => run_slice_slc (l := i) (h := l) uI szIi (.yes hn) .no (by omega) (by omega), ?_⟩
  exact Cells.dropI hL i c (by omega)
theorem Mine.setI {H : Heap} {B : Nat} {x : Option Addr × Nat × Nat} {xs : List Ino} {v : Ino} {i : Nat} (h : Mine H B y_api_Inode 4 x (xs.flatMap encI)) (hi : i < xs.length) :
    ∃ b c, x.1 = some ⟨b, 0, none⟩ ∧ B ≤ b ∧ H[b]? = some (.cells c y_api_Inode (0, 0)) ∧ i * 4 + 4 ≤ c.size ∧ Mine (H.setIfInBounds b (.cells (setCells c (i * 4) (encI v)) y_api_Inode (0, 0))) B y_api_Inode 4 x ((xs.set i v).flatMap encI) := by
  rcases h with ⟨_, h⟩ | ⟨b, c, hx, hB, hb, hc, hl, hle, he⟩
  · have := congrArg List.length h
    rw [lenI] at this; simp only [List.length_nil] at this; omega
  · rw [lenI] at hl he
    have hsz : i * 4 + 4 ≤ c.size := by omega
    refine ⟨b, c, hx, hB, hb, hsz, .inr ⟨b, _, hx, hB, set_new hb, by simpa using hc, by rw [lenI, List.length_set]; exact hl, hle, ?_⟩⟩
    apply List.ext_getElem?
    intro j
    rw [Array.getElem?_toList, Array.getElem?_extract, lenI, List.length_set, getElem_flatMap encI len_encI (by omega)]
    by_cases hj : j < xs.length * 4
    · rw [if_pos (by rw [Fw.size_setCells]; omega), Nat.zero_add, get_setCells (by rw [len_encI]; omega), len_encI, List.getElem?_set]
      have h2 : c[j]? = (xs[j / 4]?).bind fun x => (encI x)[j % 4]? := by
        have h3 : ((c.extract 0 (xs.length * 4)).toList)[j]? = (xs.flatMap encI)[j]? := by rw [he]
        rw [Array.getElem?_toList, Array.getElem?_extract, if_pos (by omega), getElem_flatMap encI len_encI (by omega)] at h3
        simpa using h3
      by_cases hij : i = j / 4
      · subst hij
        rw [if_pos (by omega), if_pos rfl, if_pos hi]
        simp only [Option.bind_some]
        congr 1; omega
      · rw [if_neg (by omega), if_neg hij]; exact h2
    · rw [if_neg (by omega), List.getElem?_eq_none (by rw [List.length_set]; omega)]; rfl
theorem ins_set {L : List Ino} {v j : Ino} {i : Nat} (hG : Good L) (hi : L[i]? = some j) (he : j.names = v.names) : insL L v = L.set i v := by
  obtain ⟨hil, hj⟩ := List.getElem?_eq_some_iff.1 hi
  have hL : L = L.take i ++ j :: L.drop (i + 1) := by rw [← hj, ← List.drop_eq_getElem_cons hil, List.take_append_drop]
  have hr := hG.rise
  rw [hL, List.pairwise_append] at hr
  have hlo : ∀ x ∈ L.take i, cmpP x.names v.names < 0 := fun x hx => by rw [← he]; exact hr.2.2 x hx j (by simp)
  conv => lhs; rw [hL]
  rw [ins_eq he hlo, List.set_eq_take_append_cons_drop, if_pos hil]
theorem ins_at {L : List Ino} {v : Ino} {i : Nat} (hG : Good L) (hi : i ≤ L.length) (h1 : ∀ x ∈ L.take i, cmpP x.names v.names < 0) (h2 : ∀ h : i < L.length, ¬ cmpP L[i].names v.names < 0) (h3 : ∀ x ∈ L, x.names ≠ v.names) : insL L v = L.take i ++ v :: L.drop i := by
  conv => lhs; rw [← List.take_append_drop i L]
  refine ins_lo (fun x hx => ?_) h1
  obtain ⟨k, hk, rfl⟩ := List.mem_iff_getElem.1 hx
  simp only [List.length_drop] at hk
  rw [List.getElem_drop]
  have h4 := h2 (by omega)
  have h5 : cmpP v.names (L[i]'(by omega)).names < 0 := by
    have h6 := cmpP_neg (p := v.names) (q := (L[i]'(by omega)).names)
    have h7 : cmpP (L[i]'(by omega)).names v.names ≠ 0 := fun e => h3 _ (List.getElem_mem (by omega)) (cmpP_eq.1 e)
    omega
  by_cases hk0 : k = 0
  · subst hk0; exact h5
  · exact cmpP_trans h5 (List.pairwise_iff_getElem.1 hG.rise i (i + k) (by omega) (by omega) (by omega))

set_option maxHeartbeats 8000000 in
theorem rput_c {w : World} {H : Heap} {fp : List Nat} {p : Nat} {nn bb : Int} {L : List Ino} {t d : List UInt8} {k : Int} {o : Bool} (hw : w.heap = H) (hU : RU H fp p nn bb L) :
    CallF P F_r12_Upper_Put #[.pointer (some ⟨p, 0, none⟩), rawV t k o d] w fun e w' => ∃ fp', e = .returned (.int .i64 (putL L t k o d).1) ∧ RU w'.heap fp' p nn bb (putL L t k o d).2 ∧ Ext fp H w'.heap ∧ ∀ b ∈ fp', b ∈ fp ∨ (H.size ≤ b ∧ b < w'.heap.size) := by
  have hG := hU.good
  have hmany := hG.many
  obtain ⟨x0, u1, u2, u3, u4, u5⟩ := id hU
  have hx0l := mineI_len u2
  have hx0c := mine_ok u2
  have hpl := lt_of_get u1
  refine fn_r12_Upper_Put ?_
  unfold T_r12_Upper_Put
  refine newB_h hw fun w1 hw1 => ?_
  have hx1 : Ext [] H w1.heap := by rw [hw1]; exact .push _
  have hb1 : w1.heap[H.size]? = some (.cells (raw t k o d).toArray y_api_Inode (0, 0)) := by rw [hw1]; exact push_new
  have keep : ∀ {w : World} {C : Int}, putL L t k o d = (C, L) → Ext [] H w.heap → ∃ fp', Ending.returned (Value.int .i64 C) = .returned (.int .i64 (putL L t k o d).1) ∧ RU w.heap fp' p nn bb (putL L t k o d).2 ∧ Ext fp H w.heap ∧ ∀ b ∈ fp', b ∈ fp ∨ (H.size ≤ b ∧ b < w.heap.size) := by
    intro w C h hx
    rw [h]
    exact ⟨fp, rfl, hU.ext hx (by simp), hx.mono (by simp), fun b hb => .inl hb⟩
  refine ld_h (s := .str) (t := strOf t) rfl hb1 rfl ?_
  refine callF_of (rparse_c t rfl) ?_
  rintro e w2 ⟨x, rfl, hm2, hx12⟩
  refine ⟨(x, (parseP t).2), rfl, ?_⟩
  have hx2 := hx1.trans hx12
  have hb2 := hx12.get hb1 (by simp)
  refine iteP_ne (fun h => keep (by unfold putL; rw [if_pos h]) hx2) (fun h0 => ?_)
  have hq := parse_ok t
  have hP1 : putL L t k o d = if (parseP t).1 = [] then (132, L) else if formE k o d ≠ 0 then (formE k o d, L)
      else if 1 < (parseP t).1.length ∧ (getL L (parseP t).1.dropLast).isSome = false then (4, L)
      else if 1 < (parseP t).1.length ∧ kindOf (getL L (parseP t).1.dropLast) ≠ 2 then (70, L)
      else if k ≠ 2 ∧ 0 < (belowL L (parseP t).1).length then (130, L)
      else if (getL L (parseP t).1).isSome = false ∧ 1024 ≤ L.length then (8, L)
      else (0, insL L ⟨(parseP t).1, k, o, d⟩) := by unfold putL; rw [if_neg fun h => h h0]
  generalize (parseP t).1 = q at *
  have hxl : x.2.1 = q.length := by have := hm2.len; simp at this; omega
  have hxc := mine_ok hm2
  have hq8 := hq.2
  refine iteP_eq (fun h => keep (by rw [hP1, if_pos (List.eq_nil_of_length_eq_zero (by simp only at h; omega))]) hx2) (fun h => ?_)
  have hne : q ≠ [] := by rintro rfl; apply h; simp only; simp at hxl; omega
  have hqpos : 0 < q.length := by cases q with | nil => exact absurd rfl hne | cons a b => simp
  rw [if_neg hne] at hP1
  have badf : ∀ {w : World} {C : Int}, formE k o d = C → C ≠ 0 → Ext [] H w.heap → ∃ fp', Ending.returned (Value.int .i64 C) = .returned (.int .i64 (putL L t k o d).1) ∧ RU w.heap fp' p nn bb (putL L t k o d).2 ∧ Ext fp H w.heap ∧ ∀ b ∈ fp', b ∈ fp ∨ (H.size ≤ b ∧ b < w.heap.size) :=
    fun h1 h2 hx => keep (by rw [hP1, if_pos (by rw [h1]; exact h2), h1]) hx
  refine joinP_in ?_
  refine ld_h (s := .int .i64) (t := k) rfl hb2 rfl ?_
  refine iteP_dec (fun h => badf (by unfold formE; rw [if_pos (.inl h)]) (by decide) hx2) (fun hk1 => ?_)
  refine ld_h (s := .int .i64) (t := k) rfl hb2 rfl ?_
  refine iteP_dec (fun h => badf (by unfold formE; rw [if_pos (.inr h)]) (by decide) hx2) (fun hk3 => ?_)
  have hf1 : formE k o d = if (d ≠ [] ∧ k ≠ 1) ∨ (o = true ∧ k ≠ 2) then 1 else if 1024 < d.length then 134 else 0 := by unfold formE; rw [if_neg (by omega)]
  have one : (d ≠ [] ∧ k ≠ 1) ∨ (o = true ∧ k ≠ 2) → formE k o d = 1 := fun h => by rw [hf1, if_pos h]
  refine joinP_of (fun _ w => w = w2 ∧ ¬ ((d ≠ [] ∧ k ≠ 1) ∨ (o = true ∧ k ≠ 2))) ?_ ?_
  · refine ld_h (s := .str) (t := strOf d) rfl hb2 rfl ?_
    have opq : ∀ {A B : Prop}, (o = true ∧ k ≠ 2 → A) → (¬ (o = true ∧ k ≠ 2) → B) → ld .bool (⟨H.size, 2, none⟩ : Addr) w2 fun (t42 : Bool) => iteP t42 (ld (.int .i64) (⟨H.size, 1, none⟩ : Addr) w2 fun (t45 : Int) => iteP (t45 != 2) A B) B := by
      intro A B h1 h2
      refine ld_h (s := .bool) (t := o) rfl hb2 rfl ?_
      cases o with
      | true =>
        refine iteP_t rfl ?_
        refine ld_h (s := .int .i64) (t := k) rfl hb2 rfl ?_
        exact iteP_ne (fun h => h1 ⟨rfl, h⟩) (fun h => h2 fun h3 => h3.2 h)
      | false => exact iteP_f rfl (h2 fun h => by cases h.1)
    refine iteP_of (p := d ≠ []) (by rw [Bool.not_eq_true', ← Bool.not_eq_true, beqStr]) (fun hd => ?_) (fun hd => ?_)
    · refine ld_h (s := .int .i64) (t := k) rfl hb2 rfl ?_
      refine iteP_ne (fun h => badf (one (.inl ⟨hd, h⟩)) (by decide) hx2) (fun h => ?_)
      exact opq (fun h2 => badf (one (.inr h2)) (by decide) hx2) (fun h2 => ⟨rfl, fun h3 => h3.elim (fun h4 => h4.2 h) h2⟩)
    · exact opq (fun h2 => badf (one (.inr h2)) (by decide) hx2) (fun h2 => ⟨rfl, fun h3 => h3.elim (fun h4 => hd h4.1) h2⟩)
  rintro _ w2' ⟨hw2', hf2⟩
  subst w2'
  rw [if_neg hf2] at hf1
  refine ld_h (s := .str) (t := strOf d) rfl hb2 rfl ?_
  refine iteP_dec (fun h => badf (by rw [hf1, if_pos (by simp only [strOf_size] at h; omega)]) (by decide) hx2) (fun hbig => ?_)
  have hdl : d.length ≤ 1024 := by simp only [strOf_size] at hbig; omega
  have hform : formE k o d = 0 := by rw [hf1, if_neg (by omega)]
  rw [if_neg fun h => h hform] at hP1
  have hgq := getL_eq (L := L) hq hne
  refine joinP_of (fun _ w7 => Ext [] w2.heap w7.heap ∧ ¬ (1 < q.length ∧ (getL L q.dropLast).isSome = false) ∧ ¬ (1 < q.length ∧ kindOf (getL L q.dropLast) ≠ 2)) ?_ ?_
  · refine iteP_dec (fun hpos => ?_) (fun hnp => ?_)
    · have hpos : 1 < q.length := by simp only at hpos; omega
      refine subI_to ((x.2.1 - 1 : Nat) : Int) (by simp only; omega) (by omega) (by omega) ?_
      refine genQ_of (s := .slc) (if x.2.2 = 0 then x.1 else x.1.map (·.add (0 * 1)), (x.2.1 - 1) - 0, x.2.2 - 0) (run_slice_slc uSstr szStr .no (.yes rfl) (Nat.zero_le _) (show x.2.1 - 1 ≤ x.2.2 by omega)) ?_
      have hcut : Cells w2.heap (if x.2.2 = 0 then x.1 else x.1.map (·.add (0 * 1))) ((strRow q).take (x.2.1 - 1)) := (Mine.cut hm2 (k := x.2.1 - 1) (by omega)).cells
      have hdl2 : q.take (x.2.1 - 1) = q.dropLast := by rw [List.dropLast_eq_take, hxl]
      rw [strRow_take, hdl2] at hcut
      have hql : q.dropLast.length = x.2.1 - 1 := by rw [List.length_dropLast]; omega
      have hokd : okP q.dropLast := by rw [← hdl2]; exact hq.take _
      refine callF_of (rget_c rfl (hU.ext hx2 (by simp)) hcut (by rw [hql]; simp) hokd.fit (by omega)) ?_
      rintro e w4 ⟨rfl, hx24⟩
      refine ⟨(.agg (gotI (getL L q.dropLast)).toArray, (getL L q.dropLast).isSome), rfl, ?_⟩
      rw [zcI]
      refine newB_h rfl fun w5 hw5 => ?_
      have hb5 : w5.heap[w4.heap.size]? = some (.cells (raw [] 0 false []).toArray y_api_Inode (0, 0)) := by rw [hw5]; exact push_new
      refine stI rfl hb5 rfl len_gotI one_gotI fun w6 hw6 => ?_
      have hb6 : w6.heap[w4.heap.size]? = some (.cells (gotI (getL L q.dropLast)).toArray y_api_Inode (0, 0)) := by rw [hw6]; exact set_new hb5
      have hx46 : Ext [] w4.heap w6.heap := by rw [hw6, hw5]; exact (Ext.push _).set_own (.inl (Nat.le_refl _))
      have hx26 := hx24.trans hx46
      cases hs : (getL L q.dropLast).isSome with
      | false => exact iteP_t rfl (keep (by rw [hP1, if_pos ⟨hpos, hs⟩]) (hx2.trans hx26))
      | true =>
        refine iteP_f rfl ?_
        refine ld_h (s := .int .i64) (t := kindOf (getL L q.dropLast)) rfl hb6 (by rw [List.getElem?_toArray]; exact gotI_kind) ?_
        refine iteP_ne (fun hk2 => keep (by rw [hP1, if_neg (by simp [hs]), if_pos ⟨hpos, hk2⟩]) (hx2.trans hx26)) (fun hk2 => ⟨hx26, by simp [hs], fun h => h.2 hk2⟩)
    · have hnp : ¬ 1 < q.length := by simp only at hnp; omega
      exact ⟨.refl _ _, fun h => hnp h.1, fun h => hnp h.1⟩
  rintro _ w7 ⟨hx27, hA, hB⟩
  rw [if_neg hA, if_neg hB] at hP1
  have hx7 := hx2.trans hx27
  refine joinP_of (fun _ w10 => Ext [] w7.heap w10.heap ∧ ¬ (k ≠ 2 ∧ 0 < (belowL L q).length)) ?_ ?_
  · refine ld_h (s := .int .i64) (t := k) rfl (hx27.get hb2 (by simp)) rfl ?_
    refine iteP_ne (fun hk2 => ?_) (fun hk2 => ⟨.refl _ _, fun h => h.1 hk2⟩)
    refine callF_of (rbelow_c rfl (hU.ext hx7 (by simp)) (hm2.ext hx27 (by simp)).cells hxl (by omega)) ?_
    rintro e w9 ⟨y, rfl, hm9, hx79⟩
    refine ⟨y, rfl, ?_⟩
    have hyl := mineI_len hm9
    refine iteP_dec (fun hpos => keep (by rw [hP1, if_pos ⟨hk2, by omega⟩]) (hx7.trans hx79)) (fun hnp => ⟨hx79, fun h => hnp (by omega)⟩)
  rintro _ w10 ⟨hx710, hC⟩
  rw [if_neg hC] at hP1
  have hsm := hq.small
  have hx210 := hx27.trans hx710
  have hx10 := hx2.trans hx210
  refine callF_of (rshow_c rfl (hm2.ext hx210 (by simp)).cells hxl (by omega)) ?_
  rintro e w11 ⟨rfl, hw11⟩
  subst w11
  refine ⟨strOf (showP q), rfl, ?_⟩
  have hb10 := hx210.get hb2 (by simp)
  refine stC_h rfl hb10 (by simp [raw]) fun w12 hw12 => ?_
  have hb12 : w12.heap[H.size]? = some (.cells (encI ⟨q, k, o, d⟩).toArray y_api_Inode (0, 0)) := by rw [hw12]; exact set_new hb10
  have hx12' : Ext [] H w12.heap := by rw [hw12]; exact hx10.set_own (.inl (Nat.le_refl _))
  have hH1 : H.size < w1.heap.size := lt_of_get hb1
  have hm12 : Mine w12.heap w1.heap.size y_string 1 x (strRow q) := (hm2.ext hx210 (by simp)).ext (M := [H.size]) (by rw [hw12]; exact Ext.set _ (by simp)) (fun b hb => by have := ownM_ge hm2 b hb; simp only [List.mem_singleton]; omega)
  refine callF_of (rplace_c rfl (hU.ext hx12' (by simp)) hm12.cells hxl hq.fit (by omega)) ?_
  rintro e w13 ⟨hw13, hcase⟩
  subst w13
  have hins := ins_good (L := L) (i := ⟨q, k, o, d⟩) hG ⟨hq, hne⟩ hdl
  have finish : ∀ {w : World} {x6 : Option Addr × Nat × Nat} {F : List Nat}, ¬ ((getL L q).isSome = false ∧ 1024 ≤ L.length) → Ext F H w.heap → (∀ b ∈ F, H.size ≤ b) → Mine w.heap H.size y_api_Inode 4 x6 ((insL L ⟨q, k, o, d⟩).flatMap encI) → stC (⟨p, 2, none⟩ : Addr) (.slice x6.1 x6.2.1 x6.2.2) w fun w' =>
      ∃ fp', Ending.returned (Value.int .i64 0) = .returned (.int .i64 (putL L t k o d).1) ∧ RU w'.heap fp' p nn bb (putL L t k o d).2 ∧ Ext fp H w'.heap ∧ ∀ b ∈ fp', b ∈ fp ∨ (H.size ≤ b ∧ b < w'.heap.size) := by
    intro w x6 F hD hx hF hm
    have hgood := (hins (by
      by_cases h : (getL L q).isSome = true
      · left; rw [← hgq]; exact h
      · right
        have h2 : (getL L q).isSome = false := by simpa using h
        have : ¬ 1024 ≤ L.length := fun h3 => hD ⟨h2, h3⟩
        omega)).1
    have hxe : Ext [] H w.heap := ⟨hx.1, fun b hb _ => hx.2 b hb fun hm => by have := hF b hm; omega⟩
    have hpw := hxe.get u1 (by simp)
    refine stC_h rfl hpw (by simp) fun w' hw' => ?_
    have hxp : Ext [p] w.heap w'.heap := by rw [hw']; exact Ext.set _ (by simp)
    have hge := ownM_ge hm
    have hm' := hm.ext hxp (fun b hb => by have := hge b hb; simp only [List.mem_singleton]; omega)
    rw [hP1, if_neg hD]
    refine ⟨fp ++ ownM x6, rfl, ⟨x6, by rw [hw']; exact set_new hpw, hm'.mono (Nat.zero_le _), by simp [u3], fun b hb => by simp [hb], hgood⟩, (hxe.mono (by simp)).trans (hxp.mono (by simpa using u3)), fun b hb => ?_⟩
    rcases List.mem_append.1 hb with hb | hb
    · exact .inl hb
    · exact .inr ⟨hge b hb, (mine_in hm' b hb).1⟩
  -- the list is copied
  have copy : ∀ {K : (Option Addr × Nat × Nat) → World → Prop}, (∀ x' w', Mine w'.heap H.size y_api_Inode 4 x' (L.flatMap encI) → Ext [] w12.heap w'.heap → K x' w') →
      genL P (Instr.buildSlice y_S_api_Inode 0 #[]) .slc w12 fun (t97 : (Option Addr × Nat × Nat)) w_15 => withAddr (some (⟨p, 0, none⟩ : Addr)) fun p_1 => ld .slc (Addr.add p_1 2) w_15 fun (t101 : (Option Addr × Nat × Nat)) => genL P (Builtin.append_ #[y_S_api_Inode, y_S_api_Inode] y_S_api_Inode #[(Value.slice t97.1 t97.2.1 t97.2.2), (Value.slice t101.1 t101.2.1 t101.2.2)]) .slc w_15 K := by
    intro K hK
    refine nilI rfl fun w15 hx15 hm15 => ?_
    simp only [withAddr_some, add_none, Nat.zero_add]
    have hx015 := hx12'.trans hx15
    refine ld_h (s := .slc) (t := x0) rfl (hx015.get u1 (by simp)) rfl ?_
    refine appI (xs := []) rfl hm15 hx15.1 (u2.ext hx015 (by simp)).cells hx0l (by simp; omega) ?_
    intro x' w' hm' hx'
    exact hK x' w' (hm'.mono hx12'.1) (hx15.own hx' (by intro b hb hlt; simp [ownM] at hb; omega))
  rcases hcase with ⟨rfl, hg⟩ | ⟨i, j, rfl, hij, hg, hjq⟩
  · refine ⟨-1, rfl, ?_⟩
    refine joinP_of (fun _ w => w = w12 ∧ ¬ 1024 ≤ L.length) ?_ ?_
    · refine iteP_t rfl ?_
      simp only [withAddr_some, add_none, Nat.zero_add]
      refine ld_h (s := .slc) (t := x0) rfl (hx12'.get u1 (by simp)) rfl ?_
      refine iteP_dec (fun h => keep (by rw [hP1, if_pos ⟨by rw [hg]; rfl, by omega⟩]) hx12') (fun h => ⟨by trivial, by omega⟩)
    rintro _ w12' ⟨hw12', hD⟩
    subst w12'
    have hD' : ¬ ((getL L q).isSome = false ∧ 1024 ≤ L.length) := fun h => hD h.2
    have hno : ∀ y ∈ L, y.names ≠ q := by
      intro y hy e
      rw [hgq] at hg
      exact List.find?_eq_none.1 hg y hy (by simpa using e)
    refine copy fun x' w16 hm16 hx16 => ?_
    have hx'l := mineI_len hm16
    have hx'c := mine_ok hm16
    have hx016 := hx12'.trans hx16
    refine iteP_f rfl ?_
    refine joinP_of (fun (s : Int) W => ∃ i : Nat, s = (i : Int) ∧ i ≤ L.length ∧ Ext [] w16.heap W.heap ∧ (∀ y ∈ L.take i, cmpP y.names q < 0) ∧ ∀ h : i < L.length, ¬ cmpP L[i].names q < 0) ?_ ?_
    · refine loopP_of (fun (s : Int) W => ∃ i : Nat, s = (i : Int) ∧ i ≤ L.length ∧ Ext [] w16.heap W.heap ∧ ∀ y ∈ L.take i, cmpP y.names q < 0) (fun s _ => (L.length - s).toNat) ⟨0, rfl, Nat.zero_le _, .refl _ _, by simp⟩ ?_
      rintro _ W ⟨i, rfl, hi, hxW, hlo⟩
      refine joinP_in ?_
      refine iteP_dec (fun hlt => ?_) (fun hge => ⟨i, rfl, hi, hxW, hlo, fun h => absurd hge (by omega)⟩)
      have hil : i < L.length := by omega
      have hok := (hG.ok _ (List.getElem_mem hil)).1
      refine inoStr rfl (hm16.ext hxW (by simp)).cells hx'l (List.getElem?_eq_getElem hil) rfl ?_
      refine callF_of (rnames_c (showP L[i].names) rfl) ?_
      rintro e W2 ⟨y, rfl, hmy, hxW2⟩
      refine ⟨y, rfl, ?_⟩
      rw [parse_show hok] at hmy
      have h8 := hok.2
      refine callF_of (rcompare_c (p := L[i].names) rfl hmy.cells (by have := hmy.len; simp at this; omega) (((hm12.ext hx16 (by simp)).ext hxW (by simp)).ext hxW2 (by simp)).cells hxl (by omega)) ?_
      rintro e W3 ⟨rfl, hW3⟩
      refine ⟨_, rfl, ?_⟩
      have hx3 : Ext [] w16.heap W3.heap := by rw [hW3]; exact hxW.trans hxW2
      refine iteP_dec (fun hl => ?_) (fun hnl => ⟨i, rfl, hi, hx3, hlo, fun _ => hnl⟩)
      refine addI_to ((i + 1 : Nat) : Int) (by omega) (by omega) (by omega) ?_
      refine ⟨⟨i + 1, rfl, by omega, hx3, fun z hz => ?_⟩, by omega⟩
      rw [List.take_add_one, List.getElem?_eq_getElem hil] at hz
      rcases List.mem_append.1 hz with hz | hz
      · exact hlo z hz
      · simp only [Option.toList_some, List.mem_singleton] at hz; subst hz; exact hl
    · rintro _ W ⟨i, rfl, hi, hxW, hlo, hhi⟩
      have hmW := hm16.ext hxW (by simp)
      have hx0W := hx016.trans hxW
      have hsW := hx0W.1
      refine nilI rfl fun w24 hx24 hm24 => ?_
      have hmw24 := hmW.ext hx24 (by simp)
      obtain ⟨a1, hr1, hC1⟩ := slI_to (i := i) hmw24.cells hx'l hx'c hi rfl
      refine genQ_of (s := .slc) (a1, i, x'.2.2) (hr1 _) ?_
      refine appI (xs := []) rfl hm24 hx24.1 hC1 (by simp; omega) (by simp; omega) ?_
      intro x25 w25 hm25 hx25
      rw [List.nil_append] at hm25
      have hxW25 : Ext [] W.heap w25.heap := hx24.own hx25 (by intro b hb hlt; simp [ownM] at hb; omega)
      have hb25 := (hx16.trans (hxW.trans hxW25)).get hb12 (by simp)
      refine ldA_all rfl hb25 rfl ?_
      have hs25 := hxW25.1
      refine appI1 (v := ⟨q, k, o, d⟩) rfl hm25 (by omega) (by simp; omega) ?_
      intro x27 w27 hm27 hx27'
      have hxW27 : Ext [] W.heap w27.heap := hxW25.own hx27' (by intro b hb hlt; have := ownM_ge hm25 b hb; omega)
      have hmw27 := hmW.ext hxW27 (by simp)
      obtain ⟨a2, hr2, hC2⟩ := slI_from (i := i) hmw27.cells hx'l hx'c hi rfl
      refine genQ_of (s := .slc) (a2, x'.2.1 - i, x'.2.2 - i) (hr2 _) ?_
      have hs27 := hxW27.1
      refine appI rfl hm27 (by omega) hC2 (by simp; omega) (by simp; omega) ?_
      intro x28 w28 hm28 hx28
      have hxW28 : Ext [] W.heap w28.heap := hxW27.own hx28 (by intro b hb hlt; have := ownM_ge hm27 b hb; omega)
      simp only [withAddr_some, add_none, Nat.zero_add]
      refine finish hD' (hx0W.trans hxW28) (by simp) ?_
      rw [ins_at hG hi hlo hhi hno]
      have e : L.take i ++ (⟨q, k, o, d⟩ : Ino) :: L.drop i = L.take i ++ [⟨q, k, o, d⟩] ++ L.drop i := by simp
      rw [e]
      exact hm28.mono hsW
  · refine ⟨(i : Int), rfl, ?_⟩
    have hil := (List.getElem?_eq_some_iff.1 hij).1
    have hD' : ¬ ((getL L q).isSome = false ∧ 1024 ≤ L.length) := fun h => by rw [hg] at h; cases h.1
    refine joinP_of (fun _ w => w = w12) (iteP_f (by simp) rfl) ?_
    rintro _ w12' hw12'
    subst w12'
    refine copy fun x' w16 hm16 hx16 => ?_
    have hx'l := mineI_len hm16
    have hx016 := hx12'.trans hx16
    refine iteP_t (by simp) ?_
    refine ldA_all rfl (hx16.get hb12 (by simp)) rfl ?_
    obtain ⟨b, c, hxa, hge, hb, hsz, hset⟩ := Mine.setI (v := ⟨q, k, o, d⟩) hm16 hil
    rw [hxa]
    refine ixS_h i rfl (by omega) ?_
    rw [Nat.zero_add]
    have hcs : (Value.agg (encI ⟨q, k, o, d⟩).toArray).cells = (encI ⟨q, k, o, d⟩).toArray := rfl
    refine storeVar_h (v := .agg (encI ⟨q, k, o, d⟩).toArray) (by rw [szI, hcs]; rfl) (by rw [hcs]; simp [len_encI]) (by rw [hcs]; exact one_encI) rfl hb (by rw [hcs]; simp [len_encI]; omega) fun w17 hw17 => ?_
    rw [hcs] at hw17
    have hx17 : Ext [b] w16.heap w17.heap := by rw [hw17]; exact Ext.set _ (by simp)
    simp only [withAddr_some, add_none, Nat.zero_add]
    have hset' : Mine w17.heap H.size y_api_Inode 4 x' ((insL L ⟨q, k, o, d⟩).flatMap encI) := by
      rw [ins_set hG hij hjq, hw17]; exact hset
    have hxe := (show x' = (some ⟨b, 0, none⟩, x'.2.1, x'.2.2) by rw [← hxa])
    refine finish (x6 := x') (F := [b]) hD' ((hx016.mono (by simp)).trans hx17) (by intro c hc; simp only [List.mem_singleton] at hc; omega) hset' |> fun h => ?_
    rw [hxa] at h
    exact h
end Go.Proofs.Ytbmegmbnlajbbaa
