/- The reference's upper branch: Below, Drop. -/
import Derived.Test.YtbmegmbnlajbbaaUq
namespace Go.Proofs.Ytbmegmbnlajbbaa
open Go Go.Fw Go.Proofs Go.Sort

/-- One inode is appended. -/
theorem appI1 {w : World} {H : Heap} {B : Nat} {s : Option Addr × Nat × Nat} {xs : List Ino} {v : Ino} (hw : w.heap = H) (hm : Mine H B y_api_Inode 4 s (xs.flatMap encI)) (hB : B ≤ H.size) (hlen : xs.length ≤ 1099511627) {K : (Option Addr × Nat × Nat) → World → Prop}
    (hK : ∀ x' w', Mine w'.heap B y_api_Inode 4 x' ((xs ++ [v]).flatMap encI) → Ext (ownM s) H w'.heap → K x' w') :
    genL P (Instr.buildSlice y_S_api_Inode 1 #[(0, (Value.agg (encI v).toArray))]) .slc w fun t w1 => genL P (Builtin.append_ #[y_S_api_Inode, y_S_api_Inode] y_S_api_Inode #[.slice s.1 s.2.1 s.2.2, .slice t.1 t.2.1 t.2.2]) .slc w1 K := by
  have hsl := mineI_len hm
  refine genL_of (s := .slc) (some ⟨w.heap.size, 0, none⟩, 1, 1) _ (build1_g EI uI (v := .agg (encI v).toArray) rfl (by omega) (by omega)) ?_
  subst hw
  have hxp : Ext [] w.heap (w.heap.push (.cells (Value.agg (encI v).toArray).cells y_api_Inode)) := .push _
  refine append_g (n := 1) (us := encI v) (H := w.heap.push (.cells (Value.agg (encI v).toArray).cells y_api_Inode)) EI (by omega) uI (slice_noint uI) rfl (hm.ext hxp (by simp)) (by simp; omega)
    (Src.slc rfl (.inr ⟨w.heap.size, 0, _, _, _, rfl, push_new, by simp [Value.cells, len_encI], by simp [Value.cells]⟩) (by rw [len_encI])) one_encI (by omega) ?_
  intro x' W9 hm9 hl9 hx9 _
  refine hK x' W9 ?_ ((hxp.mono (by simp)).trans hx9)
  rw [List.flatMap_append, List.flatMap_singleton]
  exact hm9
theorem filter_take {L : List Ino} {f : Ino → Bool} {i : Nat} (h : i < L.length) : (L.take (i + 1)).filter f = (L.take i).filter f ++ (if f L[i] then [L[i]] else []) := by
  rw [List.take_add_one, List.getElem?_eq_getElem h, List.filter_append]
  simp only [Option.toList_some, List.filter_cons, List.filter_nil]
theorem filter_take_len {L : List Ino} {f : Ino → Bool} {i : Nat} : ((L.take i).filter f).length ≤ L.length := by
  have h1 := List.length_filter_le f (L.take i)
  have h2 : (L.take i).length ≤ L.length := by simp; omega
  omega

set_option maxHeartbeats 4000000 in
theorem rbelow_c {w : World} {H : Heap} {fp : List Nat} {p : Nat} {nn bb : Int} {L : List Ino} {a : Option Addr} {n nc : Nat} {q : Path} (hw : w.heap = H) (hU : RU H fp p nn bb L) (hL : Cells H a (strRow q)) (hn : n = q.length) (hq : q.length ≤ 9223372036854775807) :
    CallF P F_r12_Upper_Below #[.pointer (some ⟨p, 0, none⟩), .slice a n nc] w fun e w' => ∃ x, e = .returned (slcV x) ∧ Mine w'.heap H.size y_api_Inode 4 x ((belowL L q).flatMap encI) ∧ Ext [] H w'.heap := by
  obtain ⟨x, h1, h2, h3, h4, h5⟩ := hU
  have hxl := mineI_len h2
  have hmany := h5.many
  refine fn_r12_Upper_Below ?_
  unfold T_r12_Upper_Below
  refine loopP_of (fun (s : (Option Addr × Nat × Nat) × Int) W => ∃ (y : Option Addr × Nat × Nat) (i : Nat), s = (y, (i : Int)) ∧ i ≤ L.length ∧ Ext [] H W.heap ∧ Mine W.heap H.size y_api_Inode 4 y (((L.take i).filter (belowQ q)).flatMap encI)) (fun s _ => (L.length - s.2).toNat)
    ⟨(none, 0, 0), 0, rfl, Nat.zero_le _, by rw [hw]; exact .refl _ _, .inl ⟨rfl, rfl⟩⟩ ?_
  rintro _ W ⟨y, i, rfl, hi, hxW, hmW⟩
  have hHW := hxW.1
  simp only [withAddr_some, add_none, Nat.zero_add]
  refine ld_h (s := .slc) (t := x) rfl (hxW.get h1 (by simp)) rfl ?_
  refine iteP_dec (fun hlt => ?_) (fun hge => ?_)
  · have hil : i < L.length := by omega
    have hget := List.getElem?_eq_getElem hil
    have hft := filter_take (f := belowQ q) hil
    have hfl := filter_take_len (f := belowQ q) (L := L) (i := i)
    have hok := (h5.ok _ (List.getElem_mem hil)).1
    generalize L[i] = v at *
    refine joinP_of (fun (s' : Option Addr × Nat × Nat) W2 => Ext [] H W2.heap ∧ Mine W2.heap H.size y_api_Inode 4 s' (((L.take (i + 1)).filter (belowQ q)).flatMap encI)) ?_ ?_
    rotate_left
    · rintro s' W2 ⟨g1, g2⟩
      refine addI_to ((i + 1 : Nat) : Int) (by omega) (by omega) (by omega) ?_
      exact ⟨⟨s', i + 1, rfl, by omega, g1, g2⟩, by omega⟩
    have skip : ∀ {W2 : World}, Ext [] W.heap W2.heap → belowQ q v = false → Ext [] H W2.heap ∧ Mine W2.heap H.size y_api_Inode 4 (y.1, y.2.1, y.2.2) (((L.take (i + 1)).filter (belowQ q)).flatMap encI) := by
      intro W2 h hb
      rw [hft, hb]
      simp only [Bool.false_eq_true, if_false, List.append_nil]
      exact ⟨hxW.trans h, hmW.ext h (by simp)⟩
    refine ld_h (s := .slc) (t := x) rfl (hxW.get h1 (by simp)) rfl ?_
    refine inoStr rfl (h2.ext hxW (by simp)).cells hxl hget rfl ?_
    refine callF_of (rnames_c (showP v.names) rfl) ?_
    rintro e W2 ⟨t, rfl, hm2, hx2⟩
    refine ⟨t, rfl, ?_⟩
    rw [parse_show hok] at hm2
    have htl : t.2.1 = v.names.length := by have := hm2.len; simp at this; omega
    have h8 := hok.2
    refine iteP_dec (fun hgt => ?_) (fun hle => skip hx2 (by unfold belowQ; rw [decide_eq_false (by omega)]; rfl))
    refine callF_of (rwithin_c (p := v.names) rfl hm2.cells htl ((hL.ext hxW (by simp)).ext hx2 (by simp)) hn (by omega) (by omega)) ?_
    rintro e W3 ⟨rfl, hW3⟩
    refine ⟨_, rfl, ?_⟩
    have hx3 : Ext [] W.heap W3.heap := by rw [hW3]; exact hx2
    cases hwi : withinP v.names q with
    | false => exact iteP_f rfl (skip hx3 (by unfold belowQ; rw [hwi]; simp))
    | true =>
      refine iteP_t rfl ?_
      have hbq : belowQ q v = true := by unfold belowQ; rw [hwi, decide_eq_true (by omega)]; rfl
      refine ld_h (s := .slc) (t := x) rfl ((hxW.trans hx3).get h1 (by simp)) rfl ?_
      refine elem_ld (i := i) len_encI (by omega) rfl (h2.ext (hxW.trans hx3) (by simp)).cells hxl hget rfl ?_
      refine appI1 rfl (hmW.ext hx3 (by simp)) (by have := hx3.1; omega) (by omega) ?_
      intro x' W4 hm4 hx4
      rw [hft, hbq, if_pos rfl]
      exact ⟨(hxW.trans hx3).own hx4 (by intro b hb hlt; have := ownM_ge hmW b hb; omega), hm4⟩
  · have : i = L.length := by omega
    subst this
    rw [List.take_length] at hmW
    exact ⟨y, rfl, hmW, hxW⟩

set_option maxHeartbeats 4000000 in
theorem rdrop_c {w : World} {H : Heap} {fp : List Nat} {p : Nat} {nn bb : Int} {L : List Ino} {a : Option Addr} {n nc : Nat} {q : Path} (hw : w.heap = H) (hU : RU H fp p nn bb L) (hL : Cells H a (strRow q)) (hn : n = q.length) (hq : q.length ≤ 9223372036854775807) :
    CallF P F_r12_Upper_Drop #[.pointer (some ⟨p, 0, none⟩), .slice a n nc] w fun e w' => ∃ fp', e = .returned (.int .i64 ((L.length : Int) - (dropL L q).length)) ∧ RU w'.heap fp' p nn bb (dropL L q) ∧ Ext fp H w'.heap ∧ ∀ b ∈ fp', b ∈ fp ∨ (H.size ≤ b ∧ b < w'.heap.size) := by
  obtain ⟨x, h1, h2, h3, h4, h5⟩ := hU
  have hxl := mineI_len h2
  have hmany := h5.many
  have hpl := lt_of_get h1
  refine fn_r12_Upper_Drop ?_
  unfold T_r12_Upper_Drop
  refine loopP_of (fun (s : (Option Addr × Nat × Nat) × Int) W => ∃ (y : Option Addr × Nat × Nat) (i : Nat), s = (y, (i : Int)) ∧ i ≤ L.length ∧ Ext [] H W.heap ∧ Mine W.heap H.size y_api_Inode 4 y (((L.take i).filter (fun j => !withinP j.names q)).flatMap encI)) (fun s _ => (L.length - s.2).toNat)
    ⟨(none, 0, 0), 0, rfl, Nat.zero_le _, by rw [hw]; exact .refl _ _, .inl ⟨rfl, rfl⟩⟩ ?_
  rintro _ W ⟨y, i, rfl, hi, hxW, hmW⟩
  have hHW := hxW.1
  simp only [withAddr_some, add_none, Nat.zero_add]
  refine ld_h (s := .slc) (t := x) rfl (hxW.get h1 (by simp)) rfl ?_
  refine iteP_dec (fun hlt => ?_) (fun hge => ?_)
  · have hil : i < L.length := by omega
    have hget := List.getElem?_eq_getElem hil
    have hft := filter_take (f := fun j => !withinP j.names q) hil
    have hfl := filter_take_len (f := fun j => !withinP j.names q) (L := L) (i := i)
    have hok := (h5.ok _ (List.getElem_mem hil)).1
    generalize L[i] = v at *
    refine joinP_of (fun (s' : Option Addr × Nat × Nat) W2 => Ext [] H W2.heap ∧ Mine W2.heap H.size y_api_Inode 4 s' (((L.take (i + 1)).filter (fun j => !withinP j.names q)).flatMap encI)) ?_ ?_
    rotate_left
    · rintro s' W2 ⟨g1, g2⟩
      refine addI_to ((i + 1 : Nat) : Int) (by omega) (by omega) (by omega) ?_
      exact ⟨⟨s', i + 1, rfl, by omega, g1, g2⟩, by omega⟩
    refine ld_h (s := .slc) (t := x) rfl (hxW.get h1 (by simp)) rfl ?_
    refine inoStr rfl (h2.ext hxW (by simp)).cells hxl hget rfl ?_
    refine callF_of (rnames_c (showP v.names) rfl) ?_
    rintro e W2 ⟨t, rfl, hm2, hx2⟩
    refine ⟨t, rfl, ?_⟩
    rw [parse_show hok] at hm2
    have htl : t.2.1 = v.names.length := by have := hm2.len; simp at this; omega
    have h8 := hok.2
    refine callF_of (rwithin_c (p := v.names) rfl hm2.cells htl ((hL.ext hxW (by simp)).ext hx2 (by simp)) hn (by omega) (by omega)) ?_
    rintro e W3 ⟨rfl, hW3⟩
    refine ⟨_, rfl, ?_⟩
    have hx3 : Ext [] W.heap W3.heap := by rw [hW3]; exact hx2
    cases hwi : withinP v.names q with
    | true =>
      refine iteP_f rfl ?_
      rw [hft, hwi]
      simp only [Bool.not_true, Bool.false_eq_true, if_false, List.append_nil]
      exact ⟨hxW.trans hx3, hmW.ext hx3 (by simp)⟩
    | false =>
      refine iteP_t rfl ?_
      refine ld_h (s := .slc) (t := x) rfl ((hxW.trans hx3).get h1 (by simp)) rfl ?_
      refine elem_ld (i := i) len_encI (by omega) rfl (h2.ext (hxW.trans hx3) (by simp)).cells hxl hget rfl ?_
      refine appI1 rfl (hmW.ext hx3 (by simp)) (by have := hx3.1; omega) (by omega) ?_
      intro x' W4 hm4 hx4
      rw [hft, hwi, Bool.not_false, if_pos rfl]
      exact ⟨(hxW.trans hx3).own hx4 (by intro b hb hlt; have := ownM_ge hmW b hb; omega), hm4⟩
  · have : i = L.length := by omega
    subst this
    rw [List.take_length] at hmW
    have hyl := mineI_len hmW
    have hyl : y.2.1 = (dropL L q).length := hyl
    have hdl : (dropL L q).length ≤ L.length := List.length_filter_le _ _
    refine ld_h (s := .slc) (t := x) rfl (hxW.get h1 (by simp)) rfl ?_
    refine subI_to ((L.length : Int) - (dropL L q).length) (by omega) (by omega) (by omega) ?_
    have hpW := hxW.get h1 (by simp)
    refine stC_h rfl hpW (by simp) fun W2 hW2 => ?_
    have hx2 : Ext [p] W.heap W2.heap := by rw [hW2]; exact Ext.set _ (by simp)
    have hge2 := ownM_ge hmW
    have hm2 := hmW.ext hx2 (fun b hb => by have := hge2 b hb; simp only [List.mem_singleton]; omega)
    refine ⟨fp ++ ownM y, rfl, ⟨y, by rw [hW2]; exact set_new hpW, hm2.mono (Nat.zero_le _), by simp [h3], fun b hb => by simp [hb], h5.sub List.filter_sublist⟩, (hxW.mono (by simp)).trans (hx2.mono (by simpa using h3)), fun b hb => ?_⟩
    rcases List.mem_append.1 hb with hb | hb
    · exact .inl hb
    · exact .inr ⟨hge2 b hb, (mine_in hm2 b hb).1⟩
end Go.Proofs.Ytbmegmbnlajbbaa
