/- The upper branch: what lies below a path. -/
import Derived.Test.YtbmegmbnlajbbaaGreatUk
import Derived.Test.YtbmegmbnlajbbaaGreatLay
namespace Go.Proofs.YtbmegmbnlajbbaaGreat
open Go Go.Fw Go.Proofs Go.Sort

def belowQ (q : Path) (i : Ino) : Bool := decide (q.length < i.names.length) && withinP i.names q
def belowL (L : List Ino) (q : Path) : List Ino := L.filter (belowQ q)
theorem perm_rise : ∀ {b a : List Ino}, a.Perm b → (a.Pairwise fun x y => ¬ cmpP y.names x.names < 0) → (b.Pairwise fun x y => cmpP x.names y.names < 0) → a = b
  | [], a, h, _, _ => List.Perm.eq_nil h
  | y :: b, [], h, _, _ => by have := h.length_eq; simp at this
  | y :: b, x :: a, h, ha, hb => by
    obtain ⟨ha1, ha2⟩ := List.pairwise_cons.1 ha
    obtain ⟨hb1, hb2⟩ := List.pairwise_cons.1 hb
    by_cases e : x = y
    · subst e
      rw [perm_rise (List.Perm.cons_inv h) ha2 hb2]
    · have h1 : x ∈ b := by
        rcases List.mem_cons.1 (h.mem_iff.1 (List.mem_cons_self (a := x) (l := a))) with h1 | h1
        · exact absurd h1 e
        · exact h1
      have h2 : y ∈ a := by
        rcases List.mem_cons.1 (h.mem_iff.2 (List.mem_cons_self (a := y) (l := b))) with h2 | h2
        · exact absurd h2.symm e
        · exact h2
      exact absurd (hb1 x h1) (ha1 y h2)
def nm (i : Ino) : Path := (parseP (showP i.names)).1
theorem less_c (W : World) (x y : Ino) : CallF P F_upper_Upper_Below_1 #[.agg (encI x).toArray, .agg (encI y).toArray] W fun e W' => e = .returned (.int .i64 (cmpP (nm x) (nm y))) ∧ Ext [] W.heap W'.heap := by
  refine fn_upper_Upper_Below_1 ?_
  unfold T_upper_Upper_Below_1
  refine newB_h rfl fun w1 hw1 => ?_
  refine newB_h hw1 fun w2 hw2 => ?_
  have hx2 : Ext [] W.heap w2.heap := by rw [hw2]; exact (Ext.push _).trans (Ext.push _)
  have ha : w2.heap[W.heap.size]? = some (.cells (encI x).toArray y_api_Inode (0, 0)) := by rw [hw2]; exact push_old push_new
  have hb : w2.heap[(W.heap.push (.cells (Value.agg (encI x).toArray).cells y_api_Inode)).size]? = some (.cells (encI y).toArray y_api_Inode (0, 0)) := by rw [hw2]; exact push_new
  generalize (W.heap.push (.cells (Value.agg (encI x).toArray).cells y_api_Inode)).size = b3 at *
  refine drewP_h rfl fun w3 hw3 => ?_
  have hx23 : Ext [] w2.heap w3.heap := by rw [hw3]; exact .refl _ _
  refine ld_h (s := .str) (t := strOf (showP x.names)) rfl (hx23.get ha (by simp)) rfl ?_
  refine ld_h (s := .str) (t := strOf (showP y.names)) rfl (hx23.get hb (by simp)) rfl ?_
  refine callF_of (names_c (showP x.names) rfl) ?_
  rintro e w4 ⟨x4, rfl, hm4, hx4⟩
  refine ⟨x4, rfl, ?_⟩
  have hx24 := hx23.trans hx4
  refine ⟨ld_h (s := .str) (t := strOf (showP y.names)) rfl (hx24.get hb (by simp)) rfl rfl, ?_⟩
  refine callF_of (names_c (showP y.names) rfl) ?_
  rintro e w5 ⟨x5, rfl, hm5, hx5⟩
  refine ⟨x5, rfl, ?_⟩
  have h45 := hm4.ext hx5 (by simp)
  have ok1 := (parse_ok (showP x.names)).2
  refine callF_of (compare_c rfl h45.cells (by have := h45.len; simp at this; omega) hm5.cells (by have := hm5.len; simp at this; omega) (by omega)) ?_
  rintro e w6 ⟨rfl, hw6⟩
  subst w6
  exact ⟨_, rfl, rfl, hx2.trans (hx24.trans hx5)⟩
theorem sortI_c {w : World} {H : Heap} {B : Nat} {x : Option Addr × Nat × Nat} {xs : List Ino} (hw : w.heap = H) (hM : Mine H B y_api_Inode 4 x (xs.flatMap encI)) (hlen : xs.length ≤ 1099511627776) :
    CallF P F_slices_SortFunc_S_api_Inode_api_Inode #[.slice x.1 x.2.1 x.2.2, .func (.func F_upper_Upper_Below_1) #[] #[]] w fun e w' => e = .returned (.tuple #[]) ∧ ∃ ys : List Ino, ys.Perm xs ∧ (ys.Pairwise fun a b => ¬ cmpP (nm b) (nm a) < 0) ∧ Mine w'.heap B y_api_Inode 4 x (ys.flatMap encI) ∧ Ext (ownM x) H w'.heap :=
  sort_h (α := Ino) Tryz.sortD (k := 4) (fun w => by kernel_rfl) (fun w => by kernel_rfl) encI len_encI (by omega) (fun x => one_encI) (fun x y => cmpP (nm x) (nm y)) (swo_cmpP nm) (g := F_upper_Upper_Below_1) (fun args w => by kernel_rfl) (fun args w => by kernel_rfl) less_c hw hM (by omega)

set_option maxHeartbeats 4000000 in
theorem below_c {w : World} {H : Heap} {p m : Nat} {nn bb : Int} {L : List Ino} {a : Option Addr} {n nc : Nat} {q : Path} (hw : w.heap = H) (hU : Up H p m nn bb L) (hL : Cells H a (strRow q)) (hn : n = q.length) (hq : q.length ≤ 9223372036854775807) :
    CallF P F_upper_Upper_Below #[.pointer (some ⟨p, 0, none⟩), .slice a n nc] w fun e w' => ∃ x, e = .returned (slcV x) ∧ Mine w'.heap H.size y_api_Inode 4 x ((belowL L q).flatMap encI) ∧ Ext [] H w'.heap := by
  obtain ⟨M, c, h1, h2, h3, h4⟩ := hU
  have hml : M.length = L.length := by have := h4.perm.length_eq; rwa [List.length_map] at this
  have hmany := h4.good.many
  refine fn_upper_Upper_Below ?_
  unfold T_upper_Upper_Below
  refine iteP_f rfl ?_
  simp only [withAddr_some, add_none, Nat.zero_add]
  refine ld_h (s := .map) (t := some m) hw h1 rfl ?_
  refine genL_of (s := .ptr) (some ⟨H.size, 0, none⟩) _ (range_h uM hw h2) ?_
  have hmlt := lt_of_get h2
  refine loopP_ix (fun k (s : Option Addr × Nat × Nat) W => ∃ (seen : Array Nat) (last : Nat) (xs : List Ino), Ext [] H W.heap ∧ W.heap[H.size]? = some (.mapIter (some m) c seen last) ∧ c ≤ last ∧ k = (M.filter fun y => !seen.contains y.2.2).length ∧ Mine W.heap (H.size + 1) y_api_Inode 4 s (xs.flatMap encI) ∧
    xs.Perm (((M.filter fun y => seen.contains y.2.2).map (·.2.1)).filter (belowQ q))) (M.filter fun y => !(#[] : Array Nat).contains y.2.2).length ?_ ?_
  · exact ⟨#[], c, [], .push _, push_new, Nat.le_refl _, rfl, .inl ⟨rfl, rfl⟩, by simp⟩
  rintro k s W ⟨seen, last, xs, hxW, hrW, hcl, rfl, hmine, hperm⟩ K hK
  have hmW := hxW.get h2 (by simp)
  have hxs : xs.length ≤ 1024 := by
    rw [hperm.length_eq]
    have h5 := List.length_filter_le (belowQ q) ((M.filter fun y => seen.contains y.2.2).map (·.2.1))
    rw [List.length_map] at h5
    have h6 := List.length_filter_le (fun y : List UInt8 × Ino × Nat => seen.contains y.2.2) M
    omega
  have hsl : s.2.1 = xs.length := by have := hmine.len; rw [length_flatMap_k encI len_encI] at this; omega
  have hHW := hxW.1
  have hrlt := lt_of_get hrW
  rcases next_v (P := P) (ty := y_tuple_bcd8b0) rfl hmW hrW (fun x hx => h3.old x hx) hcl with ⟨hall, W1, hnx, hc1, hh1⟩ | ⟨x, hx, hns, W1, hnx, hc1, hh1⟩
  · refine genL_of (s := .any) _ W1 hnx ?_ hc1
    refine exV_of (s := .bool) false rfl rfl ?_
    refine iteP_f rfl ?_
    have hall2 : (M.filter fun y => seen.contains y.2.2) = M := by
      rw [List.filter_eq_self]
      intro y hy
      simpa using hall y hy
    rw [hall2] at hperm
    have hpL : xs.Perm (belowL L q) := hperm.trans (h4.perm.filter _)
    refine callF_of (l := []) (sortI_c (H := W.heap) hh1 hmine (by omega)) ?_
    rintro e w2 ⟨rfl, ys, hys, hso, hm2, hx2⟩
    refine ⟨(), rfl, s, rfl, ?_, hxW.own hx2 (by intro b hb hlt; have := ownM_ge hmine b hb; omega)⟩
    have hnm : ∀ i ∈ ys, nm i = i.names := by
      intro i hi
      have h7 : i ∈ L := (List.mem_filter.1 (hpL.mem_iff.1 (hys.mem_iff.1 hi))).1
      unfold nm; rw [parse_show (h4.good.ok i h7).1]
    have heq : ys = belowL L q := by
      refine perm_rise (hys.trans hpL) ?_ (h4.good.rise.filter _)
      refine List.Pairwise.imp_of_mem (fun {a b} ha hb h => ?_) hso
      rw [hnm a ha, hnm b hb] at h; exact h
    rw [← heq]
    exact hm2.mono (by omega)
  · refine genL_of (s := .any) _ W1 hnx ?_ hc1
    refine exV_of (s := .bool) true rfl rfl ?_
    refine iteP_t rfl ?_
    have hr1 : W1.heap[H.size]? = some (.mapIter (some m) c (seen.push x.2.2) c) := by rw [hh1]; exact Array.getElem?_setIfInBounds_self_of_lt hrlt
    have hx01 : Ext [H.size] W.heap W1.heap := by rw [hh1]; exact Ext.set _ (by simp)
    have hm1 : W1.heap[m]? = some (.map (ents keyS (vl valI M)) c) := hx01.get hmW (by simp; omega)
    have hxL : x.2.1 ∈ L := h4.perm.mem_iff.1 (List.mem_map.2 ⟨x, hx, rfl⟩)
    have hkey := h4.key x hx
    have hok := (h4.good.ok _ hxL).1
    have hx1 : Ext [] H W1.heap := hxW.own hx01 (by intro b hb hlt; simp at hb; omega)
    have hmine1 : Mine W1.heap (H.size + 1) y_api_Inode 4 s (xs.flatMap encI) := hmine.ext hx01 (fun b hb => by have := ownM_ge hmine b hb; simp only [List.mem_singleton]; omega)
    have hpn : ∀ (zs : List Ino), zs.Perm (if belowQ q x.2.1 = true then xs ++ [x.2.1] else xs) → zs.Perm (((M.filter fun y => (seen.push x.2.2).contains y.2.2).map (·.2.1)).filter (belowQ q)) := by
      intro zs hz
      refine hz.trans ?_
      have h5 := ((seen_perm h3.born hx hns).map (·.2.1)).filter (belowQ q)
      rw [List.map_append, List.filter_append] at h5
      refine List.Perm.trans ?_ h5.symm
      simp only [List.map_cons, List.map_nil, List.filter_cons, List.filter_nil]
      split
      · exact hperm.append_right _
      · rw [List.append_nil]; exact hperm
    have endK : ∀ {W2 : World} {s' : Option Addr × Nat × Nat} {zs : List Ino}, Ext (ownM s) W1.heap W2.heap → Mine W2.heap (H.size + 1) y_api_Inode 4 s' (zs.flatMap encI) → zs.Perm (if belowQ q x.2.1 = true then xs ++ [x.2.1] else xs) → K (s'.1, s'.2.1, s'.2.2) W2 := by
      intro W2 s' zs hx2 hm2 hz
      have hn : ∀ b, b < H.size + 1 → b ∉ ownM s := fun b hb h => by have := ownM_ge hmine1 b h; omega
      exact hK _ _ _ (left_lt hx hns) ⟨seen.push x.2.2, c, zs, hx1.own hx2 (by intro b hb hlt; exact absurd hb (hn b (by omega))), hx2.get hr1 (hn _ (by omega)), Nat.le_refl _, rfl, hm2, hpn zs hz⟩
    refine joinP_of (fun (s' : Option Addr × Nat × Nat) W2 => ∃ zs : List Ino, Ext (ownM s) W1.heap W2.heap ∧ Mine W2.heap (H.size + 1) y_api_Inode 4 s' (zs.flatMap encI) ∧ zs.Perm (if belowQ q x.2.1 = true then xs ++ [x.2.1] else xs)) ?_ ?_
    rotate_left
    · rintro s' W2 ⟨zs, g1, g2, g3⟩
      exact endK g1 g2 g3
    refine genQ_of (s := .any) _ (entry_v (last := c) rfl hm1 hr1 hx h3) ?_
    refine exV_of (s := .str) (strOf x.1) rfl rfl ?_
    refine exV_of (s := .any) (valI x.2.1) rfl rfl ?_
    rw [zcI]
    refine newB_h rfl fun W4 hW4 => ?_
    have hx14 : Ext [] W1.heap W4.heap := by rw [hW4]; exact .push _
    have hb4 : W4.heap[W1.heap.size]? = some (.cells (raw [] 0 false []).toArray y_api_Inode (0, 0)) := by rw [hW4]; exact push_new
    refine stI rfl hb4 rfl (len_encI _) one_encI fun W5 hW5 => ?_
    have hb5 : W5.heap[W1.heap.size]? = some (.cells (encI x.2.1).toArray y_api_Inode (0, 0)) := by rw [hW5]; exact set_new hb4
    have hx15 : Ext [] W1.heap W5.heap := by rw [hW5]; exact hx14.set_own (.inl (Nat.le_refl _))
    refine callF_of (names_c x.1 rfl) ?_
    rintro e W6 ⟨t, rfl, hm6, hx56⟩
    refine ⟨t, rfl, ?_⟩
    rw [hkey, parse_show hok] at hm6
    have htl : t.2.1 = x.2.1.names.length := by have := hm6.len; simp at this; omega
    have htc : t.2.1 ≤ t.2.2 := by
      rcases hm6 with ⟨rfl, _⟩ | ⟨_, _, _, _, _, _, _, h, _⟩
      · exact Nat.le_refl _
      · exact h
    have hx16 := hx15.trans hx56
    have hok8 := hok.2
    have skip : ∀ {W2 : World}, Ext [] W1.heap W2.heap → belowQ q x.2.1 = false → ∃ zs : List Ino, Ext (ownM s) W1.heap W2.heap ∧ Mine W2.heap (H.size + 1) y_api_Inode 4 (s.1, s.2.1, s.2.2) (zs.flatMap encI) ∧ zs.Perm (if belowQ q x.2.1 = true then xs ++ [x.2.1] else xs) := by
      intro W2 h hb
      exact ⟨xs, h.mono (by simp), hmine1.ext h (by simp), by rw [hb]; exact .refl _⟩
    refine iteP_dec (fun hgt => ?_) (fun hle => ?_)
    · have hgt' : q.length < x.2.1.names.length := by omega
      refine callF_of (within_c (p := x.2.1.names) rfl hm6.cells htl htc ((hL.ext hx1 (by simp)).ext hx16 (by simp)) hn (by omega) (by omega)) ?_
      rintro e W7 ⟨rfl, hW7⟩
      refine ⟨_, rfl, ?_⟩
      have hx17 : Ext [] W1.heap W7.heap := by rw [hW7]; exact hx16
      cases hwi : withinP x.2.1.names q with
      | false =>
        refine iteP_f rfl ?_
        exact skip hx17 (by unfold belowQ; rw [hwi]; simp)
      | true =>
        refine iteP_t rfl ?_
        have hbq : belowQ q x.2.1 = true := by unfold belowQ; rw [hwi, decide_eq_true hgt']; rfl
        have hb7 : W7.heap[W1.heap.size]? = some (.cells (encI x.2.1).toArray y_api_Inode (0, 0)) := by rw [hW7]; exact hx56.get hb5 (by simp)
        refine ldA_all rfl hb7 rfl ?_
        refine genL_of (s := .slc) (some ⟨W7.heap.size, 0, none⟩, 1, 1) _ (build1_g EI uI (v := .agg (encI x.2.1).toArray) rfl (by omega) (by omega)) ?_
        have hxp : Ext [] W7.heap (W7.heap.push (.cells (Value.agg (encI x.2.1).toArray).cells y_api_Inode)) := .push _
        refine append_g (n := 1) (us := encI x.2.1) (H := W7.heap.push (.cells (Value.agg (encI x.2.1).toArray).cells y_api_Inode)) EI (by omega) uI (slice_noint uI) rfl ((hmine1.ext hx17 (by simp)).ext hxp (by simp)) (by have := hx1.1; have := hx17.1; have := lt_of_get hr1; simp; omega)
          (Src.slc rfl (.inr ⟨W7.heap.size, 0, _, _, _, rfl, push_new, by simp [Value.cells, len_encI], by simp [Value.cells]⟩) (by rw [len_encI])) one_encI (by omega) ?_
        intro x' W9 hm9 hl9 hx9 _
        refine ⟨xs ++ [x.2.1], (hx17.mono (by simp)).trans ((hxp.mono (by simp)).trans hx9), ?_, by rw [hbq]; exact .refl _⟩
        rw [List.flatMap_append, List.flatMap_singleton]
        exact hm9
    · exact skip hx16 (by unfold belowQ; rw [decide_eq_false (by omega)]; rfl)
end Go.Proofs.YtbmegmbnlajbbaaGreat
