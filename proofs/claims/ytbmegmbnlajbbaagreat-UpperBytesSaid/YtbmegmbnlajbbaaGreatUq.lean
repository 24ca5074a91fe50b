/- The reference's upper branch: reads. -/
import Derived.Test.YtbmegmbnlajbbaaGreatUn
namespace Go.Proofs.YtbmegmbnlajbbaaGreat
open Go Go.Fw Go.Proofs Go.Sort

theorem lenI (xs : List Ino) : (xs.flatMap encI).length = xs.length * 4 := length_flatMap_k encI len_encI xs
theorem mineI_len {H : Heap} {B : Nat} {x : Option Addr × Nat × Nat} {xs : List Ino} (h : Mine H B y_api_Inode 4 x (xs.flatMap encI)) : x.2.1 = xs.length := by have := h.len; rw [lenI] at this; omega
theorem mine_ok {H : Heap} {B : Nat} {T : TypeId} {sz : Nat} {x : Option Addr × Nat × Nat} {vs : List Value} (h : Mine H B T sz x vs) : x.2.1 ≤ x.2.2 := by
  rcases h with ⟨rfl, _⟩ | ⟨_, _, _, _, _, _, _, h, _⟩
  · exact Nat.le_refl _
  · exact h
theorem mine_in {H : Heap} {B : Nat} {T : TypeId} {sz : Nat} {x : Option Addr × Nat × Nat} {vs : List Value} (h : Mine H B T sz x vs) : ∀ b ∈ ownM x, b < H.size ∧ ∃ c, H[b]? = some (.cells c T (0, 0)) := by
  intro b hb
  rcases h with ⟨rfl, _⟩ | ⟨b2, c, hx, _, hb2, _⟩
  · simp [ownM] at hb
  · simp only [ownM, hx, List.mem_singleton] at hb
    subst hb; exact ⟨lt_of_get hb2, c, hb2⟩
/-- The reference's upper branch lies at p. -/
def RU (H : Heap) (fp : List Nat) (p : Nat) (nodes bytes : Int) (L : List Ino) : Prop := ∃ x, H[p]? = some (.cells #[.int .i64 nodes, .int .i64 bytes, slcV x] y_r12_Upper (0, 0)) ∧ Mine H 0 y_api_Inode 4 x (L.flatMap encI) ∧ p ∈ fp ∧ (∀ b ∈ ownM x, b ∈ fp) ∧ Good L
theorem RU.ext {F fp : List Nat} {H H' : Heap} {p : Nat} {n b : Int} {L : List Ino} (h : RU H fp p n b L) (hx : Ext F H H') (hF : ∀ b ∈ fp, b ∉ F) : RU H' fp p n b L := by
  obtain ⟨x, h1, h2, h3, h4, h5⟩ := h
  exact ⟨x, hx.get h1 (hF p h3), h2.ext hx (fun b hb => hF b (h4 b hb)), h3, h4, h5⟩
theorem RU.good {H : Heap} {fp : List Nat} {p : Nat} {n b : Int} {L : List Ino} (h : RU H fp p n b L) : Good L := by obtain ⟨_, _, _, _, _, h5⟩ := h; exact h5
theorem bR12 (n b : Int) (w : World) : (Instr.build y_r12_Upper #[(0, .int .i64 n), (1, .int .i64 b)]).run P w = .ok (.agg #[.int .i64 n, .int .i64 b, .slice none 0 0]) w := by kernel_rfl
theorem rnew_c {w : World} {H : Heap} (n b : Int) (hw : w.heap = H) : CallF P F_r12_New #[.int .i64 n, .int .i64 b] w fun e w' =>
    (¬ newOk n b ∧ e = .returned (.tuple #[.pointer none, .int .i64 1]) ∧ w'.heap = H) ∨ (newOk n b ∧ ∃ p, e = .returned (.tuple #[.pointer (some ⟨p, 0, none⟩), .int .i64 0]) ∧ RU w'.heap [p] p n b [] ∧ Ext [] H w'.heap ∧ H.size ≤ p ∧ p < w'.heap.size) := by
  refine fn_r12_New ?_
  unfold T_r12_New
  refine joinP_in ?_
  refine iteP_dec (fun h => .inl ⟨fun h2 => by have := h2.1; omega, rfl, hw⟩) (fun h1 => ?_)
  refine iteP_dec (fun h => .inl ⟨fun h2 => by have := h2.2.2.1; omega, rfl, hw⟩) (fun h2 => ?_)
  refine iteP_dec (fun h => .inl ⟨fun h2 => by have := h2.2.1; omega, rfl, hw⟩) (fun h3 => ?_)
  refine iteP_dec (fun h => .inl ⟨fun h2 => by have := h2.2.2.2; omega, rfl, hw⟩) (fun h4 => ?_)
  refine genQ_of (s := .any) _ (bR12 _ _ _) ?_
  refine newB_h hw fun w2 hw2 => ?_
  exact .inr ⟨⟨by omega, by omega, by omega, by omega⟩, H.size, rfl, ⟨(none, 0, 0), by rw [hw2]; exact push_new, .inl ⟨rfl, rfl⟩, by simp, by simp [ownM], St.nil.good⟩, by rw [hw2]; exact .push _, Nat.le_refl _, by rw [hw2]; simp⟩

/-- The text of an inode's path, by its place; its data; all of it. -/
theorem inoIx {w : World} {H : Heap} {a : Option Addr} {len i : Nat} {n : Int} {xs : List Ino} {v : Ino} (hw : w.heap = H) (hL : Cells H a (xs.flatMap encI)) (hlen : len = xs.length) (hi : xs[i]? = some v) (hn : n = (i : Int)) {K : Addr → Prop}
    (hK : ∀ b o c T fr, H[b]? = some (.cells c T fr) → o + 4 ≤ c.size → (∀ j, j < 4 → c[o + j]? = (encI v)[j]?) → K ⟨b, o, none⟩) : ixS a len 4 n K := by
  have hlt := (List.getElem?_eq_some_iff.1 hi).1
  rcases hL with h | ⟨b, o, c, T, fr, rfl, hb, hsz, hc⟩
  · have := congrArg List.length h
    rw [lenI] at this; simp only [List.length_nil] at this; omega
  · refine ixS_h i hn (by omega) ?_
    rw [lenI] at hsz
    refine hK b (o + i * 4) c T fr hb (by omega) fun j hj => ?_
    have h2 : (xs.flatMap encI)[i * 4 + j]? = (encI v)[j]? := by
      rw [getElem_flatMap encI len_encI (by omega)]
      have h3 : (i * 4 + j) / 4 = i := by omega
      have h4 : (i * 4 + j) % 4 = j := by omega
      rw [h3, h4, hi]; rfl
    rw [← hc, Array.getElem?_toList, Array.getElem?_extract, lenI, if_pos (by omega)] at h2
    rw [← h2]; congr 1; omega
theorem inoStr {w : World} {H : Heap} {a : Option Addr} {len i : Nat} {n : Int} {xs : List Ino} {v : Ino} (hw : w.heap = H) (hL : Cells H a (xs.flatMap encI)) (hlen : len = xs.length) (hi : xs[i]? = some v) (hn : n = (i : Int)) {K : ByteArray → Prop} (hK : K (strOf (showP v.names))) :
    ixS a len 4 n fun p => ld .str p w K := by
  refine inoIx hw hL hlen hi hn fun b o c T fr hb hs hc => ?_
  exact ld_h (s := .str) hw hb (by have := hc 0 (by omega); rw [Nat.add_zero] at this; rw [this]; rfl) hK
theorem inoData {w : World} {H : Heap} {a : Option Addr} {len i : Nat} {n : Int} {xs : List Ino} {v : Ino} (hw : w.heap = H) (hL : Cells H a (xs.flatMap encI)) (hlen : len = xs.length) (hi : xs[i]? = some v) (hn : n = (i : Int)) {K : ByteArray → Prop} (hK : K (strOf v.data)) :
    ixS a len 4 n fun p => ld .str (Addr.add p 3) w K := by
  refine inoIx hw hL hlen hi hn fun b o c T fr hb hs hc => ?_
  rw [add_none]
  exact ld_h (s := .str) hw hb (by rw [hc 3 (by omega)]; rfl) hK

theorem rplace_c {w : World} {H : Heap} {fp : List Nat} {p : Nat} {nn bb : Int} {L : List Ino} {a : Option Addr} {n nc : Nat} {q : Path} (hw : w.heap = H) (hU : RU H fp p nn bb L) (hL : Cells H a (strRow q)) (hn : n = q.length) (hf : Fit q) (hq : q.length ≤ 9223372036854775807) :
    CallF P F_r12_Upper_place #[.pointer (some ⟨p, 0, none⟩), .slice a n nc] w fun e w' => w' = w ∧ ((e = .returned (.int .i64 (-1)) ∧ getL L q = none) ∨ ∃ (i : Nat) (j : Ino), e = .returned (.int .i64 (i : Int)) ∧ L[i]? = some j ∧ getL L q = some j ∧ j.names = q) := by
  obtain ⟨x, h1, h2, h3, h4, h5⟩ := hU
  have hxl := mineI_len h2
  have hmany := h5.many
  refine fn_r12_Upper_place ?_
  unfold T_r12_Upper_place
  refine joinP_in ?_
  refine iteP_eq (fun h0 => ⟨rfl, .inl ⟨rfl, by unfold getL; rw [if_neg]; intro h; exact h.1 (List.eq_nil_of_length_eq_zero (by omega))⟩⟩) (fun h0 => ?_)
  refine callF_of (rcheck_c hw hL hn hf (by omega)) ?_
  rintro e w1 ⟨rfl, hw1⟩
  subst w1
  refine ⟨_, rfl, ?_⟩
  refine iteP_ne (fun h => ⟨rfl, .inl ⟨rfl, by unfold getL; rw [if_neg fun h2 => h h2.2]⟩⟩) (fun hok => ?_)
  have hqok := check_ok.1 hok
  have hne : q ≠ [] := by rintro rfl; simp at hn; omega
  have hgl := getL_eq (L := L) hqok hne
  have hsm := hqok.small
  refine callF_of (rshow_c hw hL hn (by omega)) ?_
  rintro e w3 ⟨rfl, hw3⟩
  subst w3
  refine ⟨strOf (showP q), rfl, ?_⟩
  refine loopP_of (fun (s : Int) W => ∃ i : Nat, s = (i : Int) ∧ i ≤ L.length ∧ W = w ∧ ∀ j ∈ L.take i, j.names ≠ q) (fun s _ => (L.length - s).toNat) ⟨0, rfl, Nat.zero_le _, rfl, by simp⟩ ?_
  rintro _ w ⟨i, rfl, hi, rfl, hno⟩
  simp only [withAddr_some, add_none, Nat.zero_add]
  refine ld_h (s := .slc) (t := x) hw h1 rfl ?_
  refine iteP_dec (fun hlt => ?_) (fun hge => ?_)
  · have hil : i < L.length := by omega
    refine ld_h (s := .slc) (t := x) hw h1 rfl ?_
    refine inoStr hw h2.cells hxl (List.getElem?_eq_getElem hil) rfl ?_
    refine iteP_of (p := L[i].names = q) (by rw [beqStr2]; exact ⟨fun e => show_inj (h5.ok _ (List.getElem_mem hil)).1 hqok e, fun e => by rw [e]⟩) (fun he => ?_) (fun he => ?_)
    · refine ⟨by trivial, .inr ⟨i, L[i], by trivial, List.getElem?_eq_getElem hil, ?_, he⟩⟩
      rw [hgl]
      cases hf2 : L.find? (fun j => decide (j.names = q)) with
      | none => exact absurd (by simpa using he) (List.find?_eq_none.1 hf2 _ (List.getElem_mem hil))
      | some j =>
        have h6 : j.names = q := by simpa using List.find?_some hf2
        rw [same_names h5 (List.mem_of_find?_eq_some hf2) (List.getElem_mem hil) (by rw [h6, he])]
    · refine addI_to ((i + 1 : Nat) : Int) (by omega) (by omega) (by omega) ?_
      refine ⟨⟨i + 1, rfl, by omega, by trivial, fun j hj => ?_⟩, by omega⟩
      rw [List.take_add_one, List.getElem?_eq_getElem hil] at hj
      rcases List.mem_append.1 hj with hj | hj
      · exact hno j hj
      · simp only [Option.toList_some, List.mem_singleton] at hj; subst hj; exact he
  · have : i = L.length := by omega
    subst this
    rw [List.take_length] at hno
    exact ⟨by trivial, .inl ⟨by trivial, by rw [hgl, List.find?_eq_none]; intro j hj; simpa using hno j hj⟩⟩
theorem rget_c {w : World} {H : Heap} {fp : List Nat} {p : Nat} {nn bb : Int} {L : List Ino} {a : Option Addr} {n nc : Nat} {q : Path} (hw : w.heap = H) (hU : RU H fp p nn bb L) (hL : Cells H a (strRow q)) (hn : n = q.length) (hf : Fit q) (hq : q.length ≤ 9223372036854775807) :
    CallF P F_r12_Upper_Get #[.pointer (some ⟨p, 0, none⟩), .slice a n nc] w fun e w' => e = .returned (.tuple #[.agg (gotI (getL L q)).toArray, .bool (getL L q).isSome]) ∧ Ext [] H w'.heap := by
  refine fn_r12_Upper_Get ?_
  unfold T_r12_Upper_Get
  rw [zcI]
  refine newB_h hw fun w1 hw1 => ?_
  have hx1 : Ext [] H w1.heap := by rw [hw1]; exact .push _
  have hb1 : w1.heap[H.size]? = some (.cells (raw [] 0 false []).toArray y_api_Inode (0, 0)) := by rw [hw1]; exact push_new
  have hU1 := hU.ext hx1 (by simp)
  refine callF_of (rplace_c rfl hU1 (hL.ext hx1 (by simp)) hn hf hq) ?_
  rintro e w2 ⟨hw2, hcase⟩
  subst w2
  rcases hcase with ⟨rfl, hg⟩ | ⟨i, j, rfl, hij, hg, _⟩
  · refine ⟨-1, rfl, ?_⟩
    refine iteP_t rfl ?_
    refine genQ_of (s := .any) zI (bI w1) ?_
    rw [zI_eq]
    refine stI rfl hb1 rfl rfl one_raw fun w3 hw3 => ?_
    refine ldA_all rfl (by rw [hw3]; exact set_new hb1) rfl ?_
    rw [hg]
    exact ⟨rfl, by rw [hw3]; exact hx1.set_own (.inl (Nat.le_refl _))⟩
  · refine ⟨(i : Int), rfl, ?_⟩
    refine iteP_f (by simp) ?_
    obtain ⟨x, h1, h2, h3, h4, h5⟩ := hU1
    simp only [withAddr_some, add_none, Nat.zero_add]
    refine ld_h (s := .slc) (t := x) rfl h1 rfl ?_
    refine elem_ld (i := i) len_encI (by omega) rfl h2.cells (mineI_len h2) hij rfl ?_
    refine stI rfl hb1 rfl (len_encI j) one_encI fun w3 hw3 => ?_
    refine ldA_all rfl (by rw [hw3]; exact set_new hb1) rfl ?_
    rw [hg]
    exact ⟨rfl, by rw [hw3]; exact hx1.set_own (.inl (Nat.le_refl _))⟩
theorem rsize_c {w : World} {H : Heap} {fp : List Nat} {p : Nat} {nn bb : Int} {L : List Ino} (hw : w.heap = H) (hU : RU H fp p nn bb L) : CallF P F_r12_Upper_Size #[.pointer (some ⟨p, 0, none⟩)] w fun e w' => e = .returned (.int .i64 (tot L : Int)) ∧ w' = w := by
  obtain ⟨x, h1, h2, h3, h4, h5⟩ := hU
  have hxl := mineI_len h2
  have hmany := h5.many
  refine fn_r12_Upper_Size ?_
  unfold T_r12_Upper_Size
  refine loopP_of (fun (s : Int × Int) W => ∃ i : Nat, s = ((tot (L.take i) : Int), (i : Int)) ∧ i ≤ L.length ∧ W = w) (fun s _ => (L.length - s.2).toNat) ⟨0, rfl, Nat.zero_le _, rfl⟩ ?_
  rintro _ w ⟨i, rfl, hi, rfl⟩
  simp only [withAddr_some, add_none, Nat.zero_add]
  refine ld_h (s := .slc) (t := x) hw h1 rfl ?_
  refine iteP_dec (fun hlt => ?_) (fun hge => ?_)
  · have hil : i < L.length := by omega
    have hsm := h5.small _ (List.getElem_mem hil)
    have htk : tot (L.take i) ≤ 1024 * (L.take i).length := tot_le fun j hj => h5.small j (List.mem_of_mem_take hj)
    have hlk : (L.take i).length ≤ i := by simp; omega
    refine ld_h (s := .slc) (t := x) hw h1 rfl ?_
    refine inoData hw h2.cells hxl (List.getElem?_eq_getElem hil) rfl ?_
    have e : tot (L.take (i + 1)) = tot (L.take i) + L[i].data.length := by
      rw [List.take_add_one, List.getElem?_eq_getElem hil, tot_app]; simp [tot]
    refine addI_to ((tot (L.take (i + 1)) : Nat) : Int) (by rw [strOf_size]; omega) (by omega) (by omega) ?_
    refine addI_to ((i + 1 : Nat) : Int) (by omega) (by omega) (by omega) ?_
    exact ⟨⟨i + 1, rfl, by omega, trivial⟩, by omega⟩
  · have : i = L.length := by omega
    subst this
    rw [List.take_length]
    exact ⟨rfl, trivial⟩
theorem rover_c {w : World} {H : Heap} {fp : List Nat} {p : Nat} {nn bb : Int} {L : List Ino} (hw : w.heap = H) (hU : RU H fp p nn bb L) : CallF P F_r12_Upper_Over #[.pointer (some ⟨p, 0, none⟩)] w fun e w' => e = .returned (.bool (overB nn bb L)) ∧ w'.heap = H := by
  obtain ⟨x, h1, h2, h3, h4, h5⟩ := id hU
  have hxl := mineI_len h2
  refine fn_r12_Upper_Over ?_
  unfold T_r12_Upper_Over
  refine drewP_h hw fun w1 hw1 => ?_
  simp only [withAddr_some, add_none, Nat.zero_add]
  refine ld_h (s := .slc) (t := x) hw1 h1 rfl ?_
  refine ld_h (s := .int .i64) (t := nn) hw1 h1 rfl ?_
  refine iteP_dec (fun h => ?_) (fun h => ?_)
  · refine ⟨trivial, ?_, hw1⟩
    unfold overB; rw [decide_eq_true (by omega)]; rfl
  · refine ld_h (s := .int .i64) (t := bb) hw1 h1 rfl ?_
    refine callF_of (rsize_c hw1 hU) ?_
    rintro e w2 ⟨rfl, hw2⟩
    subst w2
    refine ⟨(tot L : Int), rfl, ?_⟩
    refine ⟨ld_h (s := .int .i64) (t := bb) hw1 h1 rfl rfl, ?_, hw1⟩
    unfold overB; rw [decide_eq_false (p := (L.length : Int) > nn) (by omega)]; rfl
end Go.Proofs.YtbmegmbnlajbbaaGreat

/- The reference's upper branch: Below, Drop. -/
namespace Go.Proofs.YtbmegmbnlajbbaaGreat
open Go Go.Fw Go.Proofs Go.Sort

/-- One inode is appended. -/
theorem appI1 {w : World} {H : Heap} {B : Nat} {s : Option Addr × Nat × Nat} {xs : List Ino} {v : Ino} (hw : w.heap = H) (hm : Mine H B y_api_Inode 4 s (xs.flatMap encI)) (hB : B ≤ H.size) (hlen : xs.length ≤ 1099511627) {K : (Option Addr × Nat × Nat) → World → Prop}
    (hK : ∀ x' w', Mine w'.heap B y_api_Inode 4 x' ((xs ++ [v]).flatMap encI) → Ext (ownM s) H w'.heap → K x' w') :
    genL P (Instr.buildSlice y_S_api_Inode 1 #[(0, (Value.agg (encI v).toArray))]) .slc w fun t w1 => genL P (Builtin.append_ #[y_S_api_Inode, y_S_api_Inode] y_S_api_Inode #[.slice s.1 s.2.1 s.2.2, .slice t.1 t.2.1 t.2.2]) .slc w1 K := by
  have hsl := mineI_len hm
  refine genL_of (s := .slc) (some ⟨w.heap.size, 0, none⟩, 1, 1) _ (build1_g EI uI (v := .agg (encI v).toArray) rfl (by omega) (by omega)) ?_
  subst hw
  have hxp : Ext [] w.heap (w.heap.push (.cells (Value.agg (encI v).toArray).cells y_api_Inode)) := .push _
  refine append_g (n := 1) (us := encI v) (H := w.heap.push (.cells (Value.agg (encI v).toArray).cells y_api_Inode)) EI (by omega) uI (slice_noint uI) rfl (hm.ext hxp (by simp)) (by simp; omega)
    (Src.slc rfl (.inr ⟨w.heap.size, 0, _, _, _, rfl, push_new, by simp [Value.cells, len_encI], by simp [Value.cells]⟩) (by rw [len_encI])) one_encI (by omega) ?_
  intro x' W9 hm9 hl9 hx9 _
  refine hK x' W9 ?_ ((hxp.mono (by simp)).trans hx9)
  rw [List.flatMap_append, List.flatMap_singleton]
  exact hm9
theorem filter_take {L : List Ino} {f : Ino → Bool} {i : Nat} (h : i < L.length) : (L.take (i + 1)).filter f = (L.take i).filter f ++ (if f L[i] then [L[i]] else []) := by
  rw [List.take_add_one, List.getElem?_eq_getElem h, List.filter_append]
  simp only [Option.toList_some, List.filter_cons, List.filter_nil]
theorem filter_take_len {L : List Ino} {f : Ino → Bool} {i : Nat} : ((L.take i).filter f).length ≤ L.length := by
  have h1 := List.length_filter_le f (L.take i)
  have h2 : (L.take i).length ≤ L.length := by simp; omega
  omega

set_option maxHeartbeats 4000000 in
theorem rbelow_c {w : World} {H : Heap} {fp : List Nat} {p : Nat} {nn bb : Int} {L : List Ino} {a : Option Addr} {n nc : Nat} {q : Path} (hw : w.heap = H) (hU : RU H fp p nn bb L) (hL : Cells H a (strRow q)) (hn : n = q.length) (hq : q.length ≤ 9223372036854775807) :
    CallF P F_r12_Upper_Below #[.pointer (some ⟨p, 0, none⟩), .slice a n nc] w fun e w' => ∃ x, e = .returned (slcV x) ∧ Mine w'.heap H.size y_api_Inode 4 x ((belowL L q).flatMap encI) ∧ Ext [] H w'.heap := by
  obtain ⟨x, h1, h2, h3, h4, h5⟩ := hU
  have hxl := mineI_len h2
  have hmany := h5.many
  refine fn_r12_Upper_Below ?_
  unfold T_r12_Upper_Below
  refine loopP_of (fun (s : (Option Addr × Nat × Nat) × Int) W => ∃ (y : Option Addr × Nat × Nat) (i : Nat), s = (y, (i : Int)) ∧ i ≤ L.length ∧ Ext [] H W.heap ∧ Mine W.heap H.size y_api_Inode 4 y (((L.take i).filter (belowQ q)).flatMap encI)) (fun s _ => (L.length - s.2).toNat)
    ⟨(none, 0, 0), 0, rfl, Nat.zero_le _, by rw [hw]; exact .refl _ _, .inl ⟨rfl, rfl⟩⟩ ?_
  rintro _ W ⟨y, i, rfl, hi, hxW, hmW⟩
  have hHW := hxW.1
  simp only [withAddr_some, add_none, Nat.zero_add]
  refine ld_h (s := .slc) (t := x) rfl (hxW.get h1 (by simp)) rfl ?_
  refine iteP_dec (fun hlt => ?_) (fun hge => ?_)
  · have hil : i < L.length := by omega
    have hget := List.getElem?_eq_getElem hil
    have hft := filter_take (f := belowQ q) hil
    have hfl := filter_take_len (f := belowQ q) (L := L) (i := i)
    have hok := (h5.ok _ (List.getElem_mem hil)).1
    generalize L[i] = v at *
    refine joinP_of (fun (s' : Option Addr × Nat × Nat) W2 => Ext [] H W2.heap ∧ Mine W2.heap H.size y_api_Inode 4 s' (((L.take (i + 1)).filter (belowQ q)).flatMap encI)) ?_ ?_
    rotate_left
    · rintro s' W2 ⟨g1, g2⟩
      refine addI_to ((i + 1 : Nat) : Int) (by omega) (by omega) (by omega) ?_
      exact ⟨⟨s', i + 1, rfl, by omega, g1, g2⟩, by omega⟩
    have skip : ∀ {W2 : World}, Ext [] W.heap W2.heap → belowQ q v = false → Ext [] H W2.heap ∧ Mine W2.heap H.size y_api_Inode 4 (y.1, y.2.1, y.2.2) (((L.take (i + 1)).filter (belowQ q)).flatMap encI) := by
      intro W2 h hb
      rw [hft, hb]
      simp only [Bool.false_eq_true, if_false, List.append_nil]
      exact ⟨hxW.trans h, hmW.ext h (by simp)⟩
    refine ld_h (s := .slc) (t := x) rfl (hxW.get h1 (by simp)) rfl ?_
    refine inoStr rfl (h2.ext hxW (by simp)).cells hxl hget rfl ?_
    refine callF_of (rnames_c (showP v.names) rfl) ?_
    rintro e W2 ⟨t, rfl, hm2, hx2⟩
    refine ⟨t, rfl, ?_⟩
    rw [parse_show hok] at hm2
    have htl : t.2.1 = v.names.length := by have := hm2.len; simp at this; omega
    have h8 := hok.2
    refine iteP_dec (fun hgt => ?_) (fun hle => skip hx2 (by unfold belowQ; rw [decide_eq_false (by omega)]; rfl))
    refine callF_of (rwithin_c (p := v.names) rfl hm2.cells htl ((hL.ext hxW (by simp)).ext hx2 (by simp)) hn (by omega) (by omega)) ?_
    rintro e W3 ⟨rfl, hW3⟩
    refine ⟨_, rfl, ?_⟩
    have hx3 : Ext [] W.heap W3.heap := by rw [hW3]; exact hx2
    cases hwi : withinP v.names q with
    | false => exact iteP_f rfl (skip hx3 (by unfold belowQ; rw [hwi]; simp))
    | true =>
      refine iteP_t rfl ?_
      have hbq : belowQ q v = true := by unfold belowQ; rw [hwi, decide_eq_true (by omega)]; rfl
      refine ld_h (s := .slc) (t := x) rfl ((hxW.trans hx3).get h1 (by simp)) rfl ?_
      refine elem_ld (i := i) len_encI (by omega) rfl (h2.ext (hxW.trans hx3) (by simp)).cells hxl hget rfl ?_
      refine appI1 rfl (hmW.ext hx3 (by simp)) (by have := hx3.1; omega) (by omega) ?_
      intro x' W4 hm4 hx4
      rw [hft, hbq, if_pos rfl]
      exact ⟨(hxW.trans hx3).own hx4 (by intro b hb hlt; have := ownM_ge hmW b hb; omega), hm4⟩
  · have : i = L.length := by omega
    subst this
    rw [List.take_length] at hmW
    exact ⟨y, rfl, hmW, hxW⟩

set_option maxHeartbeats 4000000 in
theorem rdrop_c {w : World} {H : Heap} {fp : List Nat} {p : Nat} {nn bb : Int} {L : List Ino} {a : Option Addr} {n nc : Nat} {q : Path} (hw : w.heap = H) (hU : RU H fp p nn bb L) (hL : Cells H a (strRow q)) (hn : n = q.length) (hq : q.length ≤ 9223372036854775807) :
    CallF P F_r12_Upper_Drop #[.pointer (some ⟨p, 0, none⟩), .slice a n nc] w fun e w' => ∃ fp', e = .returned (.int .i64 ((L.length : Int) - (dropL L q).length)) ∧ RU w'.heap fp' p nn bb (dropL L q) ∧ Ext fp H w'.heap ∧ ∀ b ∈ fp', b ∈ fp ∨ (H.size ≤ b ∧ b < w'.heap.size) := by
  obtain ⟨x, h1, h2, h3, h4, h5⟩ := hU
  have hxl := mineI_len h2
  have hmany := h5.many
  have hpl := lt_of_get h1
  refine fn_r12_Upper_Drop ?_
  unfold T_r12_Upper_Drop
  refine loopP_of (fun (s : (Option Addr × Nat × Nat) × Int) W => ∃ (y : Option Addr × Nat × Nat) (i : Nat), s = (y, (i : Int)) ∧ i ≤ L.length ∧ Ext [] H W.heap ∧ Mine W.heap H.size y_api_Inode 4 y (((L.take i).filter (fun j => !withinP j.names q)).flatMap encI)) (fun s _ => (L.length - s.2).toNat)
    ⟨(none, 0, 0), 0, rfl, Nat.zero_le _, by rw [hw]; exact .refl _ _, .inl ⟨rfl, rfl⟩⟩ ?_
  rintro _ W ⟨y, i, rfl, hi, hxW, hmW⟩
  have hHW := hxW.1
  simp only [withAddr_some, add_none, Nat.zero_add]
  refine ld_h (s := .slc) (t := x) rfl (hxW.get h1 (by simp)) rfl ?_
  refine iteP_dec (fun hlt => ?_) (fun hge => ?_)
  · have hil : i < L.length := by omega
    have hget := List.getElem?_eq_getElem hil
    have hft := filter_take (f := fun j => !withinP j.names q) hil
    have hfl := filter_take_len (f := fun j => !withinP j.names q) (L := L) (i := i)
    have hok := (h5.ok _ (List.getElem_mem hil)).1
    generalize L[i] = v at *
    refine joinP_of (fun (s' : Option Addr × Nat × Nat) W2 => Ext [] H W2.heap ∧ Mine W2.heap H.size y_api_Inode 4 s' (((L.take (i + 1)).filter (fun j => !withinP j.names q)).flatMap encI)) ?_ ?_
    rotate_left
    · rintro s' W2 ⟨g1, g2⟩
      refine addI_to ((i + 1 : Nat) : Int) (by omega) (by omega) (by omega) ?_
      exact ⟨⟨s', i + 1, rfl, by omega, g1, g2⟩, by omega⟩
    refine ld_h (s := .slc) (t := x) rfl (hxW.get h1 (by simp)) rfl ?_
    refine inoStr rfl (h2.ext hxW (by simp)).cells hxl hget rfl ?_
    refine callF_of (rnames_c (showP v.names) rfl) ?_
    rintro e W2 ⟨t, rfl, hm2, hx2⟩
    refine ⟨t, rfl, ?_⟩
    rw [parse_show hok] at hm2
    have htl : t.2.1 = v.names.length := by have := hm2.len; simp at this; omega
    have h8 := hok.2
    refine callF_of (rwithin_c (p := v.names) rfl hm2.cells htl ((hL.ext hxW (by simp)).ext hx2 (by simp)) hn (by omega) (by omega)) ?_
    rintro e W3 ⟨rfl, hW3⟩
    refine ⟨_, rfl, ?_⟩
    have hx3 : Ext [] W.heap W3.heap := by rw [hW3]; exact hx2
    cases hwi : withinP v.names q with
    | true =>
      refine iteP_f rfl ?_
      rw [hft, hwi]
      simp only [Bool.not_true, Bool.false_eq_true, if_false, List.append_nil]
      exact ⟨hxW.trans hx3, hmW.ext hx3 (by simp)⟩
    | false =>
      refine iteP_t rfl ?_
      refine ld_h (s := .slc) (t := x) rfl ((hxW.trans hx3).get h1 (by simp)) rfl ?_
      refine elem_ld (i := i) len_encI (by omega) rfl (h2.ext (hxW.trans hx3) (by simp)).cells hxl hget rfl ?_
      refine appI1 rfl (hmW.ext hx3 (by simp)) (by have := hx3.1; omega) (by omega) ?_
      intro x' W4 hm4 hx4
      rw [hft, hwi, Bool.not_false, if_pos rfl]
      exact ⟨(hxW.trans hx3).own hx4 (by intro b hb hlt; have := ownM_ge hmW b hb; omega), hm4⟩
  · have : i = L.length := by omega
    subst this
    rw [List.take_length] at hmW
    have hyl := mineI_len hmW
    have hyl : y.2.1 = (dropL L q).length := hyl
    have hdl : (dropL L q).length ≤ L.length := List.length_filter_le _ _
    refine ld_h (s := .slc) (t := x) rfl (hxW.get h1 (by simp)) rfl ?_
    refine subI_to ((L.length : Int) - (dropL L q).length) (by omega) (by omega) (by omega) ?_
    have hpW := hxW.get h1 (by simp)
    refine stC_h rfl hpW (by simp) fun W2 hW2 => ?_
    have hx2 : Ext [p] W.heap W2.heap := by rw [hW2]; exact Ext.set _ (by simp)
    have hge2 := ownM_ge hmW
    have hm2 := hmW.ext hx2 (fun b hb => by have := hge2 b hb; simp only [List.mem_singleton]; omega)
    refine ⟨fp ++ ownM y, rfl, ⟨y, by rw [hW2]; exact set_new hpW, hm2.mono (Nat.zero_le _), by simp [h3], fun b hb => by simp [hb], h5.sub List.filter_sublist⟩, (hxW.mono (by simp)).trans (hx2.mono (by simpa using h3)), fun b hb => ?_⟩
    rcases List.mem_append.1 hb with hb | hb
    · exact .inl hb
    · exact .inr ⟨hge2 b hb, (mine_in hm2 b hb).1⟩
end Go.Proofs.YtbmegmbnlajbbaaGreat

/- The reference's upper branch: Put. -/
namespace Go.Proofs.YtbmegmbnlajbbaaGreat
open Go Go.Fw Go.Proofs Go.Sort

theorem nilI {w : World} {H : Heap} (hw : w.heap = H) {K : (Option Addr × Nat × Nat) → World → Prop} (hK : ∀ w', Ext [] H w'.heap → Mine w'.heap H.size y_api_Inode 4 (some ⟨H.size, 0, none⟩, 0, 0) (([] : List Ino).flatMap encI) → K (some ⟨H.size, 0, none⟩, 0, 0) w') : genL P (Instr.buildSlice y_S_api_Inode 0 #[]) .slc w K := by
  refine genL_of (s := .slc) (some ⟨H.size, 0, none⟩, 0, 0) { w with heap := H.push (.cells #[] y_api_Inode) } (by rw [← hw]; kernel_rfl) ?_
  exact hK _ (.push _) (.inr ⟨H.size, #[], rfl, Nat.le_refl _, push_new, rfl, rfl, Nat.le_refl _, rfl⟩)
theorem appI {w : World} {H : Heap} {B : Nat} {x : Option Addr × Nat × Nat} {a : Option Addr} {l c : Nat} {xs ys : List Ino} (hw : w.heap = H) (hx : Mine H B y_api_Inode 4 x (xs.flatMap encI)) (hB : B ≤ H.size) (hL : Cells H a (ys.flatMap encI)) (hl : l = ys.length) (hlen : xs.length + ys.length ≤ 1099511627) {K : (Option Addr × Nat × Nat) → World → Prop}
    (hK : ∀ x' w', Mine w'.heap B y_api_Inode 4 x' ((xs ++ ys).flatMap encI) → Ext (ownM x) H w'.heap → K x' w') : genL P (Builtin.append_ #[y_S_api_Inode, y_S_api_Inode] y_S_api_Inode #[.slice x.1 x.2.1 x.2.2, .slice a l c]) .slc w K := by
  have hxl := mineI_len hx
  have one : oneCells (ys.flatMap encI) := by
    intro v hv
    obtain ⟨i, _, hi⟩ := List.mem_flatMap.1 hv
    exact one_encI v hi
  refine append_g EI (by omega) uI (slice_noint uI) hw hx hB (Src.slc hw hL (by rw [lenI, hl])) one (by omega) ?_
  intro x' w' hm hl' hx' hs
  refine hK x' w' ?_ hx'
  rw [List.flatMap_append]; exact hm
theorem Cells.dropI {H : Heap} {a : Option Addr} {rl : List Ino} (h : Cells H a (rl.flatMap encI)) (k cap : Nat) (hcap : rl.length ≤ cap) : Cells H (if cap = k then a else a.map (·.add (k * 4))) ((rl.drop k).flatMap encI) := by
  by_cases hk : k < rl.length
  · rw [if_neg (by omega)]
    have hl := lenI rl
    have := h.part (k * 4) ((rl.length - k) * 4) (by rw [hl]; omega)
    have he : ((rl.flatMap encI).drop (k * 4)).take ((rl.length - k) * 4) = (rl.drop k).flatMap encI := by
      have h1 : rl.flatMap encI = (rl.take k).flatMap encI ++ (rl.drop k).flatMap encI := by rw [← List.flatMap_append, List.take_append_drop]
      have h2 : ((rl.take k).flatMap encI).length = k * 4 := by rw [lenI, List.length_take, Nat.min_eq_left (by omega)]
      have h3 : ((rl.drop k).flatMap encI).length = (rl.length - k) * 4 := by rw [lenI, List.length_drop]
      rw [h1, List.drop_left' h2, List.take_of_length_le (by omega)]
    rwa [he] at this
  · left; rw [List.drop_eq_nil_of_le (by omega)]; rfl
theorem Cells.takeI {H : Heap} {a : Option Addr} {rl : List Ino} (h : Cells H a (rl.flatMap encI)) (k : Nat) : Cells H a ((rl.take k).flatMap encI) := by
  have := h.take (((rl.take k).flatMap encI).length)
  have h1 : rl.flatMap encI = (rl.take k).flatMap encI ++ (rl.drop k).flatMap encI := by rw [← List.flatMap_append, List.take_append_drop]
  rwa [h1, List.take_left] at this
theorem slI_to {H : Heap} {a : Option Addr} {l c : Nat} {rl : List Ino} {i : Nat} {n : Int} (hL : Cells H a (rl.flatMap encI)) (hlen : l = rl.length) (hc : l ≤ c) (hi : i ≤ rl.length) (hn : n = (i : Int)) :
    ∃ a', (∀ w, (Instr.sliceAt y_S_api_Inode (.slice a l c) none (some (.int .i64 n)) none).run P w = .ok (.slice a' i c) w) ∧ Cells H a' ((rl.take i).flatMap encI) := by
  refine ⟨_, fun w => run_slice_slc (l := 0) (h := i) uI szIi .no (.yes hn) (Nat.zero_le _) (by omega), ?_⟩
  exact Cells.takeI (rl := rl) (Cells.dropI hL 0 c (by omega)) i
theorem slI_from {H : Heap} {a : Option Addr} {l c : Nat} {rl : List Ino} {i : Nat} {n : Int} (hL : Cells H a (rl.flatMap encI)) (hlen : l = rl.length) (hc : l ≤ c) (hi : i ≤ rl.length) (hn : n = (i : Int)) :
    ∃ a', (∀ w, (Instr.sliceAt y_S_api_Inode (.slice a l c) (some (.int .i64 n)) none none).run P w = .ok (.slice a' (l - i) (c - i)) w) ∧ Cells H a' ((rl.drop i).flatMap encI) := by
  refine ⟨_, fun w => run_slice_slc (l := i) (h := l) uI szIi (.yes hn) .no (by omega) (by omega), ?_⟩
  exact Cells.dropI hL i c (by omega)
theorem Mine.setI {H : Heap} {B : Nat} {x : Option Addr × Nat × Nat} {xs : List Ino} {v : Ino} {i : Nat} (h : Mine H B y_api_Inode 4 x (xs.flatMap encI)) (hi : i < xs.length) :
    ∃ b c, x.1 = some ⟨b, 0, none⟩ ∧ B ≤ b ∧ H[b]? = some (.cells c y_api_Inode (0, 0)) ∧ i * 4 + 4 ≤ c.size ∧ Mine (H.setIfInBounds b (.cells (setCells c (i * 4) (encI v)) y_api_Inode (0, 0))) B y_api_Inode 4 x ((xs.set i v).flatMap encI) := by
  rcases h with ⟨_, h⟩ | ⟨b, c, hx, hB, hb, hc, hl, hle, he⟩
  · have := congrArg List.length h
    rw [lenI] at this; simp only [List.length_nil] at this; omega
  · rw [lenI] at hl he
    have hsz : i * 4 + 4 ≤ c.size := by omega
    refine ⟨b, c, hx, hB, hb, hsz, .inr ⟨b, _, hx, hB, set_new hb, by simpa using hc, by rw [lenI, List.length_set]; exact hl, hle, ?_⟩⟩
    apply List.ext_getElem?
    intro j
    rw [Array.getElem?_toList, Array.getElem?_extract, lenI, List.length_set, getElem_flatMap encI len_encI (by omega)]
    by_cases hj : j < xs.length * 4
    · rw [if_pos (by rw [Fw.size_setCells]; omega), Nat.zero_add, get_setCells (by rw [len_encI]; omega), len_encI, List.getElem?_set]
      have h2 : c[j]? = (xs[j / 4]?).bind fun x => (encI x)[j % 4]? := by
        have h3 : ((c.extract 0 (xs.length * 4)).toList)[j]? = (xs.flatMap encI)[j]? := by rw [he]
        rw [Array.getElem?_toList, Array.getElem?_extract, if_pos (by omega), getElem_flatMap encI len_encI (by omega)] at h3
        simpa using h3
      by_cases hij : i = j / 4
      · subst hij
        rw [if_pos (by omega), if_pos rfl, if_pos hi]
        simp only [Option.bind_some]
        congr 1; omega
      · rw [if_neg (by omega), if_neg hij]; exact h2
    · rw [if_neg (by omega), List.getElem?_eq_none (by rw [List.length_set]; omega)]; rfl
theorem ins_set {L : List Ino} {v j : Ino} {i : Nat} (hG : Good L) (hi : L[i]? = some j) (he : j.names = v.names) : insL L v = L.set i v := by
  obtain ⟨hil, hj⟩ := List.getElem?_eq_some_iff.1 hi
  have hL : L = L.take i ++ j :: L.drop (i + 1) := by rw [← hj, ← List.drop_eq_getElem_cons hil, List.take_append_drop]
  have hr := hG.rise
  rw [hL, List.pairwise_append] at hr
  have hlo : ∀ x ∈ L.take i, cmpP x.names v.names < 0 := fun x hx => by rw [← he]; exact hr.2.2 x hx j (by simp)
  conv => lhs; rw [hL]
  rw [ins_eq he hlo, List.set_eq_take_append_cons_drop, if_pos hil]
theorem ins_at {L : List Ino} {v : Ino} {i : Nat} (hG : Good L) (hi : i ≤ L.length) (h1 : ∀ x ∈ L.take i, cmpP x.names v.names < 0) (h2 : ∀ h : i < L.length, ¬ cmpP L[i].names v.names < 0) (h3 : ∀ x ∈ L, x.names ≠ v.names) : insL L v = L.take i ++ v :: L.drop i := by
  conv => lhs; rw [← List.take_append_drop i L]
  refine ins_lo (fun x hx => ?_) h1
  obtain ⟨k, hk, rfl⟩ := List.mem_iff_getElem.1 hx
  simp only [List.length_drop] at hk
  rw [List.getElem_drop]
  have h4 := h2 (by omega)
  have h5 : cmpP v.names (L[i]'(by omega)).names < 0 := by
    have h6 := cmpP_neg (p := v.names) (q := (L[i]'(by omega)).names)
    have h7 : cmpP (L[i]'(by omega)).names v.names ≠ 0 := fun e => h3 _ (List.getElem_mem (by omega)) (cmpP_eq.1 e)
    omega
  by_cases hk0 : k = 0
  · subst hk0; exact h5
  · exact cmpP_trans h5 (List.pairwise_iff_getElem.1 hG.rise i (i + k) (by omega) (by omega) (by omega))

set_option maxHeartbeats 8000000 in
theorem rput_c {w : World} {H : Heap} {fp : List Nat} {p : Nat} {nn bb : Int} {L : List Ino} {t d : List UInt8} {k : Int} {o : Bool} (hw : w.heap = H) (hU : RU H fp p nn bb L) :
    CallF P F_r12_Upper_Put #[.pointer (some ⟨p, 0, none⟩), rawV t k o d] w fun e w' => ∃ fp', e = .returned (.int .i64 (putL L t k o d).1) ∧ RU w'.heap fp' p nn bb (putL L t k o d).2 ∧ Ext fp H w'.heap ∧ ∀ b ∈ fp', b ∈ fp ∨ (H.size ≤ b ∧ b < w'.heap.size) := by
  have hG := hU.good
  have hmany := hG.many
  obtain ⟨x0, u1, u2, u3, u4, u5⟩ := id hU
  have hx0l := mineI_len u2
  have hx0c := mine_ok u2
  have hpl := lt_of_get u1
  refine fn_r12_Upper_Put ?_
  unfold T_r12_Upper_Put
  refine newB_h hw fun w1 hw1 => ?_
  have hx1 : Ext [] H w1.heap := by rw [hw1]; exact .push _
  have hb1 : w1.heap[H.size]? = some (.cells (raw t k o d).toArray y_api_Inode (0, 0)) := by rw [hw1]; exact push_new
  have keep : ∀ {w : World} {C : Int}, putL L t k o d = (C, L) → Ext [] H w.heap → ∃ fp', Ending.returned (Value.int .i64 C) = .returned (.int .i64 (putL L t k o d).1) ∧ RU w.heap fp' p nn bb (putL L t k o d).2 ∧ Ext fp H w.heap ∧ ∀ b ∈ fp', b ∈ fp ∨ (H.size ≤ b ∧ b < w.heap.size) := by
    intro w C h hx
    rw [h]
    exact ⟨fp, rfl, hU.ext hx (by simp), hx.mono (by simp), fun b hb => .inl hb⟩
  refine ld_h (s := .str) (t := strOf t) rfl hb1 rfl ?_
  refine callF_of (rparse_c t rfl) ?_
  rintro e w2 ⟨x, rfl, hm2, hx12⟩
  refine ⟨(x, (parseP t).2), rfl, ?_⟩
  have hx2 := hx1.trans hx12
  have hb2 := hx12.get hb1 (by simp)
  refine iteP_ne (fun h => keep (by unfold putL; rw [if_pos h]) hx2) (fun h0 => ?_)
  have hq := parse_ok t
  have hP1 : putL L t k o d = if (parseP t).1 = [] then (132, L) else if formE k o d ≠ 0 then (formE k o d, L)
      else if 1 < (parseP t).1.length ∧ (getL L (parseP t).1.dropLast).isSome = false then (4, L)
      else if 1 < (parseP t).1.length ∧ kindOf (getL L (parseP t).1.dropLast) ≠ 2 then (70, L)
      else if k ≠ 2 ∧ 0 < (belowL L (parseP t).1).length then (130, L)
      else if (getL L (parseP t).1).isSome = false ∧ 1024 ≤ L.length then (8, L)
      else (0, insL L ⟨(parseP t).1, k, o, d⟩) := by unfold putL; rw [if_neg fun h => h h0]
  generalize (parseP t).1 = q at *
  have hxl : x.2.1 = q.length := by have := hm2.len; simp at this; omega
  have hxc := mine_ok hm2
  have hq8 := hq.2
  refine iteP_eq (fun h => keep (by rw [hP1, if_pos (List.eq_nil_of_length_eq_zero (by simp only at h; omega))]) hx2) (fun h => ?_)
  have hne : q ≠ [] := by rintro rfl; apply h; simp only; simp at hxl; omega
  have hqpos : 0 < q.length := by cases q with | nil => exact absurd rfl hne | cons a b => simp
  rw [if_neg hne] at hP1
  have badf : ∀ {w : World} {C : Int}, formE k o d = C → C ≠ 0 → Ext [] H w.heap → ∃ fp', Ending.returned (Value.int .i64 C) = .returned (.int .i64 (putL L t k o d).1) ∧ RU w.heap fp' p nn bb (putL L t k o d).2 ∧ Ext fp H w.heap ∧ ∀ b ∈ fp', b ∈ fp ∨ (H.size ≤ b ∧ b < w.heap.size) :=
    fun h1 h2 hx => keep (by rw [hP1, if_pos (by rw [h1]; exact h2), h1]) hx
  refine joinP_in ?_
  refine ld_h (s := .int .i64) (t := k) rfl hb2 rfl ?_
  refine iteP_dec (fun h => badf (by unfold formE; rw [if_pos (.inl h)]) (by decide) hx2) (fun hk1 => ?_)
  refine ld_h (s := .int .i64) (t := k) rfl hb2 rfl ?_
  refine iteP_dec (fun h => badf (by unfold formE; rw [if_pos (.inr h)]) (by decide) hx2) (fun hk3 => ?_)
  have hf1 : formE k o d = if (d ≠ [] ∧ k ≠ 1) ∨ (o = true ∧ k ≠ 2) then 1 else if 1024 < d.length then 134 else 0 := by unfold formE; rw [if_neg (by omega)]
  have one : (d ≠ [] ∧ k ≠ 1) ∨ (o = true ∧ k ≠ 2) → formE k o d = 1 := fun h => by rw [hf1, if_pos h]
  refine joinP_of (fun _ w => w = w2 ∧ ¬ ((d ≠ [] ∧ k ≠ 1) ∨ (o = true ∧ k ≠ 2))) ?_ ?_
  · refine ld_h (s := .str) (t := strOf d) rfl hb2 rfl ?_
    have opq : ∀ {A B : Prop}, (o = true ∧ k ≠ 2 → A) → (¬ (o = true ∧ k ≠ 2) → B) → ld .bool (⟨H.size, 2, none⟩ : Addr) w2 fun (t42 : Bool) => iteP t42 (ld (.int .i64) (⟨H.size, 1, none⟩ : Addr) w2 fun (t45 : Int) => iteP (t45 != 2) A B) B := by
      intro A B h1 h2
      refine ld_h (s := .bool) (t := o) rfl hb2 rfl ?_
      cases o with
      | true =>
        refine iteP_t rfl ?_
        refine ld_h (s := .int .i64) (t := k) rfl hb2 rfl ?_
        exact iteP_ne (fun h => h1 ⟨rfl, h⟩) (fun h => h2 fun h3 => h3.2 h)
      | false => exact iteP_f rfl (h2 fun h => by cases h.1)
    refine iteP_of (p := d ≠ []) (by rw [Bool.not_eq_true', ← Bool.not_eq_true, beqStr]) (fun hd => ?_) (fun hd => ?_)
    · refine ld_h (s := .int .i64) (t := k) rfl hb2 rfl ?_
      refine iteP_ne (fun h => badf (one (.inl ⟨hd, h⟩)) (by decide) hx2) (fun h => ?_)
      exact opq (fun h2 => badf (one (.inr h2)) (by decide) hx2) (fun h2 => ⟨rfl, fun h3 => h3.elim (fun h4 => h4.2 h) h2⟩)
    · exact opq (fun h2 => badf (one (.inr h2)) (by decide) hx2) (fun h2 => ⟨rfl, fun h3 => h3.elim (fun h4 => hd h4.1) h2⟩)
  rintro _ w2' ⟨hw2', hf2⟩
  subst w2'
  rw [if_neg hf2] at hf1
  refine ld_h (s := .str) (t := strOf d) rfl hb2 rfl ?_
  refine iteP_dec (fun h => badf (by rw [hf1, if_pos (by simp only [strOf_size] at h; omega)]) (by decide) hx2) (fun hbig => ?_)
  have hdl : d.length ≤ 1024 := by simp only [strOf_size] at hbig; omega
  have hform : formE k o d = 0 := by rw [hf1, if_neg (by omega)]
  rw [if_neg fun h => h hform] at hP1
  have hgq := getL_eq (L := L) hq hne
  refine joinP_of (fun _ w7 => Ext [] w2.heap w7.heap ∧ ¬ (1 < q.length ∧ (getL L q.dropLast).isSome = false) ∧ ¬ (1 < q.length ∧ kindOf (getL L q.dropLast) ≠ 2)) ?_ ?_
  · refine iteP_dec (fun hpos => ?_) (fun hnp => ?_)
    · have hpos : 1 < q.length := by simp only at hpos; omega
      refine subI_to ((x.2.1 - 1 : Nat) : Int) (by simp only; omega) (by omega) (by omega) ?_
      refine genQ_of (s := .slc) (if x.2.2 = 0 then x.1 else x.1.map (·.add (0 * 1)), (x.2.1 - 1) - 0, x.2.2 - 0) (run_slice_slc uSstr szStr .no (.yes rfl) (Nat.zero_le _) (show x.2.1 - 1 ≤ x.2.2 by omega)) ?_
      have hcut : Cells w2.heap (if x.2.2 = 0 then x.1 else x.1.map (·.add (0 * 1))) ((strRow q).take (x.2.1 - 1)) := (Mine.cut hm2 (k := x.2.1 - 1) (by omega)).cells
      have hdl2 : q.take (x.2.1 - 1) = q.dropLast := by rw [List.dropLast_eq_take, hxl]
      rw [strRow_take, hdl2] at hcut
      have hql : q.dropLast.length = x.2.1 - 1 := by rw [List.length_dropLast]; omega
      have hokd : okP q.dropLast := by rw [← hdl2]; exact hq.take _
      refine callF_of (rget_c rfl (hU.ext hx2 (by simp)) hcut (by rw [hql]; simp) hokd.fit (by omega)) ?_
      rintro e w4 ⟨rfl, hx24⟩
      refine ⟨(.agg (gotI (getL L q.dropLast)).toArray, (getL L q.dropLast).isSome), rfl, ?_⟩
      rw [zcI]
      refine newB_h rfl fun w5 hw5 => ?_
      have hb5 : w5.heap[w4.heap.size]? = some (.cells (raw [] 0 false []).toArray y_api_Inode (0, 0)) := by rw [hw5]; exact push_new
      refine stI rfl hb5 rfl len_gotI one_gotI fun w6 hw6 => ?_
      have hb6 : w6.heap[w4.heap.size]? = some (.cells (gotI (getL L q.dropLast)).toArray y_api_Inode (0, 0)) := by rw [hw6]; exact set_new hb5
      have hx46 : Ext [] w4.heap w6.heap := by rw [hw6, hw5]; exact (Ext.push _).set_own (.inl (Nat.le_refl _))
      have hx26 := hx24.trans hx46
      cases hs : (getL L q.dropLast).isSome with
      | false => exact iteP_t rfl (keep (by rw [hP1, if_pos ⟨hpos, hs⟩]) (hx2.trans hx26))
      | true =>
        refine iteP_f rfl ?_
        refine ld_h (s := .int .i64) (t := kindOf (getL L q.dropLast)) rfl hb6 (by rw [List.getElem?_toArray]; exact gotI_kind) ?_
        refine iteP_ne (fun hk2 => keep (by rw [hP1, if_neg (by simp [hs]), if_pos ⟨hpos, hk2⟩]) (hx2.trans hx26)) (fun hk2 => ⟨hx26, by simp [hs], fun h => h.2 hk2⟩)
    · have hnp : ¬ 1 < q.length := by simp only at hnp; omega
      exact ⟨.refl _ _, fun h => hnp h.1, fun h => hnp h.1⟩
  rintro _ w7 ⟨hx27, hA, hB⟩
  rw [if_neg hA, if_neg hB] at hP1
  have hx7 := hx2.trans hx27
  refine joinP_of (fun _ w10 => Ext [] w7.heap w10.heap ∧ ¬ (k ≠ 2 ∧ 0 < (belowL L q).length)) ?_ ?_
  · refine ld_h (s := .int .i64) (t := k) rfl (hx27.get hb2 (by simp)) rfl ?_
    refine iteP_ne (fun hk2 => ?_) (fun hk2 => ⟨.refl _ _, fun h => h.1 hk2⟩)
    refine callF_of (rbelow_c rfl (hU.ext hx7 (by simp)) (hm2.ext hx27 (by simp)).cells hxl (by omega)) ?_
    rintro e w9 ⟨y, rfl, hm9, hx79⟩
    refine ⟨y, rfl, ?_⟩
    have hyl := mineI_len hm9
    refine iteP_dec (fun hpos => keep (by rw [hP1, if_pos ⟨hk2, by omega⟩]) (hx7.trans hx79)) (fun hnp => ⟨hx79, fun h => hnp (by omega)⟩)
  rintro _ w10 ⟨hx710, hC⟩
  rw [if_neg hC] at hP1
  have hsm := hq.small
  have hx210 := hx27.trans hx710
  have hx10 := hx2.trans hx210
  refine callF_of (rshow_c rfl (hm2.ext hx210 (by simp)).cells hxl (by omega)) ?_
  rintro e w11 ⟨rfl, hw11⟩
  subst w11
  refine ⟨strOf (showP q), rfl, ?_⟩
  have hb10 := hx210.get hb2 (by simp)
  refine stC_h rfl hb10 (by simp [raw]) fun w12 hw12 => ?_
  have hb12 : w12.heap[H.size]? = some (.cells (encI ⟨q, k, o, d⟩).toArray y_api_Inode (0, 0)) := by rw [hw12]; exact set_new hb10
  have hx12' : Ext [] H w12.heap := by rw [hw12]; exact hx10.set_own (.inl (Nat.le_refl _))
  have hH1 : H.size < w1.heap.size := lt_of_get hb1
  have hm12 : Mine w12.heap w1.heap.size y_string 1 x (strRow q) := (hm2.ext hx210 (by simp)).ext (M := [H.size]) (by rw [hw12]; exact Ext.set _ (by simp)) (fun b hb => by have := ownM_ge hm2 b hb; simp only [List.mem_singleton]; omega)
  refine callF_of (rplace_c rfl (hU.ext hx12' (by simp)) hm12.cells hxl hq.fit (by omega)) ?_
  rintro e w13 ⟨hw13, hcase⟩
  subst w13
  have hins := ins_good (L := L) (i := ⟨q, k, o, d⟩) hG ⟨hq, hne⟩ hdl
  have finish : ∀ {w : World} {x6 : Option Addr × Nat × Nat} {F : List Nat}, ¬ ((getL L q).isSome = false ∧ 1024 ≤ L.length) → Ext F H w.heap → (∀ b ∈ F, H.size ≤ b) → Mine w.heap H.size y_api_Inode 4 x6 ((insL L ⟨q, k, o, d⟩).flatMap encI) → stC (⟨p, 2, none⟩ : Addr) (.slice x6.1 x6.2.1 x6.2.2) w fun w' =>
      ∃ fp', Ending.returned (Value.int .i64 0) = .returned (.int .i64 (putL L t k o d).1) ∧ RU w'.heap fp' p nn bb (putL L t k o d).2 ∧ Ext fp H w'.heap ∧ ∀ b ∈ fp', b ∈ fp ∨ (H.size ≤ b ∧ b < w'.heap.size) := by
    intro w x6 F hD hx hF hm
    have hgood := (hins (by
      by_cases h : (getL L q).isSome = true
      · left; rw [← hgq]; exact h
      · right
        have h2 : (getL L q).isSome = false := by simpa using h
        have : ¬ 1024 ≤ L.length := fun h3 => hD ⟨h2, h3⟩
        omega)).1
    have hxe : Ext [] H w.heap := ⟨hx.1, fun b hb _ => hx.2 b hb fun hm => by have := hF b hm; omega⟩
    have hpw := hxe.get u1 (by simp)
    refine stC_h rfl hpw (by simp) fun w' hw' => ?_
    have hxp : Ext [p] w.heap w'.heap := by rw [hw']; exact Ext.set _ (by simp)
    have hge := ownM_ge hm
    have hm' := hm.ext hxp (fun b hb => by have := hge b hb; simp only [List.mem_singleton]; omega)
    rw [hP1, if_neg hD]
    refine ⟨fp ++ ownM x6, rfl, ⟨x6, by rw [hw']; exact set_new hpw, hm'.mono (Nat.zero_le _), by simp [u3], fun b hb => by simp [hb], hgood⟩, (hxe.mono (by simp)).trans (hxp.mono (by simpa using u3)), fun b hb => ?_⟩
    rcases List.mem_append.1 hb with hb | hb
    · exact .inl hb
    · exact .inr ⟨hge b hb, (mine_in hm' b hb).1⟩
  -- the list is copied
  have copy : ∀ {K : (Option Addr × Nat × Nat) → World → Prop}, (∀ x' w', Mine w'.heap H.size y_api_Inode 4 x' (L.flatMap encI) → Ext [] w12.heap w'.heap → K x' w') →
      genL P (Instr.buildSlice y_S_api_Inode 0 #[]) .slc w12 fun (t97 : (Option Addr × Nat × Nat)) w_15 => withAddr (some (⟨p, 0, none⟩ : Addr)) fun p_1 => ld .slc (Addr.add p_1 2) w_15 fun (t101 : (Option Addr × Nat × Nat)) => genL P (Builtin.append_ #[y_S_api_Inode, y_S_api_Inode] y_S_api_Inode #[(Value.slice t97.1 t97.2.1 t97.2.2), (Value.slice t101.1 t101.2.1 t101.2.2)]) .slc w_15 K := by
    intro K hK
    refine nilI rfl fun w15 hx15 hm15 => ?_
    simp only [withAddr_some, add_none, Nat.zero_add]
    have hx015 := hx12'.trans hx15
    refine ld_h (s := .slc) (t := x0) rfl (hx015.get u1 (by simp)) rfl ?_
    refine appI (xs := []) rfl hm15 hx15.1 (u2.ext hx015 (by simp)).cells hx0l (by simp; omega) ?_
    intro x' w' hm' hx'
    exact hK x' w' (hm'.mono hx12'.1) (hx15.own hx' (by intro b hb hlt; simp [ownM] at hb; omega))
  rcases hcase with ⟨rfl, hg⟩ | ⟨i, j, rfl, hij, hg, hjq⟩
  · refine ⟨-1, rfl, ?_⟩
    refine joinP_of (fun _ w => w = w12 ∧ ¬ 1024 ≤ L.length) ?_ ?_
    · refine iteP_t rfl ?_
      simp only [withAddr_some, add_none, Nat.zero_add]
      refine ld_h (s := .slc) (t := x0) rfl (hx12'.get u1 (by simp)) rfl ?_
      refine iteP_dec (fun h => keep (by rw [hP1, if_pos ⟨by rw [hg]; rfl, by omega⟩]) hx12') (fun h => ⟨by trivial, by omega⟩)
    rintro _ w12' ⟨hw12', hD⟩
    subst w12'
    have hD' : ¬ ((getL L q).isSome = false ∧ 1024 ≤ L.length) := fun h => hD h.2
    have hno : ∀ y ∈ L, y.names ≠ q := by
      intro y hy e
      rw [hgq] at hg
      exact List.find?_eq_none.1 hg y hy (by simpa using e)
    refine copy fun x' w16 hm16 hx16 => ?_
    have hx'l := mineI_len hm16
    have hx'c := mine_ok hm16
    have hx016 := hx12'.trans hx16
    refine iteP_f rfl ?_
    refine joinP_of (fun (s : Int) W => ∃ i : Nat, s = (i : Int) ∧ i ≤ L.length ∧ Ext [] w16.heap W.heap ∧ (∀ y ∈ L.take i, cmpP y.names q < 0) ∧ ∀ h : i < L.length, ¬ cmpP L[i].names q < 0) ?_ ?_
    · refine loopP_of (fun (s : Int) W => ∃ i : Nat, s = (i : Int) ∧ i ≤ L.length ∧ Ext [] w16.heap W.heap ∧ ∀ y ∈ L.take i, cmpP y.names q < 0) (fun s _ => (L.length - s).toNat) ⟨0, rfl, Nat.zero_le _, .refl _ _, by simp⟩ ?_
      rintro _ W ⟨i, rfl, hi, hxW, hlo⟩
      refine joinP_in ?_
      refine iteP_dec (fun hlt => ?_) (fun hge => ⟨i, rfl, hi, hxW, hlo, fun h => absurd hge (by omega)⟩)
      have hil : i < L.length := by omega
      have hok := (hG.ok _ (List.getElem_mem hil)).1
      refine inoStr rfl (hm16.ext hxW (by simp)).cells hx'l (List.getElem?_eq_getElem hil) rfl ?_
      refine callF_of (rnames_c (showP L[i].names) rfl) ?_
      rintro e W2 ⟨y, rfl, hmy, hxW2⟩
      refine ⟨y, rfl, ?_⟩
      rw [parse_show hok] at hmy
      have h8 := hok.2
      refine callF_of (rcompare_c (p := L[i].names) rfl hmy.cells (by have := hmy.len; simp at this; omega) (((hm12.ext hx16 (by simp)).ext hxW (by simp)).ext hxW2 (by simp)).cells hxl (by omega)) ?_
      rintro e W3 ⟨rfl, hW3⟩
      refine ⟨_, rfl, ?_⟩
      have hx3 : Ext [] w16.heap W3.heap := by rw [hW3]; exact hxW.trans hxW2
      refine iteP_dec (fun hl => ?_) (fun hnl => ⟨i, rfl, hi, hx3, hlo, fun _ => hnl⟩)
      refine addI_to ((i + 1 : Nat) : Int) (by omega) (by omega) (by omega) ?_
      refine ⟨⟨i + 1, rfl, by omega, hx3, fun z hz => ?_⟩, by omega⟩
      rw [List.take_add_one, List.getElem?_eq_getElem hil] at hz
      rcases List.mem_append.1 hz with hz | hz
      · exact hlo z hz
      · simp only [Option.toList_some, List.mem_singleton] at hz; subst hz; exact hl
    · rintro _ W ⟨i, rfl, hi, hxW, hlo, hhi⟩
      have hmW := hm16.ext hxW (by simp)
      have hx0W := hx016.trans hxW
      have hsW := hx0W.1
      refine nilI rfl fun w24 hx24 hm24 => ?_
      have hmw24 := hmW.ext hx24 (by simp)
      obtain ⟨a1, hr1, hC1⟩ := slI_to (i := i) hmw24.cells hx'l hx'c hi rfl
      refine genQ_of (s := .slc) (a1, i, x'.2.2) (hr1 _) ?_
      refine appI (xs := []) rfl hm24 hx24.1 hC1 (by simp; omega) (by simp; omega) ?_
      intro x25 w25 hm25 hx25
      rw [List.nil_append] at hm25
      have hxW25 : Ext [] W.heap w25.heap := hx24.own hx25 (by intro b hb hlt; simp [ownM] at hb; omega)
      have hb25 := (hx16.trans (hxW.trans hxW25)).get hb12 (by simp)
      refine ldA_all rfl hb25 rfl ?_
      have hs25 := hxW25.1
      refine appI1 (v := ⟨q, k, o, d⟩) rfl hm25 (by omega) (by simp; omega) ?_
      intro x27 w27 hm27 hx27'
      have hxW27 : Ext [] W.heap w27.heap := hxW25.own hx27' (by intro b hb hlt; have := ownM_ge hm25 b hb; omega)
      have hmw27 := hmW.ext hxW27 (by simp)
      obtain ⟨a2, hr2, hC2⟩ := slI_from (i := i) hmw27.cells hx'l hx'c hi rfl
      refine genQ_of (s := .slc) (a2, x'.2.1 - i, x'.2.2 - i) (hr2 _) ?_
      have hs27 := hxW27.1
      refine appI rfl hm27 (by omega) hC2 (by simp; omega) (by simp; omega) ?_
      intro x28 w28 hm28 hx28
      have hxW28 : Ext [] W.heap w28.heap := hxW27.own hx28 (by intro b hb hlt; have := ownM_ge hm27 b hb; omega)
      simp only [withAddr_some, add_none, Nat.zero_add]
      refine finish hD' (hx0W.trans hxW28) (by simp) ?_
      rw [ins_at hG hi hlo hhi hno]
      have e : L.take i ++ (⟨q, k, o, d⟩ : Ino) :: L.drop i = L.take i ++ [⟨q, k, o, d⟩] ++ L.drop i := by simp
      rw [e]
      exact hm28.mono hsW
  · refine ⟨(i : Int), rfl, ?_⟩
    have hil := (List.getElem?_eq_some_iff.1 hij).1
    have hD' : ¬ ((getL L q).isSome = false ∧ 1024 ≤ L.length) := fun h => by rw [hg] at h; cases h.1
    refine joinP_of (fun _ w => w = w12) (iteP_f (by simp) rfl) ?_
    rintro _ w12' hw12'
    subst w12'
    refine copy fun x' w16 hm16 hx16 => ?_
    have hx'l := mineI_len hm16
    have hx016 := hx12'.trans hx16
    refine iteP_t (by simp) ?_
    refine ldA_all rfl (hx16.get hb12 (by simp)) rfl ?_
    obtain ⟨b, c, hxa, hge, hb, hsz, hset⟩ := Mine.setI (v := ⟨q, k, o, d⟩) hm16 hil
    rw [hxa]
    refine ixS_h i rfl (by omega) ?_
    rw [Nat.zero_add]
    have hcs : (Value.agg (encI ⟨q, k, o, d⟩).toArray).cells = (encI ⟨q, k, o, d⟩).toArray := rfl
    refine storeVar_h (v := .agg (encI ⟨q, k, o, d⟩).toArray) (by rw [szI, hcs]; rfl) (by rw [hcs]; simp [len_encI]) (by rw [hcs]; exact one_encI) rfl hb (by rw [hcs]; simp [len_encI]; omega) fun w17 hw17 => ?_
    rw [hcs] at hw17
    have hx17 : Ext [b] w16.heap w17.heap := by rw [hw17]; exact Ext.set _ (by simp)
    simp only [withAddr_some, add_none, Nat.zero_add]
    have hset' : Mine w17.heap H.size y_api_Inode 4 x' ((insL L ⟨q, k, o, d⟩).flatMap encI) := by
      rw [ins_set hG hij hjq, hw17]; exact hset
    have hxe := (show x' = (some ⟨b, 0, none⟩, x'.2.1, x'.2.2) by rw [← hxa])
    refine finish (x6 := x') (F := [b]) hD' ((hx016.mono (by simp)).trans hx17) (by intro c hc; simp only [List.mem_singleton] at hc; omega) hset' |> fun h => ?_
    rw [hxa] at h
    exact h
end Go.Proofs.YtbmegmbnlajbbaaGreat
