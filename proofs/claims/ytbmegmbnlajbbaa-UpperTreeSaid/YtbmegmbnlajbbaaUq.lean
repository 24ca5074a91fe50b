/- The reference's upper branch: reads. -/
import Derived.Test.YtbmegmbnlajbbaaUo
namespace Go.Proofs.Ytbmegmbnlajbbaa
open Go Go.Fw Go.Proofs Go.Sort

theorem lenI (xs : List Ino) : (xs.flatMap encI).length = xs.length * 4 := length_flatMap_k encI len_encI xs
theorem mineI_len {H : Heap} {B : Nat} {x : Option Addr × Nat × Nat} {xs : List Ino} (h : Mine H B y_api_Inode 4 x (xs.flatMap encI)) : x.2.1 = xs.length := by have := h.len; rw [lenI] at this; omega
theorem mine_ok {H : Heap} {B : Nat} {T : TypeId} {sz : Nat} {x : Option Addr × Nat × Nat} {vs : List Value} (h : Mine H B T sz x vs) : x.2.1 ≤ x.2.2 := by
  rcases h with ⟨rfl, _⟩ | ⟨_, _, _, _, _, _, _, h, _⟩
  · exact Nat.le_refl _
  · exact h
theorem mine_in {H : Heap} {B : Nat} {T : TypeId} {sz : Nat} {x : Option Addr × Nat × Nat} {vs : List Value} (h : Mine H B T sz x vs) : ∀ b ∈ ownM x, b < H.size ∧ ∃ c, H[b]? = some (.cells c T (0, 0)) := by
  intro b hb
  rcases h with ⟨rfl, _⟩ | ⟨b2, c, hx, _, hb2, _⟩
  · simp [ownM] at hb
  · simp only [ownM, hx, List.mem_singleton] at hb
    subst hb; exact ⟨lt_of_get hb2, c, hb2⟩
/-- The reference's upper branch lies at p. -/
def RU (H : Heap) (fp : List Nat) (p : Nat) (nodes bytes : Int) (L : List Ino) : Prop := ∃ x, H[p]? = some (.cells #[.int .i64 nodes, .int .i64 bytes, slcV x] y_r12_Upper (0, 0)) ∧ Mine H 0 y_api_Inode 4 x (L.flatMap encI) ∧ p ∈ fp ∧ (∀ b ∈ ownM x, b ∈ fp) ∧ Good L
theorem RU.ext {F fp : List Nat} {H H' : Heap} {p : Nat} {n b : Int} {L : List Ino} (h : RU H fp p n b L) (hx : Ext F H H') (hF : ∀ b ∈ fp, b ∉ F) : RU H' fp p n b L := by
  obtain ⟨x, h1, h2, h3, h4, h5⟩ := h
  exact ⟨x, hx.get h1 (hF p h3), h2.ext hx (fun b hb => hF b (h4 b hb)), h3, h4, h5⟩
theorem RU.good {H : Heap} {fp : List Nat} {p : Nat} {n b : Int} {L : List Ino} (h : RU H fp p n b L) : Good L := by obtain ⟨_, _, _, _, _, h5⟩ := h; exact h5
theorem bR12 (n b : Int) (w : World) : (Instr.build y_r12_Upper #[(0, .int .i64 n), (1, .int .i64 b)]).run P w = .ok (.agg #[.int .i64 n, .int .i64 b, .slice none 0 0]) w := by kernel_rfl
theorem rnew_c {w : World} {H : Heap} (n b : Int) (hw : w.heap = H) : CallF P F_r12_New #[.int .i64 n, .int .i64 b] w fun e w' =>
    (¬ newOk n b ∧ e = .returned (.tuple #[.pointer none, .int .i64 1]) ∧ w'.heap = H) ∨ (newOk n b ∧ ∃ p, e = .returned (.tuple #[.pointer (some ⟨p, 0, none⟩), .int .i64 0]) ∧ RU w'.heap [p] p n b [] ∧ Ext [] H w'.heap ∧ H.size ≤ p ∧ p < w'.heap.size) := by
  refine fn_r12_New ?_
  unfold T_r12_New
  refine joinP_in ?_
  refine iteP_dec (fun h => .inl ⟨fun h2 => by have := h2.1; omega, rfl, hw⟩) (fun h1 => ?_)
  refine iteP_dec (fun h => .inl ⟨fun h2 => by have := h2.2.2.1; omega, rfl, hw⟩) (fun h2 => ?_)
  refine iteP_dec (fun h => .inl ⟨fun h2 => by have := h2.2.1; omega, rfl, hw⟩) (fun h3 => ?_)
  refine iteP_dec (fun h => .inl ⟨fun h2 => by have := h2.2.2.2; omega, rfl, hw⟩) (fun h4 => ?_)
  refine genQ_of (s := .any) _ (bR12 _ _ _) ?_
  refine newB_h hw fun w2 hw2 => ?_
  exact .inr ⟨⟨by omega, by omega, by omega, by omega⟩, H.size, rfl, ⟨(none, 0, 0), by rw [hw2]; exact push_new, .inl ⟨rfl, rfl⟩, by simp, by simp [ownM], St.nil.good⟩, by rw [hw2]; exact .push _, Nat.le_refl _, by rw [hw2]; simp⟩

/-- The text of an inode's path, by its place; its data; all of it. -/
theorem inoIx {w : World} {H : Heap} {a : Option Addr} {len i : Nat} {n : Int} {xs : List Ino} {v : Ino} (hw : w.heap = H) (hL : Cells H a (xs.flatMap encI)) (hlen : len = xs.length) (hi : xs[i]? = some v) (hn : n = (i : Int)) {K : Addr → Prop}
    (hK : ∀ b o c T fr, H[b]? = some (.cells c T fr) → o + 4 ≤ c.size → (∀ j, j < 4 → c[o + j]? = (encI v)[j]?) → K ⟨b, o, none⟩) : ixS a len 4 n K := by
  have hlt := (List.getElem?_eq_some_iff.1 hi).1
  rcases hL with h | ⟨b, o, c, T, fr, rfl, hb, hsz, hc⟩
  · have := congrArg List.length h
    rw [lenI] at this; simp only [List.length_nil] at this; omega
  · refine ixS_h i hn (by omega) ?_
    rw [lenI] at hsz
    refine hK b (o + i * 4) c T fr hb (by omega) fun j hj => ?_
    have h2 : (xs.flatMap encI)[i * 4 + j]? = (encI v)[j]? := by
      rw [getElem_flatMap encI len_encI (by omega)]
      have h3 : (i * 4 + j) / 4 = i := by omega
      have h4 : (i * 4 + j) % 4 = j := by omega
      rw [h3, h4, hi]; rfl
    rw [← hc, Array.getElem?_toList, Array.getElem?_extract, lenI, if_pos (by omega)] at h2
    rw [← h2]; congr 1; omega
theorem inoStr {w : World} {H : Heap} {a : Option Addr} {len i : Nat} {n : Int} {xs : List Ino} {v : Ino} (hw : w.heap = H) (hL : Cells H a (xs.flatMap encI)) (hlen : len = xs.length) (hi : xs[i]? = some v) (hn : n = (i : Int)) {K : ByteArray → Prop} (hK : K (strOf (showP v.names))) :
    ixS a len 4 n fun p => ld .str p w K := by
  refine inoIx hw hL hlen hi hn fun b o c T fr hb hs hc => ?_
  exact ld_h (s := .str) hw hb (by have := hc 0 (by omega); rw [Nat.add_zero] at this; rw [this]; rfl) hK
theorem inoData {w : World} {H : Heap} {a : Option Addr} {len i : Nat} {n : Int} {xs : List Ino} {v : Ino} (hw : w.heap = H) (hL : Cells H a (xs.flatMap encI)) (hlen : len = xs.length) (hi : xs[i]? = some v) (hn : n = (i : Int)) {K : ByteArray → Prop} (hK : K (strOf v.data)) :
    ixS a len 4 n fun p => ld .str (Addr.add p 3) w K := by
  refine inoIx hw hL hlen hi hn fun b o c T fr hb hs hc => ?_
  rw [add_none]
  exact ld_h (s := .str) hw hb (by rw [hc 3 (by omega)]; rfl) hK

theorem rplace_c {w : World} {H : Heap} {fp : List Nat} {p : Nat} {nn bb : Int} {L : List Ino} {a : Option Addr} {n nc : Nat} {q : Path} (hw : w.heap = H) (hU : RU H fp p nn bb L) (hL : Cells H a (strRow q)) (hn : n = q.length) (hf : Fit q) (hq : q.length ≤ 9223372036854775807) :
    CallF P F_r12_Upper_place #[.pointer (some ⟨p, 0, none⟩), .slice a n nc] w fun e w' => w' = w ∧ ((e = .returned (.int .i64 (-1)) ∧ getL L q = none) ∨ ∃ (i : Nat) (j : Ino), e = .returned (.int .i64 (i : Int)) ∧ L[i]? = some j ∧ getL L q = some j ∧ j.names = q) := by
  obtain ⟨x, h1, h2, h3, h4, h5⟩ := hU
  have hxl := mineI_len h2
  have hmany := h5.many
  refine fn_r12_Upper_place ?_
  unfold T_r12_Upper_place
  refine joinP_in ?_
  refine iteP_eq (fun h0 => ⟨rfl, .inl ⟨rfl, by unfold getL; rw [if_neg]; intro h; exact h.1 (List.eq_nil_of_length_eq_zero (by omega))⟩⟩) (fun h0 => ?_)
  refine callF_of (rcheck_c hw hL hn hf (by omega)) ?_
  rintro e w1 ⟨rfl, hw1⟩
  subst w1
  refine ⟨_, rfl, ?_⟩
  refine iteP_ne (fun h => ⟨rfl, .inl ⟨rfl, by unfold getL; rw [if_neg fun h2 => h h2.2]⟩⟩) (fun hok => ?_)
  have hqok := check_ok.1 hok
  have hne : q ≠ [] := by rintro rfl; simp at hn; omega
  have hgl := getL_eq (L := L) hqok hne
  have hsm := hqok.small
  refine callF_of (rshow_c hw hL hn (by omega)) ?_
  rintro e w3 ⟨rfl, hw3⟩
  subst w3
  refine ⟨strOf (showP q), rfl, ?_⟩
  refine loopP_of (fun (s : Int) W => ∃ i : Nat, s = (i : Int) ∧ i ≤ L.length ∧ W = w ∧ ∀ j ∈ L.take i, j.names ≠ q) (fun s _ => (L.length - s).toNat) ⟨0, rfl, Nat.zero_le _, rfl, by simp⟩ ?_
  rintro _ w ⟨i, rfl, hi, rfl, hno⟩
  simp only [withAddr_some, add_none, Nat.zero_add]
  refine ld_h (s := .slc) (t := x) hw h1 rfl ?_
  refine iteP_dec (fun hlt => ?_) (fun hge => ?_)
  · have hil : i < L.length := by omega
    refine ld_h (s := .slc) (t := x) hw h1 rfl ?_
    refine inoStr hw h2.cells hxl (List.getElem?_eq_getElem hil) rfl ?_
    refine iteP_of (p := L[i].names = q) (by rw [beqStr2]; exact ⟨fun e => show_inj (h5.ok _ (List.getElem_mem hil)).1 hqok e, fun e => by rw [e]⟩) (fun he => ?_) (fun he => ?_)
    · refine ⟨by trivial, .inr ⟨i, L[i], by trivial, List.getElem?_eq_getElem hil, ?_, he⟩⟩
      rw [hgl]
      cases hf2 : L.find? (fun j => decide (j.names = q)) with
      | none => exact absurd (by simpa using he) (List.find?_eq_none.1 hf2 _ (List.getElem_mem hil))
      | some j =>
        have h6 : j.names = q := by simpa using List.find?_some hf2
        rw [same_names h5 (List.mem_of_find?_eq_some hf2) (List.getElem_mem hil) (by rw [h6, he])]
    · refine addI_to ((i + 1 : Nat) : Int) (by omega) (by omega) (by omega) ?_
      refine ⟨⟨i + 1, rfl, by omega, by trivial, fun j hj => ?_⟩, by omega⟩
      rw [List.take_add_one, List.getElem?_eq_getElem hil] at hj
      rcases List.mem_append.1 hj with hj | hj
      · exact hno j hj
      · simp only [Option.toList_some, List.mem_singleton] at hj; subst hj; exact he
  · have : i = L.length := by omega
    subst this
    rw [List.take_length] at hno
    exact ⟨by trivial, .inl ⟨by trivial, by rw [hgl, List.find?_eq_none]; intro j hj; simpa using hno j hj⟩⟩
theorem rget_c {w : World} {H : Heap} {fp : List Nat} {p : Nat} {nn bb : Int} {L : List Ino} {a : Option Addr} {n nc : Nat} {q : Path} (hw : w.heap = H) (hU : RU H fp p nn bb L) (hL : Cells H a (strRow q)) (hn : n = q.length) (hf : Fit q) (hq : q.length ≤ 9223372036854775807) :
    CallF P F_r12_Upper_Get #[.pointer (some ⟨p, 0, none⟩), .slice a n nc] w fun e w' => e = .returned (.tuple #[.agg (gotI (getL L q)).toArray, .bool (getL L q).isSome]) ∧ Ext [] H w'.heap := by
  refine fn_r12_Upper_Get ?_
  unfold T_r12_Upper_Get
  rw [zcI]
  refine newB_h hw fun w1 hw1 => ?_
  have hx1 : Ext [] H w1.heap := by rw [hw1]; exact .push _
  have hb1 : w1.heap[H.size]? = some (.cells (raw [] 0 false []).toArray y_api_Inode (0, 0)) := by rw [hw1]; exact push_new
  have hU1 := hU.ext hx1 (by simp)
  refine callF_of (rplace_c rfl hU1 (hL.ext hx1 (by simp)) hn hf hq) ?_
  rintro e w2 ⟨hw2, hcase⟩
  subst w2
  rcases hcase with ⟨rfl, hg⟩ | ⟨i, j, rfl, hij, hg, _⟩
  · refine ⟨-1, rfl, ?_⟩
    refine iteP_t rfl ?_
    refine genQ_of (s := .any) zI (bI w1) ?_
    rw [zI_eq]
    refine stI rfl hb1 rfl rfl one_raw fun w3 hw3 => ?_
    refine ldA_all rfl (by rw [hw3]; exact set_new hb1) rfl ?_
    rw [hg]
    exact ⟨rfl, by rw [hw3]; exact hx1.set_own (.inl (Nat.le_refl _))⟩
  · refine ⟨(i : Int), rfl, ?_⟩
    refine iteP_f (by simp) ?_
    obtain ⟨x, h1, h2, h3, h4, h5⟩ := hU1
    simp only [withAddr_some, add_none, Nat.zero_add]
    refine ld_h (s := .slc) (t := x) rfl h1 rfl ?_
    refine elem_ld (i := i) len_encI (by omega) rfl h2.cells (mineI_len h2) hij rfl ?_
    refine stI rfl hb1 rfl (len_encI j) one_encI fun w3 hw3 => ?_
    refine ldA_all rfl (by rw [hw3]; exact set_new hb1) rfl ?_
    rw [hg]
    exact ⟨rfl, by rw [hw3]; exact hx1.set_own (.inl (Nat.le_refl _))⟩
theorem rsize_c {w : World} {H : Heap} {fp : List Nat} {p : Nat} {nn bb : Int} {L : List Ino} (hw : w.heap = H) (hU : RU H fp p nn bb L) : CallF P F_r12_Upper_Size #[.pointer (some ⟨p, 0, none⟩)] w fun e w' => e = .returned (.int .i64 (tot L : Int)) ∧ w' = w := by
  obtain ⟨x, h1, h2, h3, h4, h5⟩ := hU
  have hxl := mineI_len h2
  have hmany := h5.many
  refine fn_r12_Upper_Size ?_
  unfold T_r12_Upper_Size
  refine loopP_of (fun (s : Int × Int) W => ∃ i : Nat, s = ((tot (L.take i) : Int), (i : Int)) ∧ i ≤ L.length ∧ W = w) (fun s _ => (L.length - s.2).toNat) ⟨0, rfl, Nat.zero_le _, rfl⟩ ?_
  rintro _ w ⟨i, rfl, hi, rfl⟩
  simp only [withAddr_some, add_none, Nat.zero_add]
  refine ld_h (s := .slc) (t := x) hw h1 rfl ?_
  refine iteP_dec (fun hlt => ?_) (fun hge => ?_)
  · have hil : i < L.length := by omega
    have hsm := h5.small _ (List.getElem_mem hil)
    have htk : tot (L.take i) ≤ 1024 * (L.take i).length := tot_le fun j hj => h5.small j (List.mem_of_mem_take hj)
    have hlk : (L.take i).length ≤ i := by simp; omega
    refine ld_h (s := .slc) (t := x) hw h1 rfl ?_
    refine inoData hw h2.cells hxl (List.getElem?_eq_getElem hil) rfl ?_
    have e : tot (L.take (i + 1)) = tot (L.take i) + L[i].data.length := by
      rw [List.take_add_one, List.getElem?_eq_getElem hil, tot_app]; simp [tot]
    refine addI_to ((tot (L.take (i + 1)) : Nat) : Int) (by rw [strOf_size]; omega) (by omega) (by omega) ?_
    refine addI_to ((i + 1 : Nat) : Int) (by omega) (by omega) (by omega) ?_
    exact ⟨⟨i + 1, rfl, by omega, trivial⟩, by omega⟩
  · have : i = L.length := by omega
    subst this
    rw [List.take_length]
    exact ⟨rfl, trivial⟩
theorem rover_c {w : World} {H : Heap} {fp : List Nat} {p : Nat} {nn bb : Int} {L : List Ino} (hw : w.heap = H) (hU : RU H fp p nn bb L) : CallF P F_r12_Upper_Over #[.pointer (some ⟨p, 0, none⟩)] w fun e w' => e = .returned (.bool (overB nn bb L)) ∧ w'.heap = H := by
  obtain ⟨x, h1, h2, h3, h4, h5⟩ := id hU
  have hxl := mineI_len h2
  refine fn_r12_Upper_Over ?_
  unfold T_r12_Upper_Over
  refine drewP_h hw fun w1 hw1 => ?_
  simp only [withAddr_some, add_none, Nat.zero_add]
  refine ld_h (s := .slc) (t := x) hw1 h1 rfl ?_
  refine ld_h (s := .int .i64) (t := nn) hw1 h1 rfl ?_
  refine iteP_dec (fun h => ?_) (fun h => ?_)
  · refine ⟨trivial, ?_, hw1⟩
    unfold overB; rw [decide_eq_true (by omega)]; rfl
  · refine ld_h (s := .int .i64) (t := bb) hw1 h1 rfl ?_
    refine callF_of (rsize_c hw1 hU) ?_
    rintro e w2 ⟨rfl, hw2⟩
    subst w2
    refine ⟨(tot L : Int), rfl, ?_⟩
    refine ⟨ld_h (s := .int .i64) (t := bb) hw1 h1 rfl rfl, ?_, hw1⟩
    unfold overB; rw [decide_eq_false (p := (L.length : Int) > nn) (by omega)]; rfl
end Go.Proofs.Ytbmegmbnlajbbaa
