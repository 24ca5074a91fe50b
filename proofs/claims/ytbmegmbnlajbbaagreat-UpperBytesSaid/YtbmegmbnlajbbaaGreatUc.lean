/- Texts are joined; paths are shown. -/
import Derived.Test.YtbmegmbnlajbbaaGreatUb
import Derived.Lib.Builder
import Derived.Lib.MakeNoZero
import Derived.Lib.UnsafeStr
namespace Go.Proofs.YtbmegmbnlajbbaaGreat
open Go Go.Fw Go.Proofs

theorem u8 : P.underlying y_uint8 = some (.int .u8) := by kernel_rfl
theorem uS8 : P.underlying y_S_uint8 = some (.slice y_uint8) := by kernel_rfl
theorem sz8 : (P.info? y_uint8).map (·.size) = some 1 := by kernel_rfl
theorem uStr : P.underlying y_string = some .string := by kernel_rfl
theorem E8 : Elem P y_uint8 1 1 := elem_of (z := .int .u8 0) (by kernel_rfl) rfl
theorem uB : P.underlying y_p_strings_Builder = some (.pointer y_strings_Builder) := by kernel_rfl
theorem uUP : P.underlying y_unsafe_Pointer = some .unsafePointer := by kernel_rfl
theorem iB : (P.info? y_strings_Builder).map (·.size) = some 2 := by kernel_rfl
theorem zcB : zc P y_strings_Builder = #[.pointer none, .slice none 0 0] := by kernel_rfl
theorem up8 : P.underlying y_p_uint8 = some (.pointer y_uint8) := by kernel_rfl
theorem lieB : liesAt P P.depth y_strings_Builder (2 / P.cellsOf y_strings_Builder) 0 y_strings_Builder 1 = true := by kernel_rfl
theorem c8 : P.cellsOf y_uint8 = 1 := by kernel_rfl
theorem info_ex {t : TypeId} {n : Nat} (h : (P.info? t).map (·.size) = some n) : ∃ j, P.info? t = some j ∧ j.size = n := by
  obtain ⟨j, h1, h2⟩ := Option.map_eq_some_iff.1 h
  exact ⟨j, h1, h2⟩
theorem shape_h {w : World} {H : Heap} {b : Nat} {c : Array Value} {T : TypeId} {fr : Nat × Nat} (hw : w.heap = H) (hb : H[b]? = some (.cells c T fr)) : w.shape? b = some (T, c.size) := by
  subst hw; simp [World.shape?, hb]

/-- A builder of texts, and what it has. -/
def Bd (H : Heap) (lo b : Nat) (L : List UInt8) : Prop := ∃ x p, H[b]? = some (.cells #[.pointer p, slcV x] y_strings_Builder (0, 0)) ∧ (p = none ∨ p = some ⟨b, 0, none⟩) ∧ b < lo ∧ Mine H lo y_uint8 1 x (byteCells L)
theorem copycheck_c {w : World} {H : Heap} {b : Nat} {x : Option Addr × Nat × Nat} {p : Option Addr} (hw : w.heap = H) (hb : H[b]? = some (.cells #[.pointer p, slcV x] y_strings_Builder (0, 0))) (hp : p = none ∨ p = some ⟨b, 0, none⟩) :
    CallF P F_strings_Builder_copyCheck #[.pointer (some ⟨b, 0, none⟩)] w fun e w' => e = .returned (.tuple #[]) ∧ w'.heap[b]? = some (.cells #[.pointer (some ⟨b, 0, none⟩), slcV x] y_strings_Builder (0, 0)) ∧ Ext [b] H w'.heap := by
  refine fn_strings_Builder_copyCheck ?_
  unfold T_strings_Builder_copyCheck
  obtain ⟨j, hj, hjs⟩ := info_ex iB
  simp only [withAddr_some]
  refine ld_h (s := .ptr) (t := p) hw hb rfl ?_
  rcases hp with rfl | rfl
  · refine iteP_t rfl ?_
    have hsh := shape_h hw hb
    refine genL_of (s := .any) _ w (Lib.run_to_unsafe w ⟨b, 0, none⟩ uB uUP hj (by omega) hsh (by simp)) ?_
    refine callF_ext (l := [.any]) (.pointer (some ⟨b, 0, none⟩)) (by rw [x_internal_abi_NoEscape (e := Extern.AbiNoEscape.same) (by kernel_rfl)]; rfl) ?_
    refine genL_of (s := .ptr) (some ⟨b, 0, none⟩) w (Lib.run_from_unsafe w ⟨b, 0, none⟩ uUP uB hj hsh lieB) ?_
    refine stC_h hw hb (by simp) fun w1 hw1 => ?_
    exact ⟨by trivial, by rw [hw1]; exact set_new hb, by rw [hw1]; exact Ext.set _ (by simp)⟩
  · refine iteP_f rfl ?_
    refine ld_h (s := .ptr) (t := some ⟨b, 0, none⟩) hw hb rfl ?_
    refine genQ_of (s := .bool) false ?_ ?_
    · have h := Lib.run_neq_ptr_same (P := P) w ⟨b, 0, none⟩ uB hj
      simp [eqM, eqGuard, h]
      rfl
    · refine iteP_f rfl ?_
      exact ⟨by trivial, by rw [hw]; exact hb, by rw [hw]; exact .refl _ _⟩
theorem grow_c {w : World} {H : Heap} {b : Nat} {n : Nat} (hw : w.heap = H) (hb : H[b]? = some (.cells #[.pointer none, .slice none 0 0] y_strings_Builder (0, 0))) (hn0 : 0 < n) (hn : n ≤ 140737488351232) :
    CallF P F_strings_Builder_Grow #[.pointer (some ⟨b, 0, none⟩), .int .i64 (n : Int)] w fun e w' => e = .returned (.tuple #[]) ∧ Bd w'.heap H.size b [] ∧ Ext [b] H w'.heap := by
  refine fn_strings_Builder_Grow ?_
  unfold T_strings_Builder_Grow
  refine callF_of (l := []) (copycheck_c (x := (none, 0, 0)) hw hb (.inl rfl)) ?_
  rintro e w1 ⟨rfl, hb1, hx1⟩
  refine ⟨(), rfl, ?_⟩
  refine joinP_in ?_
  refine iteP_dec (fun h => absurd h (by omega)) (fun _ => ?_)
  refine drewP_h rfl fun w2 hw2 => ?_
  have hb2 : w2.heap[b]? = some (.cells #[.pointer (some ⟨b, 0, none⟩), .slice none 0 0] y_strings_Builder (0, 0)) := by rw [hw2]; exact hb1
  have hx2 : Ext [b] H w2.heap := by rw [hw2]; exact hx1
  simp only [withAddr_some, add_none, Nat.zero_add]
  refine ld_h (s := .slc) (t := (none, 0, 0)) rfl hb2 rfl ?_
  refine genQ_of (s := .int .i64) 0 (by kernel_rfl) ?_
  refine ld_h (s := .slc) (t := (none, 0, 0)) rfl hb2 rfl ?_
  refine subI_to 0 rfl (by omega) (by omega) ?_
  refine iteP_dec (fun _ => ?_) (fun h => absurd h (by omega))
  have hgrow : CallF P F_strings_Builder_grow #[.pointer (some ⟨b, 0, none⟩), .int .i64 (n : Int)] w2 fun e w' => e = .returned (.tuple #[]) ∧ Bd w'.heap H.size b [] ∧ Ext [b] H w'.heap := by
    refine fn_strings_Builder_grow ?_
    unfold T_strings_Builder_grow
    refine drewP_h rfl fun w3 hw3 => ?_
    have hb3 : w3.heap[b]? = some (.cells #[.pointer (some ⟨b, 0, none⟩), .slice none 0 0] y_strings_Builder (0, 0)) := by rw [hw3]; exact hb2
    have hx3 : Ext [b] H w3.heap := by rw [hw3]; exact hx2
    simp only [withAddr_some, add_none, Nat.zero_add]
    refine ld_h (s := .slc) (t := (none, 0, 0)) rfl hb3 rfl ?_
    refine genQ_of (s := .int .i64) 0 (by kernel_rfl) ?_
    refine mulI_to 0 rfl (by omega) (by omega) ?_
    refine addI_to (n : Int) (by omega) (by omega) (by omega) ?_
    refine ld_h (s := .slc) (t := (none, 0, 0)) rfl hb3 rfl ?_
    obtain ⟨cs, hrun, hcs, hcs2⟩ := Lib.run_makeNoZero (P := P) (w := w3) #[y_int] y_S_uint8 y_uint8 uS8 n (by omega)
    refine callF_extW (l := [.slc]) (some ⟨w3.heap.size, 0, none⟩, n, cs.size) (w3.drew.drew.alloc (.cells cs y_uint8)) (by rw [x_internal_bytealg_MakeNoZero (e := Extern.BytealgMakeNoZero.makeNoZero #[y_int] #[y_S_uint8]) (by kernel_rfl), hrun]; rfl) ⟨rfl, rfl, rfl, by show w3.drawn ≤ w3.drawn + 1 + 1; omega⟩ ?_
    have hh4 : (w3.drew.drew.alloc (.cells cs y_uint8)).heap = w3.heap.push (.cells cs y_uint8) := rfl
    generalize w3.drew.drew.alloc (.cells cs y_uint8) = w4 at *
    have hx34 : Ext [] w3.heap w4.heap := by rw [hh4]; exact .push _
    have hb4 := hx34.get hb3 (by simp)
    refine ⟨ld_h (s := .slc) (t := (none, 0, 0)) rfl hb4 rfl rfl, ?_⟩
    have hne : cs.size ≠ 0 := by omega
    refine genQ_of (s := .slc) (some ⟨w3.heap.size, 0, none⟩, 0, cs.size) ((run_slice_slc (l := 0) (h := 0) uS8 sz8 .no (.yes rfl) (Nat.le_refl _) (Nat.zero_le _)).trans (by rw [if_neg hne]; simp [add_none, Sh.val])) ?_
    refine ld_h (s := .slc) (t := (none, 0, 0)) rfl hb4 rfl ?_
    have hg4 : w4.heap[w3.heap.size]? = some (.cells cs y_uint8 (0, 0)) := by rw [hh4]; exact push_new
    obtain ⟨w5, h5, hc5, hh5⟩ := copy_h (P := P) (w := w4) (ty := y_int) (xt := y_S_uint8) (sa := none) (sl := 0) (sc := 0) (dl := 0) (dc := cs.size) (od := 0) (vs := []) uS8 sz8 rfl (.inl rfl) (by simp) (by intro v hv; cases hv) hg4 (by simp)
    refine genL_of (s := .int .i64) ((min 0 0 : Nat) : Int) w5 h5 ?_ hc5
    have hh5' : w5.heap = w4.heap := by
      rw [hh5]
      apply Array.ext_getElem?
      intro i
      rw [Array.getElem?_setIfInBounds]
      by_cases e : w3.heap.size = i
      · subst e; rw [if_pos rfl, hg4]; simp [lt_of_get hg4, setCells]
      · rw [if_neg e]
    refine stC_h hh5' hb4 (by simp) fun w6 hw6 => ?_
    have hx46 : Ext [b] w4.heap w6.heap := by rw [hw6]; exact Ext.set _ (by simp)
    have hbl := lt_of_get hb
    have h3 := hx3.1
    refine ⟨by trivial, ⟨(some ⟨w3.heap.size, 0, none⟩, 0, cs.size), some ⟨b, 0, none⟩, by rw [hw6]; exact set_new hb4, .inr rfl, hbl, .inr ⟨w3.heap.size, cs, rfl, by omega, hx46.get hg4 (by simp only [List.mem_singleton]; omega), by simp, rfl, Nat.zero_le _, by simp [byteCells]⟩⟩, (hx3.trans (hx34.mono (by simp))).trans hx46⟩
  refine callF_of (l := []) hgrow ?_
  rintro e w7 ⟨rfl, h⟩
  exact ⟨(), rfl, by trivial, h⟩
theorem strCells_of {L : List UInt8} : strCells (strOf L) = byteCells L := rfl
theorem writestring_c {w : World} {H : Heap} {lo b : Nat} {L M : List UInt8} (hw : w.heap = H) (hB : Bd H lo b L) (hlo : lo ≤ H.size) (hlen : L.length + M.length ≤ 140737488351232) :
    CallF P F_strings_Builder_WriteString #[.pointer (some ⟨b, 0, none⟩), .string (strOf M)] w fun e w' => e = .returned (.tuple #[.int .i64 (M.length : Int), .nilIface]) ∧ Bd w'.heap lo b (L ++ M) ∧ ∃ F, Ext F H w'.heap ∧ ∀ c ∈ F, c = b ∨ lo ≤ c := by
  obtain ⟨x, p, hb, hp, hbl, hm⟩ := hB
  refine fn_strings_Builder_WriteString ?_
  unfold T_strings_Builder_WriteString
  refine callF_of (l := []) (copycheck_c hw hb hp) ?_
  rintro e w1 ⟨rfl, hb1, hx1⟩
  refine ⟨(), rfl, ?_⟩
  have hm1 : Mine w1.heap lo y_uint8 1 x (byteCells L) := hm.ext hx1 (fun c hc => by have := ownM_ge hm c hc; simp only [List.mem_singleton]; omega)
  have hxl : x.2.1 = L.length := by have := hm.len; simp at this; omega
  simp only [withAddr_some, add_none, Nat.zero_add]
  refine ld_h (s := .slc) (t := x) rfl hb1 rfl ?_
  refine append_g E8 (by omega) uS8 ⟨_, uStr, by intro k h; cases h⟩ rfl hm1 (by have := hx1.1; omega) (n := M.length) (us := byteCells M) Src.str one_byteCells (by omega) ?_
  intro x' w2 hm2 hl2 hx2 hs2
  have hb2 := hx2.get hb1 (fun h => by have := ownM_ge hm1 _ h; omega)
  refine stC_h rfl hb2 (by simp) fun w3 hw3 => ?_
  have hx3 : Ext [b] w2.heap w3.heap := by rw [hw3]; exact Ext.set _ (by simp)
  refine ⟨rfl, ⟨x', some ⟨b, 0, none⟩, by rw [hw3]; exact set_new hb2, .inr rfl, hbl, ?_⟩, [b] ++ ownM x, ((hx1.mono (by simp)).trans (hx2.mono fun c hc => List.mem_append_right _ hc)).trans (hx3.mono (by simp)), fun c hc => ?_⟩
  · rw [← byteCells_append]
    exact hm2.ext hx3 (fun c hc => by have := ownM_ge hm2 c hc; simp only [List.mem_singleton]; omega)
  · rcases List.mem_append.1 hc with hc | hc
    · simp only [List.mem_singleton] at hc; exact .inl hc
    · exact .inr (ownM_ge hm1 c hc)
theorem ext_freeze {w : World} {a : Addr} {n : Nat} : Ext [a.block] w.heap (w.freeze a n).heap := by
  unfold World.freeze
  split
  · exact .refl _ _
  · refine ⟨by simp, fun b _ hn => ?_⟩
    simp only
    rw [Array.getElem?_modify, if_neg (fun e => hn (by simp [e]))]
theorem string_c {w : World} {H : Heap} {lo b : Nat} {L : List UInt8} (hw : w.heap = H) (hB : Bd H lo b L) (hL : L ≠ []) (hlen : L.length ≤ 140737488351232) :
    CallF P F_strings_Builder_String #[.pointer (some ⟨b, 0, none⟩)] w fun e w' => e = .returned (.string (strOf L)) ∧ ∃ F, Ext F H w'.heap ∧ ∀ c ∈ F, lo ≤ c := by
  obtain ⟨x, p, hb, hp, hbl, hm⟩ := hB
  refine fn_strings_Builder_String ?_
  unfold T_strings_Builder_String
  refine drewP_h hw fun w1 hw1 => ?_
  simp only [withAddr_some, add_none, Nat.zero_add]
  refine ld_h (s := .slc) (t := x) hw1 hb rfl ?_
  refine ld_h (s := .slc) (t := x) hw1 hb rfl ?_
  have hxl : x.2.1 = L.length := by have := hm.len; simp at this; omega
  have hpos : 0 < L.length := by cases L with | nil => exact absurd rfl hL | cons a l => simp
  have hcs := hm.cells
  rcases hm with ⟨rfl, h⟩ | ⟨g, c, hxa, hge, hg, hcz, hvl, hle, he⟩
  · simp at hxl; omega
  obtain ⟨xa, xl, xc⟩ := x
  simp only at hxl hxa hle hcz
  subst hxa hxl
  have hxc : xc ≠ 0 := by omega
  refine genL_of (s := .ptr) (some ⟨g, 0, none⟩) w1 (Lib.run_unsafeSliceData_row w1 _ _ _ _ _ hxc) ?_
  refine ⟨ld_h (s := .slc) (t := (some ⟨g, 0, none⟩, L.length, xc)) hw1 hb rfl rfl, ?_⟩
  refine genL_of (s := .str) (strOf L) (w1.freeze ⟨g, 0, none⟩ L.length) (Lib.run_unsafeString_row w1 y_p_uint8 y_int y_string y_uint8 up8 c8 g c.size (shape_h hw1 hg) L hL (by omega) (by omega) fun j y hj => ?_) ?_ ?_
  · have := cells_cell (a := ⟨g, 0, none⟩) hw1 hcs (i := j) (v := .int .u8 (y.toNat : Int)) (by simp [byteCells, hj])
    exact this
  · refine ⟨rfl, [g], by rw [← hw1]; exact ext_freeze, fun c hc => by simp only [List.mem_singleton] at hc; omega⟩
  · unfold World.freeze; split <;> exact ⟨rfl, rfl, rfl, Nat.le_refl _⟩
end Go.Proofs.YtbmegmbnlajbbaaGreat
