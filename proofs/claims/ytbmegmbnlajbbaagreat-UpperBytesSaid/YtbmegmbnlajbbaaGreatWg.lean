/- Rows of bytes: made, lengthened. -/
import Derived.Test.YtbmegmbnlajbbaaGreatWe
namespace Go.Proofs.YtbmegmbnlajbbaaGreat
open Go Go.Fw Go.Proofs

theorem nil8 {w : World} {H : Heap} (hw : w.heap = H) {K : (Option Addr × Nat × Nat) → World → Prop} (hK : ∀ w', Ext [] H w'.heap → Mine w'.heap H.size y_uint8 1 (some ⟨H.size, 0, none⟩, 0, 0) (byteCells []) → K (some ⟨H.size, 0, none⟩, 0, 0) w') : genL P (Instr.buildSlice y_S_uint8 0 #[]) .slc w K := by
  refine genL_of (s := .slc) (some ⟨H.size, 0, none⟩, 0, 0) { w with heap := H.push (.cells #[] y_uint8) } (by rw [← hw]; kernel_rfl) ?_
  exact hK _ (.push _) (.inr ⟨H.size, #[], rfl, Nat.le_refl _, push_new, rfl, rfl, Nat.le_refl _, rfl⟩)
theorem one8 {w : World} {H : Heap} {n : Int} (c : UInt8) (hn : n = (c.toNat : Int)) (hw : w.heap = H) {K : (Option Addr × Nat × Nat) → World → Prop} (hK : ∀ w', Ext [] H w'.heap → Mine w'.heap H.size y_uint8 1 (some ⟨H.size, 0, none⟩, 1, 1) (byteCells [c]) → K (some ⟨H.size, 0, none⟩, 1, 1) w') :
    genL P (Instr.buildSlice y_S_uint8 1 #[(0, (.int .u8 n))]) .slc w K := by
  subst hn
  refine genL_of (s := .slc) (some ⟨H.size, 0, none⟩, 1, 1) { w with heap := H.push (.cells (Value.int .u8 (c.toNat : Int)).cells y_uint8) } (by rw [← hw]; exact build1_g E8 uS8 (v := .int .u8 (c.toNat : Int)) rfl (by omega) (by omega)) ?_
  refine hK _ (.push _) (.inr ⟨H.size, (Value.int .u8 (c.toNat : Int)).cells, rfl, Nat.le_refl _, push_new, by simp [Value.cells], by simp, Nat.le_refl _, ?_⟩)
  simp [Value.cells, byteCells]
theorem app8 {w : World} {H : Heap} {B : Nat} {x : Option Addr × Nat × Nat} {a : Option Addr} {l c : Nat} {L M : List UInt8} (hw : w.heap = H) (hx : Mine H B y_uint8 1 x (byteCells L)) (hB : B ≤ H.size) (hL : Cells H a (byteCells M)) (hl : l = M.length) (hlen : L.length + M.length ≤ 1099511627776)
    {K : (Option Addr × Nat × Nat) → World → Prop} (hK : ∀ x' w', Mine w'.heap B y_uint8 1 x' (byteCells (L ++ M)) → Ext (ownM x) H w'.heap → (∀ c ∈ ownM x', c ∈ ownM x ∨ H.size ≤ c) → K x' w') :
    genL P (Builtin.append_ #[y_S_uint8, y_S_uint8] y_S_uint8 #[.slice x.1 x.2.1 x.2.2, .slice a l c]) .slc w K := by
  subst hl
  have h0 : x.2.1 = L.length := by have := hx.len; simp at this; omega
  refine append_g E8 (by omega) uS8 (slice_noint uS8) hw hx hB (Src.slc hw hL (by simp)) one_byteCells (by omega) ?_
  intro x2 w2 hO2 _ hx2 hm2
  exact hK x2 w2 (by rw [← byteCells_append]; exact hO2) hx2 hm2
theorem app8s {w : World} {H : Heap} {B : Nat} {x : Option Addr × Nat × Nat} {L M : List UInt8} (hw : w.heap = H) (hx : Mine H B y_uint8 1 x (byteCells L)) (hB : B ≤ H.size) (hlen : L.length + M.length ≤ 1099511627776)
    {K : (Option Addr × Nat × Nat) → World → Prop} (hK : ∀ x' w', Mine w'.heap B y_uint8 1 x' (byteCells (L ++ M)) → Ext (ownM x) H w'.heap → (∀ c ∈ ownM x', c ∈ ownM x ∨ H.size ≤ c) → K x' w') :
    genL P (Builtin.append_ #[y_S_uint8, y_string] y_S_uint8 #[.slice x.1 x.2.1 x.2.2, .string (strOf M)]) .slc w K := by
  have h0 : x.2.1 = L.length := by have := hx.len; simp at this; omega
  refine append_g E8 (by omega) uS8 ⟨_, uStr, by intro k h; cases h⟩ hw hx hB (n := M.length) (us := byteCells M) Src.str one_byteCells (by omega) ?_
  intro x2 w2 hO2 _ hx2 hm2
  exact hK x2 w2 (by rw [← byteCells_append]; exact hO2) hx2 hm2
theorem own_new {H H' : Heap} {B : Nat} {x : Option Addr × Nat × Nat} {vs : List Value} {T : TypeId} {sz : Nat} {H0 : Heap} (h : Ext [] H0 H) (hm : Mine H B T sz x vs) (hB : H0.size ≤ B) (hx : Ext (ownM x) H H') : Ext [] H0 H' :=
  h.own hx fun c hc hlt => by have := ownM_ge hm c hc; omega
end Go.Proofs.YtbmegmbnlajbbaaGreat
