/- What the rows of this seat share: the table that is laid, and a world for the witness. -/
import Derived.Test.YtkolbfjheleoaaaDoorSf
import Derived.Test.YtkolbfjheleoaaaDoorFwR
import Derived.Test.YtkolbfjheleoaaaDoorCards
import Derived.Test.YtkolbfjheleoaaaDoorTie
namespace Go.Proofs.YtkolbfjheleoaaaDoor.RowC
open Go Go.Fw Go.Proofs Go.ChangeShapes Go.WideShapes Go.ChangeAt Go.RowKit

theorem own : ownKnob Tryd.prog.godebug = none := by kernel_rfl
theorem gTab : Tryd.prog.globalNamed "veneer/sha.rounds" = some 0 := by kernel_rfl
theorem gTabType : (Tryd.prog.globals[0]?).map (·.type) = some 66 := by kernel_rfl
theorem u66 : Tryd.prog.underlying 66 = some (.array 64 64) := by kernel_rfl
theorem u64' : Tryd.prog.underlying 64 = some (.int .u32) := by kernel_rfl
theorem cells66 : Tryd.prog.cellsOf 66 = 64 := by kernel_rfl
theorem cells64 : Tryd.prog.cellsOf 64 = 1 := by kernel_rfl
theorem laidOut : laidOutB Tryd.prog = true := by kernel_rfl
def kz : List Int := Sha.kc.map fun n : Nat => (n : Int)

theorem tab_eq : (Rows.laid_veneer_sha_rounds : DataW Unit) = Lib.tabData .u32 kz := by kernel_rfl
theorem table {W : World} (h : laidMetH Tryd.prog [("veneer/sha.rounds", Rows.laid_veneer_sha_rounds)] W) : Lib.TabIs Tryd.prog W "veneer/sha.rounds" .u32 kz := by
  have h' : laidMet Tryd.prog [("veneer/sha.rounds", (Rows.laid_veneer_sha_rounds : DataW Unit))] W := h
  rw [tab_eq] at h'
  exact Lib.tabIs_of_head (rest := []) gTab gTabType u66 u64' cells64 cells66 h'
theorem K_nat : ∀ i, i < 64 → kz.getD i 0 = ((Sha.K i).toNat : Int) := by decide +kernel
theorem rounds_of {W : World} (h : Lib.TabIs Tryd.prog W "veneer/sha.rounds" .u32 kz) : Rounds W.heap := by
  have hc : ∀ i, i < 64 → W.cell? ⟨0, i, none⟩ = some (.int .u32 ((Sha.K i).toNat : Int)) := by
    intro i hi
    rw [← K_nat i hi]
    exact h.cell gTab i (by simpa [kz, Sha.kc] using hi)
  obtain ⟨_, c, T, fr, hb, _⟩ := cell_some (hc 0 (by omega))
  refine ⟨c, T, fr, hb, fun i hi => ?_⟩
  obtain ⟨_, c2, T2, fr2, hb2, h2⟩ := cell_some (hc i hi)
  rw [hb] at hb2
  cases hb2
  rw [Nat.zero_add]
  exact h2

theorem byte_of {n : Int} (h : (Lit.int .u8 n).wf = true) : ∃ t : UInt8, n = (t.toNat : Int) := by
  have h1 : IntKind.u8.min = 0 := rfl
  have h2 : IntKind.u8.max = 255 := rfl
  simp only [Lit.wf, Bool.and_eq_true, decide_eq_true_eq] at h
  refine ⟨UInt8.ofNat n.toNat, ?_⟩
  simp only [UInt8.toNat_ofNat']
  omega

/-- A world for the witness. -/
noncomputable def laidWorld (os : Os) : World :=
  { World.holding Tryd.prog os ⟨#[], #[], []⟩ with heap := (World.holding Tryd.prog os ⟨#[], #[], []⟩).heap.modify 0 fun
      | .cells _ t frozen => .cells (W32 Sha.K 64) t frozen
      | o => o }
theorem u37 : P.underlying y_S_S_uint8 = some (.slice y_S_uint8) := by kernel_rfl
theorem c22 : P.cellsOf y_S_uint8 = 1 := by kernel_rfl
theorem b5' : P.bytesOf y_uint8 = 1 := by kernel_rfl
theorem i64_max {n : Int} (h : (Lit.int .i64 n).wf = true) : n ≤ 9223372036854775807 := by
  have h2 : IntKind.i64.max = 9223372036854775807 := rfl
  simp only [Lit.wf, Bool.and_eq_true, decide_eq_true_eq] at h
  omega
theorem reach_lt {n : Nat} (h : n ≤ reachBytes) : n < 140737488351233 := by
  have : reachBytes = 140737488351232 := rfl
  omega
end Go.Proofs.YtkolbfjheleoaaaDoor.RowC
