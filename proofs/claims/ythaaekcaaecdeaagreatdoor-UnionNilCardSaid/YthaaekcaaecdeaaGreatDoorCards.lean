/-
  DERIVED. GIVEN WITH THE SEED: THE CARDS: each row of YthaaekcaaecdeaaGreatDoorRows.lean that lists a variable, with what it lists TIED to the program's text (the seventh form; the later family's looks); each row that meets fmt, with fmt's text TOLD by the authors' own Lean function (tested against real Go, not proved from fmt's source: count such statements apart). THE CARD IS WHAT COUNTS. Prove the row's statement (the work); the ties are given (YthaaekcaaecdeaaGreatDoorTie.lean); close each card by the builder's one call (the guide's Derived/Test/ToyasCard.lean, 'card_holds'). Laid BY PROGRAM, IN A SANDBOX (cutbox-door.mjs). By AI agents, Wed Nov 11 2026. No macro, syntax, notation, axiom, sorry.
-/
import Derived.Test.YthaaekcaaecdeaaGreatDoorRows
import GoSem.ClaimSeven
namespace Go.Proofs.YthaaekcaaecdeaaGreatDoor
namespace Rows

/-- THE TIED CARD OF 'veneerlaw13.UnionNil'. -/
def unionNilCard : Claim7 := { stood := { row := unionNilRow, standIns := [], harness := (true, "d59fc9a22d5fe0d7b3e84be9ef97e0d0168dea326d1836cf7c595e29c23911b4"), looks := true }, kinds := [], alts := [], laidByText := true, laidKinds := [.handle, .data], laidTests := true, laidLooks := .later }
def UnionNilCardSaid : Prop := Claim7.holds Tryz.pinned (.plain (OpenSpec.ofChange unionNilSpec)) unionNilCard

/-- THE TIED CARD OF 'veneerlaw15.MachineNew'. -/
def machineNewCard : Claim7 := { stood := { row := machineNewRow, standIns := [], harness := (true, "d59fc9a22d5fe0d7b3e84be9ef97e0d0168dea326d1836cf7c595e29c23911b4"), looks := true }, kinds := [], alts := [], laidByText := true, laidKinds := [.handle, .data], laidTests := true, laidLooks := .later }
def MachineNewCardSaid : Prop := Claim7.holds Tryz.pinned (.plain (OpenSpec.ofChange machineNewSpec)) machineNewCard

/-- THE SECOND FORM's CARD OF 'veneerlaw13.UnionNil'. -/
def unionNilUptoCard : Claim7 := { stood := { row := unionNilUptoRow, standIns := [], harness := (true, "d59fc9a22d5fe0d7b3e84be9ef97e0d0168dea326d1836cf7c595e29c23911b4"), looks := true }, kinds := [], alts := [], laidByText := true, laidKinds := [.handle, .data], laidTests := true, laidLooks := .later }
def UnionNilUptoCardSaid : Prop := Claim7.holds Tryz.pinned (.plain (OpenSpec.upto unionNilSpec)) unionNilUptoCard

/-- THE SECOND FORM's CARD OF 'veneerlaw15.MachineNew'. -/
def machineNewUptoCard : Claim7 := { stood := { row := machineNewUptoRow, standIns := [], harness := (true, "d59fc9a22d5fe0d7b3e84be9ef97e0d0168dea326d1836cf7c595e29c23911b4"), looks := true }, kinds := [], alts := [], laidByText := true, laidKinds := [.handle, .data], laidTests := true, laidLooks := .later }
def MachineNewUptoCardSaid : Prop := Claim7.holds Tryz.pinned (.plain (OpenSpec.upto machineNewSpec)) machineNewUptoCard
end Rows
end Go.Proofs.YthaaekcaaecdeaaGreatDoor
