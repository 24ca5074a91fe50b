/-
  DERIVED. GIVEN WITH THE SEED: THE CARDS: each row of YtbmegmbnlajbbaaGreatDoorRows.lean that lists a variable, with what it lists TIED to the program's text (the seventh form; the later family's looks); each row that meets fmt, with fmt's text TOLD by the authors' own Lean function (tested against real Go, not proved from fmt's source: count such statements apart). THE CARD IS WHAT COUNTS. Prove the row's statement (the work); the ties are given (YtbmegmbnlajbbaaGreatDoorTie.lean); close each card by the builder's one call (the guide's Derived/Test/ToyasCard.lean, 'card_holds'). Laid BY PROGRAM, IN A SANDBOX (cutbox-door.mjs). By AI agents, Wed Nov 11 2026. No macro, syntax, notation, axiom, sorry.
-/
import Derived.Test.YtbmegmbnlajbbaaGreatDoorRows
import GoSem.ClaimSeven
namespace Go.Proofs.YtbmegmbnlajbbaaGreatDoor
namespace Rows

/-- THE TIED CARD OF 'veneerlaw07.TreeBuilds'. -/
def treeBuildsCard : Claim7 := { stood := { row := treeBuildsRow, standIns := [], harness := (true, "61a3d35057958a6f390d022f0e3ae88d9dc9d1e688aebc64873c494ff56a954f"), looks := false }, kinds := [], alts := [], laidByText := true, laidKinds := [.data], laidTests := true, laidLooks := .later }
def TreeBuildsCardSaid : Prop := Claim7.holds Tryz.pinned (.plain (OpenSpec.ofChange treeBuildsSpec)) treeBuildsCard

/-- THE TIED CARD OF 'veneerlaw16.SealForms'. -/
def sealFormsCard : Claim7 := { stood := { row := sealFormsRow, standIns := [], harness := (true, "61a3d35057958a6f390d022f0e3ae88d9dc9d1e688aebc64873c494ff56a954f"), looks := false }, kinds := [], alts := [], laidByText := true, laidKinds := [.data], laidTests := true, laidLooks := .later }
def SealFormsCardSaid : Prop := Claim7.holds Tryz.pinned (.plain (OpenSpec.ofChange sealFormsSpec)) sealFormsCard

/-- THE TIED CARD OF 'veneerlaw16.SealPlays'. -/
def sealPlaysCard : Claim7 := { stood := { row := sealPlaysRow, standIns := [], harness := (true, "61a3d35057958a6f390d022f0e3ae88d9dc9d1e688aebc64873c494ff56a954f"), looks := false }, kinds := [], alts := [], laidByText := true, laidKinds := [.data], laidTests := true, laidLooks := .later }
def SealPlaysCardSaid : Prop := Claim7.holds Tryz.pinned (.plain (OpenSpec.ofChange sealPlaysSpec)) sealPlaysCard

/-- THE TIED CARD OF 'veneerlaw08.CarryPlays'. -/
def carryPlaysCard : Claim7 := { stood := { row := carryPlaysRow, standIns := [], harness := (true, "61a3d35057958a6f390d022f0e3ae88d9dc9d1e688aebc64873c494ff56a954f"), looks := false }, kinds := [], alts := [], laidByText := true, laidKinds := [.data], laidTests := true, laidLooks := .later }
def CarryPlaysCardSaid : Prop := Claim7.holds Tryz.pinned (.plain (OpenSpec.ofChange carryPlaysSpec)) carryPlaysCard

/-- THE TIED CARD OF 'veneerlaw08.CarryRefuses'. -/
def carryRefusesCard : Claim7 := { stood := { row := carryRefusesRow, standIns := [], harness := (true, "61a3d35057958a6f390d022f0e3ae88d9dc9d1e688aebc64873c494ff56a954f"), looks := false }, kinds := [], alts := [], laidByText := true, laidKinds := [.data], laidTests := true, laidLooks := .later }
def CarryRefusesCardSaid : Prop := Claim7.holds Tryz.pinned (.plain (OpenSpec.ofChange carryRefusesSpec)) carryRefusesCard

/-- THE TIED CARD OF 'veneerlaw09.ReapPlays'. -/
def reapPlaysCard : Claim7 := { stood := { row := reapPlaysRow, standIns := [], harness := (true, "61a3d35057958a6f390d022f0e3ae88d9dc9d1e688aebc64873c494ff56a954f"), looks := false }, kinds := [], alts := [], laidByText := true, laidKinds := [.data], laidTests := true, laidLooks := .later }
def ReapPlaysCardSaid : Prop := Claim7.holds Tryz.pinned (.plain (OpenSpec.ofChange reapPlaysSpec)) reapPlaysCard

/-- THE TIED CARD OF 'veneerlaw08.CarryReaches'. -/
def carryReachesCard : Claim7 := { stood := { row := carryReachesRow, standIns := [], harness := (true, "61a3d35057958a6f390d022f0e3ae88d9dc9d1e688aebc64873c494ff56a954f"), looks := false }, kinds := [], alts := [], laidByText := true, laidKinds := [.data], laidTests := true, laidLooks := .later }
def CarryReachesCardSaid : Prop := Claim7.holds Tryz.pinned (.plain (OpenSpec.ofChange carryReachesSpec)) carryReachesCard

/-- THE SECOND FORM's CARD OF 'veneerlaw07.TreeBuilds'. -/
def treeBuildsUptoCard : Claim7 := { stood := { row := treeBuildsUptoRow, standIns := [], harness := (true, "61a3d35057958a6f390d022f0e3ae88d9dc9d1e688aebc64873c494ff56a954f"), looks := false }, kinds := [], alts := [], laidByText := true, laidKinds := [.data], laidTests := true, laidLooks := .later }
def TreeBuildsUptoCardSaid : Prop := Claim7.holds Tryz.pinned (.plain (OpenSpec.upto treeBuildsSpec)) treeBuildsUptoCard

/-- THE SECOND FORM's CARD OF 'veneerlaw16.SealForms'. -/
def sealFormsUptoCard : Claim7 := { stood := { row := sealFormsUptoRow, standIns := [], harness := (true, "61a3d35057958a6f390d022f0e3ae88d9dc9d1e688aebc64873c494ff56a954f"), looks := false }, kinds := [], alts := [], laidByText := true, laidKinds := [.data], laidTests := true, laidLooks := .later }
def SealFormsUptoCardSaid : Prop := Claim7.holds Tryz.pinned (.plain (OpenSpec.upto sealFormsSpec)) sealFormsUptoCard

/-- THE SECOND FORM's CARD OF 'veneerlaw16.SealPlays'. -/
def sealPlaysUptoCard : Claim7 := { stood := { row := sealPlaysUptoRow, standIns := [], harness := (true, "61a3d35057958a6f390d022f0e3ae88d9dc9d1e688aebc64873c494ff56a954f"), looks := false }, kinds := [], alts := [], laidByText := true, laidKinds := [.data], laidTests := true, laidLooks := .later }
def SealPlaysUptoCardSaid : Prop := Claim7.holds Tryz.pinned (.plain (OpenSpec.upto sealPlaysSpec)) sealPlaysUptoCard

/-- THE SECOND FORM's CARD OF 'veneerlaw08.CarryPlays'. -/
def carryPlaysUptoCard : Claim7 := { stood := { row := carryPlaysUptoRow, standIns := [], harness := (true, "61a3d35057958a6f390d022f0e3ae88d9dc9d1e688aebc64873c494ff56a954f"), looks := false }, kinds := [], alts := [], laidByText := true, laidKinds := [.data], laidTests := true, laidLooks := .later }
def CarryPlaysUptoCardSaid : Prop := Claim7.holds Tryz.pinned (.plain (OpenSpec.upto carryPlaysSpec)) carryPlaysUptoCard

/-- THE SECOND FORM's CARD OF 'veneerlaw08.CarryRefuses'. -/
def carryRefusesUptoCard : Claim7 := { stood := { row := carryRefusesUptoRow, standIns := [], harness := (true, "61a3d35057958a6f390d022f0e3ae88d9dc9d1e688aebc64873c494ff56a954f"), looks := false }, kinds := [], alts := [], laidByText := true, laidKinds := [.data], laidTests := true, laidLooks := .later }
def CarryRefusesUptoCardSaid : Prop := Claim7.holds Tryz.pinned (.plain (OpenSpec.upto carryRefusesSpec)) carryRefusesUptoCard

/-- THE SECOND FORM's CARD OF 'veneerlaw09.ReapPlays'. -/
def reapPlaysUptoCard : Claim7 := { stood := { row := reapPlaysUptoRow, standIns := [], harness := (true, "61a3d35057958a6f390d022f0e3ae88d9dc9d1e688aebc64873c494ff56a954f"), looks := false }, kinds := [], alts := [], laidByText := true, laidKinds := [.data], laidTests := true, laidLooks := .later }
def ReapPlaysUptoCardSaid : Prop := Claim7.holds Tryz.pinned (.plain (OpenSpec.upto reapPlaysSpec)) reapPlaysUptoCard

/-- THE SECOND FORM's CARD OF 'veneerlaw08.CarryReaches'. -/
def carryReachesUptoCard : Claim7 := { stood := { row := carryReachesUptoRow, standIns := [], harness := (true, "61a3d35057958a6f390d022f0e3ae88d9dc9d1e688aebc64873c494ff56a954f"), looks := false }, kinds := [], alts := [], laidByText := true, laidKinds := [.data], laidTests := true, laidLooks := .later }
def CarryReachesUptoCardSaid : Prop := Claim7.holds Tryz.pinned (.plain (OpenSpec.upto carryReachesSpec)) carryReachesUptoCard
end Rows
end Go.Proofs.YtbmegmbnlajbbaaGreatDoor
