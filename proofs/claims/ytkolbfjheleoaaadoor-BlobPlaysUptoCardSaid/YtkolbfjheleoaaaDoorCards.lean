/-
  DERIVED. GIVEN WITH THE SEED: THE CARDS: each row of YtkolbfjheleoaaaDoorRows.lean that lists a variable, with what it lists TIED to the program's text (the seventh form; the later family's looks); each row that meets fmt, with fmt's text TOLD by the authors' own Lean function (tested against real Go, not proved from fmt's source: count such statements apart). THE CARD IS WHAT COUNTS. Prove the row's statement (the work); the ties are given (YtkolbfjheleoaaaDoorTie.lean); close each card by the builder's one call (the guide's Derived/Test/ToyasCard.lean, 'card_holds'). Laid BY PROGRAM, IN A SANDBOX (cutbox-door.mjs). By AI agents, Wed Nov 11 2026. No macro, syntax, notation, axiom, sorry.
-/
import Derived.Test.YtkolbfjheleoaaaDoorRows
import GoSem.ClaimSeven
namespace Go.Proofs.YtkolbfjheleoaaaDoor
namespace Rows

/-- THE TIED CARD OF 'veneerlaw05.BlobBack'. -/
def blobBackCard : Claim7 := { stood := { row := blobBackRow, standIns := [], harness := (true, "d1d55a14387c142d41f216b771ae6d3bbc93b2c29618bfa246acdb5ff1aa49b5"), looks := false }, kinds := [], alts := [], laidByText := true, laidKinds := [.data], laidTests := true, laidLooks := .later }
def BlobBackCardSaid : Prop := Claim7.holds Tryd.pinned (.plain (OpenSpec.ofChange blobBackSpec)) blobBackCard

/-- THE TIED CARD OF 'veneerlaw05.BlobRoom'. -/
def blobRoomCard : Claim7 := { stood := { row := blobRoomRow, standIns := [], harness := (true, "d1d55a14387c142d41f216b771ae6d3bbc93b2c29618bfa246acdb5ff1aa49b5"), looks := false }, kinds := [], alts := [], laidByText := true, laidKinds := [.data], laidTests := true, laidLooks := .later }
def BlobRoomCardSaid : Prop := Claim7.holds Tryd.pinned (.plain (OpenSpec.ofChange blobRoomSpec)) blobRoomCard

/-- THE TIED CARD OF 'veneerlaw05.BlobPlays'. -/
def blobPlaysCard : Claim7 := { stood := { row := blobPlaysRow, standIns := [], harness := (true, "d1d55a14387c142d41f216b771ae6d3bbc93b2c29618bfa246acdb5ff1aa49b5"), looks := false }, kinds := [], alts := [], laidByText := true, laidKinds := [.data], laidTests := true, laidLooks := .later }
def BlobPlaysCardSaid : Prop := Claim7.holds Tryd.pinned (.plain (OpenSpec.ofChange blobPlaysSpec)) blobPlaysCard

/-- THE TIED CARD OF 'veneerlaw05.BlobApart'. -/
def blobApartCard : Claim7 := { stood := { row := blobApartRow, standIns := [], harness := (true, "d1d55a14387c142d41f216b771ae6d3bbc93b2c29618bfa246acdb5ff1aa49b5"), looks := false }, kinds := [], alts := [], laidByText := true, laidKinds := [.data], laidTests := true, laidLooks := .later }
def BlobApartCardSaid : Prop := Claim7.holds Tryd.pinned (.plain (OpenSpec.ofChange blobApartSpec)) blobApartCard

/-- THE SECOND FORM's CARD OF 'veneerlaw05.BlobBack'. -/
def blobBackUptoCard : Claim7 := { stood := { row := blobBackUptoRow, standIns := [], harness := (true, "d1d55a14387c142d41f216b771ae6d3bbc93b2c29618bfa246acdb5ff1aa49b5"), looks := false }, kinds := [], alts := [], laidByText := true, laidKinds := [.data], laidTests := true, laidLooks := .later }
def BlobBackUptoCardSaid : Prop := Claim7.holds Tryd.pinned (.plain (OpenSpec.upto blobBackSpec)) blobBackUptoCard

/-- THE SECOND FORM's CARD OF 'veneerlaw05.BlobRoom'. -/
def blobRoomUptoCard : Claim7 := { stood := { row := blobRoomUptoRow, standIns := [], harness := (true, "d1d55a14387c142d41f216b771ae6d3bbc93b2c29618bfa246acdb5ff1aa49b5"), looks := false }, kinds := [], alts := [], laidByText := true, laidKinds := [.data], laidTests := true, laidLooks := .later }
def BlobRoomUptoCardSaid : Prop := Claim7.holds Tryd.pinned (.plain (OpenSpec.upto blobRoomSpec)) blobRoomUptoCard

/-- THE SECOND FORM's CARD OF 'veneerlaw05.BlobPlays'. -/
def blobPlaysUptoCard : Claim7 := { stood := { row := blobPlaysUptoRow, standIns := [], harness := (true, "d1d55a14387c142d41f216b771ae6d3bbc93b2c29618bfa246acdb5ff1aa49b5"), looks := false }, kinds := [], alts := [], laidByText := true, laidKinds := [.data], laidTests := true, laidLooks := .later }
def BlobPlaysUptoCardSaid : Prop := Claim7.holds Tryd.pinned (.plain (OpenSpec.upto blobPlaysSpec)) blobPlaysUptoCard

/-- THE SECOND FORM's CARD OF 'veneerlaw05.BlobApart'. -/
def blobApartUptoCard : Claim7 := { stood := { row := blobApartUptoRow, standIns := [], harness := (true, "d1d55a14387c142d41f216b771ae6d3bbc93b2c29618bfa246acdb5ff1aa49b5"), looks := false }, kinds := [], alts := [], laidByText := true, laidKinds := [.data], laidTests := true, laidLooks := .later }
def BlobApartUptoCardSaid : Prop := Claim7.holds Tryd.pinned (.plain (OpenSpec.upto blobApartSpec)) blobApartUptoCard
end Rows
end Go.Proofs.YtkolbfjheleoaaaDoor
