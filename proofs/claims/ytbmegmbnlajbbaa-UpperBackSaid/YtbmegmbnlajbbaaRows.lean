/-
  No cell of these rows narrows 'for every input' (looked for: loops, veiled, ifaces, maps, wideKeys, modest, calm, conditions, laid).
  DERIVED. THE GIVEN ROWS OF THIS SEAT. 4 by the template 'for every input the law returns true; each argument reads behind the call as it read before'; 0 by the template 'total and deterministic' (their statements: YtbmegmbnlajbbaaTotals.lean).
  GIVEN WITH THE SEED: the statements are not yours to turn. If you find one false, say at which input.
  Laid BY PROGRAM, IN A SANDBOX (cutbox-rows.mjs): the forced cells as the released guide's own fill.sh prints them over the translation 78c9a58b0af2a970… (all of the seat's roots in one cut). By AI agents, Wed Nov 11 2026. No macro, syntax, notation, axiom, sorry.
-/
import Derived.Test.YtbmegmbnlajbbaaChecked
import GoSem.Claim
import GoSem.ClaimJoined
import GoSem.ClaimMapViews
import Derived.JoinedTies
import Derived.KernelRfl
namespace Go.Proofs.Ytbmegmbnlajbbaa
/- THE CELL 'sum', in the pinned program and in every row, IS THE sha256 OF THE DUMP (.gsa) THAT YtbmegmbnlajbbaaProg.lean LOADS. Nothing in Lean hashes anything: it is a label: what it is worth is what the hold of that sum in a sandbox is worth. -/
noncomputable def Try.pinned : Pinned := { name := "ytbmegmbnlajbbaa", sum := "78c9a58b0af2a9701435a76939ebe56ede2e066c6b1ba7545756ad3dccf30264", checked := Try.checked }
namespace Rows
def none {H : Type} : Left H := { results := [], args := [] }

/-- 'veneerlaw12.UpperPlays': WHATEVER THE INPUT: true; the input reads as it did. -/
def upperPlaysSpec : ChangeSpec := { name := "upperPlays", fn := fun _ => fun
  | [d1, d2, d3, d4] => { results := [.lit (.bool true)], args := [d1, d2, d3, d4] }
  | _ => none }
def upperPlaysRow : OpenClaim := { program := "ytbmegmbnlajbbaa", sum := "78c9a58b0af2a9701435a76939ebe56ede2e066c6b1ba7545756ad3dccf30264", func := "veneer/veneerlaw12.UpperPlays", spec := "upperPlays", inPlace := ["internal/bytealg.IndexByteString", "internal/bytealg.IndexString", "internal/abi.NoEscape", "internal/bytealg.MakeNoZero"], unfollowed := true, recurses := true, named := ["internal/bytealg.MaxLen"], apart := false }
def UpperPlaysSaid : Prop := upperPlaysRow.holds Try.pinned (OpenSpec.ofChange upperPlaysSpec)

/-- ITS FALSE NEIGHBOUR: 'it returns false'. Refute it at one input. -/
def upperPlaysWrong : ChangeSpec := { name := "upperPlays", fn := fun _ => fun
  | [d1, d2, d3, d4] => { results := [.lit (.bool false)], args := [d1, d2, d3, d4] }
  | _ => none }
def UpperPlaysWrongFalsely : Prop := upperPlaysRow.holds Try.pinned (OpenSpec.ofChange upperPlaysWrong)

/-- 'veneerlaw12.UpperTree': WHATEVER THE INPUT: true; the input reads as it did. -/
def upperTreeSpec : ChangeSpec := { name := "upperTree", fn := fun _ => fun
  | [d] => { results := [.lit (.bool true)], args := [d] }
  | _ => none }
def upperTreeRow : OpenClaim := { program := "ytbmegmbnlajbbaa", sum := "78c9a58b0af2a9701435a76939ebe56ede2e066c6b1ba7545756ad3dccf30264", func := "veneer/veneerlaw12.UpperTree", spec := "upperTree", inPlace := ["internal/bytealg.IndexByteString", "internal/bytealg.IndexString", "internal/abi.NoEscape", "internal/bytealg.MakeNoZero"], unfollowed := true, recurses := true, named := ["internal/bytealg.MaxLen"], apart := false }
def UpperTreeSaid : Prop := upperTreeRow.holds Try.pinned (OpenSpec.ofChange upperTreeSpec)

/-- ITS FALSE NEIGHBOUR: 'it returns false'. Refute it at one input. -/
def upperTreeWrong : ChangeSpec := { name := "upperTree", fn := fun _ => fun
  | [d] => { results := [.lit (.bool false)], args := [d] }
  | _ => none }
def UpperTreeWrongFalsely : Prop := upperTreeRow.holds Try.pinned (OpenSpec.ofChange upperTreeWrong)

/-- 'veneerlaw12.UpperRefused': WHATEVER THE INPUT: true; the input reads as it did. -/
def upperRefusedSpec : ChangeSpec := { name := "upperRefused", fn := fun _ => fun
  | [d] => { results := [.lit (.bool true)], args := [d] }
  | _ => none }
def upperRefusedRow : OpenClaim := { program := "ytbmegmbnlajbbaa", sum := "78c9a58b0af2a9701435a76939ebe56ede2e066c6b1ba7545756ad3dccf30264", func := "veneer/veneerlaw12.UpperRefused", spec := "upperRefused", inPlace := ["internal/bytealg.IndexByteString", "internal/bytealg.IndexString", "internal/abi.NoEscape", "internal/bytealg.MakeNoZero", "maps.clone"], unfollowed := true, recurses := true, named := ["internal/bytealg.MaxLen"], apart := false }
def UpperRefusedSaid : Prop := upperRefusedRow.holds Try.pinned (OpenSpec.ofChange upperRefusedSpec)

/-- ITS FALSE NEIGHBOUR: 'it returns false'. Refute it at one input. -/
def upperRefusedWrong : ChangeSpec := { name := "upperRefused", fn := fun _ => fun
  | [d] => { results := [.lit (.bool false)], args := [d] }
  | _ => none }
def UpperRefusedWrongFalsely : Prop := upperRefusedRow.holds Try.pinned (OpenSpec.ofChange upperRefusedWrong)

/-- 'veneerlaw12.UpperBack': WHATEVER THE INPUT: true; the input reads as it did. -/
def upperBackSpec : ChangeSpec := { name := "upperBack", fn := fun _ => fun
  | [d1, d2, d3] => { results := [.lit (.bool true)], args := [d1, d2, d3] }
  | _ => none }
def upperBackRow : OpenClaim := { program := "ytbmegmbnlajbbaa", sum := "78c9a58b0af2a9701435a76939ebe56ede2e066c6b1ba7545756ad3dccf30264", func := "veneer/veneerlaw12.UpperBack", spec := "upperBack", inPlace := ["internal/bytealg.IndexByteString", "internal/bytealg.IndexString", "internal/abi.NoEscape", "internal/bytealg.MakeNoZero"], unfollowed := true, recurses := true, named := ["internal/bytealg.MaxLen"], apart := false }
def UpperBackSaid : Prop := upperBackRow.holds Try.pinned (OpenSpec.ofChange upperBackSpec)

/-- ITS FALSE NEIGHBOUR: 'it returns false'. Refute it at one input. -/
def upperBackWrong : ChangeSpec := { name := "upperBack", fn := fun _ => fun
  | [d1, d2, d3] => { results := [.lit (.bool false)], args := [d1, d2, d3] }
  | _ => none }
def UpperBackWrongFalsely : Prop := upperBackRow.holds Try.pinned (OpenSpec.ofChange upperBackWrong)

/- THE SECOND FORM. 'bulk': how many values and letters a reading holds, each counted each time it is reached (what is shared counts as often as it is met; a slice's spare places count too). A statement '..UptoSaid' is the law's where the arguments, and the package variables that the reading takes, are together of bulk at most 1048576: NARROWER than '..Said'. Prove '..Said' where nothing that the law and all that it calls make is longer than what came in: it says more and counts as full. Else prove '..UptoSaid'. A law counts once. -/
mutual
def uptoBulk {H : Type} : DataW H → Nat
  | .lit (.string bytes) => bytes.length + 1
  | .lit _ => 1
  | .nil => 1
  | .ptr d => uptoBulk d + 1
  | .slice elems spare => uptoBulkAll elems + uptoBulkAll spare + 1
  | .agg parts => uptoBulkAll parts + 1
  | .iface _ d => uptoBulk d + 1
  | .map entries => uptoBulkEntries entries + 1
  | .held _ => 1
def uptoBulkAll {H : Type} : List (DataW H) → Nat
  | [] => 0
  | d :: r => uptoBulk d + uptoBulkAll r
def uptoBulkEntries {H : Type} : List (Lit × DataW H) → Nat
  | [] => 0
  | x :: r => uptoBulkEntry x + uptoBulkEntries r
def uptoBulkEntry {H : Type} : Lit × DataW H → Nat
  | (.string bytes, d) => bytes.length + uptoBulk d + 1
  | (_, d) => uptoBulk d + 1
 end
def uptoSmall : (H : Type) → List (DataW H) → Bool := fun _ ds => decide (uptoBulkAll ds ≤ 1048576)
def OpenSpec.upto (s : _root_.Go.ChangeSpec) : _root_.Go.OpenSpec := { _root_.Go.OpenSpec.ofChange s with cond := some uptoSmall }

/-- 'veneerlaw12.UpperPlays', WHERE WHAT IT READS IS OF BULK AT MOST 1048576: true; the input reads as it did. -/
def upperPlaysUptoRow : OpenClaim := { program := "ytbmegmbnlajbbaa", sum := "78c9a58b0af2a9701435a76939ebe56ede2e066c6b1ba7545756ad3dccf30264", func := "veneer/veneerlaw12.UpperPlays", spec := "upperPlays", inPlace := ["internal/bytealg.IndexByteString", "internal/bytealg.IndexString", "internal/abi.NoEscape", "internal/bytealg.MakeNoZero"], unfollowed := true, recurses := true, named := ["internal/bytealg.MaxLen"], apart := false, narrowed := true }
def UpperPlaysUptoSaid : Prop := upperPlaysUptoRow.holds Try.pinned (OpenSpec.upto upperPlaysSpec)

/-- 'veneerlaw12.UpperTree', WHERE WHAT IT READS IS OF BULK AT MOST 1048576: true; the input reads as it did. -/
def upperTreeUptoRow : OpenClaim := { program := "ytbmegmbnlajbbaa", sum := "78c9a58b0af2a9701435a76939ebe56ede2e066c6b1ba7545756ad3dccf30264", func := "veneer/veneerlaw12.UpperTree", spec := "upperTree", inPlace := ["internal/bytealg.IndexByteString", "internal/bytealg.IndexString", "internal/abi.NoEscape", "internal/bytealg.MakeNoZero"], unfollowed := true, recurses := true, named := ["internal/bytealg.MaxLen"], apart := false, narrowed := true }
def UpperTreeUptoSaid : Prop := upperTreeUptoRow.holds Try.pinned (OpenSpec.upto upperTreeSpec)

/-- 'veneerlaw12.UpperRefused', WHERE WHAT IT READS IS OF BULK AT MOST 1048576: true; the input reads as it did. -/
def upperRefusedUptoRow : OpenClaim := { program := "ytbmegmbnlajbbaa", sum := "78c9a58b0af2a9701435a76939ebe56ede2e066c6b1ba7545756ad3dccf30264", func := "veneer/veneerlaw12.UpperRefused", spec := "upperRefused", inPlace := ["internal/bytealg.IndexByteString", "internal/bytealg.IndexString", "internal/abi.NoEscape", "internal/bytealg.MakeNoZero", "maps.clone"], unfollowed := true, recurses := true, named := ["internal/bytealg.MaxLen"], apart := false, narrowed := true }
def UpperRefusedUptoSaid : Prop := upperRefusedUptoRow.holds Try.pinned (OpenSpec.upto upperRefusedSpec)

/-- 'veneerlaw12.UpperBack', WHERE WHAT IT READS IS OF BULK AT MOST 1048576: true; the input reads as it did. -/
def upperBackUptoRow : OpenClaim := { program := "ytbmegmbnlajbbaa", sum := "78c9a58b0af2a9701435a76939ebe56ede2e066c6b1ba7545756ad3dccf30264", func := "veneer/veneerlaw12.UpperBack", spec := "upperBack", inPlace := ["internal/bytealg.IndexByteString", "internal/bytealg.IndexString", "internal/abi.NoEscape", "internal/bytealg.MakeNoZero"], unfollowed := true, recurses := true, named := ["internal/bytealg.MaxLen"], apart := false, narrowed := true }
def UpperBackUptoSaid : Prop := upperBackUptoRow.holds Try.pinned (OpenSpec.upto upperBackSpec)

end Rows
end Go.Proofs.Ytbmegmbnlajbbaa
