/-
  NARROWER THAN 'FOR EVERY INPUT', by the rows' own cells (each row's printed sentence says how): TreeBuilds: laid · SealForms: laid · SealPlays: laid · CarryPlays: laid · CarryRefuses: laid · ReapPlays: laid · CarryReaches: laid.
  DERIVED. THE GIVEN ROWS OF THIS SEAT. 7 by the template 'for every input the law returns true; each argument reads behind the call as it read before'; 0 by the template 'total and deterministic' (their statements: YtbmegmbnlajbbaaGreatDoorTotals.lean).
  GIVEN WITH THE SEED: the statements are not yours to turn. If you find one false, say at which input.
  Laid BY PROGRAM, IN A SANDBOX (cutbox-rows.mjs): the forced cells as the released guide's own fill.sh prints them over the translation d70e378a556f0648… (all of the seat's roots in one cut). By AI agents, Wed Nov 11 2026. No macro, syntax, notation, axiom, sorry.
-/
import Derived.Test.YtbmegmbnlajbbaaGreatDoorChecked
import GoSem.Claim
import GoSem.ClaimJoined
import GoSem.ClaimMapViews
import Derived.JoinedTies
import Derived.KernelRfl
namespace Go.Proofs.YtbmegmbnlajbbaaGreatDoor
/- THE CELL 'sum', in the pinned program and in every row, IS THE sha256 OF THE DUMP (.gsa) THAT YtbmegmbnlajbbaaGreatDoorProg.lean LOADS. Nothing in Lean hashes anything: it is a label: what it is worth is what the hold of that sum in a sandbox is worth. -/
noncomputable def Tryz.pinned : Pinned := { name := "ytbmegmbnlajbbaagreatdoor", sum := "d70e378a556f0648aec4dab6c60a1191fce4e78693e3c266973bbc3ba9f6cb26", checked := Tryz.checked }
namespace Rows
def none {H : Type} : Left H := { results := [], args := [] }

/- WHAT THE LISTED PACKAGE-LEVEL VARIABLES READ AS WHEN THE CALL BEGINS. Each datum BY PROGRAM (the guide's laid-datum.mjs) off the statement by which the dump's own 'gosem.cut.vars' lays the variable. In a bare row this is a premise. The card (YtbmegmbnlajbbaaGreatDoorCards.lean) ties it to the program's text. -/
def laid_veneer_sha_rounds {H : Type} : DataW H := .agg [.lit (.int .u32 1116352408), .lit (.int .u32 1899447441), .lit (.int .u32 3049323471), .lit (.int .u32 3921009573), .lit (.int .u32 961987163), .lit (.int .u32 1508970993), .lit (.int .u32 2453635748), .lit (.int .u32 2870763221), .lit (.int .u32 3624381080), .lit (.int .u32 310598401), .lit (.int .u32 607225278), .lit (.int .u32 1426881987), .lit (.int .u32 1925078388), .lit (.int .u32 2162078206), .lit (.int .u32 2614888103), .lit (.int .u32 3248222580), .lit (.int .u32 3835390401), .lit (.int .u32 4022224774), .lit (.int .u32 264347078), .lit (.int .u32 604807628), .lit (.int .u32 770255983), .lit (.int .u32 1249150122), .lit (.int .u32 1555081692), .lit (.int .u32 1996064986), .lit (.int .u32 2554220882), .lit (.int .u32 2821834349), .lit (.int .u32 2952996808), .lit (.int .u32 3210313671), .lit (.int .u32 3336571891), .lit (.int .u32 3584528711), .lit (.int .u32 113926993), .lit (.int .u32 338241895), .lit (.int .u32 666307205), .lit (.int .u32 773529912), .lit (.int .u32 1294757372), .lit (.int .u32 1396182291), .lit (.int .u32 1695183700), .lit (.int .u32 1986661051), .lit (.int .u32 2177026350), .lit (.int .u32 2456956037), .lit (.int .u32 2730485921), .lit (.int .u32 2820302411), .lit (.int .u32 3259730800), .lit (.int .u32 3345764771), .lit (.int .u32 3516065817), .lit (.int .u32 3600352804), .lit (.int .u32 4094571909), .lit (.int .u32 275423344), .lit (.int .u32 430227734), .lit (.int .u32 506948616), .lit (.int .u32 659060556), .lit (.int .u32 883997877), .lit (.int .u32 958139571), .lit (.int .u32 1322822218), .lit (.int .u32 1537002063), .lit (.int .u32 1747873779), .lit (.int .u32 1955562222), .lit (.int .u32 2024104815), .lit (.int .u32 2227730452), .lit (.int .u32 2361852424), .lit (.int .u32 2428436474), .lit (.int .u32 2756734187), .lit (.int .u32 3204031479), .lit (.int .u32 3329325298)]

/-- 'veneerlaw07.TreeBuilds': WHATEVER THE INPUT: true; the input reads as it did. -/
def treeBuildsSpec : ChangeSpec := { name := "treeBuilds", fn := fun _ => fun
  | [d1, d2, d3] => { results := [.lit (.bool true)], args := [d1, d2, d3] }
  | _ => none }
def treeBuildsRow : OpenClaim := { program := "ytbmegmbnlajbbaagreatdoor", sum := "d70e378a556f0648aec4dab6c60a1191fce4e78693e3c266973bbc3ba9f6cb26", func := "veneer/veneerlaw07.TreeBuilds", spec := "treeBuilds", inPlace := ["internal/bytealg.IndexByteString", "internal/bytealg.IndexString", "internal/abi.NoEscape", "internal/bytealg.MakeNoZero"], unfollowed := true, recurses := true, named := ["internal/bytealg.MaxLen", "veneer/sha.rounds"], plainKeys := false, apart := false, laid := [("veneer/sha.rounds", laid_veneer_sha_rounds)] }
def TreeBuildsSaid : Prop := treeBuildsRow.holds Tryz.pinned (OpenSpec.ofChange treeBuildsSpec)

/-- ITS FALSE NEIGHBOUR: 'it returns false'. Refute it at one input. -/
def treeBuildsWrong : ChangeSpec := { name := "treeBuilds", fn := fun _ => fun
  | [d1, d2, d3] => { results := [.lit (.bool false)], args := [d1, d2, d3] }
  | _ => none }
def TreeBuildsWrongFalsely : Prop := treeBuildsRow.holds Tryz.pinned (OpenSpec.ofChange treeBuildsWrong)

/-- 'veneerlaw16.SealForms': WHATEVER THE INPUT: true; the input reads as it did. -/
def sealFormsSpec : ChangeSpec := { name := "sealForms", fn := fun _ => fun
  | [d] => { results := [.lit (.bool true)], args := [d] }
  | _ => none }
def sealFormsRow : OpenClaim := { program := "ytbmegmbnlajbbaagreatdoor", sum := "d70e378a556f0648aec4dab6c60a1191fce4e78693e3c266973bbc3ba9f6cb26", func := "veneer/veneerlaw16.SealForms", spec := "sealForms", inPlace := ["internal/bytealg.IndexByteString", "internal/bytealg.IndexString", "internal/abi.NoEscape", "internal/bytealg.MakeNoZero"], unfollowed := true, recurses := true, named := ["internal/bytealg.MaxLen", "veneer/sha.rounds"], plainKeys := false, apart := false, laid := [("veneer/sha.rounds", laid_veneer_sha_rounds)] }
def SealFormsSaid : Prop := sealFormsRow.holds Tryz.pinned (OpenSpec.ofChange sealFormsSpec)

/-- ITS FALSE NEIGHBOUR: 'it returns false'. Refute it at one input. -/
def sealFormsWrong : ChangeSpec := { name := "sealForms", fn := fun _ => fun
  | [d] => { results := [.lit (.bool false)], args := [d] }
  | _ => none }
def SealFormsWrongFalsely : Prop := sealFormsRow.holds Tryz.pinned (OpenSpec.ofChange sealFormsWrong)

/-- 'veneerlaw16.SealPlays': WHATEVER THE INPUT: true; the input reads as it did. -/
def sealPlaysSpec : ChangeSpec := { name := "sealPlays", fn := fun _ => fun
  | [d1, d2] => { results := [.lit (.bool true)], args := [d1, d2] }
  | _ => none }
def sealPlaysRow : OpenClaim := { program := "ytbmegmbnlajbbaagreatdoor", sum := "d70e378a556f0648aec4dab6c60a1191fce4e78693e3c266973bbc3ba9f6cb26", func := "veneer/veneerlaw16.SealPlays", spec := "sealPlays", inPlace := ["internal/bytealg.IndexByteString", "internal/bytealg.IndexString", "internal/abi.NoEscape", "internal/bytealg.MakeNoZero"], unfollowed := true, recurses := true, named := ["internal/bytealg.MaxLen", "veneer/sha.rounds"], plainKeys := false, apart := false, laid := [("veneer/sha.rounds", laid_veneer_sha_rounds)] }
def SealPlaysSaid : Prop := sealPlaysRow.holds Tryz.pinned (OpenSpec.ofChange sealPlaysSpec)

/-- ITS FALSE NEIGHBOUR: 'it returns false'. Refute it at one input. -/
def sealPlaysWrong : ChangeSpec := { name := "sealPlays", fn := fun _ => fun
  | [d1, d2] => { results := [.lit (.bool false)], args := [d1, d2] }
  | _ => none }
def SealPlaysWrongFalsely : Prop := sealPlaysRow.holds Tryz.pinned (OpenSpec.ofChange sealPlaysWrong)

/-- 'veneerlaw08.CarryPlays': WHATEVER THE INPUT: true; the input reads as it did. -/
def carryPlaysSpec : ChangeSpec := { name := "carryPlays", fn := fun _ => fun
  | [d1, d2, d3, d4, d5] => { results := [.lit (.bool true)], args := [d1, d2, d3, d4, d5] }
  | _ => none }
def carryPlaysRow : OpenClaim := { program := "ytbmegmbnlajbbaagreatdoor", sum := "d70e378a556f0648aec4dab6c60a1191fce4e78693e3c266973bbc3ba9f6cb26", func := "veneer/veneerlaw08.CarryPlays", spec := "carryPlays", inPlace := ["internal/bytealg.IndexByteString", "internal/bytealg.IndexString", "internal/abi.NoEscape", "internal/bytealg.MakeNoZero"], unfollowed := true, recurses := true, named := ["internal/bytealg.MaxLen", "veneer/sha.rounds"], plainKeys := false, apart := false, laid := [("veneer/sha.rounds", laid_veneer_sha_rounds)] }
def CarryPlaysSaid : Prop := carryPlaysRow.holds Tryz.pinned (OpenSpec.ofChange carryPlaysSpec)

/-- ITS FALSE NEIGHBOUR: 'it returns false'. Refute it at one input. -/
def carryPlaysWrong : ChangeSpec := { name := "carryPlays", fn := fun _ => fun
  | [d1, d2, d3, d4, d5] => { results := [.lit (.bool false)], args := [d1, d2, d3, d4, d5] }
  | _ => none }
def CarryPlaysWrongFalsely : Prop := carryPlaysRow.holds Tryz.pinned (OpenSpec.ofChange carryPlaysWrong)

/-- 'veneerlaw08.CarryRefuses': WHATEVER THE INPUT: true; the input reads as it did. -/
def carryRefusesSpec : ChangeSpec := { name := "carryRefuses", fn := fun _ => fun
  | [d1, d2] => { results := [.lit (.bool true)], args := [d1, d2] }
  | _ => none }
def carryRefusesRow : OpenClaim := { program := "ytbmegmbnlajbbaagreatdoor", sum := "d70e378a556f0648aec4dab6c60a1191fce4e78693e3c266973bbc3ba9f6cb26", func := "veneer/veneerlaw08.CarryRefuses", spec := "carryRefuses", inPlace := ["internal/bytealg.IndexByteString", "internal/bytealg.IndexString", "internal/abi.NoEscape", "internal/bytealg.MakeNoZero"], unfollowed := true, recurses := true, named := ["internal/bytealg.MaxLen", "veneer/sha.rounds"], plainKeys := false, apart := false, laid := [("veneer/sha.rounds", laid_veneer_sha_rounds)] }
def CarryRefusesSaid : Prop := carryRefusesRow.holds Tryz.pinned (OpenSpec.ofChange carryRefusesSpec)

/-- ITS FALSE NEIGHBOUR: 'it returns false'. Refute it at one input. -/
def carryRefusesWrong : ChangeSpec := { name := "carryRefuses", fn := fun _ => fun
  | [d1, d2] => { results := [.lit (.bool false)], args := [d1, d2] }
  | _ => none }
def CarryRefusesWrongFalsely : Prop := carryRefusesRow.holds Tryz.pinned (OpenSpec.ofChange carryRefusesWrong)

/-- 'veneerlaw09.ReapPlays': WHATEVER THE INPUT: true; the input reads as it did. -/
def reapPlaysSpec : ChangeSpec := { name := "reapPlays", fn := fun _ => fun
  | [d1, d2] => { results := [.lit (.bool true)], args := [d1, d2] }
  | _ => none }
def reapPlaysRow : OpenClaim := { program := "ytbmegmbnlajbbaagreatdoor", sum := "d70e378a556f0648aec4dab6c60a1191fce4e78693e3c266973bbc3ba9f6cb26", func := "veneer/veneerlaw09.ReapPlays", spec := "reapPlays", inPlace := ["internal/bytealg.IndexByteString", "internal/bytealg.IndexString", "internal/abi.NoEscape", "internal/bytealg.MakeNoZero", "internal/bytealg.Compare"], unfollowed := true, recurses := true, named := ["internal/bytealg.MaxLen", "veneer/sha.rounds"], plainKeys := false, apart := false, laid := [("veneer/sha.rounds", laid_veneer_sha_rounds)] }
def ReapPlaysSaid : Prop := reapPlaysRow.holds Tryz.pinned (OpenSpec.ofChange reapPlaysSpec)

/-- ITS FALSE NEIGHBOUR: 'it returns false'. Refute it at one input. -/
def reapPlaysWrong : ChangeSpec := { name := "reapPlays", fn := fun _ => fun
  | [d1, d2] => { results := [.lit (.bool false)], args := [d1, d2] }
  | _ => none }
def ReapPlaysWrongFalsely : Prop := reapPlaysRow.holds Tryz.pinned (OpenSpec.ofChange reapPlaysWrong)

/-- 'veneerlaw08.CarryReaches': WHATEVER THE INPUT: true; the input reads as it did. -/
def carryReachesSpec : ChangeSpec := { name := "carryReaches", fn := fun _ => fun
  | [d1, d2] => { results := [.lit (.bool true)], args := [d1, d2] }
  | _ => none }
def carryReachesRow : OpenClaim := { program := "ytbmegmbnlajbbaagreatdoor", sum := "d70e378a556f0648aec4dab6c60a1191fce4e78693e3c266973bbc3ba9f6cb26", func := "veneer/veneerlaw08.CarryReaches", spec := "carryReaches", inPlace := ["internal/bytealg.IndexByteString", "internal/bytealg.IndexString", "internal/abi.NoEscape", "internal/bytealg.MakeNoZero"], unfollowed := true, recurses := true, named := ["internal/bytealg.MaxLen", "veneer/sha.rounds"], plainKeys := false, apart := false, laid := [("veneer/sha.rounds", laid_veneer_sha_rounds)] }
def CarryReachesSaid : Prop := carryReachesRow.holds Tryz.pinned (OpenSpec.ofChange carryReachesSpec)

/-- ITS FALSE NEIGHBOUR: 'it returns false'. Refute it at one input. -/
def carryReachesWrong : ChangeSpec := { name := "carryReaches", fn := fun _ => fun
  | [d1, d2] => { results := [.lit (.bool false)], args := [d1, d2] }
  | _ => none }
def CarryReachesWrongFalsely : Prop := carryReachesRow.holds Tryz.pinned (OpenSpec.ofChange carryReachesWrong)

/- THE SECOND FORM. 'bulk': how many values and letters a reading holds, each counted each time it is reached (what is shared counts as often as it is met; a slice's spare places count too). A statement '..UptoSaid' is the law's where the arguments, and the package variables that the reading takes, are together of bulk at most 1048576: NARROWER than '..Said'. Prove '..Said' where nothing that the law and all that it calls make is longer than what came in: it says more and counts as full. Else prove '..UptoSaid'. A law counts once. -/
mutual
def uptoBulk {H : Type} : DataW H → Nat
  | .lit (.string bytes) => bytes.length + 1
  | .lit _ => 1
  | .nil => 1
  | .ptr d => uptoBulk d + 1
  | .slice elems spare => uptoBulkAll elems + uptoBulkAll spare + 1
  | .agg parts => uptoBulkAll parts + 1
  | .iface _ d => uptoBulk d + 1
  | .map entries => uptoBulkEntries entries + 1
  | .held _ => 1
def uptoBulkAll {H : Type} : List (DataW H) → Nat
  | [] => 0
  | d :: r => uptoBulk d + uptoBulkAll r
def uptoBulkEntries {H : Type} : List (Lit × DataW H) → Nat
  | [] => 0
  | x :: r => uptoBulkEntry x + uptoBulkEntries r
def uptoBulkEntry {H : Type} : Lit × DataW H → Nat
  | (.string bytes, d) => bytes.length + uptoBulk d + 1
  | (_, d) => uptoBulk d + 1
 end
def uptoSmall : (H : Type) → List (DataW H) → Bool := fun _ ds => decide (uptoBulkAll ds ≤ 1048576)
def OpenSpec.upto (s : _root_.Go.ChangeSpec) : _root_.Go.OpenSpec := { _root_.Go.OpenSpec.ofChange s with cond := some uptoSmall }

/-- 'veneerlaw07.TreeBuilds', WHERE WHAT IT READS IS OF BULK AT MOST 1048576: true; the input reads as it did. -/
def treeBuildsUptoRow : OpenClaim := { program := "ytbmegmbnlajbbaagreatdoor", sum := "d70e378a556f0648aec4dab6c60a1191fce4e78693e3c266973bbc3ba9f6cb26", func := "veneer/veneerlaw07.TreeBuilds", spec := "treeBuilds", inPlace := ["internal/bytealg.IndexByteString", "internal/bytealg.IndexString", "internal/abi.NoEscape", "internal/bytealg.MakeNoZero"], unfollowed := true, recurses := true, named := ["internal/bytealg.MaxLen", "veneer/sha.rounds"], plainKeys := false, apart := false, laid := [("veneer/sha.rounds", laid_veneer_sha_rounds)], narrowed := true }
def TreeBuildsUptoSaid : Prop := treeBuildsUptoRow.holds Tryz.pinned (OpenSpec.upto treeBuildsSpec)

/-- 'veneerlaw16.SealForms', WHERE WHAT IT READS IS OF BULK AT MOST 1048576: true; the input reads as it did. -/
def sealFormsUptoRow : OpenClaim := { program := "ytbmegmbnlajbbaagreatdoor", sum := "d70e378a556f0648aec4dab6c60a1191fce4e78693e3c266973bbc3ba9f6cb26", func := "veneer/veneerlaw16.SealForms", spec := "sealForms", inPlace := ["internal/bytealg.IndexByteString", "internal/bytealg.IndexString", "internal/abi.NoEscape", "internal/bytealg.MakeNoZero"], unfollowed := true, recurses := true, named := ["internal/bytealg.MaxLen", "veneer/sha.rounds"], plainKeys := false, apart := false, laid := [("veneer/sha.rounds", laid_veneer_sha_rounds)], narrowed := true }
def SealFormsUptoSaid : Prop := sealFormsUptoRow.holds Tryz.pinned (OpenSpec.upto sealFormsSpec)

/-- 'veneerlaw16.SealPlays', WHERE WHAT IT READS IS OF BULK AT MOST 1048576: true; the input reads as it did. -/
def sealPlaysUptoRow : OpenClaim := { program := "ytbmegmbnlajbbaagreatdoor", sum := "d70e378a556f0648aec4dab6c60a1191fce4e78693e3c266973bbc3ba9f6cb26", func := "veneer/veneerlaw16.SealPlays", spec := "sealPlays", inPlace := ["internal/bytealg.IndexByteString", "internal/bytealg.IndexString", "internal/abi.NoEscape", "internal/bytealg.MakeNoZero"], unfollowed := true, recurses := true, named := ["internal/bytealg.MaxLen", "veneer/sha.rounds"], plainKeys := false, apart := false, laid := [("veneer/sha.rounds", laid_veneer_sha_rounds)], narrowed := true }
def SealPlaysUptoSaid : Prop := sealPlaysUptoRow.holds Tryz.pinned (OpenSpec.upto sealPlaysSpec)

/-- 'veneerlaw08.CarryPlays', WHERE WHAT IT READS IS OF BULK AT MOST 1048576: true; the input reads as it did. -/
def carryPlaysUptoRow : OpenClaim := { program := "ytbmegmbnlajbbaagreatdoor", sum := "d70e378a556f0648aec4dab6c60a1191fce4e78693e3c266973bbc3ba9f6cb26", func := "veneer/veneerlaw08.CarryPlays", spec := "carryPlays", inPlace := ["internal/bytealg.IndexByteString", "internal/bytealg.IndexString", "internal/abi.NoEscape", "internal/bytealg.MakeNoZero"], unfollowed := true, recurses := true, named := ["internal/bytealg.MaxLen", "veneer/sha.rounds"], plainKeys := false, apart := false, laid := [("veneer/sha.rounds", laid_veneer_sha_rounds)], narrowed := true }
def CarryPlaysUptoSaid : Prop := carryPlaysUptoRow.holds Tryz.pinned (OpenSpec.upto carryPlaysSpec)

/-- 'veneerlaw08.CarryRefuses', WHERE WHAT IT READS IS OF BULK AT MOST 1048576: true; the input reads as it did. -/
def carryRefusesUptoRow : OpenClaim := { program := "ytbmegmbnlajbbaagreatdoor", sum := "d70e378a556f0648aec4dab6c60a1191fce4e78693e3c266973bbc3ba9f6cb26", func := "veneer/veneerlaw08.CarryRefuses", spec := "carryRefuses", inPlace := ["internal/bytealg.IndexByteString", "internal/bytealg.IndexString", "internal/abi.NoEscape", "internal/bytealg.MakeNoZero"], unfollowed := true, recurses := true, named := ["internal/bytealg.MaxLen", "veneer/sha.rounds"], plainKeys := false, apart := false, laid := [("veneer/sha.rounds", laid_veneer_sha_rounds)], narrowed := true }
def CarryRefusesUptoSaid : Prop := carryRefusesUptoRow.holds Tryz.pinned (OpenSpec.upto carryRefusesSpec)

/-- 'veneerlaw09.ReapPlays', WHERE WHAT IT READS IS OF BULK AT MOST 1048576: true; the input reads as it did. -/
def reapPlaysUptoRow : OpenClaim := { program := "ytbmegmbnlajbbaagreatdoor", sum := "d70e378a556f0648aec4dab6c60a1191fce4e78693e3c266973bbc3ba9f6cb26", func := "veneer/veneerlaw09.ReapPlays", spec := "reapPlays", inPlace := ["internal/bytealg.IndexByteString", "internal/bytealg.IndexString", "internal/abi.NoEscape", "internal/bytealg.MakeNoZero", "internal/bytealg.Compare"], unfollowed := true, recurses := true, named := ["internal/bytealg.MaxLen", "veneer/sha.rounds"], plainKeys := false, apart := false, laid := [("veneer/sha.rounds", laid_veneer_sha_rounds)], narrowed := true }
def ReapPlaysUptoSaid : Prop := reapPlaysUptoRow.holds Tryz.pinned (OpenSpec.upto reapPlaysSpec)

/-- 'veneerlaw08.CarryReaches', WHERE WHAT IT READS IS OF BULK AT MOST 1048576: true; the input reads as it did. -/
def carryReachesUptoRow : OpenClaim := { program := "ytbmegmbnlajbbaagreatdoor", sum := "d70e378a556f0648aec4dab6c60a1191fce4e78693e3c266973bbc3ba9f6cb26", func := "veneer/veneerlaw08.CarryReaches", spec := "carryReaches", inPlace := ["internal/bytealg.IndexByteString", "internal/bytealg.IndexString", "internal/abi.NoEscape", "internal/bytealg.MakeNoZero"], unfollowed := true, recurses := true, named := ["internal/bytealg.MaxLen", "veneer/sha.rounds"], plainKeys := false, apart := false, laid := [("veneer/sha.rounds", laid_veneer_sha_rounds)], narrowed := true }
def CarryReachesUptoSaid : Prop := carryReachesUptoRow.holds Tryz.pinned (OpenSpec.upto carryReachesSpec)

end Rows
end Go.Proofs.YtbmegmbnlajbbaaGreatDoor
