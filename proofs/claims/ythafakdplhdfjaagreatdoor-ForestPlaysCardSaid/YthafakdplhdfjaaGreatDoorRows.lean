/-
  NARROWER THAN 'FOR EVERY INPUT', by the rows' own cells (each row's printed sentence says how): CountPlays: laid · CountNil: laid · CountSums: laid · ForestKeeps: laid · ForestPlays: laid · ForestNil: laid.
  DERIVED. THE GIVEN ROWS OF THIS SEAT. 6 by the template 'for every input the law returns true; each argument reads behind the call as it read before'; 0 by the template 'total and deterministic' (their statements: YthafakdplhdfjaaGreatDoorTotals.lean).
  GIVEN WITH THE SEED: the statements are not yours to turn. If you find one false, say at which input.
  Laid BY PROGRAM, IN A SANDBOX (cutbox-rows.mjs): the forced cells as the released guide's own fill.sh prints them over the translation 730bd2cfbc00c052… (all of the seat's roots in one cut). By AI agents, Wed Nov 11 2026. No macro, syntax, notation, axiom, sorry.
-/
import Derived.Test.YthafakdplhdfjaaGreatDoorChecked
import GoSem.Claim
import GoSem.ClaimJoined
import GoSem.ClaimMapViews
import Derived.JoinedTies
import Derived.KernelRfl
namespace Go.Proofs.YthafakdplhdfjaaGreatDoor
/- THE CELL 'sum', in the pinned program and in every row, IS THE sha256 OF THE DUMP (.gsa) THAT YthafakdplhdfjaaGreatDoorProg.lean LOADS. Nothing in Lean hashes anything: it is a label: what it is worth is what the hold of that sum in a sandbox is worth. -/
noncomputable def Tryz.pinned : Pinned := { name := "ythafakdplhdfjaagreatdoor", sum := "730bd2cfbc00c0529bc8086304da96a4a9148cd6840959933a11dec4bb42f665", checked := Tryz.checked }
namespace Rows
def none {H : Type} : Left H := { results := [], args := [] }

/- WHAT THE LISTED PACKAGE-LEVEL VARIABLES READ AS WHEN THE CALL BEGINS. Each datum BY PROGRAM (the guide's laid-datum.mjs) off the statement by which the dump's own 'gosem.cut.vars' lays the variable. In a bare row this is a premise. The card (YthafakdplhdfjaaGreatDoorCards.lean) ties it to the program's text. -/
def laid_armarium_crc_halves {H : Type} : DataW H := .agg [.lit (.int .u32 0), .lit (.int .u32 274646895), .lit (.int .u32 549293790), .lit (.int .u32 820201905), .lit (.int .u32 1098587580), .lit (.int .u32 1361435347), .lit (.int .u32 1640403810), .lit (.int .u32 1905808397), .lit (.int .u32 2197175160), .lit (.int .u32 2460548119), .lit (.int .u32 2722870694), .lit (.int .u32 2987750089), .lit (.int .u32 3280807620), .lit (.int .u32 3553878443), .lit (.int .u32 3811616794), .lit (.int .u32 4084100981)]
def laid_math_bits_deBruijn64tab {H : Type} : DataW H := .agg [.lit (.int .u8 0), .lit (.int .u8 1), .lit (.int .u8 56), .lit (.int .u8 2), .lit (.int .u8 57), .lit (.int .u8 49), .lit (.int .u8 28), .lit (.int .u8 3), .lit (.int .u8 61), .lit (.int .u8 58), .lit (.int .u8 42), .lit (.int .u8 50), .lit (.int .u8 38), .lit (.int .u8 29), .lit (.int .u8 17), .lit (.int .u8 4), .lit (.int .u8 62), .lit (.int .u8 47), .lit (.int .u8 59), .lit (.int .u8 36), .lit (.int .u8 45), .lit (.int .u8 43), .lit (.int .u8 51), .lit (.int .u8 22), .lit (.int .u8 53), .lit (.int .u8 39), .lit (.int .u8 33), .lit (.int .u8 30), .lit (.int .u8 24), .lit (.int .u8 18), .lit (.int .u8 12), .lit (.int .u8 5), .lit (.int .u8 63), .lit (.int .u8 55), .lit (.int .u8 48), .lit (.int .u8 27), .lit (.int .u8 60), .lit (.int .u8 41), .lit (.int .u8 37), .lit (.int .u8 16), .lit (.int .u8 46), .lit (.int .u8 35), .lit (.int .u8 44), .lit (.int .u8 21), .lit (.int .u8 52), .lit (.int .u8 32), .lit (.int .u8 23), .lit (.int .u8 11), .lit (.int .u8 54), .lit (.int .u8 26), .lit (.int .u8 40), .lit (.int .u8 15), .lit (.int .u8 34), .lit (.int .u8 20), .lit (.int .u8 31), .lit (.int .u8 10), .lit (.int .u8 25), .lit (.int .u8 14), .lit (.int .u8 19), .lit (.int .u8 9), .lit (.int .u8 13), .lit (.int .u8 8), .lit (.int .u8 7), .lit (.int .u8 6)]

/-- 'armariumlaw16.CountPlays': WHATEVER THE INPUT: true; the input reads as it did. -/
def countPlaysSpec : ChangeSpec := { name := "countPlays", fn := fun _ => fun
  | [d1, d2] => { results := [.lit (.bool true)], args := [d1, d2] }
  | _ => none }
def countPlaysRow : OpenClaim := { program := "ythafakdplhdfjaagreatdoor", sum := "730bd2cfbc00c0529bc8086304da96a4a9148cd6840959933a11dec4bb42f665", func := "armarium/armariumlaw16.CountPlays", spec := "countPlays", inPlace := ["internal/abi.NoEscape", "internal/bytealg.MakeNoZero", "slices.overlaps[string]", "slices.overlaps[int]"], unfollowed := true, recurses := true, named := ["armarium/crc.halves", "math/bits.deBruijn64tab"], apart := false, laid := [("armarium/crc.halves", laid_armarium_crc_halves), ("math/bits.deBruijn64tab", laid_math_bits_deBruijn64tab)] }
def CountPlaysSaid : Prop := countPlaysRow.holds Tryz.pinned (OpenSpec.ofChange countPlaysSpec)

/-- ITS FALSE NEIGHBOUR: 'it returns false'. Refute it at one input. -/
def countPlaysWrong : ChangeSpec := { name := "countPlays", fn := fun _ => fun
  | [d1, d2] => { results := [.lit (.bool false)], args := [d1, d2] }
  | _ => none }
def CountPlaysWrongFalsely : Prop := countPlaysRow.holds Tryz.pinned (OpenSpec.ofChange countPlaysWrong)

/-- 'armariumlaw16.CountNil': WHATEVER THE INPUT: true; the input reads as it did. -/
def countNilSpec : ChangeSpec := { name := "countNil", fn := fun _ => fun
  | [d1, d2] => { results := [.lit (.bool true)], args := [d1, d2] }
  | _ => none }
def countNilRow : OpenClaim := { program := "ythafakdplhdfjaagreatdoor", sum := "730bd2cfbc00c0529bc8086304da96a4a9148cd6840959933a11dec4bb42f665", func := "armarium/armariumlaw16.CountNil", spec := "countNil", inPlace := ["internal/abi.NoEscape", "internal/bytealg.MakeNoZero", "slices.overlaps[string]", "slices.overlaps[int]"], unfollowed := true, recurses := true, named := ["armarium/crc.halves", "math/bits.deBruijn64tab"], apart := false, laid := [("armarium/crc.halves", laid_armarium_crc_halves), ("math/bits.deBruijn64tab", laid_math_bits_deBruijn64tab)] }
def CountNilSaid : Prop := countNilRow.holds Tryz.pinned (OpenSpec.ofChange countNilSpec)

/-- ITS FALSE NEIGHBOUR: 'it returns false'. Refute it at one input. -/
def countNilWrong : ChangeSpec := { name := "countNil", fn := fun _ => fun
  | [d1, d2] => { results := [.lit (.bool false)], args := [d1, d2] }
  | _ => none }
def CountNilWrongFalsely : Prop := countNilRow.holds Tryz.pinned (OpenSpec.ofChange countNilWrong)

/-- 'armariumlaw16.CountSums': WHATEVER THE INPUT: true; the input reads as it did. -/
def countSumsSpec : ChangeSpec := { name := "countSums", fn := fun _ => fun
  | [d] => { results := [.lit (.bool true)], args := [d] }
  | _ => none }
def countSumsRow : OpenClaim := { program := "ythafakdplhdfjaagreatdoor", sum := "730bd2cfbc00c0529bc8086304da96a4a9148cd6840959933a11dec4bb42f665", func := "armarium/armariumlaw16.CountSums", spec := "countSums", inPlace := ["internal/abi.NoEscape", "internal/bytealg.MakeNoZero", "slices.overlaps[string]", "slices.overlaps[int]"], unfollowed := true, recurses := true, named := ["armarium/crc.halves", "math/bits.deBruijn64tab"], apart := false, laid := [("armarium/crc.halves", laid_armarium_crc_halves), ("math/bits.deBruijn64tab", laid_math_bits_deBruijn64tab)] }
def CountSumsSaid : Prop := countSumsRow.holds Tryz.pinned (OpenSpec.ofChange countSumsSpec)

/-- ITS FALSE NEIGHBOUR: 'it returns false'. Refute it at one input. -/
def countSumsWrong : ChangeSpec := { name := "countSums", fn := fun _ => fun
  | [d] => { results := [.lit (.bool false)], args := [d] }
  | _ => none }
def CountSumsWrongFalsely : Prop := countSumsRow.holds Tryz.pinned (OpenSpec.ofChange countSumsWrong)

/-- 'armariumlaw11.ForestKeeps': WHATEVER THE INPUT: true; the input reads as it did. -/
def forestKeepsSpec : ChangeSpec := { name := "forestKeeps", fn := fun _ => fun
  | [d1, d2, d3] => { results := [.lit (.bool true)], args := [d1, d2, d3] }
  | _ => none }
def forestKeepsRow : OpenClaim := { program := "ythafakdplhdfjaagreatdoor", sum := "730bd2cfbc00c0529bc8086304da96a4a9148cd6840959933a11dec4bb42f665", func := "armarium/armariumlaw11.ForestKeeps", spec := "forestKeeps", inPlace := ["internal/abi.NoEscape", "internal/bytealg.MakeNoZero", "slices.overlaps[string]", "slices.overlaps[int]"], unfollowed := true, recurses := true, named := ["armarium/crc.halves", "math/bits.deBruijn64tab"], apart := false, laid := [("armarium/crc.halves", laid_armarium_crc_halves), ("math/bits.deBruijn64tab", laid_math_bits_deBruijn64tab)] }
def ForestKeepsSaid : Prop := forestKeepsRow.holds Tryz.pinned (OpenSpec.ofChange forestKeepsSpec)

/-- ITS FALSE NEIGHBOUR: 'it returns false'. Refute it at one input. -/
def forestKeepsWrong : ChangeSpec := { name := "forestKeeps", fn := fun _ => fun
  | [d1, d2, d3] => { results := [.lit (.bool false)], args := [d1, d2, d3] }
  | _ => none }
def ForestKeepsWrongFalsely : Prop := forestKeepsRow.holds Tryz.pinned (OpenSpec.ofChange forestKeepsWrong)

/-- 'armariumlaw11.ForestPlays': WHATEVER THE INPUT: true; the input reads as it did. -/
def forestPlaysSpec : ChangeSpec := { name := "forestPlays", fn := fun _ => fun
  | [d1, d2, d3, d4] => { results := [.lit (.bool true)], args := [d1, d2, d3, d4] }
  | _ => none }
def forestPlaysRow : OpenClaim := { program := "ythafakdplhdfjaagreatdoor", sum := "730bd2cfbc00c0529bc8086304da96a4a9148cd6840959933a11dec4bb42f665", func := "armarium/armariumlaw11.ForestPlays", spec := "forestPlays", inPlace := ["internal/abi.NoEscape", "internal/bytealg.MakeNoZero", "slices.overlaps[string]", "slices.overlaps[int]"], unfollowed := true, recurses := true, named := ["armarium/crc.halves", "math/bits.deBruijn64tab"], apart := false, laid := [("armarium/crc.halves", laid_armarium_crc_halves), ("math/bits.deBruijn64tab", laid_math_bits_deBruijn64tab)] }
def ForestPlaysSaid : Prop := forestPlaysRow.holds Tryz.pinned (OpenSpec.ofChange forestPlaysSpec)

/-- ITS FALSE NEIGHBOUR: 'it returns false'. Refute it at one input. -/
def forestPlaysWrong : ChangeSpec := { name := "forestPlays", fn := fun _ => fun
  | [d1, d2, d3, d4] => { results := [.lit (.bool false)], args := [d1, d2, d3, d4] }
  | _ => none }
def ForestPlaysWrongFalsely : Prop := forestPlaysRow.holds Tryz.pinned (OpenSpec.ofChange forestPlaysWrong)

/-- 'armariumlaw11.ForestNil': WHATEVER THE INPUT: true; the input reads as it did. -/
def forestNilSpec : ChangeSpec := { name := "forestNil", fn := fun _ => fun
  | [d1, d2] => { results := [.lit (.bool true)], args := [d1, d2] }
  | _ => none }
def forestNilRow : OpenClaim := { program := "ythafakdplhdfjaagreatdoor", sum := "730bd2cfbc00c0529bc8086304da96a4a9148cd6840959933a11dec4bb42f665", func := "armarium/armariumlaw11.ForestNil", spec := "forestNil", inPlace := ["internal/abi.NoEscape", "internal/bytealg.MakeNoZero", "slices.overlaps[string]", "slices.overlaps[int]"], unfollowed := true, recurses := true, named := ["armarium/crc.halves", "math/bits.deBruijn64tab"], apart := false, laid := [("armarium/crc.halves", laid_armarium_crc_halves), ("math/bits.deBruijn64tab", laid_math_bits_deBruijn64tab)] }
def ForestNilSaid : Prop := forestNilRow.holds Tryz.pinned (OpenSpec.ofChange forestNilSpec)

/-- ITS FALSE NEIGHBOUR: 'it returns false'. Refute it at one input. -/
def forestNilWrong : ChangeSpec := { name := "forestNil", fn := fun _ => fun
  | [d1, d2] => { results := [.lit (.bool false)], args := [d1, d2] }
  | _ => none }
def ForestNilWrongFalsely : Prop := forestNilRow.holds Tryz.pinned (OpenSpec.ofChange forestNilWrong)

/- THE SECOND FORM. 'bulk': how many values and letters a reading holds, each counted each time it is reached (what is shared counts as often as it is met; a slice's spare places count too). A statement '..UptoSaid' is the law's where the arguments, and the package variables that the reading takes, are together of bulk at most 1048576: NARROWER than '..Said'. Prove '..Said' where nothing that the law and all that it calls make is longer than what came in: it says more and counts as full. Else prove '..UptoSaid'. A law counts once. -/
mutual
def uptoBulk {H : Type} : DataW H → Nat
  | .lit (.string bytes) => bytes.length + 1
  | .lit _ => 1
  | .nil => 1
  | .ptr d => uptoBulk d + 1
  | .slice elems spare => uptoBulkAll elems + uptoBulkAll spare + 1
  | .agg parts => uptoBulkAll parts + 1
  | .iface _ d => uptoBulk d + 1
  | .map entries => uptoBulkEntries entries + 1
  | .held _ => 1
def uptoBulkAll {H : Type} : List (DataW H) → Nat
  | [] => 0
  | d :: r => uptoBulk d + uptoBulkAll r
def uptoBulkEntries {H : Type} : List (Lit × DataW H) → Nat
  | [] => 0
  | x :: r => uptoBulkEntry x + uptoBulkEntries r
def uptoBulkEntry {H : Type} : Lit × DataW H → Nat
  | (.string bytes, d) => bytes.length + uptoBulk d + 1
  | (_, d) => uptoBulk d + 1
 end
def uptoSmall : (H : Type) → List (DataW H) → Bool := fun _ ds => decide (uptoBulkAll ds ≤ 1048576)
def OpenSpec.upto (s : _root_.Go.ChangeSpec) : _root_.Go.OpenSpec := { _root_.Go.OpenSpec.ofChange s with cond := some uptoSmall }

/-- 'armariumlaw16.CountPlays', WHERE WHAT IT READS IS OF BULK AT MOST 1048576: true; the input reads as it did. -/
def countPlaysUptoRow : OpenClaim := { program := "ythafakdplhdfjaagreatdoor", sum := "730bd2cfbc00c0529bc8086304da96a4a9148cd6840959933a11dec4bb42f665", func := "armarium/armariumlaw16.CountPlays", spec := "countPlays", inPlace := ["internal/abi.NoEscape", "internal/bytealg.MakeNoZero", "slices.overlaps[string]", "slices.overlaps[int]"], unfollowed := true, recurses := true, named := ["armarium/crc.halves", "math/bits.deBruijn64tab"], apart := false, laid := [("armarium/crc.halves", laid_armarium_crc_halves), ("math/bits.deBruijn64tab", laid_math_bits_deBruijn64tab)], narrowed := true }
def CountPlaysUptoSaid : Prop := countPlaysUptoRow.holds Tryz.pinned (OpenSpec.upto countPlaysSpec)

/-- 'armariumlaw16.CountNil', WHERE WHAT IT READS IS OF BULK AT MOST 1048576: true; the input reads as it did. -/
def countNilUptoRow : OpenClaim := { program := "ythafakdplhdfjaagreatdoor", sum := "730bd2cfbc00c0529bc8086304da96a4a9148cd6840959933a11dec4bb42f665", func := "armarium/armariumlaw16.CountNil", spec := "countNil", inPlace := ["internal/abi.NoEscape", "internal/bytealg.MakeNoZero", "slices.overlaps[string]", "slices.overlaps[int]"], unfollowed := true, recurses := true, named := ["armarium/crc.halves", "math/bits.deBruijn64tab"], apart := false, laid := [("armarium/crc.halves", laid_armarium_crc_halves), ("math/bits.deBruijn64tab", laid_math_bits_deBruijn64tab)], narrowed := true }
def CountNilUptoSaid : Prop := countNilUptoRow.holds Tryz.pinned (OpenSpec.upto countNilSpec)

/-- 'armariumlaw16.CountSums', WHERE WHAT IT READS IS OF BULK AT MOST 1048576: true; the input reads as it did. -/
def countSumsUptoRow : OpenClaim := { program := "ythafakdplhdfjaagreatdoor", sum := "730bd2cfbc00c0529bc8086304da96a4a9148cd6840959933a11dec4bb42f665", func := "armarium/armariumlaw16.CountSums", spec := "countSums", inPlace := ["internal/abi.NoEscape", "internal/bytealg.MakeNoZero", "slices.overlaps[string]", "slices.overlaps[int]"], unfollowed := true, recurses := true, named := ["armarium/crc.halves", "math/bits.deBruijn64tab"], apart := false, laid := [("armarium/crc.halves", laid_armarium_crc_halves), ("math/bits.deBruijn64tab", laid_math_bits_deBruijn64tab)], narrowed := true }
def CountSumsUptoSaid : Prop := countSumsUptoRow.holds Tryz.pinned (OpenSpec.upto countSumsSpec)

/-- 'armariumlaw11.ForestKeeps', WHERE WHAT IT READS IS OF BULK AT MOST 1048576: true; the input reads as it did. -/
def forestKeepsUptoRow : OpenClaim := { program := "ythafakdplhdfjaagreatdoor", sum := "730bd2cfbc00c0529bc8086304da96a4a9148cd6840959933a11dec4bb42f665", func := "armarium/armariumlaw11.ForestKeeps", spec := "forestKeeps", inPlace := ["internal/abi.NoEscape", "internal/bytealg.MakeNoZero", "slices.overlaps[string]", "slices.overlaps[int]"], unfollowed := true, recurses := true, named := ["armarium/crc.halves", "math/bits.deBruijn64tab"], apart := false, laid := [("armarium/crc.halves", laid_armarium_crc_halves), ("math/bits.deBruijn64tab", laid_math_bits_deBruijn64tab)], narrowed := true }
def ForestKeepsUptoSaid : Prop := forestKeepsUptoRow.holds Tryz.pinned (OpenSpec.upto forestKeepsSpec)

/-- 'armariumlaw11.ForestPlays', WHERE WHAT IT READS IS OF BULK AT MOST 1048576: true; the input reads as it did. -/
def forestPlaysUptoRow : OpenClaim := { program := "ythafakdplhdfjaagreatdoor", sum := "730bd2cfbc00c0529bc8086304da96a4a9148cd6840959933a11dec4bb42f665", func := "armarium/armariumlaw11.ForestPlays", spec := "forestPlays", inPlace := ["internal/abi.NoEscape", "internal/bytealg.MakeNoZero", "slices.overlaps[string]", "slices.overlaps[int]"], unfollowed := true, recurses := true, named := ["armarium/crc.halves", "math/bits.deBruijn64tab"], apart := false, laid := [("armarium/crc.halves", laid_armarium_crc_halves), ("math/bits.deBruijn64tab", laid_math_bits_deBruijn64tab)], narrowed := true }
def ForestPlaysUptoSaid : Prop := forestPlaysUptoRow.holds Tryz.pinned (OpenSpec.upto forestPlaysSpec)

/-- 'armariumlaw11.ForestNil', WHERE WHAT IT READS IS OF BULK AT MOST 1048576: true; the input reads as it did. -/
def forestNilUptoRow : OpenClaim := { program := "ythafakdplhdfjaagreatdoor", sum := "730bd2cfbc00c0529bc8086304da96a4a9148cd6840959933a11dec4bb42f665", func := "armarium/armariumlaw11.ForestNil", spec := "forestNil", inPlace := ["internal/abi.NoEscape", "internal/bytealg.MakeNoZero", "slices.overlaps[string]", "slices.overlaps[int]"], unfollowed := true, recurses := true, named := ["armarium/crc.halves", "math/bits.deBruijn64tab"], apart := false, laid := [("armarium/crc.halves", laid_armarium_crc_halves), ("math/bits.deBruijn64tab", laid_math_bits_deBruijn64tab)], narrowed := true }
def ForestNilUptoSaid : Prop := forestNilUptoRow.holds Tryz.pinned (OpenSpec.upto forestNilSpec)

end Rows
end Go.Proofs.YthafakdplhdfjaaGreatDoor
