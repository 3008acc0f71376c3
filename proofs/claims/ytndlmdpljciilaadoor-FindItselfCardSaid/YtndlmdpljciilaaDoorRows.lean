/-
  NARROWER THAN 'FOR EVERY INPUT', by the rows' own cells (each row's printed sentence says how): FindMatches: laid · FindWider: laid · FindFinds: laid · FindItself: laid.
  DERIVED. THE GIVEN ROWS OF THIS SEAT. 4 by the template 'for every input the law returns true; each argument reads behind the call as it read before'; 0 by the template 'total and deterministic' (their statements: YtndlmdpljciilaaDoorTotals.lean).
  GIVEN WITH THE SEED: the statements are not yours to turn. If you find one false, say at which input.
  Laid BY PROGRAM, IN A SANDBOX (cutbox-rows.mjs): the forced cells as the released guide's own fill.sh prints them over the translation d47646a849f7733c… (all of the seat's roots in one cut). By AI agents, Wed Nov 11 2026. No macro, syntax, notation, axiom, sorry.
-/
import Derived.Test.YtndlmdpljciilaaDoorChecked
import GoSem.PinnedTables
import GoSem.Claim
import GoSem.ClaimJoined
import GoSem.ClaimMapViews
import Derived.JoinedTies
import Derived.KernelRfl
namespace Go.Proofs.YtndlmdpljciilaaDoor
/- THE CELL 'sum', in the pinned program and in every row, IS THE sha256 OF THE DUMP (.gsa) THAT YtndlmdpljciilaaDoorProg.lean LOADS. Nothing in Lean hashes anything: it is a label: what it is worth is what the hold of that sum in a sandbox is worth. -/
noncomputable def Tryd.pinned : Pinned := { name := "ytndlmdpljciilaadoor", sum := "d47646a849f7733c7fc1e650d39d2f38ba168897e2760bffed402ab39c24d6bf", checked := Tryd.checked }
namespace Rows
def none {H : Type} : Left H := { results := [], args := [] }

/- WHAT THE LISTED PACKAGE-LEVEL VARIABLES READ AS WHEN THE CALL BEGINS. Each datum BY PROGRAM (the guide's laid-datum.mjs) off the statement by which the dump's own 'gosem.cut.vars' lays the variable. In a bare row this is a premise. The card (YtndlmdpljciilaaDoorCards.lean) ties it to the program's text. -/
def laid_unicode_utf8_acceptRanges {H : Type} : DataW H := .agg [.agg [.lit (.int .u8 128), .lit (.int .u8 191)], .agg [.lit (.int .u8 160), .lit (.int .u8 191)], .agg [.lit (.int .u8 128), .lit (.int .u8 159)], .agg [.lit (.int .u8 144), .lit (.int .u8 191)], .agg [.lit (.int .u8 128), .lit (.int .u8 143)], .agg [.lit (.int .u8 0), .lit (.int .u8 0)], .agg [.lit (.int .u8 0), .lit (.int .u8 0)], .agg [.lit (.int .u8 0), .lit (.int .u8 0)], .agg [.lit (.int .u8 0), .lit (.int .u8 0)], .agg [.lit (.int .u8 0), .lit (.int .u8 0)], .agg [.lit (.int .u8 0), .lit (.int .u8 0)], .agg [.lit (.int .u8 0), .lit (.int .u8 0)], .agg [.lit (.int .u8 0), .lit (.int .u8 0)], .agg [.lit (.int .u8 0), .lit (.int .u8 0)], .agg [.lit (.int .u8 0), .lit (.int .u8 0)], .agg [.lit (.int .u8 0), .lit (.int .u8 0)]]
/-- One of Go's own tables, pinned by name: the form's constant. -/
def laid_unicode_utf8_first : DataW Unit := Go.Pinned.utf8First
def laid_armarium_find_kinds {H : Type} : DataW H := .iface "func table" (.map [(.int .u8 0, .iface "func" (.lit (.string [97, 114, 109, 97, 114, 105, 117, 109, 47, 102, 105, 110, 100, 46, 107, 105, 110, 100, 115, 36, 49]))), (.int .u8 1, .iface "func" (.lit (.string [97, 114, 109, 97, 114, 105, 117, 109, 47, 102, 105, 110, 100, 46, 107, 105, 110, 100, 115, 36, 50]))), (.int .u8 2, .iface "func" (.lit (.string [97, 114, 109, 97, 114, 105, 117, 109, 47, 102, 105, 110, 100, 46, 107, 105, 110, 100, 115, 36, 51])))])

/-- 'armariumlaw31.FindMatches': WHATEVER THE INPUT: true; the input reads as it did. -/
def findMatchesSpec : ChangeSpec := { name := "findMatches", fn := fun _ => fun
  | [d1, d2, d3, d4] => { results := [.lit (.bool true)], args := [d1, d2, d3, d4] }
  | _ => none }
def findMatchesRow : OpenClaim := { program := "ytndlmdpljciilaadoor", sum := "d47646a849f7733c7fc1e650d39d2f38ba168897e2760bffed402ab39c24d6bf", func := "armarium/armariumlaw31.FindMatches", spec := "findMatches", inPlace := ["internal/bytealg.CountString", "internal/bytealg.IndexByteString", "internal/bytealg.IndexString"], unfollowed := true, recurses := true, named := ["unicode/utf8.first", "unicode/utf8.acceptRanges", "internal/bytealg.MaxLen"], apart := false, laid := [("unicode/utf8.acceptRanges", laid_unicode_utf8_acceptRanges), ("unicode/utf8.first", laid_unicode_utf8_first)] }
def FindMatchesSaid : Prop := findMatchesRow.holds Tryd.pinned (OpenSpec.ofChange findMatchesSpec)

/-- ITS FALSE NEIGHBOUR: 'it returns false'. Refute it at one input. -/
def findMatchesWrong : ChangeSpec := { name := "findMatches", fn := fun _ => fun
  | [d1, d2, d3, d4] => { results := [.lit (.bool false)], args := [d1, d2, d3, d4] }
  | _ => none }
def FindMatchesWrongFalsely : Prop := findMatchesRow.holds Tryd.pinned (OpenSpec.ofChange findMatchesWrong)

/-- 'armariumlaw31.FindWider': WHATEVER THE INPUT: true; the input reads as it did. -/
def findWiderSpec : ChangeSpec := { name := "findWider", fn := fun _ => fun
  | [d1, d2, d3, d4] => { results := [.lit (.bool true)], args := [d1, d2, d3, d4] }
  | _ => none }
def findWiderRow : OpenClaim := { program := "ytndlmdpljciilaadoor", sum := "d47646a849f7733c7fc1e650d39d2f38ba168897e2760bffed402ab39c24d6bf", func := "armarium/armariumlaw31.FindWider", spec := "findWider", inPlace := ["internal/bytealg.CountString", "internal/bytealg.IndexByteString", "internal/bytealg.IndexString"], unfollowed := true, recurses := true, named := ["unicode/utf8.first", "unicode/utf8.acceptRanges", "internal/bytealg.MaxLen"], apart := false, laid := [("unicode/utf8.acceptRanges", laid_unicode_utf8_acceptRanges), ("unicode/utf8.first", laid_unicode_utf8_first)] }
def FindWiderSaid : Prop := findWiderRow.holds Tryd.pinned (OpenSpec.ofChange findWiderSpec)

/-- ITS FALSE NEIGHBOUR: 'it returns false'. Refute it at one input. -/
def findWiderWrong : ChangeSpec := { name := "findWider", fn := fun _ => fun
  | [d1, d2, d3, d4] => { results := [.lit (.bool false)], args := [d1, d2, d3, d4] }
  | _ => none }
def FindWiderWrongFalsely : Prop := findWiderRow.holds Tryd.pinned (OpenSpec.ofChange findWiderWrong)

/-- 'armariumlaw31.FindFinds': WHATEVER THE INPUT: true; the input reads as it did. -/
def findFindsSpec : ChangeSpec := { name := "findFinds", fn := fun _ => fun
  | [d1, d2] => { results := [.lit (.bool true)], args := [d1, d2] }
  | _ => none }
def findFindsRow : OpenClaim := { program := "ytndlmdpljciilaadoor", sum := "d47646a849f7733c7fc1e650d39d2f38ba168897e2760bffed402ab39c24d6bf", func := "armarium/armariumlaw31.FindFinds", spec := "findFinds", inPlace := ["internal/bytealg.IndexByteString", "internal/bytealg.IndexString", "internal/bytealg.abigen_runtime_cmpstring", "internal/abi.NoEscape", "internal/bytealg.MakeNoZero", "internal/bytealg.CountString"], unfollowed := true, recurses := true, named := ["unicode/utf8.first", "unicode/utf8.acceptRanges", "internal/bytealg.MaxLen", "armarium/find.kinds"], apart := false, laid := [("unicode/utf8.acceptRanges", laid_unicode_utf8_acceptRanges), ("armarium/find.kinds", laid_armarium_find_kinds), ("unicode/utf8.first", laid_unicode_utf8_first)] }
def FindFindsSaid : Prop := findFindsRow.holds Tryd.pinned (OpenSpec.ofChange findFindsSpec)

/-- ITS FALSE NEIGHBOUR: 'it returns false'. Refute it at one input. -/
def findFindsWrong : ChangeSpec := { name := "findFinds", fn := fun _ => fun
  | [d1, d2] => { results := [.lit (.bool false)], args := [d1, d2] }
  | _ => none }
def FindFindsWrongFalsely : Prop := findFindsRow.holds Tryd.pinned (OpenSpec.ofChange findFindsWrong)

/-- 'armariumlaw31.FindItself': WHATEVER THE INPUT: true; the input reads as it did. -/
def findItselfSpec : ChangeSpec := { name := "findItself", fn := fun _ => fun
  | [d1, d2] => { results := [.lit (.bool true)], args := [d1, d2] }
  | _ => none }
def findItselfRow : OpenClaim := { program := "ytndlmdpljciilaadoor", sum := "d47646a849f7733c7fc1e650d39d2f38ba168897e2760bffed402ab39c24d6bf", func := "armarium/armariumlaw31.FindItself", spec := "findItself", inPlace := ["internal/bytealg.IndexByteString", "internal/bytealg.IndexString", "internal/bytealg.abigen_runtime_cmpstring", "internal/abi.NoEscape", "internal/bytealg.MakeNoZero", "internal/bytealg.CountString"], unfollowed := true, recurses := true, named := ["unicode/utf8.first", "unicode/utf8.acceptRanges", "internal/bytealg.MaxLen", "armarium/find.kinds"], apart := false, laid := [("unicode/utf8.acceptRanges", laid_unicode_utf8_acceptRanges), ("armarium/find.kinds", laid_armarium_find_kinds), ("unicode/utf8.first", laid_unicode_utf8_first)] }
def FindItselfSaid : Prop := findItselfRow.holds Tryd.pinned (OpenSpec.ofChange findItselfSpec)

/-- ITS FALSE NEIGHBOUR: 'it returns false'. Refute it at one input. -/
def findItselfWrong : ChangeSpec := { name := "findItself", fn := fun _ => fun
  | [d1, d2] => { results := [.lit (.bool false)], args := [d1, d2] }
  | _ => none }
def FindItselfWrongFalsely : Prop := findItselfRow.holds Tryd.pinned (OpenSpec.ofChange findItselfWrong)

/- THE SECOND FORM. 'bulk': how many values and letters a reading holds, each counted each time it is reached (what is shared counts as often as it is met; a slice's spare places count too). A statement '..UptoSaid' is the law's where the arguments, and the package variables that the reading takes, are together of bulk at most 1048576: NARROWER than '..Said'. Prove '..Said' where nothing that the law and all that it calls make is longer than what came in: it says more and counts as full. Else prove '..UptoSaid'. A law counts once. -/
mutual
def uptoBulk {H : Type} : DataW H → Nat
  | .lit (.string bytes) => bytes.length + 1
  | .lit _ => 1
  | .nil => 1
  | .ptr d => uptoBulk d + 1
  | .slice elems spare => uptoBulkAll elems + uptoBulkAll spare + 1
  | .agg parts => uptoBulkAll parts + 1
  | .iface _ d => uptoBulk d + 1
  | .map entries => uptoBulkEntries entries + 1
  | .held _ => 1
def uptoBulkAll {H : Type} : List (DataW H) → Nat
  | [] => 0
  | d :: r => uptoBulk d + uptoBulkAll r
def uptoBulkEntries {H : Type} : List (Lit × DataW H) → Nat
  | [] => 0
  | x :: r => uptoBulkEntry x + uptoBulkEntries r
def uptoBulkEntry {H : Type} : Lit × DataW H → Nat
  | (.string bytes, d) => bytes.length + uptoBulk d + 1
  | (_, d) => uptoBulk d + 1
 end
def uptoSmall : (H : Type) → List (DataW H) → Bool := fun _ ds => decide (uptoBulkAll ds ≤ 1048576)
def OpenSpec.upto (s : _root_.Go.ChangeSpec) : _root_.Go.OpenSpec := { _root_.Go.OpenSpec.ofChange s with cond := some uptoSmall }

/-- 'armariumlaw31.FindMatches', WHERE WHAT IT READS IS OF BULK AT MOST 1048576: true; the input reads as it did. -/
def findMatchesUptoRow : OpenClaim := { program := "ytndlmdpljciilaadoor", sum := "d47646a849f7733c7fc1e650d39d2f38ba168897e2760bffed402ab39c24d6bf", func := "armarium/armariumlaw31.FindMatches", spec := "findMatches", inPlace := ["internal/bytealg.CountString", "internal/bytealg.IndexByteString", "internal/bytealg.IndexString"], unfollowed := true, recurses := true, named := ["unicode/utf8.first", "unicode/utf8.acceptRanges", "internal/bytealg.MaxLen"], apart := false, laid := [("unicode/utf8.acceptRanges", laid_unicode_utf8_acceptRanges), ("unicode/utf8.first", laid_unicode_utf8_first)], narrowed := true }
def FindMatchesUptoSaid : Prop := findMatchesUptoRow.holds Tryd.pinned (OpenSpec.upto findMatchesSpec)

/-- 'armariumlaw31.FindWider', WHERE WHAT IT READS IS OF BULK AT MOST 1048576: true; the input reads as it did. -/
def findWiderUptoRow : OpenClaim := { program := "ytndlmdpljciilaadoor", sum := "d47646a849f7733c7fc1e650d39d2f38ba168897e2760bffed402ab39c24d6bf", func := "armarium/armariumlaw31.FindWider", spec := "findWider", inPlace := ["internal/bytealg.CountString", "internal/bytealg.IndexByteString", "internal/bytealg.IndexString"], unfollowed := true, recurses := true, named := ["unicode/utf8.first", "unicode/utf8.acceptRanges", "internal/bytealg.MaxLen"], apart := false, laid := [("unicode/utf8.acceptRanges", laid_unicode_utf8_acceptRanges), ("unicode/utf8.first", laid_unicode_utf8_first)], narrowed := true }
def FindWiderUptoSaid : Prop := findWiderUptoRow.holds Tryd.pinned (OpenSpec.upto findWiderSpec)

/-- 'armariumlaw31.FindFinds', WHERE WHAT IT READS IS OF BULK AT MOST 1048576: true; the input reads as it did. -/
def findFindsUptoRow : OpenClaim := { program := "ytndlmdpljciilaadoor", sum := "d47646a849f7733c7fc1e650d39d2f38ba168897e2760bffed402ab39c24d6bf", func := "armarium/armariumlaw31.FindFinds", spec := "findFinds", inPlace := ["internal/bytealg.IndexByteString", "internal/bytealg.IndexString", "internal/bytealg.abigen_runtime_cmpstring", "internal/abi.NoEscape", "internal/bytealg.MakeNoZero", "internal/bytealg.CountString"], unfollowed := true, recurses := true, named := ["unicode/utf8.first", "unicode/utf8.acceptRanges", "internal/bytealg.MaxLen", "armarium/find.kinds"], apart := false, laid := [("unicode/utf8.acceptRanges", laid_unicode_utf8_acceptRanges), ("armarium/find.kinds", laid_armarium_find_kinds), ("unicode/utf8.first", laid_unicode_utf8_first)], narrowed := true }
def FindFindsUptoSaid : Prop := findFindsUptoRow.holds Tryd.pinned (OpenSpec.upto findFindsSpec)

/-- 'armariumlaw31.FindItself', WHERE WHAT IT READS IS OF BULK AT MOST 1048576: true; the input reads as it did. -/
def findItselfUptoRow : OpenClaim := { program := "ytndlmdpljciilaadoor", sum := "d47646a849f7733c7fc1e650d39d2f38ba168897e2760bffed402ab39c24d6bf", func := "armarium/armariumlaw31.FindItself", spec := "findItself", inPlace := ["internal/bytealg.IndexByteString", "internal/bytealg.IndexString", "internal/bytealg.abigen_runtime_cmpstring", "internal/abi.NoEscape", "internal/bytealg.MakeNoZero", "internal/bytealg.CountString"], unfollowed := true, recurses := true, named := ["unicode/utf8.first", "unicode/utf8.acceptRanges", "internal/bytealg.MaxLen", "armarium/find.kinds"], apart := false, laid := [("unicode/utf8.acceptRanges", laid_unicode_utf8_acceptRanges), ("armarium/find.kinds", laid_armarium_find_kinds), ("unicode/utf8.first", laid_unicode_utf8_first)], narrowed := true }
def FindItselfUptoSaid : Prop := findItselfUptoRow.holds Tryd.pinned (OpenSpec.upto findItselfSpec)

end Rows
end Go.Proofs.YtndlmdpljciilaaDoor
