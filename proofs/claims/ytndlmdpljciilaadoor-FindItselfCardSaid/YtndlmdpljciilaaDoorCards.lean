/-
  DERIVED. GIVEN WITH THE SEED: THE CARDS: each row of YtndlmdpljciilaaDoorRows.lean that lists a variable, with what it lists TIED to the program's text (the seventh form; the later family's looks); each row that meets fmt, with fmt's text TOLD by the authors' own Lean function (tested against real Go, not proved from fmt's source: count such statements apart). THE CARD IS WHAT COUNTS. Prove the row's statement (the work); the ties are given (YtndlmdpljciilaaDoorTie.lean); close each card by the builder's one call (the guide's Derived/Test/ToyasCard.lean, 'card_holds'). Laid BY PROGRAM, IN A SANDBOX (cutbox-door.mjs). By AI agents, Wed Nov 11 2026. No macro, syntax, notation, axiom, sorry.
-/
import Derived.Test.YtndlmdpljciilaaDoorRows
import GoSem.ClaimSeven
namespace Go.Proofs.YtndlmdpljciilaaDoor
namespace Rows

/-- THE TIED CARD OF 'armariumlaw31.FindMatches'. -/
def findMatchesCard : Claim7 := { stood := { row := findMatchesRow, standIns := [], harness := (true, "7f4a534c12f4f12a563f9b2907607639960fce7ba0595b4b0214f331c2d20ffb"), looks := false }, kinds := [], alts := [], laidByText := true, laidKinds := [.data, .pinned], laidTests := true, laidLooks := .later }
def FindMatchesCardSaid : Prop := Claim7.holds Tryd.pinned (.plain (OpenSpec.ofChange findMatchesSpec)) findMatchesCard

/-- THE TIED CARD OF 'armariumlaw31.FindWider'. -/
def findWiderCard : Claim7 := { stood := { row := findWiderRow, standIns := [], harness := (true, "7f4a534c12f4f12a563f9b2907607639960fce7ba0595b4b0214f331c2d20ffb"), looks := false }, kinds := [], alts := [], laidByText := true, laidKinds := [.data, .pinned], laidTests := true, laidLooks := .later }
def FindWiderCardSaid : Prop := Claim7.holds Tryd.pinned (.plain (OpenSpec.ofChange findWiderSpec)) findWiderCard

/-- THE TIED CARD OF 'armariumlaw31.FindFinds'. -/
def findFindsCard : Claim7 := { stood := { row := findFindsRow, standIns := [], harness := (true, "7f4a534c12f4f12a563f9b2907607639960fce7ba0595b4b0214f331c2d20ffb"), looks := false }, kinds := [], alts := [], laidByText := true, laidKinds := [.data, .funcs, .pinned], laidTests := true, laidLooks := .later }
def FindFindsCardSaid : Prop := Claim7.holds Tryd.pinned (.plain (OpenSpec.ofChange findFindsSpec)) findFindsCard

/-- THE TIED CARD OF 'armariumlaw31.FindItself'. -/
def findItselfCard : Claim7 := { stood := { row := findItselfRow, standIns := [], harness := (true, "7f4a534c12f4f12a563f9b2907607639960fce7ba0595b4b0214f331c2d20ffb"), looks := false }, kinds := [], alts := [], laidByText := true, laidKinds := [.data, .funcs, .pinned], laidTests := true, laidLooks := .later }
def FindItselfCardSaid : Prop := Claim7.holds Tryd.pinned (.plain (OpenSpec.ofChange findItselfSpec)) findItselfCard

/-- THE SECOND FORM's CARD OF 'armariumlaw31.FindMatches'. -/
def findMatchesUptoCard : Claim7 := { stood := { row := findMatchesUptoRow, standIns := [], harness := (true, "7f4a534c12f4f12a563f9b2907607639960fce7ba0595b4b0214f331c2d20ffb"), looks := false }, kinds := [], alts := [], laidByText := true, laidKinds := [.data, .pinned], laidTests := true, laidLooks := .later }
def FindMatchesUptoCardSaid : Prop := Claim7.holds Tryd.pinned (.plain (OpenSpec.upto findMatchesSpec)) findMatchesUptoCard

/-- THE SECOND FORM's CARD OF 'armariumlaw31.FindWider'. -/
def findWiderUptoCard : Claim7 := { stood := { row := findWiderUptoRow, standIns := [], harness := (true, "7f4a534c12f4f12a563f9b2907607639960fce7ba0595b4b0214f331c2d20ffb"), looks := false }, kinds := [], alts := [], laidByText := true, laidKinds := [.data, .pinned], laidTests := true, laidLooks := .later }
def FindWiderUptoCardSaid : Prop := Claim7.holds Tryd.pinned (.plain (OpenSpec.upto findWiderSpec)) findWiderUptoCard

/-- THE SECOND FORM's CARD OF 'armariumlaw31.FindFinds'. -/
def findFindsUptoCard : Claim7 := { stood := { row := findFindsUptoRow, standIns := [], harness := (true, "7f4a534c12f4f12a563f9b2907607639960fce7ba0595b4b0214f331c2d20ffb"), looks := false }, kinds := [], alts := [], laidByText := true, laidKinds := [.data, .funcs, .pinned], laidTests := true, laidLooks := .later }
def FindFindsUptoCardSaid : Prop := Claim7.holds Tryd.pinned (.plain (OpenSpec.upto findFindsSpec)) findFindsUptoCard

/-- THE SECOND FORM's CARD OF 'armariumlaw31.FindItself'. -/
def findItselfUptoCard : Claim7 := { stood := { row := findItselfUptoRow, standIns := [], harness := (true, "7f4a534c12f4f12a563f9b2907607639960fce7ba0595b4b0214f331c2d20ffb"), looks := false }, kinds := [], alts := [], laidByText := true, laidKinds := [.data, .funcs, .pinned], laidTests := true, laidLooks := .later }
def FindItselfUptoCardSaid : Prop := Claim7.holds Tryd.pinned (.plain (OpenSpec.upto findItselfSpec)) findItselfUptoCard
end Rows
end Go.Proofs.YtndlmdpljciilaaDoor
