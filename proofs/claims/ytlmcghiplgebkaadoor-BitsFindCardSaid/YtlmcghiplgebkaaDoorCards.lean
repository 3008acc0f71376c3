/-
  DERIVED. GIVEN WITH THE SEED: THE CARDS: each row of YtlmcghiplgebkaaDoorRows.lean that lists a variable, with what it lists TIED to the program's text (the seventh form; the later family's looks); each row that meets fmt, with fmt's text TOLD by the authors' own Lean function (tested against real Go, not proved from fmt's source: count such statements apart). THE CARD IS WHAT COUNTS. Prove the row's statement (the work); the ties are given (YtlmcghiplgebkaaDoorTie.lean); close each card by the builder's one call (the guide's Derived/Test/ToyasCard.lean, 'card_holds'). Laid BY PROGRAM, IN A SANDBOX (cutbox-door.mjs). By AI agents, Wed Nov 11 2026. No macro, syntax, notation, axiom, sorry.
-/
import Derived.Test.YtlmcghiplgebkaaDoorRows
import GoSem.ClaimSeven
namespace Go.Proofs.YtlmcghiplgebkaaDoor
namespace Rows

/-- THE TIED CARD OF 'armariumlaw07.BitsPlays'. -/
def bitsPlaysCard : Claim7 := { stood := { row := bitsPlaysRow, standIns := [], harness := (true, "a1e94c163f24e2535fc6251b5e219d545f614314500154182cd4d6254deff13f"), looks := false }, kinds := [], alts := [], laidByText := true, laidKinds := [.data], laidTests := true, laidLooks := .later }
def BitsPlaysCardSaid : Prop := Claim7.holds Tryd.pinned (.plain (OpenSpec.ofChange bitsPlaysSpec)) bitsPlaysCard

/-- THE TIED CARD OF 'armariumlaw07.BitsTakes'. -/
def bitsTakesCard : Claim7 := { stood := { row := bitsTakesRow, standIns := [], harness := (true, "a1e94c163f24e2535fc6251b5e219d545f614314500154182cd4d6254deff13f"), looks := false }, kinds := [], alts := [], laidByText := true, laidKinds := [.data], laidTests := true, laidLooks := .later }
def BitsTakesCardSaid : Prop := Claim7.holds Tryd.pinned (.plain (OpenSpec.ofChange bitsTakesSpec)) bitsTakesCard

/-- THE TIED CARD OF 'armariumlaw07.BitsFind'. -/
def bitsFindCard : Claim7 := { stood := { row := bitsFindRow, standIns := [], harness := (true, "a1e94c163f24e2535fc6251b5e219d545f614314500154182cd4d6254deff13f"), looks := false }, kinds := [], alts := [], laidByText := true, laidKinds := [.data], laidTests := true, laidLooks := .later }
def BitsFindCardSaid : Prop := Claim7.holds Tryd.pinned (.plain (OpenSpec.ofChange bitsFindSpec)) bitsFindCard

/-- THE SECOND FORM's CARD OF 'armariumlaw07.BitsPlays'. -/
def bitsPlaysUptoCard : Claim7 := { stood := { row := bitsPlaysUptoRow, standIns := [], harness := (true, "a1e94c163f24e2535fc6251b5e219d545f614314500154182cd4d6254deff13f"), looks := false }, kinds := [], alts := [], laidByText := true, laidKinds := [.data], laidTests := true, laidLooks := .later }
def BitsPlaysUptoCardSaid : Prop := Claim7.holds Tryd.pinned (.plain (OpenSpec.upto bitsPlaysSpec)) bitsPlaysUptoCard

/-- THE SECOND FORM's CARD OF 'armariumlaw07.BitsTakes'. -/
def bitsTakesUptoCard : Claim7 := { stood := { row := bitsTakesUptoRow, standIns := [], harness := (true, "a1e94c163f24e2535fc6251b5e219d545f614314500154182cd4d6254deff13f"), looks := false }, kinds := [], alts := [], laidByText := true, laidKinds := [.data], laidTests := true, laidLooks := .later }
def BitsTakesUptoCardSaid : Prop := Claim7.holds Tryd.pinned (.plain (OpenSpec.upto bitsTakesSpec)) bitsTakesUptoCard

/-- THE SECOND FORM's CARD OF 'armariumlaw07.BitsFind'. -/
def bitsFindUptoCard : Claim7 := { stood := { row := bitsFindUptoRow, standIns := [], harness := (true, "a1e94c163f24e2535fc6251b5e219d545f614314500154182cd4d6254deff13f"), looks := false }, kinds := [], alts := [], laidByText := true, laidKinds := [.data], laidTests := true, laidLooks := .later }
def BitsFindUptoCardSaid : Prop := Claim7.holds Tryd.pinned (.plain (OpenSpec.upto bitsFindSpec)) bitsFindUptoCard
end Rows
end Go.Proofs.YtlmcghiplgebkaaDoor
