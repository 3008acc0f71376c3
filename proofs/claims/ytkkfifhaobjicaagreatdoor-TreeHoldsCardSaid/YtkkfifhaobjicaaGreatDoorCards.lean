/-
  DERIVED. GIVEN WITH THE SEED: THE CARDS: each row of YtkkfifhaobjicaaGreatDoorRows.lean that lists a variable, with what it lists TIED to the program's text (the seventh form; the later family's looks); each row that meets fmt, with fmt's text TOLD by the authors' own Lean function (tested against real Go, not proved from fmt's source: count such statements apart). THE CARD IS WHAT COUNTS. Prove the row's statement (the work); the ties are given (YtkkfifhaobjicaaGreatDoorTie.lean); close each card by the builder's one call (the guide's Derived/Test/ToyasCard.lean, 'card_holds'). Laid BY PROGRAM, IN A SANDBOX (cutbox-door.mjs). By AI agents, Wed Nov 11 2026. No macro, syntax, notation, axiom, sorry.
-/
import Derived.Test.YtkkfifhaobjicaaGreatDoorRows
import GoSem.ClaimSeven
namespace Go.Proofs.YtkkfifhaobjicaaGreatDoor
namespace Rows

/-- THE TIED CARD OF 'armariumlaw10.TreePlays'. -/
def treePlaysCard : Claim7 := { stood := { row := treePlaysRow, standIns := [], harness := (true, "cf185ba9fa98ff7c920960fb05ef2e92f2a4622f5a1439197cb45d7bb2bcbdf7"), looks := true }, kinds := [], alts := [], laidByText := true, laidKinds := [.data, .data], laidTests := true, laidLooks := .later }
def TreePlaysCardSaid : Prop := Claim7.holds Tryz.pinned (.plain (OpenSpec.ofChange treePlaysSpec)) treePlaysCard

/-- THE TIED CARD OF 'armariumlaw10.TreeErrs'. -/
def treeErrsCard : Claim7 := { stood := { row := treeErrsRow, standIns := [], harness := (true, "cf185ba9fa98ff7c920960fb05ef2e92f2a4622f5a1439197cb45d7bb2bcbdf7"), looks := true }, kinds := [], alts := [], laidByText := true, laidKinds := [.data, .data], laidTests := true, laidLooks := .later }
def TreeErrsCardSaid : Prop := Claim7.holds Tryz.pinned (.plain (OpenSpec.ofChange treeErrsSpec)) treeErrsCard

/-- THE TIED CARD OF 'armariumlaw10.TreeHolds'. -/
def treeHoldsCard : Claim7 := { stood := { row := treeHoldsRow, standIns := [], harness := (true, "cf185ba9fa98ff7c920960fb05ef2e92f2a4622f5a1439197cb45d7bb2bcbdf7"), looks := true }, kinds := [], alts := [], laidByText := true, laidKinds := [.data, .data], laidTests := true, laidLooks := .later }
def TreeHoldsCardSaid : Prop := Claim7.holds Tryz.pinned (.plain (OpenSpec.ofChange treeHoldsSpec)) treeHoldsCard

/-- THE SECOND FORM's CARD OF 'armariumlaw10.TreePlays'. -/
def treePlaysUptoCard : Claim7 := { stood := { row := treePlaysUptoRow, standIns := [], harness := (true, "cf185ba9fa98ff7c920960fb05ef2e92f2a4622f5a1439197cb45d7bb2bcbdf7"), looks := true }, kinds := [], alts := [], laidByText := true, laidKinds := [.data, .data], laidTests := true, laidLooks := .later }
def TreePlaysUptoCardSaid : Prop := Claim7.holds Tryz.pinned (.plain (OpenSpec.upto treePlaysSpec)) treePlaysUptoCard

/-- THE SECOND FORM's CARD OF 'armariumlaw10.TreeErrs'. -/
def treeErrsUptoCard : Claim7 := { stood := { row := treeErrsUptoRow, standIns := [], harness := (true, "cf185ba9fa98ff7c920960fb05ef2e92f2a4622f5a1439197cb45d7bb2bcbdf7"), looks := true }, kinds := [], alts := [], laidByText := true, laidKinds := [.data, .data], laidTests := true, laidLooks := .later }
def TreeErrsUptoCardSaid : Prop := Claim7.holds Tryz.pinned (.plain (OpenSpec.upto treeErrsSpec)) treeErrsUptoCard

/-- THE SECOND FORM's CARD OF 'armariumlaw10.TreeHolds'. -/
def treeHoldsUptoCard : Claim7 := { stood := { row := treeHoldsUptoRow, standIns := [], harness := (true, "cf185ba9fa98ff7c920960fb05ef2e92f2a4622f5a1439197cb45d7bb2bcbdf7"), looks := true }, kinds := [], alts := [], laidByText := true, laidKinds := [.data, .data], laidTests := true, laidLooks := .later }
def TreeHoldsUptoCardSaid : Prop := Claim7.holds Tryz.pinned (.plain (OpenSpec.upto treeHoldsSpec)) treeHoldsUptoCard
end Rows
end Go.Proofs.YtkkfifhaobjicaaGreatDoor
