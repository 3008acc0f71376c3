/-
  DERIVED. GIVEN WITH THE SEED: THE CARDS: each row of YtplhamichcnmmaaGreatDoorRows.lean that lists a variable, with what it lists TIED to the program's text (the seventh form; the later family's looks); each row that meets fmt, with fmt's text TOLD by the authors' own Lean function (tested against real Go, not proved from fmt's source: count such statements apart). THE CARD IS WHAT COUNTS. Prove the row's statement (the work); the ties are given (YtplhamichcnmmaaGreatDoorTie.lean); close each card by the builder's one call (the guide's Derived/Test/ToyasCard.lean, 'card_holds'). Laid BY PROGRAM, IN A SANDBOX (cutbox-door.mjs). By AI agents, Wed Nov 11 2026. No macro, syntax, notation, axiom, sorry.
-/
import Derived.Test.YtplhamichcnmmaaGreatDoorRows
import GoSem.ClaimSeven
namespace Go.Proofs.YtplhamichcnmmaaGreatDoor
namespace Rows

/-- THE TIED CARD OF 'armariumlaw08.PagesPlay'. -/
def pagesPlayCard : Claim7 := { stood := { row := pagesPlayRow, standIns := [], harness := (true, "1a785f4fd72d86b8b8165a7c9f660bd4dd7b48901f20bc532c6e22669a6e39a5"), looks := false }, kinds := [], alts := [], laidByText := true, laidKinds := [.data, .data], laidTests := true, laidLooks := .later }
def PagesPlayCardSaid : Prop := Claim7.holds Tryz.pinned (.plain (OpenSpec.ofChange pagesPlaySpec)) pagesPlayCard

/-- THE TIED CARD OF 'armariumlaw08.PagesForm'. -/
def pagesFormCard : Claim7 := { stood := { row := pagesFormRow, standIns := [], harness := (true, "1a785f4fd72d86b8b8165a7c9f660bd4dd7b48901f20bc532c6e22669a6e39a5"), looks := false }, kinds := [], alts := [], laidByText := true, laidKinds := [.data, .data], laidTests := true, laidLooks := .later }
def PagesFormCardSaid : Prop := Claim7.holds Tryz.pinned (.plain (OpenSpec.ofChange pagesFormSpec)) pagesFormCard

/-- THE TIED CARD OF 'armariumlaw08.PagesKeep'. -/
def pagesKeepCard : Claim7 := { stood := { row := pagesKeepRow, standIns := [], harness := (true, "1a785f4fd72d86b8b8165a7c9f660bd4dd7b48901f20bc532c6e22669a6e39a5"), looks := false }, kinds := [], alts := [], laidByText := true, laidKinds := [.data, .data], laidTests := true, laidLooks := .later }
def PagesKeepCardSaid : Prop := Claim7.holds Tryz.pinned (.plain (OpenSpec.ofChange pagesKeepSpec)) pagesKeepCard

/-- THE SECOND FORM's CARD OF 'armariumlaw08.PagesPlay'. -/
def pagesPlayUptoCard : Claim7 := { stood := { row := pagesPlayUptoRow, standIns := [], harness := (true, "1a785f4fd72d86b8b8165a7c9f660bd4dd7b48901f20bc532c6e22669a6e39a5"), looks := false }, kinds := [], alts := [], laidByText := true, laidKinds := [.data, .data], laidTests := true, laidLooks := .later }
def PagesPlayUptoCardSaid : Prop := Claim7.holds Tryz.pinned (.plain (OpenSpec.upto pagesPlaySpec)) pagesPlayUptoCard

/-- THE SECOND FORM's CARD OF 'armariumlaw08.PagesForm'. -/
def pagesFormUptoCard : Claim7 := { stood := { row := pagesFormUptoRow, standIns := [], harness := (true, "1a785f4fd72d86b8b8165a7c9f660bd4dd7b48901f20bc532c6e22669a6e39a5"), looks := false }, kinds := [], alts := [], laidByText := true, laidKinds := [.data, .data], laidTests := true, laidLooks := .later }
def PagesFormUptoCardSaid : Prop := Claim7.holds Tryz.pinned (.plain (OpenSpec.upto pagesFormSpec)) pagesFormUptoCard

/-- THE SECOND FORM's CARD OF 'armariumlaw08.PagesKeep'. -/
def pagesKeepUptoCard : Claim7 := { stood := { row := pagesKeepUptoRow, standIns := [], harness := (true, "1a785f4fd72d86b8b8165a7c9f660bd4dd7b48901f20bc532c6e22669a6e39a5"), looks := false }, kinds := [], alts := [], laidByText := true, laidKinds := [.data, .data], laidTests := true, laidLooks := .later }
def PagesKeepUptoCardSaid : Prop := Claim7.holds Tryz.pinned (.plain (OpenSpec.upto pagesKeepSpec)) pagesKeepUptoCard
end Rows
end Go.Proofs.YtplhamichcnmmaaGreatDoor
