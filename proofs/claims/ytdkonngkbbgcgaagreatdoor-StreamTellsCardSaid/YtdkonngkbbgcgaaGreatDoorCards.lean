/-
  DERIVED. GIVEN WITH THE SEED: THE CARDS: each row of YtdkonngkbbgcgaaGreatDoorRows.lean that lists a variable, with what it lists TIED to the program's text (the seventh form; the later family's looks); each row that meets fmt, with fmt's text TOLD by the authors' own Lean function (tested against real Go, not proved from fmt's source: count such statements apart). THE CARD IS WHAT COUNTS. Prove the row's statement (the work); the ties are given (YtdkonngkbbgcgaaGreatDoorTie.lean); close each card by the builder's one call (the guide's Derived/Test/ToyasCard.lean, 'card_holds'). Laid BY PROGRAM, IN A SANDBOX (cutbox-door.mjs). By AI agents, Wed Nov 11 2026. No macro, syntax, notation, axiom, sorry.
-/
import Derived.Test.YtdkonngkbbgcgaaGreatDoorRows
import GoSem.ClaimSeven
namespace Go.Proofs.YtdkonngkbbgcgaaGreatDoor
namespace Rows

/-- THE TIED CARD OF 'armariumlaw33.StreamTells'. -/
def streamTellsCard : Claim7 := { stood := { row := streamTellsRow, standIns := [], harness := (true, "3d84ad4cbf65eb2d9c868e5fd2feeb92d2963a158bc35b64af6920defde6d614"), looks := true }, kinds := [], alts := [], laidByText := true, laidKinds := [.data, .data, .data], laidTests := true, laidLooks := .later }
def StreamTellsCardSaid : Prop := Claim7.holds Tryz.pinned (.plain (OpenSpec.ofChange streamTellsSpec)) streamTellsCard

/-- THE TIED CARD OF 'armariumlaw33.StreamBack'. -/
def streamBackCard : Claim7 := { stood := { row := streamBackRow, standIns := [], harness := (true, "3d84ad4cbf65eb2d9c868e5fd2feeb92d2963a158bc35b64af6920defde6d614"), looks := true }, kinds := [], alts := [], laidByText := true, laidKinds := [.data, .data, .data], laidTests := true, laidLooks := .later }
def StreamBackCardSaid : Prop := Claim7.holds Tryz.pinned (.plain (OpenSpec.ofChange streamBackSpec)) streamBackCard

/-- THE SECOND FORM's CARD OF 'armariumlaw33.StreamTells'. -/
def streamTellsUptoCard : Claim7 := { stood := { row := streamTellsUptoRow, standIns := [], harness := (true, "3d84ad4cbf65eb2d9c868e5fd2feeb92d2963a158bc35b64af6920defde6d614"), looks := true }, kinds := [], alts := [], laidByText := true, laidKinds := [.data, .data, .data], laidTests := true, laidLooks := .later }
def StreamTellsUptoCardSaid : Prop := Claim7.holds Tryz.pinned (.plain (OpenSpec.upto streamTellsSpec)) streamTellsUptoCard

/-- THE SECOND FORM's CARD OF 'armariumlaw33.StreamBack'. -/
def streamBackUptoCard : Claim7 := { stood := { row := streamBackUptoRow, standIns := [], harness := (true, "3d84ad4cbf65eb2d9c868e5fd2feeb92d2963a158bc35b64af6920defde6d614"), looks := true }, kinds := [], alts := [], laidByText := true, laidKinds := [.data, .data, .data], laidTests := true, laidLooks := .later }
def StreamBackUptoCardSaid : Prop := Claim7.holds Tryz.pinned (.plain (OpenSpec.upto streamBackSpec)) streamBackUptoCard
end Rows
end Go.Proofs.YtdkonngkbbgcgaaGreatDoor
