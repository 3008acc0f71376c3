/-
  DERIVED. GIVEN WITH THE SEED: THE CARDS: each row of YthafakdplhdfjaaGreatDoorRows.lean that lists a variable, with what it lists TIED to the program's text (the seventh form; the later family's looks); each row that meets fmt, with fmt's text TOLD by the authors' own Lean function (tested against real Go, not proved from fmt's source: count such statements apart). THE CARD IS WHAT COUNTS. Prove the row's statement (the work); the ties are given (YthafakdplhdfjaaGreatDoorTie.lean); close each card by the builder's one call (the guide's Derived/Test/ToyasCard.lean, 'card_holds'). Laid BY PROGRAM, IN A SANDBOX (cutbox-door.mjs). By AI agents, Wed Nov 11 2026. No macro, syntax, notation, axiom, sorry.
-/
import Derived.Test.YthafakdplhdfjaaGreatDoorRows
import GoSem.ClaimSeven
namespace Go.Proofs.YthafakdplhdfjaaGreatDoor
namespace Rows

/-- THE TIED CARD OF 'armariumlaw16.CountPlays'. -/
def countPlaysCard : Claim7 := { stood := { row := countPlaysRow, standIns := [], harness := (true, "7e1a7f2fb979f989450b374d4e21731b79fa72f8e3f5435198a788643b75879e"), looks := true }, kinds := [], alts := [], laidByText := true, laidKinds := [.data, .data], laidTests := true, laidLooks := .later }
def CountPlaysCardSaid : Prop := Claim7.holds Tryz.pinned (.plain (OpenSpec.ofChange countPlaysSpec)) countPlaysCard

/-- THE TIED CARD OF 'armariumlaw16.CountNil'. -/
def countNilCard : Claim7 := { stood := { row := countNilRow, standIns := [], harness := (true, "7e1a7f2fb979f989450b374d4e21731b79fa72f8e3f5435198a788643b75879e"), looks := true }, kinds := [], alts := [], laidByText := true, laidKinds := [.data, .data], laidTests := true, laidLooks := .later }
def CountNilCardSaid : Prop := Claim7.holds Tryz.pinned (.plain (OpenSpec.ofChange countNilSpec)) countNilCard

/-- THE TIED CARD OF 'armariumlaw16.CountSums'. -/
def countSumsCard : Claim7 := { stood := { row := countSumsRow, standIns := [], harness := (true, "7e1a7f2fb979f989450b374d4e21731b79fa72f8e3f5435198a788643b75879e"), looks := true }, kinds := [], alts := [], laidByText := true, laidKinds := [.data, .data], laidTests := true, laidLooks := .later }
def CountSumsCardSaid : Prop := Claim7.holds Tryz.pinned (.plain (OpenSpec.ofChange countSumsSpec)) countSumsCard

/-- THE TIED CARD OF 'armariumlaw11.ForestKeeps'. -/
def forestKeepsCard : Claim7 := { stood := { row := forestKeepsRow, standIns := [], harness := (true, "7e1a7f2fb979f989450b374d4e21731b79fa72f8e3f5435198a788643b75879e"), looks := true }, kinds := [], alts := [], laidByText := true, laidKinds := [.data, .data], laidTests := true, laidLooks := .later }
def ForestKeepsCardSaid : Prop := Claim7.holds Tryz.pinned (.plain (OpenSpec.ofChange forestKeepsSpec)) forestKeepsCard

/-- THE TIED CARD OF 'armariumlaw11.ForestPlays'. -/
def forestPlaysCard : Claim7 := { stood := { row := forestPlaysRow, standIns := [], harness := (true, "7e1a7f2fb979f989450b374d4e21731b79fa72f8e3f5435198a788643b75879e"), looks := true }, kinds := [], alts := [], laidByText := true, laidKinds := [.data, .data], laidTests := true, laidLooks := .later }
def ForestPlaysCardSaid : Prop := Claim7.holds Tryz.pinned (.plain (OpenSpec.ofChange forestPlaysSpec)) forestPlaysCard

/-- THE TIED CARD OF 'armariumlaw11.ForestNil'. -/
def forestNilCard : Claim7 := { stood := { row := forestNilRow, standIns := [], harness := (true, "7e1a7f2fb979f989450b374d4e21731b79fa72f8e3f5435198a788643b75879e"), looks := true }, kinds := [], alts := [], laidByText := true, laidKinds := [.data, .data], laidTests := true, laidLooks := .later }
def ForestNilCardSaid : Prop := Claim7.holds Tryz.pinned (.plain (OpenSpec.ofChange forestNilSpec)) forestNilCard

/-- THE SECOND FORM's CARD OF 'armariumlaw16.CountPlays'. -/
def countPlaysUptoCard : Claim7 := { stood := { row := countPlaysUptoRow, standIns := [], harness := (true, "7e1a7f2fb979f989450b374d4e21731b79fa72f8e3f5435198a788643b75879e"), looks := true }, kinds := [], alts := [], laidByText := true, laidKinds := [.data, .data], laidTests := true, laidLooks := .later }
def CountPlaysUptoCardSaid : Prop := Claim7.holds Tryz.pinned (.plain (OpenSpec.upto countPlaysSpec)) countPlaysUptoCard

/-- THE SECOND FORM's CARD OF 'armariumlaw16.CountNil'. -/
def countNilUptoCard : Claim7 := { stood := { row := countNilUptoRow, standIns := [], harness := (true, "7e1a7f2fb979f989450b374d4e21731b79fa72f8e3f5435198a788643b75879e"), looks := true }, kinds := [], alts := [], laidByText := true, laidKinds := [.data, .data], laidTests := true, laidLooks := .later }
def CountNilUptoCardSaid : Prop := Claim7.holds Tryz.pinned (.plain (OpenSpec.upto countNilSpec)) countNilUptoCard

/-- THE SECOND FORM's CARD OF 'armariumlaw16.CountSums'. -/
def countSumsUptoCard : Claim7 := { stood := { row := countSumsUptoRow, standIns := [], harness := (true, "7e1a7f2fb979f989450b374d4e21731b79fa72f8e3f5435198a788643b75879e"), looks := true }, kinds := [], alts := [], laidByText := true, laidKinds := [.data, .data], laidTests := true, laidLooks := .later }
def CountSumsUptoCardSaid : Prop := Claim7.holds Tryz.pinned (.plain (OpenSpec.upto countSumsSpec)) countSumsUptoCard

/-- THE SECOND FORM's CARD OF 'armariumlaw11.ForestKeeps'. -/
def forestKeepsUptoCard : Claim7 := { stood := { row := forestKeepsUptoRow, standIns := [], harness := (true, "7e1a7f2fb979f989450b374d4e21731b79fa72f8e3f5435198a788643b75879e"), looks := true }, kinds := [], alts := [], laidByText := true, laidKinds := [.data, .data], laidTests := true, laidLooks := .later }
def ForestKeepsUptoCardSaid : Prop := Claim7.holds Tryz.pinned (.plain (OpenSpec.upto forestKeepsSpec)) forestKeepsUptoCard

/-- THE SECOND FORM's CARD OF 'armariumlaw11.ForestPlays'. -/
def forestPlaysUptoCard : Claim7 := { stood := { row := forestPlaysUptoRow, standIns := [], harness := (true, "7e1a7f2fb979f989450b374d4e21731b79fa72f8e3f5435198a788643b75879e"), looks := true }, kinds := [], alts := [], laidByText := true, laidKinds := [.data, .data], laidTests := true, laidLooks := .later }
def ForestPlaysUptoCardSaid : Prop := Claim7.holds Tryz.pinned (.plain (OpenSpec.upto forestPlaysSpec)) forestPlaysUptoCard

/-- THE SECOND FORM's CARD OF 'armariumlaw11.ForestNil'. -/
def forestNilUptoCard : Claim7 := { stood := { row := forestNilUptoRow, standIns := [], harness := (true, "7e1a7f2fb979f989450b374d4e21731b79fa72f8e3f5435198a788643b75879e"), looks := true }, kinds := [], alts := [], laidByText := true, laidKinds := [.data, .data], laidTests := true, laidLooks := .later }
def ForestNilUptoCardSaid : Prop := Claim7.holds Tryz.pinned (.plain (OpenSpec.upto forestNilSpec)) forestNilUptoCard
end Rows
end Go.Proofs.YthafakdplhdfjaaGreatDoor
