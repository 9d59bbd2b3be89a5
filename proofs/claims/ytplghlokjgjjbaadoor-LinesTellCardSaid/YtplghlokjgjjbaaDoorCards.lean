/-
  DERIVED. GIVEN WITH THE SEED: THE CARDS: each row of YtplghlokjgjjbaaDoorRows.lean that lists a variable, with what it lists TIED to the program's text (the seventh form; the later family's looks); each row that meets fmt, with fmt's text TOLD by the authors' own Lean function (tested against real Go, not proved from fmt's source: count such statements apart). THE CARD IS WHAT COUNTS. Prove the row's statement (the work); the ties are given (YtplghlokjgjjbaaDoorTie.lean); close each card by the builder's one call (the guide's Derived/Test/ToyasCard.lean, 'card_holds'). Laid BY PROGRAM, IN A SANDBOX (cutbox-door.mjs). By AI agents, Wed Nov 11 2026. No macro, syntax, notation, axiom, sorry.
-/
import Derived.Test.YtplghlokjgjjbaaDoorRows
import GoSem.ClaimSeven
namespace Go.Proofs.YtplghlokjgjjbaaDoor
namespace Rows

/-- THE TIED CARD OF 'garlandlaw26.LinesWords'. -/
def linesWordsCard : Claim7 := { stood := { row := linesWordsRow, standIns := [], harness := (true, "7ca76e820a3e3f8fdef50f980ec01f6ca66d81146a34385790caf8d978cac5e1"), looks := false }, kinds := [], alts := [], laidByText := true, laidKinds := [.data, .pinned], laidTests := true, laidLooks := .later }
def LinesWordsCardSaid : Prop := Claim7.holds Tryd.pinned (.plain (OpenSpec.ofChange linesWordsSpec)) linesWordsCard

/-- THE TIED CARD OF 'garlandlaw26.LinesNumbers'. -/
def linesNumbersCard : Claim7 := { stood := { row := linesNumbersRow, standIns := [], harness := (true, "7ca76e820a3e3f8fdef50f980ec01f6ca66d81146a34385790caf8d978cac5e1"), looks := false }, kinds := [], alts := [], laidByText := true, laidKinds := [.data, .pinned], laidTests := true, laidLooks := .later }
def LinesNumbersCardSaid : Prop := Claim7.holds Tryd.pinned (.plain (OpenSpec.ofChange linesNumbersSpec)) linesNumbersCard

/-- THE TIED CARD OF 'garlandlaw26.LinesLong'. -/
def linesLongCard : Claim7 := { stood := { row := linesLongRow, standIns := [], harness := (true, "7ca76e820a3e3f8fdef50f980ec01f6ca66d81146a34385790caf8d978cac5e1"), looks := false }, kinds := [], alts := [], laidByText := true, laidKinds := [.data, .pinned], laidTests := true, laidLooks := .later }
def LinesLongCardSaid : Prop := Claim7.holds Tryd.pinned (.plain (OpenSpec.ofChange linesLongSpec)) linesLongCard

/-- THE TIED CARD OF 'garlandlaw26.LinesAll'. -/
def linesAllCard : Claim7 := { stood := { row := linesAllRow, standIns := [], harness := (true, "7ca76e820a3e3f8fdef50f980ec01f6ca66d81146a34385790caf8d978cac5e1"), looks := false }, kinds := [], alts := [], laidByText := true, laidKinds := [.data, .pinned], laidTests := true, laidLooks := .later }
def LinesAllCardSaid : Prop := Claim7.holds Tryd.pinned (.plain (OpenSpec.ofChange linesAllSpec)) linesAllCard

/-- THE TIED CARD OF 'garlandlaw26.LinesBack'. -/
def linesBackCard : Claim7 := { stood := { row := linesBackRow, standIns := [], harness := (true, "7ca76e820a3e3f8fdef50f980ec01f6ca66d81146a34385790caf8d978cac5e1"), looks := false }, kinds := [], alts := [], laidByText := true, laidKinds := [.data, .data, .data, .data, .pinned], laidTests := true, laidLooks := .later }
def LinesBackCardSaid : Prop := Claim7.holds Tryd.pinned (.plain (OpenSpec.ofChange linesBackSpec)) linesBackCard

/-- THE TIED CARD OF 'garlandlaw26.LinesTell'. -/
def linesTellCard : Claim7 := { stood := { row := linesTellRow, standIns := [], harness := (true, "7ca76e820a3e3f8fdef50f980ec01f6ca66d81146a34385790caf8d978cac5e1"), looks := false }, kinds := [], alts := [], laidByText := true, laidKinds := [.data, .data, .data, .data, .pinned], laidTests := true, laidLooks := .later }
def LinesTellCardSaid : Prop := Claim7.holds Tryd.pinned (.plain (OpenSpec.ofChange linesTellSpec)) linesTellCard

/-- THE SECOND FORM's CARD OF 'garlandlaw26.LinesWords'. -/
def linesWordsUptoCard : Claim7 := { stood := { row := linesWordsUptoRow, standIns := [], harness := (true, "7ca76e820a3e3f8fdef50f980ec01f6ca66d81146a34385790caf8d978cac5e1"), looks := false }, kinds := [], alts := [], laidByText := true, laidKinds := [.data, .pinned], laidTests := true, laidLooks := .later }
def LinesWordsUptoCardSaid : Prop := Claim7.holds Tryd.pinned (.plain (OpenSpec.upto linesWordsSpec)) linesWordsUptoCard

/-- THE SECOND FORM's CARD OF 'garlandlaw26.LinesNumbers'. -/
def linesNumbersUptoCard : Claim7 := { stood := { row := linesNumbersUptoRow, standIns := [], harness := (true, "7ca76e820a3e3f8fdef50f980ec01f6ca66d81146a34385790caf8d978cac5e1"), looks := false }, kinds := [], alts := [], laidByText := true, laidKinds := [.data, .pinned], laidTests := true, laidLooks := .later }
def LinesNumbersUptoCardSaid : Prop := Claim7.holds Tryd.pinned (.plain (OpenSpec.upto linesNumbersSpec)) linesNumbersUptoCard

/-- THE SECOND FORM's CARD OF 'garlandlaw26.LinesLong'. -/
def linesLongUptoCard : Claim7 := { stood := { row := linesLongUptoRow, standIns := [], harness := (true, "7ca76e820a3e3f8fdef50f980ec01f6ca66d81146a34385790caf8d978cac5e1"), looks := false }, kinds := [], alts := [], laidByText := true, laidKinds := [.data, .pinned], laidTests := true, laidLooks := .later }
def LinesLongUptoCardSaid : Prop := Claim7.holds Tryd.pinned (.plain (OpenSpec.upto linesLongSpec)) linesLongUptoCard

/-- THE SECOND FORM's CARD OF 'garlandlaw26.LinesAll'. -/
def linesAllUptoCard : Claim7 := { stood := { row := linesAllUptoRow, standIns := [], harness := (true, "7ca76e820a3e3f8fdef50f980ec01f6ca66d81146a34385790caf8d978cac5e1"), looks := false }, kinds := [], alts := [], laidByText := true, laidKinds := [.data, .pinned], laidTests := true, laidLooks := .later }
def LinesAllUptoCardSaid : Prop := Claim7.holds Tryd.pinned (.plain (OpenSpec.upto linesAllSpec)) linesAllUptoCard

/-- THE SECOND FORM's CARD OF 'garlandlaw26.LinesBack'. -/
def linesBackUptoCard : Claim7 := { stood := { row := linesBackUptoRow, standIns := [], harness := (true, "7ca76e820a3e3f8fdef50f980ec01f6ca66d81146a34385790caf8d978cac5e1"), looks := false }, kinds := [], alts := [], laidByText := true, laidKinds := [.data, .data, .data, .data, .pinned], laidTests := true, laidLooks := .later }
def LinesBackUptoCardSaid : Prop := Claim7.holds Tryd.pinned (.plain (OpenSpec.upto linesBackSpec)) linesBackUptoCard

/-- THE SECOND FORM's CARD OF 'garlandlaw26.LinesTell'. -/
def linesTellUptoCard : Claim7 := { stood := { row := linesTellUptoRow, standIns := [], harness := (true, "7ca76e820a3e3f8fdef50f980ec01f6ca66d81146a34385790caf8d978cac5e1"), looks := false }, kinds := [], alts := [], laidByText := true, laidKinds := [.data, .data, .data, .data, .pinned], laidTests := true, laidLooks := .later }
def LinesTellUptoCardSaid : Prop := Claim7.holds Tryd.pinned (.plain (OpenSpec.upto linesTellSpec)) linesTellUptoCard
end Rows
end Go.Proofs.YtplghlokjgjjbaaDoor
