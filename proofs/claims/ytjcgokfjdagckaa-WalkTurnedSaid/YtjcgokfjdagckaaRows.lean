/-
  No cell of these rows narrows 'for every input' (looked for: loops, veiled, ifaces, maps, wideKeys, modest, calm, conditions, laid).
  DERIVED. THE GIVEN ROWS OF THIS SEAT. 4 by the template 'for every input the law returns true; each argument reads behind the call as it read before'; 0 by the template 'total and deterministic' (their statements: YtjcgokfjdagckaaTotals.lean).
  GIVEN WITH THE SEED: the statements are not yours to turn. If you find one false, say at which input.
  Laid BY PROGRAM, IN A SANDBOX (cutbox-rows.mjs): the forced cells as the released guide's own fill.sh prints them over the translation 9f0e7985d3a77ae4… (all of the seat's roots in one cut). By AI agents, Wed Nov 11 2026. No macro, syntax, notation, axiom, sorry.
-/
import Derived.Test.YtjcgokfjdagckaaChecked
import GoSem.Claim
import GoSem.ClaimJoined
import GoSem.ClaimMapViews
import Derived.JoinedTies
import Derived.KernelRfl
namespace Go.Proofs.Ytjcgokfjdagckaa
/- THE CELL 'sum', in the pinned program and in every row, IS THE sha256 OF THE DUMP (.gsa) THAT YtjcgokfjdagckaaProg.lean LOADS. Nothing in Lean hashes anything: it is a label: what it is worth is what the hold of that sum in a sandbox is worth. -/
noncomputable def Try.pinned : Pinned := { name := "ytjcgokfjdagckaa", sum := "9f0e7985d3a77ae4472bcd5538f37416c0524cc23f9f41ee4c296a48f5ab038c", checked := Try.checked }
namespace Rows
def none {H : Type} : Left H := { results := [], args := [] }

/-- 'garlandlaw09.WalkTurned': WHATEVER THE INPUT: true; the input reads as it did. -/
def walkTurnedSpec : ChangeSpec := { name := "walkTurned", fn := fun _ => fun
  | [d] => { results := [.lit (.bool true)], args := [d] }
  | _ => none }
def walkTurnedRow : OpenClaim := { program := "ytjcgokfjdagckaa", sum := "9f0e7985d3a77ae4472bcd5538f37416c0524cc23f9f41ee4c296a48f5ab038c", func := "garland/garlandlaw09.WalkTurned", spec := "walkTurned", unfollowed := true, recurses := true, apart := false }
def WalkTurnedSaid : Prop := walkTurnedRow.holds Try.pinned (OpenSpec.ofChange walkTurnedSpec)

/-- ITS FALSE NEIGHBOUR: 'it returns false'. Refute it at one input. -/
def walkTurnedWrong : ChangeSpec := { name := "walkTurned", fn := fun _ => fun
  | [d] => { results := [.lit (.bool false)], args := [d] }
  | _ => none }
def WalkTurnedWrongFalsely : Prop := walkTurnedRow.holds Try.pinned (OpenSpec.ofChange walkTurnedWrong)

/-- 'garlandlaw09.WalkApart': WHATEVER THE INPUT: true; the input reads as it did. -/
def walkApartSpec : ChangeSpec := { name := "walkApart", fn := fun _ => fun
  | [d1, d2, d3] => { results := [.lit (.bool true)], args := [d1, d2, d3] }
  | _ => none }
def walkApartRow : OpenClaim := { program := "ytjcgokfjdagckaa", sum := "9f0e7985d3a77ae4472bcd5538f37416c0524cc23f9f41ee4c296a48f5ab038c", func := "garland/garlandlaw09.WalkApart", spec := "walkApart", unfollowed := true, recurses := true, apart := false }
def WalkApartSaid : Prop := walkApartRow.holds Try.pinned (OpenSpec.ofChange walkApartSpec)

/-- ITS FALSE NEIGHBOUR: 'it returns false'. Refute it at one input. -/
def walkApartWrong : ChangeSpec := { name := "walkApart", fn := fun _ => fun
  | [d1, d2, d3] => { results := [.lit (.bool false)], args := [d1, d2, d3] }
  | _ => none }
def WalkApartWrongFalsely : Prop := walkApartRow.holds Try.pinned (OpenSpec.ofChange walkApartWrong)

/-- 'garlandlaw09.WalkFlips': WHATEVER THE INPUT: true; the input reads as it did. -/
def walkFlipsSpec : ChangeSpec := { name := "walkFlips", fn := fun _ => fun
  | [d1, d2] => { results := [.lit (.bool true)], args := [d1, d2] }
  | _ => none }
def walkFlipsRow : OpenClaim := { program := "ytjcgokfjdagckaa", sum := "9f0e7985d3a77ae4472bcd5538f37416c0524cc23f9f41ee4c296a48f5ab038c", func := "garland/garlandlaw09.WalkFlips", spec := "walkFlips", unfollowed := true, recurses := true, apart := false }
def WalkFlipsSaid : Prop := walkFlipsRow.holds Try.pinned (OpenSpec.ofChange walkFlipsSpec)

/-- ITS FALSE NEIGHBOUR: 'it returns false'. Refute it at one input. -/
def walkFlipsWrong : ChangeSpec := { name := "walkFlips", fn := fun _ => fun
  | [d1, d2] => { results := [.lit (.bool false)], args := [d1, d2] }
  | _ => none }
def WalkFlipsWrongFalsely : Prop := walkFlipsRow.holds Try.pinned (OpenSpec.ofChange walkFlipsWrong)

/-- 'garlandlaw09.WalkPieces': WHATEVER THE INPUT: true; the input reads as it did. -/
def walkPiecesSpec : ChangeSpec := { name := "walkPieces", fn := fun _ => fun
  | [d1, d2, d3, d4] => { results := [.lit (.bool true)], args := [d1, d2, d3, d4] }
  | _ => none }
def walkPiecesRow : OpenClaim := { program := "ytjcgokfjdagckaa", sum := "9f0e7985d3a77ae4472bcd5538f37416c0524cc23f9f41ee4c296a48f5ab038c", func := "garland/garlandlaw09.WalkPieces", spec := "walkPieces", unfollowed := true, recurses := true, apart := false }
def WalkPiecesSaid : Prop := walkPiecesRow.holds Try.pinned (OpenSpec.ofChange walkPiecesSpec)

/-- ITS FALSE NEIGHBOUR: 'it returns false'. Refute it at one input. -/
def walkPiecesWrong : ChangeSpec := { name := "walkPieces", fn := fun _ => fun
  | [d1, d2, d3, d4] => { results := [.lit (.bool false)], args := [d1, d2, d3, d4] }
  | _ => none }
def WalkPiecesWrongFalsely : Prop := walkPiecesRow.holds Try.pinned (OpenSpec.ofChange walkPiecesWrong)

/- THE SECOND FORM. 'bulk': how many values and letters a reading holds, each counted each time it is reached (what is shared counts as often as it is met; a slice's spare places count too). A statement '..UptoSaid' is the law's where the arguments, and the package variables that the reading takes, are together of bulk at most 1048576: NARROWER than '..Said'. Prove '..Said' where nothing that the law and all that it calls make is longer than what came in: it says more and counts as full. Else prove '..UptoSaid'. A law counts once. -/
mutual
def uptoBulk {H : Type} : DataW H → Nat
  | .lit (.string bytes) => bytes.length + 1
  | .lit _ => 1
  | .nil => 1
  | .ptr d => uptoBulk d + 1
  | .slice elems spare => uptoBulkAll elems + uptoBulkAll spare + 1
  | .agg parts => uptoBulkAll parts + 1
  | .iface _ d => uptoBulk d + 1
  | .map entries => uptoBulkEntries entries + 1
  | .held _ => 1
def uptoBulkAll {H : Type} : List (DataW H) → Nat
  | [] => 0
  | d :: r => uptoBulk d + uptoBulkAll r
def uptoBulkEntries {H : Type} : List (Lit × DataW H) → Nat
  | [] => 0
  | x :: r => uptoBulkEntry x + uptoBulkEntries r
def uptoBulkEntry {H : Type} : Lit × DataW H → Nat
  | (.string bytes, d) => bytes.length + uptoBulk d + 1
  | (_, d) => uptoBulk d + 1
 end
def uptoSmall : (H : Type) → List (DataW H) → Bool := fun _ ds => decide (uptoBulkAll ds ≤ 1048576)
def OpenSpec.upto (s : _root_.Go.ChangeSpec) : _root_.Go.OpenSpec := { _root_.Go.OpenSpec.ofChange s with cond := some uptoSmall }

/-- 'garlandlaw09.WalkTurned', WHERE WHAT IT READS IS OF BULK AT MOST 1048576: true; the input reads as it did. -/
def walkTurnedUptoRow : OpenClaim := { program := "ytjcgokfjdagckaa", sum := "9f0e7985d3a77ae4472bcd5538f37416c0524cc23f9f41ee4c296a48f5ab038c", func := "garland/garlandlaw09.WalkTurned", spec := "walkTurned", unfollowed := true, recurses := true, apart := false, narrowed := true }
def WalkTurnedUptoSaid : Prop := walkTurnedUptoRow.holds Try.pinned (OpenSpec.upto walkTurnedSpec)

/-- 'garlandlaw09.WalkApart', WHERE WHAT IT READS IS OF BULK AT MOST 1048576: true; the input reads as it did. -/
def walkApartUptoRow : OpenClaim := { program := "ytjcgokfjdagckaa", sum := "9f0e7985d3a77ae4472bcd5538f37416c0524cc23f9f41ee4c296a48f5ab038c", func := "garland/garlandlaw09.WalkApart", spec := "walkApart", unfollowed := true, recurses := true, apart := false, narrowed := true }
def WalkApartUptoSaid : Prop := walkApartUptoRow.holds Try.pinned (OpenSpec.upto walkApartSpec)

/-- 'garlandlaw09.WalkFlips', WHERE WHAT IT READS IS OF BULK AT MOST 1048576: true; the input reads as it did. -/
def walkFlipsUptoRow : OpenClaim := { program := "ytjcgokfjdagckaa", sum := "9f0e7985d3a77ae4472bcd5538f37416c0524cc23f9f41ee4c296a48f5ab038c", func := "garland/garlandlaw09.WalkFlips", spec := "walkFlips", unfollowed := true, recurses := true, apart := false, narrowed := true }
def WalkFlipsUptoSaid : Prop := walkFlipsUptoRow.holds Try.pinned (OpenSpec.upto walkFlipsSpec)

/-- 'garlandlaw09.WalkPieces', WHERE WHAT IT READS IS OF BULK AT MOST 1048576: true; the input reads as it did. -/
def walkPiecesUptoRow : OpenClaim := { program := "ytjcgokfjdagckaa", sum := "9f0e7985d3a77ae4472bcd5538f37416c0524cc23f9f41ee4c296a48f5ab038c", func := "garland/garlandlaw09.WalkPieces", spec := "walkPieces", unfollowed := true, recurses := true, apart := false, narrowed := true }
def WalkPiecesUptoSaid : Prop := walkPiecesUptoRow.holds Try.pinned (OpenSpec.upto walkPiecesSpec)

end Rows
end Go.Proofs.Ytjcgokfjdagckaa
