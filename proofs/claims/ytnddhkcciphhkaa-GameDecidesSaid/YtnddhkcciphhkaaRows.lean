/-
  NARROWER THAN 'FOR EVERY INPUT', by the rows' own cells (each row's printed sentence says how): TreeChecks: loops · TreeOrder: loops · TreePaths: loops · TreePlaces: loops · TreeReplaces: loops.
  DERIVED. THE GIVEN ROWS OF THIS SEAT. 10 by the template 'for every input the law returns true; each argument reads behind the call as it read before'; 0 by the template 'total and deterministic' (their statements: YtnddhkcciphhkaaTotals.lean).
  GIVEN WITH THE SEED: the statements are not yours to turn. If you find one false, say at which input.
  Laid BY PROGRAM, IN A SANDBOX (cutbox-rows.mjs): the forced cells as the released guide's own fill.sh prints them over the translation 2f5f9f58c42a5d7f… (all of the seat's roots in one cut). By AI agents, Wed Nov 11 2026. No macro, syntax, notation, axiom, sorry.
-/
import Derived.Test.YtnddhkcciphhkaaChecked
import GoSem.Claim
import GoSem.ClaimJoined
import GoSem.ClaimMapViews
import Derived.JoinedTies
import Derived.KernelRfl
namespace Go.Proofs.Ytnddhkcciphhkaa
/- THE CELL 'sum', in the pinned program and in every row, IS THE sha256 OF THE DUMP (.gsa) THAT YtnddhkcciphhkaaProg.lean LOADS. Nothing in Lean hashes anything: it is a label: what it is worth is what the hold of that sum in a sandbox is worth. -/
noncomputable def Try.pinned : Pinned := { name := "ytnddhkcciphhkaa", sum := "2f5f9f58c42a5d7f05129dc4e14ae7fce6ec3890ea00274e2a333219a97fe09e", checked := Try.checked }
namespace Rows
def none {H : Type} : Left H := { results := [], args := [] }

/-- 'isochronelaw23.GameSolves': WHATEVER THE INPUT: true; the input reads as it did. -/
def gameSolvesSpec : ChangeSpec := { name := "gameSolves", fn := fun _ => fun
  | [d1, d2] => { results := [.lit (.bool true)], args := [d1, d2] }
  | _ => none }
def gameSolvesRow : OpenClaim := { program := "ytnddhkcciphhkaa", sum := "2f5f9f58c42a5d7f05129dc4e14ae7fce6ec3890ea00274e2a333219a97fe09e", func := "isochrone/isochronelaw23.GameSolves", spec := "gameSolves", unfollowed := true, recurses := true, apart := false }
def GameSolvesSaid : Prop := gameSolvesRow.holds Try.pinned (OpenSpec.ofChange gameSolvesSpec)

/-- ITS FALSE NEIGHBOUR: 'it returns false'. Refute it at one input. -/
def gameSolvesWrong : ChangeSpec := { name := "gameSolves", fn := fun _ => fun
  | [d1, d2] => { results := [.lit (.bool false)], args := [d1, d2] }
  | _ => none }
def GameSolvesWrongFalsely : Prop := gameSolvesRow.holds Try.pinned (OpenSpec.ofChange gameSolvesWrong)

/-- 'isochronelaw23.GameBeats': WHATEVER THE INPUT: true; the input reads as it did. -/
def gameBeatsSpec : ChangeSpec := { name := "gameBeats", fn := fun _ => fun
  | [d1, d2, d3, d4, d5] => { results := [.lit (.bool true)], args := [d1, d2, d3, d4, d5] }
  | _ => none }
def gameBeatsRow : OpenClaim := { program := "ytnddhkcciphhkaa", sum := "2f5f9f58c42a5d7f05129dc4e14ae7fce6ec3890ea00274e2a333219a97fe09e", func := "isochrone/isochronelaw23.GameBeats", spec := "gameBeats", unfollowed := true, recurses := true, apart := false }
def GameBeatsSaid : Prop := gameBeatsRow.holds Try.pinned (OpenSpec.ofChange gameBeatsSpec)

/-- ITS FALSE NEIGHBOUR: 'it returns false'. Refute it at one input. -/
def gameBeatsWrong : ChangeSpec := { name := "gameBeats", fn := fun _ => fun
  | [d1, d2, d3, d4, d5] => { results := [.lit (.bool false)], args := [d1, d2, d3, d4, d5] }
  | _ => none }
def GameBeatsWrongFalsely : Prop := gameBeatsRow.holds Try.pinned (OpenSpec.ofChange gameBeatsWrong)

/-- 'isochronelaw23.GameDecides': WHATEVER THE INPUT: true; the input reads as it did. -/
def gameDecidesSpec : ChangeSpec := { name := "gameDecides", fn := fun _ => fun
  | [d1, d2, d3] => { results := [.lit (.bool true)], args := [d1, d2, d3] }
  | _ => none }
def gameDecidesRow : OpenClaim := { program := "ytnddhkcciphhkaa", sum := "2f5f9f58c42a5d7f05129dc4e14ae7fce6ec3890ea00274e2a333219a97fe09e", func := "isochrone/isochronelaw23.GameDecides", spec := "gameDecides", unfollowed := true, recurses := true, apart := false }
def GameDecidesSaid : Prop := gameDecidesRow.holds Try.pinned (OpenSpec.ofChange gameDecidesSpec)

/-- ITS FALSE NEIGHBOUR: 'it returns false'. Refute it at one input. -/
def gameDecidesWrong : ChangeSpec := { name := "gameDecides", fn := fun _ => fun
  | [d1, d2, d3] => { results := [.lit (.bool false)], args := [d1, d2, d3] }
  | _ => none }
def GameDecidesWrongFalsely : Prop := gameDecidesRow.holds Try.pinned (OpenSpec.ofChange gameDecidesWrong)

/-- 'isochronelaw23.GameReduces': WHATEVER THE INPUT: true; the input reads as it did. -/
def gameReducesSpec : ChangeSpec := { name := "gameReduces", fn := fun _ => fun
  | [d] => { results := [.lit (.bool true)], args := [d] }
  | _ => none }
def gameReducesRow : OpenClaim := { program := "ytnddhkcciphhkaa", sum := "2f5f9f58c42a5d7f05129dc4e14ae7fce6ec3890ea00274e2a333219a97fe09e", func := "isochrone/isochronelaw23.GameReduces", spec := "gameReduces", unfollowed := true, recurses := true, apart := false }
def GameReducesSaid : Prop := gameReducesRow.holds Try.pinned (OpenSpec.ofChange gameReducesSpec)

/-- ITS FALSE NEIGHBOUR: 'it returns false'. Refute it at one input. -/
def gameReducesWrong : ChangeSpec := { name := "gameReduces", fn := fun _ => fun
  | [d] => { results := [.lit (.bool false)], args := [d] }
  | _ => none }
def GameReducesWrongFalsely : Prop := gameReducesRow.holds Try.pinned (OpenSpec.ofChange gameReducesWrong)

/-- 'isochronelaw08.TreeChecks': WHATEVER THE INPUT: true; the input reads as it did. -/
def treeChecksSpec : ChangeSpec := { name := "treeChecks", fn := fun _ => fun
  | [d1, d2] => { results := [.lit (.bool true)], args := [d1, d2] }
  | _ => none }
def treeChecksRow : OpenClaim := { program := "ytnddhkcciphhkaa", sum := "2f5f9f58c42a5d7f05129dc4e14ae7fce6ec3890ea00274e2a333219a97fe09e", func := "isochrone/isochronelaw08.TreeChecks", spec := "treeChecks", unfollowed := true, recurses := true, loops := true, apart := false }
def TreeChecksSaid : Prop := treeChecksRow.holds Try.pinned (OpenSpec.ofChange treeChecksSpec)

/-- ITS FALSE NEIGHBOUR: 'it returns false'. Refute it at one input. -/
def treeChecksWrong : ChangeSpec := { name := "treeChecks", fn := fun _ => fun
  | [d1, d2] => { results := [.lit (.bool false)], args := [d1, d2] }
  | _ => none }
def TreeChecksWrongFalsely : Prop := treeChecksRow.holds Try.pinned (OpenSpec.ofChange treeChecksWrong)

/-- 'isochronelaw08.TreeWords': WHATEVER THE INPUT: true; the input reads as it did. -/
def treeWordsSpec : ChangeSpec := { name := "treeWords", fn := fun _ => fun
  | [d1, d2] => { results := [.lit (.bool true)], args := [d1, d2] }
  | _ => none }
def treeWordsRow : OpenClaim := { program := "ytnddhkcciphhkaa", sum := "2f5f9f58c42a5d7f05129dc4e14ae7fce6ec3890ea00274e2a333219a97fe09e", func := "isochrone/isochronelaw08.TreeWords", spec := "treeWords", unfollowed := true, recurses := true, apart := false }
def TreeWordsSaid : Prop := treeWordsRow.holds Try.pinned (OpenSpec.ofChange treeWordsSpec)

/-- ITS FALSE NEIGHBOUR: 'it returns false'. Refute it at one input. -/
def treeWordsWrong : ChangeSpec := { name := "treeWords", fn := fun _ => fun
  | [d1, d2] => { results := [.lit (.bool false)], args := [d1, d2] }
  | _ => none }
def TreeWordsWrongFalsely : Prop := treeWordsRow.holds Try.pinned (OpenSpec.ofChange treeWordsWrong)

/-- 'isochronelaw08.TreeOrder': WHATEVER THE INPUT: true; the input reads as it did. -/
def treeOrderSpec : ChangeSpec := { name := "treeOrder", fn := fun _ => fun
  | [d1, d2, d3] => { results := [.lit (.bool true)], args := [d1, d2, d3] }
  | _ => none }
def treeOrderRow : OpenClaim := { program := "ytnddhkcciphhkaa", sum := "2f5f9f58c42a5d7f05129dc4e14ae7fce6ec3890ea00274e2a333219a97fe09e", func := "isochrone/isochronelaw08.TreeOrder", spec := "treeOrder", unfollowed := true, recurses := true, loops := true, apart := false }
def TreeOrderSaid : Prop := treeOrderRow.holds Try.pinned (OpenSpec.ofChange treeOrderSpec)

/-- ITS FALSE NEIGHBOUR: 'it returns false'. Refute it at one input. -/
def treeOrderWrong : ChangeSpec := { name := "treeOrder", fn := fun _ => fun
  | [d1, d2, d3] => { results := [.lit (.bool false)], args := [d1, d2, d3] }
  | _ => none }
def TreeOrderWrongFalsely : Prop := treeOrderRow.holds Try.pinned (OpenSpec.ofChange treeOrderWrong)

/-- 'isochronelaw08.TreePaths': WHATEVER THE INPUT: true; the input reads as it did. -/
def treePathsSpec : ChangeSpec := { name := "treePaths", fn := fun _ => fun
  | [d1, d2] => { results := [.lit (.bool true)], args := [d1, d2] }
  | _ => none }
def treePathsRow : OpenClaim := { program := "ytnddhkcciphhkaa", sum := "2f5f9f58c42a5d7f05129dc4e14ae7fce6ec3890ea00274e2a333219a97fe09e", func := "isochrone/isochronelaw08.TreePaths", spec := "treePaths", unfollowed := true, recurses := true, loops := true, apart := false }
def TreePathsSaid : Prop := treePathsRow.holds Try.pinned (OpenSpec.ofChange treePathsSpec)

/-- ITS FALSE NEIGHBOUR: 'it returns false'. Refute it at one input. -/
def treePathsWrong : ChangeSpec := { name := "treePaths", fn := fun _ => fun
  | [d1, d2] => { results := [.lit (.bool false)], args := [d1, d2] }
  | _ => none }
def TreePathsWrongFalsely : Prop := treePathsRow.holds Try.pinned (OpenSpec.ofChange treePathsWrong)

/-- 'isochronelaw08.TreePlaces': WHATEVER THE INPUT: true; the input reads as it did. -/
def treePlacesSpec : ChangeSpec := { name := "treePlaces", fn := fun _ => fun
  | [d1, d2, d3] => { results := [.lit (.bool true)], args := [d1, d2, d3] }
  | _ => none }
def treePlacesRow : OpenClaim := { program := "ytnddhkcciphhkaa", sum := "2f5f9f58c42a5d7f05129dc4e14ae7fce6ec3890ea00274e2a333219a97fe09e", func := "isochrone/isochronelaw08.TreePlaces", spec := "treePlaces", unfollowed := true, recurses := true, loops := true, apart := false }
def TreePlacesSaid : Prop := treePlacesRow.holds Try.pinned (OpenSpec.ofChange treePlacesSpec)

/-- ITS FALSE NEIGHBOUR: 'it returns false'. Refute it at one input. -/
def treePlacesWrong : ChangeSpec := { name := "treePlaces", fn := fun _ => fun
  | [d1, d2, d3] => { results := [.lit (.bool false)], args := [d1, d2, d3] }
  | _ => none }
def TreePlacesWrongFalsely : Prop := treePlacesRow.holds Try.pinned (OpenSpec.ofChange treePlacesWrong)

/-- 'isochronelaw08.TreeReplaces': WHATEVER THE INPUT: true; the input reads as it did. -/
def treeReplacesSpec : ChangeSpec := { name := "treeReplaces", fn := fun _ => fun
  | [d1, d2, d3] => { results := [.lit (.bool true)], args := [d1, d2, d3] }
  | _ => none }
def treeReplacesRow : OpenClaim := { program := "ytnddhkcciphhkaa", sum := "2f5f9f58c42a5d7f05129dc4e14ae7fce6ec3890ea00274e2a333219a97fe09e", func := "isochrone/isochronelaw08.TreeReplaces", spec := "treeReplaces", unfollowed := true, recurses := true, loops := true, apart := false }
def TreeReplacesSaid : Prop := treeReplacesRow.holds Try.pinned (OpenSpec.ofChange treeReplacesSpec)

/-- ITS FALSE NEIGHBOUR: 'it returns false'. Refute it at one input. -/
def treeReplacesWrong : ChangeSpec := { name := "treeReplaces", fn := fun _ => fun
  | [d1, d2, d3] => { results := [.lit (.bool false)], args := [d1, d2, d3] }
  | _ => none }
def TreeReplacesWrongFalsely : Prop := treeReplacesRow.holds Try.pinned (OpenSpec.ofChange treeReplacesWrong)

/- THE SECOND FORM. 'bulk': how many values and letters a reading holds, each counted each time it is reached (what is shared counts as often as it is met; a slice's spare places count too). A statement '..UptoSaid' is the law's where the arguments, and the package variables that the reading takes, are together of bulk at most 1048576: NARROWER than '..Said'. Prove '..Said' where nothing that the law and all that it calls make is longer than what came in: it says more and counts as full. Else prove '..UptoSaid'. A law counts once. -/
mutual
def uptoBulk {H : Type} : DataW H → Nat
  | .lit (.string bytes) => bytes.length + 1
  | .lit _ => 1
  | .nil => 1
  | .ptr d => uptoBulk d + 1
  | .slice elems spare => uptoBulkAll elems + uptoBulkAll spare + 1
  | .agg parts => uptoBulkAll parts + 1
  | .iface _ d => uptoBulk d + 1
  | .map entries => uptoBulkEntries entries + 1
  | .held _ => 1
def uptoBulkAll {H : Type} : List (DataW H) → Nat
  | [] => 0
  | d :: r => uptoBulk d + uptoBulkAll r
def uptoBulkEntries {H : Type} : List (Lit × DataW H) → Nat
  | [] => 0
  | x :: r => uptoBulkEntry x + uptoBulkEntries r
def uptoBulkEntry {H : Type} : Lit × DataW H → Nat
  | (.string bytes, d) => bytes.length + uptoBulk d + 1
  | (_, d) => uptoBulk d + 1
 end
def uptoSmall : (H : Type) → List (DataW H) → Bool := fun _ ds => decide (uptoBulkAll ds ≤ 1048576)
def OpenSpec.upto (s : _root_.Go.ChangeSpec) : _root_.Go.OpenSpec := { _root_.Go.OpenSpec.ofChange s with cond := some uptoSmall }

/-- 'isochronelaw23.GameSolves', WHERE WHAT IT READS IS OF BULK AT MOST 1048576: true; the input reads as it did. -/
def gameSolvesUptoRow : OpenClaim := { program := "ytnddhkcciphhkaa", sum := "2f5f9f58c42a5d7f05129dc4e14ae7fce6ec3890ea00274e2a333219a97fe09e", func := "isochrone/isochronelaw23.GameSolves", spec := "gameSolves", unfollowed := true, recurses := true, apart := false, narrowed := true }
def GameSolvesUptoSaid : Prop := gameSolvesUptoRow.holds Try.pinned (OpenSpec.upto gameSolvesSpec)

/-- 'isochronelaw23.GameBeats', WHERE WHAT IT READS IS OF BULK AT MOST 1048576: true; the input reads as it did. -/
def gameBeatsUptoRow : OpenClaim := { program := "ytnddhkcciphhkaa", sum := "2f5f9f58c42a5d7f05129dc4e14ae7fce6ec3890ea00274e2a333219a97fe09e", func := "isochrone/isochronelaw23.GameBeats", spec := "gameBeats", unfollowed := true, recurses := true, apart := false, narrowed := true }
def GameBeatsUptoSaid : Prop := gameBeatsUptoRow.holds Try.pinned (OpenSpec.upto gameBeatsSpec)

/-- 'isochronelaw23.GameDecides', WHERE WHAT IT READS IS OF BULK AT MOST 1048576: true; the input reads as it did. -/
def gameDecidesUptoRow : OpenClaim := { program := "ytnddhkcciphhkaa", sum := "2f5f9f58c42a5d7f05129dc4e14ae7fce6ec3890ea00274e2a333219a97fe09e", func := "isochrone/isochronelaw23.GameDecides", spec := "gameDecides", unfollowed := true, recurses := true, apart := false, narrowed := true }
def GameDecidesUptoSaid : Prop := gameDecidesUptoRow.holds Try.pinned (OpenSpec.upto gameDecidesSpec)

/-- 'isochronelaw23.GameReduces', WHERE WHAT IT READS IS OF BULK AT MOST 1048576: true; the input reads as it did. -/
def gameReducesUptoRow : OpenClaim := { program := "ytnddhkcciphhkaa", sum := "2f5f9f58c42a5d7f05129dc4e14ae7fce6ec3890ea00274e2a333219a97fe09e", func := "isochrone/isochronelaw23.GameReduces", spec := "gameReduces", unfollowed := true, recurses := true, apart := false, narrowed := true }
def GameReducesUptoSaid : Prop := gameReducesUptoRow.holds Try.pinned (OpenSpec.upto gameReducesSpec)

/-- 'isochronelaw08.TreeChecks', WHERE WHAT IT READS IS OF BULK AT MOST 1048576: true; the input reads as it did. -/
def treeChecksUptoRow : OpenClaim := { program := "ytnddhkcciphhkaa", sum := "2f5f9f58c42a5d7f05129dc4e14ae7fce6ec3890ea00274e2a333219a97fe09e", func := "isochrone/isochronelaw08.TreeChecks", spec := "treeChecks", unfollowed := true, recurses := true, loops := true, apart := false, narrowed := true }
def TreeChecksUptoSaid : Prop := treeChecksUptoRow.holds Try.pinned (OpenSpec.upto treeChecksSpec)

/-- 'isochronelaw08.TreeWords', WHERE WHAT IT READS IS OF BULK AT MOST 1048576: true; the input reads as it did. -/
def treeWordsUptoRow : OpenClaim := { program := "ytnddhkcciphhkaa", sum := "2f5f9f58c42a5d7f05129dc4e14ae7fce6ec3890ea00274e2a333219a97fe09e", func := "isochrone/isochronelaw08.TreeWords", spec := "treeWords", unfollowed := true, recurses := true, apart := false, narrowed := true }
def TreeWordsUptoSaid : Prop := treeWordsUptoRow.holds Try.pinned (OpenSpec.upto treeWordsSpec)

/-- 'isochronelaw08.TreeOrder', WHERE WHAT IT READS IS OF BULK AT MOST 1048576: true; the input reads as it did. -/
def treeOrderUptoRow : OpenClaim := { program := "ytnddhkcciphhkaa", sum := "2f5f9f58c42a5d7f05129dc4e14ae7fce6ec3890ea00274e2a333219a97fe09e", func := "isochrone/isochronelaw08.TreeOrder", spec := "treeOrder", unfollowed := true, recurses := true, loops := true, apart := false, narrowed := true }
def TreeOrderUptoSaid : Prop := treeOrderUptoRow.holds Try.pinned (OpenSpec.upto treeOrderSpec)

/-- 'isochronelaw08.TreePaths', WHERE WHAT IT READS IS OF BULK AT MOST 1048576: true; the input reads as it did. -/
def treePathsUptoRow : OpenClaim := { program := "ytnddhkcciphhkaa", sum := "2f5f9f58c42a5d7f05129dc4e14ae7fce6ec3890ea00274e2a333219a97fe09e", func := "isochrone/isochronelaw08.TreePaths", spec := "treePaths", unfollowed := true, recurses := true, loops := true, apart := false, narrowed := true }
def TreePathsUptoSaid : Prop := treePathsUptoRow.holds Try.pinned (OpenSpec.upto treePathsSpec)

/-- 'isochronelaw08.TreePlaces', WHERE WHAT IT READS IS OF BULK AT MOST 1048576: true; the input reads as it did. -/
def treePlacesUptoRow : OpenClaim := { program := "ytnddhkcciphhkaa", sum := "2f5f9f58c42a5d7f05129dc4e14ae7fce6ec3890ea00274e2a333219a97fe09e", func := "isochrone/isochronelaw08.TreePlaces", spec := "treePlaces", unfollowed := true, recurses := true, loops := true, apart := false, narrowed := true }
def TreePlacesUptoSaid : Prop := treePlacesUptoRow.holds Try.pinned (OpenSpec.upto treePlacesSpec)

/-- 'isochronelaw08.TreeReplaces', WHERE WHAT IT READS IS OF BULK AT MOST 1048576: true; the input reads as it did. -/
def treeReplacesUptoRow : OpenClaim := { program := "ytnddhkcciphhkaa", sum := "2f5f9f58c42a5d7f05129dc4e14ae7fce6ec3890ea00274e2a333219a97fe09e", func := "isochrone/isochronelaw08.TreeReplaces", spec := "treeReplaces", unfollowed := true, recurses := true, loops := true, apart := false, narrowed := true }
def TreeReplacesUptoSaid : Prop := treeReplacesUptoRow.holds Try.pinned (OpenSpec.upto treeReplacesSpec)

end Rows
end Go.Proofs.Ytnddhkcciphhkaa
