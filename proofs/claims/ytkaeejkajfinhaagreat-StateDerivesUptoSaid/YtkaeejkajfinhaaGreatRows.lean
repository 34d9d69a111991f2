/-
  NARROWER THAN 'FOR EVERY INPUT', by the rows' own cells (each row's printed sentence says how): StateInterprets: loops · StateValues: loops · StateDerives: loops · StateTruths: loops.
  DERIVED. THE GIVEN ROWS OF THIS SEAT. 5 by the template 'for every input the law returns true; each argument reads behind the call as it read before'; 0 by the template 'total and deterministic' (their statements: YtkaeejkajfinhaaGreatTotals.lean).
  GIVEN WITH THE SEED: the statements are not yours to turn. If you find one false, say at which input.
  Laid BY PROGRAM, IN A SANDBOX (cutbox-rows.mjs): the forced cells as the released guide's own fill.sh prints them over the translation 9738d59e393e5d2b… (all of the seat's roots in one cut). By AI agents, Wed Nov 11 2026. No macro, syntax, notation, axiom, sorry.
-/
import Derived.Test.YtkaeejkajfinhaaGreatChecked
import GoSem.Claim
import GoSem.ClaimJoined
import GoSem.ClaimMapViews
import Derived.JoinedTies
import Derived.KernelRfl
namespace Go.Proofs.YtkaeejkajfinhaaGreat
/- THE CELL 'sum', in the pinned program and in every row, IS THE sha256 OF THE DUMP (.gsa) THAT YtkaeejkajfinhaaGreatProg.lean LOADS. Nothing in Lean hashes anything: it is a label: what it is worth is what the hold of that sum in a sandbox is worth. -/
noncomputable def Tryz.pinned : Pinned := { name := "ytkaeejkajfinhaagreat", sum := "9738d59e393e5d2ba595d7075e810f81694d2ab811dd11c44f31c6c341953f0f", checked := Tryz.checked }
namespace Rows
def none {H : Type} : Left H := { results := [], args := [] }

/-- 'isochronelaw11.StateInterprets': WHATEVER THE INPUT: true; the input reads as it did. -/
def stateInterpretsSpec : ChangeSpec := { name := "stateInterprets", fn := fun _ => fun
  | [d] => { results := [.lit (.bool true)], args := [d] }
  | _ => none }
def stateInterpretsRow : OpenClaim := { program := "ytkaeejkajfinhaagreat", sum := "9738d59e393e5d2ba595d7075e810f81694d2ab811dd11c44f31c6c341953f0f", func := "isochrone/isochronelaw11.StateInterprets", spec := "stateInterprets", inPlace := ["internal/abi.NoEscape"], unfollowed := true, recurses := true, loops := true, apart := false }
def StateInterpretsSaid : Prop := stateInterpretsRow.holds Tryz.pinned (OpenSpec.ofChange stateInterpretsSpec)

/-- ITS FALSE NEIGHBOUR: 'it returns false'. Refute it at one input. -/
def stateInterpretsWrong : ChangeSpec := { name := "stateInterprets", fn := fun _ => fun
  | [d] => { results := [.lit (.bool false)], args := [d] }
  | _ => none }
def StateInterpretsWrongFalsely : Prop := stateInterpretsRow.holds Tryz.pinned (OpenSpec.ofChange stateInterpretsWrong)

/-- 'isochronelaw11.StateValues': WHATEVER THE INPUT: true; the input reads as it did. -/
def stateValuesSpec : ChangeSpec := { name := "stateValues", fn := fun _ => fun
  | [d1, d2, d3] => { results := [.lit (.bool true)], args := [d1, d2, d3] }
  | _ => none }
def stateValuesRow : OpenClaim := { program := "ytkaeejkajfinhaagreat", sum := "9738d59e393e5d2ba595d7075e810f81694d2ab811dd11c44f31c6c341953f0f", func := "isochrone/isochronelaw11.StateValues", spec := "stateValues", inPlace := ["internal/abi.NoEscape"], unfollowed := true, recurses := true, loops := true, apart := false }
def StateValuesSaid : Prop := stateValuesRow.holds Tryz.pinned (OpenSpec.ofChange stateValuesSpec)

/-- ITS FALSE NEIGHBOUR: 'it returns false'. Refute it at one input. -/
def stateValuesWrong : ChangeSpec := { name := "stateValues", fn := fun _ => fun
  | [d1, d2, d3] => { results := [.lit (.bool false)], args := [d1, d2, d3] }
  | _ => none }
def StateValuesWrongFalsely : Prop := stateValuesRow.holds Tryz.pinned (OpenSpec.ofChange stateValuesWrong)

/-- 'isochronelaw11.StateDerives': WHATEVER THE INPUT: true; the input reads as it did. -/
def stateDerivesSpec : ChangeSpec := { name := "stateDerives", fn := fun _ => fun
  | [d1, d2, d3, d4] => { results := [.lit (.bool true)], args := [d1, d2, d3, d4] }
  | _ => none }
def stateDerivesRow : OpenClaim := { program := "ytkaeejkajfinhaagreat", sum := "9738d59e393e5d2ba595d7075e810f81694d2ab811dd11c44f31c6c341953f0f", func := "isochrone/isochronelaw11.StateDerives", spec := "stateDerives", inPlace := ["internal/abi.NoEscape"], unfollowed := true, recurses := true, loops := true, apart := false }
def StateDerivesSaid : Prop := stateDerivesRow.holds Tryz.pinned (OpenSpec.ofChange stateDerivesSpec)

/-- ITS FALSE NEIGHBOUR: 'it returns false'. Refute it at one input. -/
def stateDerivesWrong : ChangeSpec := { name := "stateDerives", fn := fun _ => fun
  | [d1, d2, d3, d4] => { results := [.lit (.bool false)], args := [d1, d2, d3, d4] }
  | _ => none }
def StateDerivesWrongFalsely : Prop := stateDerivesRow.holds Tryz.pinned (OpenSpec.ofChange stateDerivesWrong)

/-- 'isochronelaw11.StateSets': WHATEVER THE INPUT: true; the input reads as it did. -/
def stateSetsSpec : ChangeSpec := { name := "stateSets", fn := fun _ => fun
  | [d1, d2, d3, d4, d5, d6] => { results := [.lit (.bool true)], args := [d1, d2, d3, d4, d5, d6] }
  | _ => none }
def stateSetsRow : OpenClaim := { program := "ytkaeejkajfinhaagreat", sum := "9738d59e393e5d2ba595d7075e810f81694d2ab811dd11c44f31c6c341953f0f", func := "isochrone/isochronelaw11.StateSets", spec := "stateSets", inPlace := ["internal/abi.NoEscape"], unfollowed := true, recurses := true, apart := false }
def StateSetsSaid : Prop := stateSetsRow.holds Tryz.pinned (OpenSpec.ofChange stateSetsSpec)

/-- ITS FALSE NEIGHBOUR: 'it returns false'. Refute it at one input. -/
def stateSetsWrong : ChangeSpec := { name := "stateSets", fn := fun _ => fun
  | [d1, d2, d3, d4, d5, d6] => { results := [.lit (.bool false)], args := [d1, d2, d3, d4, d5, d6] }
  | _ => none }
def StateSetsWrongFalsely : Prop := stateSetsRow.holds Tryz.pinned (OpenSpec.ofChange stateSetsWrong)

/-- 'isochronelaw11.StateTruths': WHATEVER THE INPUT: true; the input reads as it did. -/
def stateTruthsSpec : ChangeSpec := { name := "stateTruths", fn := fun _ => fun
  | [d1, d2, d3] => { results := [.lit (.bool true)], args := [d1, d2, d3] }
  | _ => none }
def stateTruthsRow : OpenClaim := { program := "ytkaeejkajfinhaagreat", sum := "9738d59e393e5d2ba595d7075e810f81694d2ab811dd11c44f31c6c341953f0f", func := "isochrone/isochronelaw11.StateTruths", spec := "stateTruths", inPlace := ["internal/abi.NoEscape"], unfollowed := true, recurses := true, loops := true, apart := false }
def StateTruthsSaid : Prop := stateTruthsRow.holds Tryz.pinned (OpenSpec.ofChange stateTruthsSpec)

/-- ITS FALSE NEIGHBOUR: 'it returns false'. Refute it at one input. -/
def stateTruthsWrong : ChangeSpec := { name := "stateTruths", fn := fun _ => fun
  | [d1, d2, d3] => { results := [.lit (.bool false)], args := [d1, d2, d3] }
  | _ => none }
def StateTruthsWrongFalsely : Prop := stateTruthsRow.holds Tryz.pinned (OpenSpec.ofChange stateTruthsWrong)

/- THE SECOND FORM. 'bulk': how many values and letters a reading holds, each counted each time it is reached (what is shared counts as often as it is met; a slice's spare places count too). A statement '..UptoSaid' is the law's where the arguments, and the package variables that the reading takes, are together of bulk at most 1048576: NARROWER than '..Said'. Prove '..Said' where nothing that the law and all that it calls make is longer than what came in: it says more and counts as full. Else prove '..UptoSaid'. A law counts once. -/
mutual
def uptoBulk {H : Type} : DataW H → Nat
  | .lit (.string bytes) => bytes.length + 1
  | .lit _ => 1
  | .nil => 1
  | .ptr d => uptoBulk d + 1
  | .slice elems spare => uptoBulkAll elems + uptoBulkAll spare + 1
  | .agg parts => uptoBulkAll parts + 1
  | .iface _ d => uptoBulk d + 1
  | .map entries => uptoBulkEntries entries + 1
  | .held _ => 1
def uptoBulkAll {H : Type} : List (DataW H) → Nat
  | [] => 0
  | d :: r => uptoBulk d + uptoBulkAll r
def uptoBulkEntries {H : Type} : List (Lit × DataW H) → Nat
  | [] => 0
  | x :: r => uptoBulkEntry x + uptoBulkEntries r
def uptoBulkEntry {H : Type} : Lit × DataW H → Nat
  | (.string bytes, d) => bytes.length + uptoBulk d + 1
  | (_, d) => uptoBulk d + 1
 end
def uptoSmall : (H : Type) → List (DataW H) → Bool := fun _ ds => decide (uptoBulkAll ds ≤ 1048576)
def OpenSpec.upto (s : _root_.Go.ChangeSpec) : _root_.Go.OpenSpec := { _root_.Go.OpenSpec.ofChange s with cond := some uptoSmall }

/-- 'isochronelaw11.StateInterprets', WHERE WHAT IT READS IS OF BULK AT MOST 1048576: true; the input reads as it did. -/
def stateInterpretsUptoRow : OpenClaim := { program := "ytkaeejkajfinhaagreat", sum := "9738d59e393e5d2ba595d7075e810f81694d2ab811dd11c44f31c6c341953f0f", func := "isochrone/isochronelaw11.StateInterprets", spec := "stateInterprets", inPlace := ["internal/abi.NoEscape"], unfollowed := true, recurses := true, loops := true, apart := false, narrowed := true }
def StateInterpretsUptoSaid : Prop := stateInterpretsUptoRow.holds Tryz.pinned (OpenSpec.upto stateInterpretsSpec)

/-- 'isochronelaw11.StateValues', WHERE WHAT IT READS IS OF BULK AT MOST 1048576: true; the input reads as it did. -/
def stateValuesUptoRow : OpenClaim := { program := "ytkaeejkajfinhaagreat", sum := "9738d59e393e5d2ba595d7075e810f81694d2ab811dd11c44f31c6c341953f0f", func := "isochrone/isochronelaw11.StateValues", spec := "stateValues", inPlace := ["internal/abi.NoEscape"], unfollowed := true, recurses := true, loops := true, apart := false, narrowed := true }
def StateValuesUptoSaid : Prop := stateValuesUptoRow.holds Tryz.pinned (OpenSpec.upto stateValuesSpec)

/-- 'isochronelaw11.StateDerives', WHERE WHAT IT READS IS OF BULK AT MOST 1048576: true; the input reads as it did. -/
def stateDerivesUptoRow : OpenClaim := { program := "ytkaeejkajfinhaagreat", sum := "9738d59e393e5d2ba595d7075e810f81694d2ab811dd11c44f31c6c341953f0f", func := "isochrone/isochronelaw11.StateDerives", spec := "stateDerives", inPlace := ["internal/abi.NoEscape"], unfollowed := true, recurses := true, loops := true, apart := false, narrowed := true }
def StateDerivesUptoSaid : Prop := stateDerivesUptoRow.holds Tryz.pinned (OpenSpec.upto stateDerivesSpec)

/-- 'isochronelaw11.StateSets', WHERE WHAT IT READS IS OF BULK AT MOST 1048576: true; the input reads as it did. -/
def stateSetsUptoRow : OpenClaim := { program := "ytkaeejkajfinhaagreat", sum := "9738d59e393e5d2ba595d7075e810f81694d2ab811dd11c44f31c6c341953f0f", func := "isochrone/isochronelaw11.StateSets", spec := "stateSets", inPlace := ["internal/abi.NoEscape"], unfollowed := true, recurses := true, apart := false, narrowed := true }
def StateSetsUptoSaid : Prop := stateSetsUptoRow.holds Tryz.pinned (OpenSpec.upto stateSetsSpec)

/-- 'isochronelaw11.StateTruths', WHERE WHAT IT READS IS OF BULK AT MOST 1048576: true; the input reads as it did. -/
def stateTruthsUptoRow : OpenClaim := { program := "ytkaeejkajfinhaagreat", sum := "9738d59e393e5d2ba595d7075e810f81694d2ab811dd11c44f31c6c341953f0f", func := "isochrone/isochronelaw11.StateTruths", spec := "stateTruths", inPlace := ["internal/abi.NoEscape"], unfollowed := true, recurses := true, loops := true, apart := false, narrowed := true }
def StateTruthsUptoSaid : Prop := stateTruthsUptoRow.holds Tryz.pinned (OpenSpec.upto stateTruthsSpec)

end Rows
end Go.Proofs.YtkaeejkajfinhaaGreat
