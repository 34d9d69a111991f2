/- The check of the statements' own package comes to true. -/
import Derived.Test.YtnddhkcciphhkaaVs41
set_option linter.unusedVariables false
namespace Go.Vs
open Go Go.Proofs
def isTrue (x : Option PV) : Bool := match x with | some (.bool b) => b | _ => false
theorem isTrue_eq {x : Option PV} (h : isTrue x = true) : x = some (.bool true) := by
  unfold isTrue at h
  split at h
  · subst h; rfl
  · cases h
theorem call34 : callL Try.prog hints 34 [] = some (.bool true) := callL_run (n := 60) (isTrue_eq (by kernel_rfl))
@[go_sem] theorem callO34 (S : Store) : callO (callL Try.prog hints) S 34 [] = some { v := .bool true } := callO_plain call34 (by simp)
end Go.Vs
