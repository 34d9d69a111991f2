/- TreeWords gives true for all arguments. -/
import Derived.Test.YtnddhkcciphhkaaY1
import Derived.Test.YtnddhkcciphhkaaY2
import Derived.Test.YtnddhkcciphhkaaVs42
set_option linter.unusedVariables false
set_option linter.unusedSimpArgs false
namespace Go.Vs
open Go Go.Proofs
theorem call8 (s : ByteArray) (n : Int) : callL Try.prog hints 8 [.str s, .int .i64 n] = some (.bool true) := by
  refine F8.call (r := (.bool true, [])) ?_ rfl
  simp only [go_sem]
  cases nameOK s <;> simp only [go_sem]
theorem law8 (pvs : List PV) (h : Args Try.prog [9, 3] pvs) : callL Try.prog hints 8 pvs = some (.bool true) := by
  have ⟨x, r, k, e1, h1, h2⟩ := h.cons_inv
  have ⟨y, r', l, e2, h3, h4⟩ := h2.cons_inv
  have e3 := h4.nil_inv
  have ⟨s, _, e4⟩ := h1.str und9
  have ⟨n, _, e5⟩ := h3.int und3
  rw [e1, e2, e3, e4, e5]
  exact call8 s n
end Go.Vs
