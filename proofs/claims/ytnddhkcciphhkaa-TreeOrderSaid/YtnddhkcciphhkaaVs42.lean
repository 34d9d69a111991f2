/- A law's arguments, by their types. -/
import Derived.Test.YtnddhkcciphhkaaVs30
import Derived.Test.YtnddhkcciphhkaaVs41
set_option linter.unusedVariables false
namespace Go.Vs
open Go Go.Proofs
theorem und3 : Try.prog.underlying 3 = some (.int .i64) := by kernel_rfl
theorem und4 : Try.prog.underlying 4 = some .bool := by kernel_rfl
theorem und9 : Try.prog.underlying 9 = some .string := by kernel_rfl
section
variable {P : Program} {k : Nat} {t : TypeId} {pv : PV} {pvs : List PV}
theorem Arg.str (hu : P.underlying t = some .string) (h : Arg P k t pv) : ∃ s : ByteArray, s.size ≤ maxLen ∧ pv = .str s := by
  simp only [Arg, hu] at h
  cases k with
  | zero => simp only [Dt] at h
  | succ k =>
    simp only [Dt, hu] at h
    obtain ⟨s, h1, h2⟩ := h
    exact ⟨s, h1, by simpa using h2⟩
theorem Arg.int {kd : IntKind} (hu : P.underlying t = some (.int kd)) (h : Arg P k t pv) : ∃ n, (Lit.int kd n).wf = true ∧ pv = .int kd n := by
  simp only [Arg, hu] at h
  cases k with
  | zero => simp only [Dt] at h
  | succ k =>
    simp only [Dt, hu] at h
    obtain ⟨s, h1, h2⟩ := h
    exact ⟨s, h1, by simpa using h2⟩
theorem Args.nil_inv (h : Args P [] pvs) : pvs = [] := by cases h; rfl
theorem Args.cons_inv {ts : List TypeId} (h : Args P (t :: ts) pvs) : ∃ pv r k, pvs = pv :: r ∧ Arg P k t pv ∧ Args P ts r := by
  cases h with
  | cons h r =>
    obtain ⟨k, h⟩ := h
    exact ⟨_, _, k, rfl, h, r⟩
end
end Go.Vs
