/- TreeOrder gives true for all arguments. -/
import Derived.Test.YtnddhkcciphhkaaY6
import Derived.Test.YtnddhkcciphhkaaY2
import Derived.Test.YtnddhkcciphhkaaVs45
set_option linter.unusedVariables false
set_option linter.unusedSimpArgs false
namespace Go.Vs
open Go Go.Proofs
theorem call9 (a b c : Node) (ha : a.ok) (hb : b.ok) (hc : c.ok) : callL Try.prog hints 9 [.agg a.cells, .agg b.cells, .agg c.cells] = some (.bool true) := by
  refine F9.call (r := (.bool true, [.arr [a.cells] none false, .arr [b.cells] none false, .arr [c.cells] none false])) ?_ rfl
  have sa := fun S => callN S (call35 a ha)
  have sb := fun S => callN S (call35 b hb)
  have sc := fun S => callN S (call35 c hc)
  have ta := fun S => callN S (call43 a ha)
  have la := fun S => callN S (call44 a ha)
  have ma := fun S => callN S (call45 a ha)
  have ab := fun S => callN2 S (call42 a ha b hb)
  have bc := fun S => callN2 S (call42 b hb c hc)
  have ac := fun S => callN2 S (call42 a ha c hc)
  have ba := fun S => callN2 S (call42 b hb a ha)
  have rab := fun S => callN2 S (call46 a ha b hb)
  have eab := fun S => callN2 S (call47 a b ha hb)
  have h1 := anti_cmp a b
  have h2 := tri_cmp a b c
  have h3 := small_cmp a b
  have h4 : IntKind.i64.wrap (0 - a.cmp b) = - a.cmp b := by
    unfold Small at h3
    rw [IntKind.wrap_i64]; omega
  simp only [go_sem, Nat.reduceEqDiff, Nat.reduceAdd, Nat.reduceSub, Nat.reduceLT, Nat.reduceLeDiff, reduceCtorEq, Int.reduceToNat, Int.reduceLE, Int.reduceLT, Int.reduceEq, sa, sb, sc, ta, la, ma, ab, bc, ac, ba, rab, eab, h4, h1]
  unfold Tri at h2
  by_cases c1 : 10000 < a.size
  · rw [if_pos c1]
  by_cases c2 : 10000 < b.size
  · rw [if_neg c1, if_pos c2]
  by_cases c3 : 10000 < c.size
  · rw [if_neg c1, if_neg c2, if_pos c3]
  rw [if_neg c1, if_neg c2, if_neg c3]
  clear sa sb sc ta la ma ab bc ac ba rab eab
  repeat' split
  all_goals first | rfl | (exfalso; omega)
theorem law9 (pvs : List PV) (h : Args Try.prog [54, 54, 54] pvs) : callL Try.prog hints 9 pvs = some (.bool true) := by
  obtain ⟨x, r, k, rfl, h1, h⟩ := h.cons_inv
  obtain ⟨y, r, l, rfl, h2, h⟩ := h.cons_inv
  obtain ⟨z, r, m, rfl, h3, h⟩ := h.cons_inv
  obtain rfl := h.nil_inv
  obtain ⟨a, ha, rfl⟩ := h1.node
  obtain ⟨b, hb, rfl⟩ := h2.node
  obtain ⟨c, hc, rfl⟩ := h3.node
  exact call9 a b c ha hb hc
end Go.Vs
