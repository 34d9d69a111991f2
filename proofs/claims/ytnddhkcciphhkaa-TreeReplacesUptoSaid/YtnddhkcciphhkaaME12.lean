/- tree.Size, Levels, and the reference's: what they return. -/

import Derived.Test.YtnddhkcciphhkaaME11
set_option linter.unusedVariables false
set_option linter.unusedSimpArgs false
namespace Go.Vs
open Go Go.Proofs
mutual
/-- The number of nodes, as the machine counts. -/
def Node.size : Node → Int
  | .mk _ _ _ _ _ f => Node.sizes 1 f
def Node.sizes : Int → List Node → Int
  | a, [] => a
  | a, n :: r => Node.sizes (IntKind.i64.wrap (a + n.size)) r
end
mutual
/-- The number of levels, as the machine counts. -/
def Node.levels : Node → Int
  | .mk _ _ _ _ _ f => IntKind.i64.wrap (Node.most 0 f + 1)
def Node.most : Int → List Node → Int
  | a, [] => a
  | a, n :: r => Node.most (if a < n.levels then n.levels else a) r
end
theorem Node.size_eq (n : Node) : Node.sizes 1 n.kids = n.size := by cases n; rfl
theorem maxLen_le : maxLen ≤ 9223372036854775807 := by decide
theorem wrap_succ {i n : Nat} (h : i < n) (hn : n ≤ maxLen) : IntKind.i64.wrap ((i : Int) + 1) = ((i + 1 : Nat) : Int) := by
  have := maxLen_le
  rw [IntKind.wrap_i64]; omega
theorem callN {f : FuncId} {n : Node} {v : PV} (S : Store) (h : callL Try.prog hints f [.agg n.cells] = some v) : callO (callL Try.prog hints) S f [.agg n.cells] = some { v } := callO_plain h (by simp [Node.plain])
theorem loop43 (n : Node) (hk : n.kids.length ≤ maxLen) (ih : ∀ k ∈ n.kids, callL Try.prog hints 43 [.agg k.cells] = some (.int .i64 k.size)) : ∀ (m i : Nat), i + m = n.kids.length → ∀ (a : Int),
    F43.L0 0 1 (.int .i64 a) (.sl (Node.rows n.kids) false) (.int .i64 n.kids.length) (.int .i64 i) [.arr [n.cells] none false] = some (.int .i64 (Node.sizes a (n.kids.drop i)), [.arr [n.cells] none false]) := by
  intro m
  induction m with
  | zero =>
    intro i hi a
    apply F43.L0_step
    have h1 : ¬ (i : Int) < (n.kids.length : Int) := by omega
    simp only [go_sem, ↓reduceIte, Nat.reduceEqDiff, Nat.reduceBEq, Nat.reduceAdd, Nat.reduceMul, Nat.reduceSub, Nat.reduceLT, Nat.reduceLeDiff, reduceCtorEq, Int.reduceToNat, Int.reduceLE, Int.reduceLT, Int.reduceEq, h1]
    rw [List.drop_of_length_le (by omega)]
    rfl
  | succ m hm =>
    intro i hi a
    apply F43.L0_step
    have h1 : (i : Int) < (n.kids.length : Int) := by omega
    have h2 := wrap_succ (i := i) (n := n.kids.length) (by omega) hk
    have h4 : 0 ≤ (i : Int) ∧ (i : Int) < (n.kids.length : Int) := ⟨by omega, h1⟩
    have h5 := fun S => callN S (ih _ (kids_mem (l := n.kids) (i := i) (by omega)))
    simp only [go_sem, ↓reduceIte, Nat.reduceEqDiff, Nat.reduceBEq, Nat.reduceAdd, Nat.reduceMul, Nat.reduceSub, Nat.reduceLT, Nat.reduceLeDiff, reduceCtorEq, Int.reduceToNat, Int.reduceLE, Int.reduceLT, Int.reduceEq, h1, h2, h4, h5, hm (i + 1) (by omega)]
    rw [kids_drop (l := n.kids) (i := i) (by omega)]
    rfl
theorem call43 : ∀ n : Node, n.ok → callL Try.prog hints 43 [.agg n.cells] = some (.int .i64 n.size) := by
  refine Node.ind' fun n ih hn => ?_
  have hk : n.kids.length ≤ maxLen ∧ Node.oks n.kids := by cases n; exact ⟨hn.2.2.2.2.2.2.1, hn.2.2.2.2.2.2.2⟩
  refine F43.call (r := (.int .i64 n.size, [.arr [n.cells] none false])) ?_ rfl
  have h := loop43 n hk.1 (fun k hk' => ih k hk' (Node.oks_iff.1 hk.2 k hk')) n.kids.length 0 (by omega) 1
  simp only [Int.natCast_zero, List.drop_zero, Node.size_eq] at h
  simp only [go_sem, ↓reduceIte, Nat.reduceEqDiff, Nat.reduceBEq, Nat.reduceAdd, Nat.reduceMul, Nat.reduceSub, Nat.reduceLT, Nat.reduceLeDiff, reduceCtorEq, Int.reduceToNat, Int.reduceLE, Int.reduceLT, Int.reduceEq, h]
theorem loop35 (n : Node) (hk : n.kids.length ≤ maxLen) (ih : ∀ k ∈ n.kids, callL Try.prog hints 35 [.agg k.cells] = some (.int .i64 k.size)) : ∀ (m i : Nat), i + m = n.kids.length → ∀ (a : Int),
    F35.L0 0 1 (.mp 0 0 0) (.int .i64 a) (.int .i64 i) [.arr [n.cells] none false] = some (.int .i64 (Node.sizes a (n.kids.drop i)), [.arr [n.cells] none false]) := by
  intro m
  induction m with
  | zero =>
    intro i hi a
    apply F35.L0_step
    have h1 : ¬ (i : Int) < (n.kids.length : Int) := by omega
    simp only [go_sem, ↓reduceIte, Nat.reduceEqDiff, Nat.reduceBEq, Nat.reduceAdd, Nat.reduceMul, Nat.reduceSub, Nat.reduceLT, Nat.reduceLeDiff, reduceCtorEq, Int.reduceToNat, Int.reduceLE, Int.reduceLT, Int.reduceEq, h1]
    rw [List.drop_of_length_le (by omega)]
    rfl
  | succ m hm =>
    intro i hi a
    apply F35.L0_step
    have h1 : (i : Int) < (n.kids.length : Int) := by omega
    have h2 := wrap_succ (i := i) (n := n.kids.length) (by omega) hk
    have h4 : 0 ≤ (i : Int) ∧ (i : Int) < (n.kids.length : Int) := ⟨by omega, h1⟩
    have h5 := fun S => callN S (ih _ (kids_mem (l := n.kids) (i := i) (by omega)))
    simp only [go_sem, ↓reduceIte, Nat.reduceEqDiff, Nat.reduceBEq, Nat.reduceAdd, Nat.reduceMul, Nat.reduceSub, Nat.reduceLT, Nat.reduceLeDiff, reduceCtorEq, Int.reduceToNat, Int.reduceLE, Int.reduceLT, Int.reduceEq, h1, h2, h4, h5, hm (i + 1) (by omega)]
    rw [kids_drop (l := n.kids) (i := i) (by omega)]
    rfl
theorem call35 : ∀ n : Node, n.ok → callL Try.prog hints 35 [.agg n.cells] = some (.int .i64 n.size) := by
  refine Node.ind' fun n ih hn => ?_
  have hk : n.kids.length ≤ maxLen ∧ Node.oks n.kids := by cases n; exact ⟨hn.2.2.2.2.2.2.1, hn.2.2.2.2.2.2.2⟩
  refine F35.call (r := (.int .i64 n.size, [.arr [n.cells] none false])) ?_ rfl
  have h := loop35 n hk.1 (fun k hk' => ih k hk' (Node.oks_iff.1 hk.2 k hk')) n.kids.length 0 (by omega) 1
  simp only [Int.natCast_zero, List.drop_zero, Node.size_eq] at h
  simp only [go_sem, ↓reduceIte, Nat.reduceEqDiff, Nat.reduceBEq, Nat.reduceAdd, Nat.reduceMul, Nat.reduceSub, Nat.reduceLT, Nat.reduceLeDiff, reduceCtorEq, Int.reduceToNat, Int.reduceLE, Int.reduceLT, Int.reduceEq, h]
end Go.Vs
