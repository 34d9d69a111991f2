/- The reference's small functions: what they return. -/

import Derived.Test.YtnddhkcciphhkaaMQ18
import Derived.Test.YtnddhkcciphhkaaMQ19
set_option linter.unusedVariables false
set_option linter.unusedSimpArgs false
namespace Go.Vs
open Go Go.Proofs
def hasName' (o : Int) : Bool := hasName o || (decide (o = 10) || decide (o = 37))
theorem hasName'_no {o : Int} (h : o ≠ 2 ∧ o ≠ 3 ∧ o ≠ 10 ∧ o ≠ 11 ∧ o ≠ 33 ∧ o ≠ 34 ∧ o ≠ 37 ∧ o ≠ 38 ∧ o ≠ 50 ∧ o ≠ 51 ∧ o ≠ 52 ∧ o ≠ 55 ∧ o ≠ 56 ∧ o ≠ 61 ∧ o ≠ 62) : hasName' o = false := by
  have h1 : hasName o = false := by simp only [hasName, decide_eq_false_iff_not]; omega
  rw [hasName', h1, decide_eq_false h.2.2.1, decide_eq_false h.2.2.2.2.2.2.1]; rfl
theorem call87 (o : Int) : callL Try.prog hints 87 [.int .i64 o] = some (.bool (hasName' o)) := by
  refine bindCall F87.call ?_
  simp only [go_sem, ↓reduceIte, Nat.reduceEqDiff, Nat.reduceBEq, Nat.reduceAdd, Nat.reduceMul, Nat.reduceSub, Nat.reduceLT, Nat.reduceLeDiff, reduceCtorEq, Int.reduceToNat, Int.reduceLE, Int.reduceLT, Int.reduceEq]
  repeat' (refine iteBind ?_ ?_ <;> intro _)
  all_goals first
    | (subst_vars; rfl)
    | (rw [hasName'_no (by omega)]; rfl)
@[go_sem] theorem callO87 (S : Store) (o : Int) : callO (callL Try.prog hints) S 87 [.int .i64 o] = some { v := .bool (hasName' o) } := callO_plain (call87 o) (by simp [Plain.int])
/-- The sorts as digits. -/
def digits (l : List Int) : ByteArray := ⟨(l.map fun d => UInt8.ofNat (48 + d.toNat)).toArray⟩
theorem call90 (o : Int) : callL Try.prog hints 90 [.int .i64 o] = some (.str (digits (kidSorts o))) := by
  refine bindCall F90.call ?_
  simp only [go_sem, ↓reduceIte, Nat.reduceEqDiff, Nat.reduceBEq, Nat.reduceAdd, Nat.reduceMul, Nat.reduceSub, Nat.reduceLT, Nat.reduceLeDiff, reduceCtorEq, Int.reduceToNat, Int.reduceLE, Int.reduceLT, Int.reduceEq]
  repeat' (refine iteBind ?_ ?_ <;> intro _)
  all_goals first
    | (subst_vars; rfl)
    | (rw [kidSorts_none (by omega) (by omega) (by omega)]; rfl)
@[go_sem] theorem callO90 (S : Store) (o : Int) : callO (callL Try.prog hints) S 90 [.int .i64 o] = some { v := .str (digits (kidSorts o)) } := callO_plain (call90 o) (by simp [Plain.int])
theorem call88 (neg : Bool) (num den : List Int) (hl : num.length ≤ maxLen) : callL Try.prog hints 88 [.agg (ratCells neg num den)] = some (.bool (natOK neg num den)) := by
  refine F88.call (r := (.bool (natOK neg num den), [.arr [ratCells neg num den] none false])) ?_ rfl
  have h0 := maxLen_le
  cases neg with
  | true => simp only [go_sem, ↓reduceIte, Nat.reduceEqDiff, Nat.reduceBEq, Nat.reduceAdd, Nat.reduceMul, Nat.reduceSub, Nat.reduceLT, Nat.reduceLeDiff, reduceCtorEq, Int.reduceToNat, Int.reduceLE, Int.reduceLT, Int.reduceEq] <;> rfl
  | false =>
    by_cases hd : den.length = 1
    · have d1 : (den.length : Int) = 1 := by omega
      by_cases h1 : den.getD 0 0 = 1
      · by_cases hn : num.length ≤ 20
        · have n1 : ¬ 20 < (num.length : Int) := by omega
          have hnat : natOK false num den = lastOK num := by simp only [natOK, hd, h1, hn]; rfl
          rw [hnat]
          by_cases hz : num.length = 0
          · have hz' : (num.length : Int) = 0 := by omega
            have : lastOK num = true := by simp only [lastOK, hz]; rfl
            rw [this]
            simp only [go_sem, ↓reduceIte, Nat.reduceEqDiff, Nat.reduceBEq, Nat.reduceAdd, Nat.reduceMul, Nat.reduceSub, Nat.reduceLT, Nat.reduceLeDiff, reduceCtorEq, Int.reduceToNat, Int.reduceLE, Int.reduceLT, Int.reduceEq, d1, h1, n1, hz']
          · have hz' : ¬ (num.length : Int) = 0 := by omega
            have h2 : IntKind.i64.wrap ((num.length : Int) - 1) = ((num.length - 1 : Nat) : Int) := by rw [IntKind.wrap_i64]; omega
            have h3 : (0 : Int) ≤ ((num.length - 1 : Nat) : Int) ∧ ((num.length - 1 : Nat) : Int) < (num.length : Int) := by omega
            by_cases h4 : num.getD (num.length - 1) 0 = 0
            · have : lastOK num = false := by simp only [lastOK, hz, h4]; rfl
              rw [this]
              simp only [go_sem, ↓reduceIte, Nat.reduceEqDiff, Nat.reduceBEq, Nat.reduceAdd, Nat.reduceMul, Nat.reduceSub, Nat.reduceLT, Nat.reduceLeDiff, reduceCtorEq, Int.reduceToNat, Int.reduceLE, Int.reduceLT, Int.reduceEq, d1, h1, n1, hz', h2, h3, h4]
            · have : lastOK num = true := by
                simp only [lastOK, hz, decide_false, Bool.false_or]
                exact decide_eq_true h4
              rw [this]
              simp only [go_sem, ↓reduceIte, Nat.reduceEqDiff, Nat.reduceBEq, Nat.reduceAdd, Nat.reduceMul, Nat.reduceSub, Nat.reduceLT, Nat.reduceLeDiff, reduceCtorEq, Int.reduceToNat, Int.reduceLE, Int.reduceLT, Int.reduceEq, d1, h1, n1, hz', h2, h3, h4]
        · have n1 : 20 < (num.length : Int) := by omega
          have hnat : natOK false num den = false := by simp only [natOK, hd, h1, hn]; rfl
          rw [hnat]
          simp only [go_sem, ↓reduceIte, Nat.reduceEqDiff, Nat.reduceBEq, Nat.reduceAdd, Nat.reduceMul, Nat.reduceSub, Nat.reduceLT, Nat.reduceLeDiff, reduceCtorEq, Int.reduceToNat, Int.reduceLE, Int.reduceLT, Int.reduceEq, d1, h1, n1]
      · have hnat : natOK false num den = false := by simp only [natOK, hd, h1]; rfl
        rw [hnat]
        simp only [go_sem, ↓reduceIte, Nat.reduceEqDiff, Nat.reduceBEq, Nat.reduceAdd, Nat.reduceMul, Nat.reduceSub, Nat.reduceLT, Nat.reduceLeDiff, reduceCtorEq, Int.reduceToNat, Int.reduceLE, Int.reduceLT, Int.reduceEq, d1, h1]
    · have d1 : ¬ (den.length : Int) = 1 := by omega
      have hnat : natOK false num den = false := by simp only [natOK, hd]; rfl
      rw [hnat]
      simp only [go_sem, ↓reduceIte, Nat.reduceEqDiff, Nat.reduceBEq, Nat.reduceAdd, Nat.reduceMul, Nat.reduceSub, Nat.reduceLT, Nat.reduceLeDiff, reduceCtorEq, Int.reduceToNat, Int.reduceLE, Int.reduceLT, Int.reduceEq, d1]
theorem callO88 (S : Store) (neg : Bool) (num den : List Int) (hl : num.length ≤ maxLen) : callO (callL Try.prog hints) S 88 [.agg [.bool neg, .sl (wordRows num) false, .sl (wordRows den) false]] = some { v := .bool (natOK neg num den) } := callO_plain (call88 neg num den hl) (by simp [show ([PV.bool neg, .sl (wordRows num) false, .sl (wordRows den) false] : List PV) = ratCells neg num den from rfl, ratCells_plain])
/-- The value of a natural number, -1 if it is greater than a bound. -/
def natVal (num : List Int) (most : Int) : Int := if num.length = 0 then 0 else if 1 < num.length ∨ most < num.getD 0 0 then -1 else num.getD 0 0
@[go_sem] theorem conv76_2 (n : Int) : convertO Try.prog 76 2 (.int .u32 n) = some (.int .i64 (IntKind.i64.wrap n)) := by
  have e : (tyi Try.prog 2).d = .int .i64 := by kernel_rfl
  simp [convertO, known76, evConvert, e]
@[go_sem] theorem conv76_3 (n : Int) : convertO Try.prog 76 3 (.int .u32 n) = some (.int .i64 (IntKind.i64.wrap n)) := by
  simp [convertO, known76, evConvert, d3]
@[go_sem] theorem conv5_3 (n : Int) : convertO Try.prog 5 3 (.int .u8 n) = some (.int .i64 (IntKind.i64.wrap n)) := by
  have e : (tyi Try.prog 5).known = true := by kernel_rfl
  simp [convertO, e, evConvert, d3]
theorem call91 (neg : Bool) (num den : List Int) (hw : ∀ w ∈ num, 0 ≤ w ∧ w ≤ 4294967295) (m : Int) : callL Try.prog hints 91 [.agg (ratCells neg num den), .int .i64 m] = some (.int .i64 (natVal num m)) := by
  refine F91.call (r := (.int .i64 (natVal num m), [.arr [ratCells neg num den] none false])) ?_ rfl
  by_cases h0 : num.length = 0
  · have h0' : (num.length : Int) = 0 := by omega
    have e : natVal num m = 0 := by simp only [natVal, h0, if_true]
    rw [e]
    simp only [go_sem, ↓reduceIte, Nat.reduceEqDiff, Nat.reduceBEq, Nat.reduceAdd, Nat.reduceMul, Nat.reduceSub, Nat.reduceLT, Nat.reduceLeDiff, reduceCtorEq, Int.reduceToNat, Int.reduceLE, Int.reduceLT, Int.reduceEq, h0']
  · have h0' : ¬ (num.length : Int) = 0 := by omega
    have hp : (0 : Int) < (num.length : Int) := by omega
    have hwr : IntKind.i64.wrap (num.getD 0 0) = num.getD 0 0 := by
      have : num.getD 0 0 ∈ num := by
        have : 0 < num.length := by omega
        simp [List.getD_eq_getElem?_getD, this]
      have := hw _ this
      rw [IntKind.wrap_i64]; omega
    by_cases h1 : 1 < num.length
    · have h1' : 1 < (num.length : Int) := by omega
      have e : natVal num m = -1 := by simp only [natVal, h0, if_false, h1, true_or, if_true]
      rw [e]
      simp only [go_sem, ↓reduceIte, Nat.reduceEqDiff, Nat.reduceBEq, Nat.reduceAdd, Nat.reduceMul, Nat.reduceSub, Nat.reduceLT, Nat.reduceLeDiff, reduceCtorEq, Int.reduceToNat, Int.reduceLE, Int.reduceLT, Int.reduceEq, h0', h1']
    · have h1' : ¬ 1 < (num.length : Int) := by omega
      by_cases h2 : m < num.getD 0 0
      · have e : natVal num m = -1 := by simp only [natVal, h0, if_false, h2, or_true, if_true]
        rw [e]
        simp only [go_sem, ↓reduceIte, Nat.reduceEqDiff, Nat.reduceBEq, Nat.reduceAdd, Nat.reduceMul, Nat.reduceSub, Nat.reduceLT, Nat.reduceLeDiff, reduceCtorEq, Int.reduceToNat, Int.reduceLE, Int.reduceLT, Int.reduceEq, h0', h1', hp, hwr, h2]
      · have e : natVal num m = num.getD 0 0 := by simp only [natVal, h0, if_false, h1, h2, or_self]
        rw [e]
        simp only [go_sem, ↓reduceIte, Nat.reduceEqDiff, Nat.reduceBEq, Nat.reduceAdd, Nat.reduceMul, Nat.reduceSub, Nat.reduceLT, Nat.reduceLeDiff, reduceCtorEq, Int.reduceToNat, Int.reduceLE, Int.reduceLT, Int.reduceEq, h0', h1', hp, hwr, h2]
theorem callO91 (S : Store) (neg : Bool) (num den : List Int) (hw : ∀ w ∈ num, 0 ≤ w ∧ w ≤ 4294967295) (m : Int) : callO (callL Try.prog hints) S 91 [.agg [.bool neg, .sl (wordRows num) false, .sl (wordRows den) false], .int .i64 m] = some { v := .int .i64 (natVal num m) } := callO_plain (call91 neg num den hw m) (by simp [show ([PV.bool neg, .sl (wordRows num) false, .sl (wordRows den) false] : List PV) = ratCells neg num den from rfl, ratCells_plain, Plain.int])
theorem loop92 (n : Node) (hk : n.ok) (ih : ∀ k ∈ n.kids, callL Try.prog hints 92 [.agg k.cells] = some (.bool k.diff)) : ∀ (m i : Nat), i + m = n.kids.length →
    F92.L1 0 1 (.mp 0 0 0) (.int .i64 i) [.arr [n.cells] none false] = some (.bool (Node.diffs (n.kids.drop i)), [.arr [n.cells] none false]) := by
  intro m
  induction m with
  | zero =>
    intro i hi
    have h1 : ¬ (i : Int) < (n.kids.length : Int) := by omega
    refine F92.L1_step ?_
    rw [List.drop_of_length_le (by omega)]
    simp only [go_sem, ↓reduceIte, Nat.reduceEqDiff, Nat.reduceBEq, Nat.reduceAdd, Nat.reduceMul, Nat.reduceSub, Nat.reduceLT, Nat.reduceLeDiff, reduceCtorEq, Int.reduceToNat, Int.reduceLE, Int.reduceLT, Int.reduceEq, h1]
    rfl
  | succ m hm =>
    intro i hi
    have h1 : (i : Int) < (n.kids.length : Int) := by omega
    have h2 := wrap_succ (i := i) (n := n.kids.length) (by omega) hk.len
    have h4 : 0 ≤ (i : Int) ∧ (i : Int) < (n.kids.length : Int) := ⟨by omega, h1⟩
    have h5 := fun S => callN S (ih _ (kids_mem (l := n.kids) (i := i) (by omega)))
    have h6 := hm (i + 1) (by omega)
    have h7 : Node.diffs (n.kids.drop i) = ((n.kids.getD i default).diff && Node.diffs (n.kids.drop (i + 1))) := by rw [kids_drop (l := n.kids) (i := i) (by omega)]; rfl
    rw [h7]
    refine F92.L1_step ?_
    cases hd : (n.kids.getD i default).diff
    · rw [hd] at h5
      simp only [go_sem, ↓reduceIte, Nat.reduceEqDiff, Nat.reduceBEq, Nat.reduceAdd, Nat.reduceMul, Nat.reduceSub, Nat.reduceLT, Nat.reduceLeDiff, reduceCtorEq, Int.reduceToNat, Int.reduceLE, Int.reduceLT, Int.reduceEq, h1, h2, h4, h5]
    · rw [hd] at h5
      simp only [go_sem, ↓reduceIte, Nat.reduceEqDiff, Nat.reduceBEq, Nat.reduceAdd, Nat.reduceMul, Nat.reduceSub, Nat.reduceLT, Nat.reduceLeDiff, reduceCtorEq, Int.reduceToNat, Int.reduceLE, Int.reduceLT, Int.reduceEq, h1, h2, h4, h5, h6]
theorem call92 : ∀ n : Node, n.ok → callL Try.prog hints 92 [.agg n.cells] = some (.bool n.diff) := by
  refine Node.ind' fun n ih hn => ?_
  have h := loop92 n hn (fun k hk' => ih k hk' (hn.kids k hk')) n.kids.length 0 (by omega)
  simp only [Int.natCast_zero, List.drop_zero] at h
  refine F92.call (r := (.bool n.diff, [.arr [n.cells] none false])) ?_ rfl
  rw [Node.diff_eq]
  by_cases h1 : n.op = 29
  · simp only [go_sem, ↓reduceIte, Nat.reduceEqDiff, Nat.reduceBEq, Nat.reduceAdd, Nat.reduceMul, Nat.reduceSub, Nat.reduceLT, Nat.reduceLeDiff, reduceCtorEq, Int.reduceToNat, Int.reduceLE, Int.reduceLT, Int.reduceEq, h1, h] <;> rfl
  by_cases h2 : n.op = 30
  · simp only [go_sem, ↓reduceIte, Nat.reduceEqDiff, Nat.reduceBEq, Nat.reduceAdd, Nat.reduceMul, Nat.reduceSub, Nat.reduceLT, Nat.reduceLeDiff, reduceCtorEq, Int.reduceToNat, Int.reduceLE, Int.reduceLT, Int.reduceEq, h2, h] <;> rfl
  · simp only [go_sem, ↓reduceIte, Nat.reduceEqDiff, Nat.reduceBEq, Nat.reduceAdd, Nat.reduceMul, Nat.reduceSub, Nat.reduceLT, Nat.reduceLeDiff, reduceCtorEq, Int.reduceToNat, Int.reduceLE, Int.reduceLT, Int.reduceEq, h1, h2]
    repeat' (refine iteEq (fun _ => ?_) (fun _ => ?_))
    all_goals (simp [diffLeaf, *] <;> omega)
theorem callO92 (S : Store) (n : Node) (h : n.ok) : callO (callL Try.prog hints) S 92 [.agg n.cells] = some { v := .bool n.diff } := callN S (call92 n h)
mutual
/-- Does a differential occur? -/
def Node.primed : Node → Bool
  | .mk o _ _ _ _ f => (decide (o = 3) || (decide (o = 12) || decide (o = 39))) || Node.primeds f
def Node.primeds : List Node → Bool
  | [] => false
  | n :: r => n.primed || Node.primeds r
end
theorem Node.primed_eq (n : Node) : n.primed = ((decide (n.op = 3) || (decide (n.op = 12) || decide (n.op = 39))) || Node.primeds n.kids) := by cases n; rfl
theorem loop95 (n : Node) (hk : n.ok) (ih : ∀ k ∈ n.kids, callL Try.prog hints 95 [.agg k.cells] = some (.bool k.primed)) : ∀ (m i : Nat), i + m = n.kids.length →
    F95.L0 0 1 (.mp 0 0 0) (.int .i64 i) [.arr [n.cells] none false] = some (.bool (Node.primeds (n.kids.drop i)), [.arr [n.cells] none false]) := by
  intro m
  induction m with
  | zero =>
    intro i hi
    have h1 : ¬ (i : Int) < (n.kids.length : Int) := by omega
    refine F95.L0_step ?_
    rw [List.drop_of_length_le (by omega)]
    simp only [go_sem, ↓reduceIte, Nat.reduceEqDiff, Nat.reduceBEq, Nat.reduceAdd, Nat.reduceMul, Nat.reduceSub, Nat.reduceLT, Nat.reduceLeDiff, reduceCtorEq, Int.reduceToNat, Int.reduceLE, Int.reduceLT, Int.reduceEq, h1]
    rfl
  | succ m hm =>
    intro i hi
    have h1 : (i : Int) < (n.kids.length : Int) := by omega
    have h2 := wrap_succ (i := i) (n := n.kids.length) (by omega) hk.len
    have h4 : 0 ≤ (i : Int) ∧ (i : Int) < (n.kids.length : Int) := ⟨by omega, h1⟩
    have h5 := fun S => callN S (ih _ (kids_mem (l := n.kids) (i := i) (by omega)))
    have h6 := hm (i + 1) (by omega)
    have h7 : Node.primeds (n.kids.drop i) = ((n.kids.getD i default).primed || Node.primeds (n.kids.drop (i + 1))) := by rw [kids_drop (l := n.kids) (i := i) (by omega)]; rfl
    rw [h7]
    refine F95.L0_step ?_
    cases hd : (n.kids.getD i default).primed
    · rw [hd] at h5
      simp only [go_sem, ↓reduceIte, Nat.reduceEqDiff, Nat.reduceBEq, Nat.reduceAdd, Nat.reduceMul, Nat.reduceSub, Nat.reduceLT, Nat.reduceLeDiff, reduceCtorEq, Int.reduceToNat, Int.reduceLE, Int.reduceLT, Int.reduceEq, h1, h2, h4, h5, h6]
    · rw [hd] at h5
      simp only [go_sem, ↓reduceIte, Nat.reduceEqDiff, Nat.reduceBEq, Nat.reduceAdd, Nat.reduceMul, Nat.reduceSub, Nat.reduceLT, Nat.reduceLeDiff, reduceCtorEq, Int.reduceToNat, Int.reduceLE, Int.reduceLT, Int.reduceEq, h1, h2, h4, h5, Bool.true_or]
theorem call95 : ∀ n : Node, n.ok → callL Try.prog hints 95 [.agg n.cells] = some (.bool n.primed) := by
  refine Node.ind' fun n ih hn => ?_
  have h := loop95 n hn (fun k hk' => ih k hk' (hn.kids k hk')) n.kids.length 0 (by omega)
  simp only [Int.natCast_zero, List.drop_zero] at h
  refine F95.call (r := (.bool n.primed, [.arr [n.cells] none false])) ?_ rfl
  rw [Node.primed_eq]
  by_cases h1 : n.op = 3
  · simp only [go_sem, ↓reduceIte, Nat.reduceEqDiff, Nat.reduceBEq, Nat.reduceAdd, Nat.reduceMul, Nat.reduceSub, Nat.reduceLT, Nat.reduceLeDiff, reduceCtorEq, Int.reduceToNat, Int.reduceLE, Int.reduceLT, Int.reduceEq, h1] <;> rfl
  by_cases h2 : n.op = 12
  · simp only [go_sem, ↓reduceIte, Nat.reduceEqDiff, Nat.reduceBEq, Nat.reduceAdd, Nat.reduceMul, Nat.reduceSub, Nat.reduceLT, Nat.reduceLeDiff, reduceCtorEq, Int.reduceToNat, Int.reduceLE, Int.reduceLT, Int.reduceEq, h2] <;> rfl
  by_cases h3 : n.op = 39
  · simp only [go_sem, ↓reduceIte, Nat.reduceEqDiff, Nat.reduceBEq, Nat.reduceAdd, Nat.reduceMul, Nat.reduceSub, Nat.reduceLT, Nat.reduceLeDiff, reduceCtorEq, Int.reduceToNat, Int.reduceLE, Int.reduceLT, Int.reduceEq, h3] <;> rfl
  · simp only [go_sem, ↓reduceIte, Nat.reduceEqDiff, Nat.reduceBEq, Nat.reduceAdd, Nat.reduceMul, Nat.reduceSub, Nat.reduceLT, Nat.reduceLeDiff, reduceCtorEq, Int.reduceToNat, Int.reduceLE, Int.reduceLT, Int.reduceEq, h1, h2, h3, h]
theorem callO95 (S : Store) (n : Node) (h : n.ok) : callO (callL Try.prog hints) S 95 [.agg n.cells] = some { v := .bool n.primed } := callN S (call95 n h)
end Go.Vs
