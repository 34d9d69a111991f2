/- tree.Compare and the reference's: what they return. -/

import Derived.Test.YtnddhkcciphhkaaMQ12
import Derived.Test.YtnddhkcciphhkaaMQ13
set_option linter.unusedVariables false
set_option linter.unusedSimpArgs false
namespace Go.Vs
open Go Go.Proofs
def cmpB (b : Bool) : Int := if b = true then -1 else 1
def cmpI (a b : Int) : Int := if a < b then -1 else if b < a then 1 else 0
def seqI (x y : Int) : Int := if x ≠ 0 then x else y
def cmpStr (a b : ByteArray) : Int := if a.toList ≠ b.toList then cmpB (Op.bytesLess a.toList b.toList) else 0
def cmpNeg (a b : Bool) : Int := if a ≠ b then cmpB b else 0
/-- Words below place m, from the last. -/
def wordsTo (a b : List Int) : Nat → Int
  | 0 => 0
  | m + 1 => seqI (cmpI (a.getD m 0) (b.getD m 0)) (wordsTo a b m)
def cmpWords (a b : List Int) : Int := seqI (cmpI a.length b.length) (wordsTo a b a.length)
mutual
def Node.cmp : Node → Node → Int
  | .mk a b c d e f, m => seqI (cmpI a m.op) (seqI (cmpStr b m.name) (seqI (cmpNeg c m.neg) (seqI (cmpWords d m.num) (seqI (cmpWords e m.den) (seqI (cmpI f.length m.kids.length) (Node.cmps f m.kids))))))
def Node.cmps : List Node → List Node → Int
  | [], _ => 0
  | _ :: _, [] => 0
  | n :: r, m :: s => seqI (n.cmp m) (Node.cmps r s)
end
theorem Node.cmp_eq (n m : Node) : n.cmp m = seqI (cmpI n.op m.op) (seqI (cmpStr n.name m.name) (seqI (cmpNeg n.neg m.neg) (seqI (cmpWords n.num m.num) (seqI (cmpWords n.den m.den) (seqI (cmpI n.kids.length m.kids.length) (Node.cmps n.kids m.kids)))))) := by cases n; rfl

theorem call68 (b : Bool) : callL Try.prog hints 68 [.bool b] = some (.int .i64 (cmpB b)) := by
  refine F68.call (r := (.int .i64 (cmpB b), [])) ?_ rfl
  simp only [go_sem, ↓reduceIte, Nat.reduceEqDiff, Nat.reduceBEq, Nat.reduceAdd, Nat.reduceMul, Nat.reduceSub, Nat.reduceLT, Nat.reduceLeDiff, reduceCtorEq, Int.reduceToNat, Int.reduceLE, Int.reduceLT, Int.reduceEq]
  cases b <;> simp only [go_sem, ↓reduceIte, Nat.reduceEqDiff, Nat.reduceBEq, Nat.reduceAdd, Nat.reduceMul, Nat.reduceSub, Nat.reduceLT, Nat.reduceLeDiff, reduceCtorEq, Int.reduceToNat, Int.reduceLE, Int.reduceLT, Int.reduceEq] <;> rfl
theorem call70 (a b : Int) : callL Try.prog hints 70 [.int .i64 a, .int .i64 b] = some (.int .i64 (cmpI a b)) := by
  refine F70.call (r := (.int .i64 (cmpI a b), [])) ?_ rfl
  simp only [go_sem, ↓reduceIte, Nat.reduceEqDiff, Nat.reduceBEq, Nat.reduceAdd, Nat.reduceMul, Nat.reduceSub, Nat.reduceLT, Nat.reduceLeDiff, reduceCtorEq, Int.reduceToNat, Int.reduceLE, Int.reduceLT, Int.reduceEq]
  repeat' split
  all_goals simp_all [cmpI]
  all_goals omega
@[go_sem] theorem callO68 (S : Store) (b : Bool) : callO (callL Try.prog hints) S 68 [.bool b] = some { v := .int .i64 (cmpB b) } := callO_plain (call68 b) (by simp [Plain.bool])
@[go_sem] theorem callO70 (S : Store) (a b : Int) : callO (callL Try.prog hints) S 70 [.int .i64 a, .int .i64 b] = some { v := .int .i64 (cmpI a b) } := callO_plain (call70 a b) (by simp [Plain.int])
theorem wrap_pred {m n : Nat} (h : m < n) (hn : n ≤ maxLen) : IntKind.i64.wrap ((m : Int) - 1) = (m : Int) - 1 := by
  have := maxLen_le
  rw [IntKind.wrap_i64]; omega
theorem loop69 (a b : List Int) (hl : a.length = b.length) (ha : a.length ≤ maxLen) : ∀ m, m ≤ a.length →
    F69.L0 0 0 (.sl (wordRows a) false) (.sl (wordRows b) false) (.int .i64 ((m : Int) - 1)) [] = some (.int .i64 (wordsTo a b m), []) := by
  intro m
  induction m with
  | zero =>
    intro hm
    apply F69.L0_step
    simp only [go_sem, ↓reduceIte, Nat.reduceEqDiff, Nat.reduceBEq, Nat.reduceAdd, Nat.reduceMul, Nat.reduceSub, Nat.reduceLT, Nat.reduceLeDiff, reduceCtorEq, Int.reduceToNat, Int.reduceLE, Int.reduceLT, Int.reduceEq, Int.natCast_zero, Int.reduceSub, wordsTo]
  | succ m ih =>
    intro hm
    apply F69.L0_step
    have e1 : ((m + 1 : Nat) : Int) - 1 = (m : Int) := by omega
    have h1 : (0 : Int) ≤ (m : Int) := by omega
    have h2 : (m : Int) < (a.length : Int) := by omega
    have h3 : (m : Int) < (b.length : Int) := by omega
    simp only [go_sem, ↓reduceIte, Nat.reduceEqDiff, Nat.reduceBEq, Nat.reduceAdd, Nat.reduceMul, Nat.reduceSub, Nat.reduceLT, Nat.reduceLeDiff, reduceCtorEq, Int.reduceToNat, Int.reduceLE, Int.reduceLT, Int.reduceEq, e1, h1, h2, h3, wrap_pred (m := m) (n := a.length) (by omega) ha, ih (by omega), wordsTo]
    repeat' split
    all_goals simp_all [seqI, cmpI, cmpB]
    all_goals omega
theorem call69 (a b : List Int) (ha : a.length ≤ maxLen) (hb : b.length ≤ maxLen) : callL Try.prog hints 69 [.sl (wordRows a) false, .sl (wordRows b) false] = some (.int .i64 (cmpWords a b)) := by
  refine F69.call (r := (.int .i64 (cmpWords a b), [])) ?_ rfl
  by_cases hl : a.length = b.length
  · have h1 : (a.length : Int) = (b.length : Int) := by omega
    have h2 : IntKind.i64.wrap ((b.length : Int) - 1) = (b.length : Int) - 1 := by
      have := maxLen_le
      rw [IntKind.wrap_i64]; omega
    have h3 := loop69 a b hl ha a.length (Nat.le_refl _)
    rw [h1] at h3
    simp only [go_sem, ↓reduceIte, Nat.reduceEqDiff, Nat.reduceBEq, Nat.reduceAdd, Nat.reduceMul, Nat.reduceSub, Nat.reduceLT, Nat.reduceLeDiff, reduceCtorEq, Int.reduceToNat, Int.reduceLE, Int.reduceLT, Int.reduceEq, h1, h2, h3]
    simp [cmpWords, seqI, cmpI, h1]
  · have h1 : ¬ (a.length : Int) = (b.length : Int) := by omega
    simp only [go_sem, ↓reduceIte, Nat.reduceEqDiff, Nat.reduceBEq, Nat.reduceAdd, Nat.reduceMul, Nat.reduceSub, Nat.reduceLT, Nat.reduceLeDiff, reduceCtorEq, Int.reduceToNat, Int.reduceLE, Int.reduceLT, Int.reduceEq, h1]
    split
    all_goals (simp [cmpWords, seqI, cmpI, cmpB] <;> omega)
theorem loop71 (a b : List Int) (hl : a.length = b.length) (ha : a.length ≤ maxLen) : ∀ m, m ≤ a.length →
    F71.L0 0 0 (.sl (wordRows a) false) (.sl (wordRows b) false) (.int .i64 ((m : Int) - 1)) [] = some (.int .i64 (wordsTo a b m), []) := by
  intro m
  induction m with
  | zero =>
    intro hm
    apply F71.L0_step
    simp only [go_sem, ↓reduceIte, Nat.reduceEqDiff, Nat.reduceBEq, Nat.reduceAdd, Nat.reduceMul, Nat.reduceSub, Nat.reduceLT, Nat.reduceLeDiff, reduceCtorEq, Int.reduceToNat, Int.reduceLE, Int.reduceLT, Int.reduceEq, Int.natCast_zero, Int.reduceSub, wordsTo]
  | succ m ih =>
    intro hm
    apply F71.L0_step
    have e1 : ((m + 1 : Nat) : Int) - 1 = (m : Int) := by omega
    have h1 : (0 : Int) ≤ (m : Int) := by omega
    have h2 : (m : Int) < (a.length : Int) := by omega
    have h3 : (m : Int) < (b.length : Int) := by omega
    simp only [go_sem, ↓reduceIte, Nat.reduceEqDiff, Nat.reduceBEq, Nat.reduceAdd, Nat.reduceMul, Nat.reduceSub, Nat.reduceLT, Nat.reduceLeDiff, reduceCtorEq, Int.reduceToNat, Int.reduceLE, Int.reduceLT, Int.reduceEq, e1, h1, h2, h3, wrap_pred (m := m) (n := a.length) (by omega) ha, ih (by omega), wordsTo]
    repeat' split
    all_goals simp_all [seqI, cmpI, cmpB]
    all_goals omega
theorem call71 (a b : List Int) (ha : a.length ≤ maxLen) (hb : b.length ≤ maxLen) : callL Try.prog hints 71 [.sl (wordRows a) false, .sl (wordRows b) false] = some (.int .i64 (cmpWords a b)) := by
  refine F71.call (r := (.int .i64 (cmpWords a b), [])) ?_ rfl
  by_cases hl : a.length = b.length
  · have h1 : (a.length : Int) = (b.length : Int) := by omega
    have h2 : IntKind.i64.wrap ((b.length : Int) - 1) = (b.length : Int) - 1 := by
      have := maxLen_le
      rw [IntKind.wrap_i64]; omega
    have h3 := loop71 a b hl ha a.length (Nat.le_refl _)
    rw [h1] at h3
    simp only [go_sem, ↓reduceIte, Nat.reduceEqDiff, Nat.reduceBEq, Nat.reduceAdd, Nat.reduceMul, Nat.reduceSub, Nat.reduceLT, Nat.reduceLeDiff, reduceCtorEq, Int.reduceToNat, Int.reduceLE, Int.reduceLT, Int.reduceEq, h1, h2, h3]
    simp [cmpWords, seqI, cmpI, h1]
  · have h1 : ¬ (a.length : Int) = (b.length : Int) := by omega
    simp only [go_sem, ↓reduceIte, Nat.reduceEqDiff, Nat.reduceBEq, Nat.reduceAdd, Nat.reduceMul, Nat.reduceSub, Nat.reduceLT, Nat.reduceLeDiff, reduceCtorEq, Int.reduceToNat, Int.reduceLE, Int.reduceLT, Int.reduceEq, h1]
    split
    all_goals (simp [cmpWords, seqI, cmpI, cmpB] <;> omega)
theorem callO69 (S : Store) (a b : List Int) (ha : a.length ≤ maxLen) (hb : b.length ≤ maxLen) : callO (callL Try.prog hints) S 69 [.sl (wordRows a) false, .sl (wordRows b) false] = some { v := .int .i64 (cmpWords a b) } := callO_plain (call69 a b ha hb) (by simp [Plain.sl])
theorem callO71 (S : Store) (a b : List Int) (ha : a.length ≤ maxLen) (hb : b.length ≤ maxLen) : callO (callL Try.prog hints) S 71 [.sl (wordRows a) false, .sl (wordRows b) false] = some { v := .int .i64 (cmpWords a b) } := callO_plain (call71 a b ha hb) (by simp [Plain.sl])
theorem callN2 {f : FuncId} {n m : Node} {v : PV} (S : Store) (h : callL Try.prog hints f [.agg n.cells, .agg m.cells] = some v) : callO (callL Try.prog hints) S f [.agg n.cells, .agg m.cells] = some { v } := callO_plain h (by simp [Node.plain])
theorem Node.ok.num {n : Node} (h : n.ok) : n.num.length ≤ maxLen := by cases n; exact h.2.2.1
theorem Node.ok.den {n : Node} (h : n.ok) : n.den.length ≤ maxLen := by cases n; exact h.2.2.2.1
theorem Node.ok.len {n : Node} (h : n.ok) : n.kids.length ≤ maxLen := by cases n; exact h.2.2.2.2.2.2.1
theorem Node.ok.kids {n : Node} (h : n.ok) : ∀ k ∈ n.kids, k.ok := by cases n; exact Node.oks_iff.1 h.2.2.2.2.2.2.2
theorem cmps_drop {a b : List Node} {i : Nat} (ha : i < a.length) (hb : i < b.length) : Node.cmps (a.drop i) (b.drop i) = seqI ((a.getD i default).cmp (b.getD i default)) (Node.cmps (a.drop (i + 1)) (b.drop (i + 1))) := by
  rw [kids_drop ha, kids_drop hb]
  rfl
theorem loop42 (a b : Node) (ha : a.ok) (hl : a.kids.length = b.kids.length) (ih : ∀ k ∈ a.kids, ∀ m ∈ b.kids, callL Try.prog hints 42 [.agg k.cells, .agg m.cells] = some (.int .i64 (k.cmp m))) : ∀ (m i : Nat), i + m = a.kids.length →
    F42.L1 0 2 (.mp 0 0 0) (.mp 1 0 0) (.int .i64 a.kids.length) (.int .i64 i) [.arr [a.cells] none false, .arr [b.cells] none false] =
      some (.int .i64 (Node.cmps (a.kids.drop i) (b.kids.drop i)), [.arr [a.cells] none false, .arr [b.cells] none false]) := by
  intro m
  induction m with
  | zero =>
    intro i hi
    apply F42.L1_step
    have h1 : ¬ (i : Int) < (a.kids.length : Int) := by omega
    simp only [go_sem, ↓reduceIte, Nat.reduceEqDiff, Nat.reduceBEq, Nat.reduceAdd, Nat.reduceMul, Nat.reduceSub, Nat.reduceLT, Nat.reduceLeDiff, reduceCtorEq, Int.reduceToNat, Int.reduceLE, Int.reduceLT, Int.reduceEq, h1]
    rw [List.drop_of_length_le (l := a.kids) (by omega)]
    rfl
  | succ m hm =>
    intro i hi
    apply F42.L1_step
    have h1 : (i : Int) < (a.kids.length : Int) := by omega
    have h1' : (i : Int) < (b.kids.length : Int) := by omega
    have h2 := wrap_succ (i := i) (n := a.kids.length) (by omega) ha.len
    have h4 : (0 : Int) ≤ (i : Int) := by omega
    have h5 := fun S => callN2 S (ih _ (kids_mem (l := a.kids) (i := i) (by omega)) _ (kids_mem (l := b.kids) (i := i) (by omega)))
    simp only [go_sem, ↓reduceIte, Nat.reduceEqDiff, Nat.reduceBEq, Nat.reduceAdd, Nat.reduceMul, Nat.reduceSub, Nat.reduceLT, Nat.reduceLeDiff, reduceCtorEq, Int.reduceToNat, Int.reduceLE, Int.reduceLT, Int.reduceEq, h1, h1', h2, h4, h5, hm (i + 1) (by omega), cmps_drop (a := a.kids) (b := b.kids) (i := i) (by omega) (by omega)]
    split <;> simp_all [seqI]
theorem call42 : ∀ a : Node, a.ok → ∀ b : Node, b.ok → callL Try.prog hints 42 [.agg a.cells, .agg b.cells] = some (.int .i64 (a.cmp b)) := by
  refine Node.ind' fun a ih ha b hb => ?_
  refine F42.call (r := (.int .i64 (a.cmp b), [.arr [a.cells] none false, .arr [b.cells] none false])) ?_ rfl
  have hn := fun S => callO69 S a.num b.num ha.num hb.num
  have hd := fun S => callO69 S a.den b.den ha.den hb.den
  by_cases hl : a.kids.length = b.kids.length
  · have h := loop42 a b ha hl (fun k hk m hm => ih k hk (ha.kids k hk) m (hb.kids m hm)) a.kids.length 0 (by omega)
    simp only [Int.natCast_zero, List.drop_zero] at h
    have h1 : (a.kids.length : Int) = (b.kids.length : Int) := by omega
    rw [h1] at h
    simp only [go_sem, ↓reduceIte, Nat.reduceEqDiff, Nat.reduceBEq, Nat.reduceAdd, Nat.reduceMul, Nat.reduceSub, Nat.reduceLT, Nat.reduceLeDiff, reduceCtorEq, Int.reduceToNat, Int.reduceLE, Int.reduceLT, Int.reduceEq, hn, hd, h1, h]
    rw [Node.cmp_eq]
    repeat' split
    all_goals simp_all [seqI, cmpI, cmpStr, cmpNeg, cmpB]
    all_goals omega
  · have h1 : ¬ (a.kids.length : Int) = (b.kids.length : Int) := by omega
    simp only [go_sem, ↓reduceIte, Nat.reduceEqDiff, Nat.reduceBEq, Nat.reduceAdd, Nat.reduceMul, Nat.reduceSub, Nat.reduceLT, Nat.reduceLeDiff, reduceCtorEq, Int.reduceToNat, Int.reduceLE, Int.reduceLT, Int.reduceEq, hn, hd, h1]
    rw [Node.cmp_eq]
    repeat' split
    all_goals simp_all [seqI, cmpI, cmpStr, cmpNeg, cmpB]
    all_goals omega
theorem loop46 (a b : Node) (ha : a.ok) (hl : a.kids.length = b.kids.length) (ih : ∀ k ∈ a.kids, ∀ m ∈ b.kids, callL Try.prog hints 46 [.agg k.cells, .agg m.cells] = some (.int .i64 (k.cmp m))) : ∀ (m i : Nat), i + m = a.kids.length →
    F46.L0 0 2 (.mp 0 0 0) (.mp 1 0 0) (.int .i64 i) [.arr [a.cells] none false, .arr [b.cells] none false] =
      some (.int .i64 (Node.cmps (a.kids.drop i) (b.kids.drop i)), [.arr [a.cells] none false, .arr [b.cells] none false]) := by
  intro m
  induction m with
  | zero =>
    intro i hi
    apply F46.L0_step
    have h1 : ¬ (i : Int) < (a.kids.length : Int) := by omega
    simp only [go_sem, ↓reduceIte, Nat.reduceEqDiff, Nat.reduceBEq, Nat.reduceAdd, Nat.reduceMul, Nat.reduceSub, Nat.reduceLT, Nat.reduceLeDiff, reduceCtorEq, Int.reduceToNat, Int.reduceLE, Int.reduceLT, Int.reduceEq, h1]
    rw [List.drop_of_length_le (l := a.kids) (by omega)]
    rfl
  | succ m hm =>
    intro i hi
    apply F46.L0_step
    have h1 : (i : Int) < (a.kids.length : Int) := by omega
    have h1' : (i : Int) < (b.kids.length : Int) := by omega
    have h2 := wrap_succ (i := i) (n := a.kids.length) (by omega) ha.len
    have h4 : (0 : Int) ≤ (i : Int) := by omega
    have h5 := fun S => callN2 S (ih _ (kids_mem (l := a.kids) (i := i) (by omega)) _ (kids_mem (l := b.kids) (i := i) (by omega)))
    simp only [go_sem, ↓reduceIte, Nat.reduceEqDiff, Nat.reduceBEq, Nat.reduceAdd, Nat.reduceMul, Nat.reduceSub, Nat.reduceLT, Nat.reduceLeDiff, reduceCtorEq, Int.reduceToNat, Int.reduceLE, Int.reduceLT, Int.reduceEq, h1, h1', h2, h4, h5, hm (i + 1) (by omega), cmps_drop (a := a.kids) (b := b.kids) (i := i) (by omega) (by omega)]
    split <;> simp_all [seqI]
theorem call46 : ∀ a : Node, a.ok → ∀ b : Node, b.ok → callL Try.prog hints 46 [.agg a.cells, .agg b.cells] = some (.int .i64 (a.cmp b)) := by
  refine Node.ind' fun a ih ha b hb => ?_
  refine F46.call (r := (.int .i64 (a.cmp b), [.arr [a.cells] none false, .arr [b.cells] none false])) ?_ rfl
  have hn := fun S => callO71 S a.num b.num ha.num hb.num
  have hd := fun S => callO71 S a.den b.den ha.den hb.den
  by_cases hl : a.kids.length = b.kids.length
  · have h := loop46 a b ha hl (fun k hk m hm => ih k hk (ha.kids k hk) m (hb.kids m hm)) a.kids.length 0 (by omega)
    simp only [Int.natCast_zero, List.drop_zero] at h
    have h0 : cmpI (b.kids.length : Int) (b.kids.length : Int) = 0 := by simp [cmpI]
    have h1 : (a.kids.length : Int) = (b.kids.length : Int) := by omega
    simp only [go_sem, ↓reduceIte, Nat.reduceEqDiff, Nat.reduceBEq, Nat.reduceAdd, Nat.reduceMul, Nat.reduceSub, Nat.reduceLT, Nat.reduceLeDiff, reduceCtorEq, Int.reduceToNat, Int.reduceLE, Int.reduceLT, Int.reduceEq, hn, hd, h1, h, h0]
    rw [Node.cmp_eq]
    repeat' split
    all_goals simp_all [seqI, cmpStr, cmpNeg, cmpB]
  · have h1 : ¬ cmpI (a.kids.length : Int) (b.kids.length : Int) = 0 := by unfold cmpI; omega
    simp only [go_sem, ↓reduceIte, Nat.reduceEqDiff, Nat.reduceBEq, Nat.reduceAdd, Nat.reduceMul, Nat.reduceSub, Nat.reduceLT, Nat.reduceLeDiff, reduceCtorEq, Int.reduceToNat, Int.reduceLE, Int.reduceLT, Int.reduceEq, hn, hd, h1]
    rw [Node.cmp_eq]
    repeat' split
    all_goals simp_all [seqI, cmpStr, cmpNeg, cmpB]
theorem call47 (a b : Node) (ha : a.ok) (hb : b.ok) : callL Try.prog hints 47 [.agg a.cells, .agg b.cells] = some (.bool (decide (a.cmp b = 0))) := by
  refine F47.call (r := (.bool (decide (a.cmp b = 0)), [.arr [a.cells] none false, .arr [b.cells] none false])) ?_ rfl
  have h := fun S => callN2 S (call42 a ha b hb)
  simp only [go_sem, ↓reduceIte, Nat.reduceEqDiff, Nat.reduceBEq, Nat.reduceAdd, Nat.reduceMul, Nat.reduceSub, Nat.reduceLT, Nat.reduceLeDiff, reduceCtorEq, Int.reduceToNat, Int.reduceLE, Int.reduceLT, Int.reduceEq, h]
  split <;> simp_all
end Go.Vs
