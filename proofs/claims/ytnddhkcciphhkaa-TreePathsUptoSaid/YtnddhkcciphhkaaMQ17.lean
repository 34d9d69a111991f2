/- tree.natural, shape, differentiable: what they return. -/

import Derived.Test.YtnddhkcciphhkaaMQ12
import Derived.Test.YtnddhkcciphhkaaMQ14
import Derived.Test.YtnddhkcciphhkaaMQ15
import Derived.Test.YtnddhkcciphhkaaMQ16
section
set_option linter.unusedVariables false
set_option linter.unusedSimpArgs false
namespace Go.Vs
open Go Go.Proofs
/-- Cells of a number. -/
def ratCells (neg : Bool) (num den : List Int) : List PV := [.bool neg, .sl (wordRows num) false, .sl (wordRows den) false]
theorem ratCells_plain (neg : Bool) (num den : List Int) : Plain (.agg (ratCells neg num den)) := ⟨rfl, fun _ => rfl⟩
@[go_sem] theorem ratCells_length (neg : Bool) (num den : List Int) : (ratCells neg num den).length = 3 := nr rfl
@[go_sem] theorem ratCells_all (neg : Bool) (num den : List Int) : (ratCells neg num den).all PV.cell = true := nr rfl
@[go_sem] theorem ratCells_drop1 (neg : Bool) (num den : List Int) : (ratCells neg num den).drop 1 = [.sl (wordRows num) false, .sl (wordRows den) false] := nr rfl
@[go_sem] theorem ratCells_drop2 (neg : Bool) (num den : List Int) : (ratCells neg num den).drop 2 = [.sl (wordRows den) false] := nr rfl
@[go_sem] theorem ratCells_part4 (neg : Bool) (num den : List Int) : part (tyi Try.prog 4) (ratCells neg num den) = some (.bool neg) := nr (part4 _ _)
@[go_sem] theorem ratCells_part51 (neg : Bool) (num den : List Int) : part (tyi Try.prog 51) (ratCells neg num den) = some (.agg (ratCells neg num den)) := nr (part51 _ _ _ _)
/-- No zero at the end. -/
def lastOK (l : List Int) : Bool := decide (l.length = 0) || decide (l.getD (l.length - 1) 0 ≠ 0)
/-- Words without a zero at the end, at most so many. -/
def wordsOK (l : List Int) (most : Int) : Bool := decide ((l.length : Int) ≤ most) && lastOK l
theorem call97 (l : List Int) (hl : l.length ≤ maxLen) (m : Int) : callL Try.prog hints 97 [.sl (wordRows l) false, .int .i64 m] = some (.bool (wordsOK l m)) := by
  refine F97.call (r := (.bool (wordsOK l m), [])) ?_ rfl
  have h0 := maxLen_le
  by_cases hz : l.length = 0
  · have h1 : (l.length : Int) = 0 := by omega
    simp only [go_sem, ↓reduceIte, Nat.reduceEqDiff, Nat.reduceBEq, Nat.reduceAdd, Nat.reduceMul, Nat.reduceSub, Nat.reduceLT, Nat.reduceLeDiff, reduceCtorEq, Int.reduceToNat, Int.reduceLE, Int.reduceLT, Int.reduceEq, h1]
    by_cases h2 : 0 ≤ m <;> simp [wordsOK, lastOK, hz, h2]
  · have h1 : ¬ (l.length : Int) = 0 := by omega
    have h2 : IntKind.i64.wrap ((l.length : Int) - 1) = ((l.length - 1 : Nat) : Int) := by rw [IntKind.wrap_i64]; omega
    have h3 : 0 ≤ ((l.length - 1 : Nat) : Int) ∧ ((l.length - 1 : Nat) : Int) < (l.length : Int) := by omega
    simp only [go_sem, ↓reduceIte, Nat.reduceEqDiff, Nat.reduceBEq, Nat.reduceAdd, Nat.reduceMul, Nat.reduceSub, Nat.reduceLT, Nat.reduceLeDiff, reduceCtorEq, Int.reduceToNat, Int.reduceLE, Int.reduceLT, Int.reduceEq, h1, h2, h3]
    have h5 : ∀ b : Bool, wordsOK l m = (decide ((l.length : Int) ≤ m) && decide (l.getD (l.length - 1) 0 ≠ 0)) := fun _ => by
      simp only [wordsOK, lastOK, hz, decide_false, Bool.false_or]
    rw [h5 true]
    by_cases h6 : (l.length : Int) ≤ m
    · by_cases h7 : l.getD (l.length - 1) 0 = 0
      · rw [if_pos h6, if_pos h7, decide_eq_true h6, h7]; rfl
      · rw [if_pos h6, if_neg h7, decide_eq_true h6, decide_eq_true h7]; rfl
    · rw [if_neg h6, decide_eq_false h6]; rfl
/-- Is a number a natural one of a tree? -/
def natOK (neg : Bool) (num den : List Int) : Bool := !neg && (decide (den.length = 1) && (decide (den.getD 0 0 = 1) && (decide (num.length ≤ 20) && lastOK num)))
theorem call96 (num den : List Int) (hn : num.length ≤ 20) (hd : den.length = 1) (h1 : den.getD 0 0 = 1) : callL Try.prog hints 96 [.agg (ratCells false num den), .int .i64 4096] = some (.bool (lastOK num)) := by
  refine F96.call (r := (.bool (lastOK num), [.arr [ratCells false num den] none false])) ?_ rfl
  have h0 : (20 : Nat) ≤ maxLen := by decide
  have e1 := fun S => callO_plain (S := S) (call97 num (by omega) 4096) (by simp [Plain.sl, Plain.int])
  have e2 := fun S => callO_plain (S := S) (call97 den (by omega) 4096) (by simp [Plain.sl, Plain.int])
  have w2 : wordsOK den 4096 = true := by simp only [wordsOK, lastOK, hd, h1]; rfl
  have w1 : wordsOK num 4096 = lastOK num := by
    have : (num.length : Int) ≤ 4096 := by omega
    simp only [wordsOK, this, decide_true, Bool.true_and]
  have d1 : (den.length : Int) = 1 := by omega
  rw [w1] at e1
  rw [w2] at e2
  simp only [go_sem, ↓reduceIte, Nat.reduceEqDiff, Nat.reduceBEq, Nat.reduceAdd, Nat.reduceMul, Nat.reduceSub, Nat.reduceLT, Nat.reduceLeDiff, reduceCtorEq, Int.reduceToNat, Int.reduceLE, Int.reduceLT, Int.reduceEq, e1, e2, d1, h1]
  cases lastOK num <;> simp only [go_sem, ↓reduceIte, Nat.reduceEqDiff, Nat.reduceBEq, Nat.reduceAdd, Nat.reduceMul, Nat.reduceSub, Nat.reduceLT, Nat.reduceLeDiff, reduceCtorEq, Int.reduceToNat, Int.reduceLE, Int.reduceLT, Int.reduceEq]
  split <;> rfl
theorem call94 (num den : List Int) (hn : num.length ≤ 20) (hd : den.length = 1) (h1 : den.getD 0 0 = 1) : callL Try.prog hints 94 [.agg (ratCells false num den)] = some (.bool (lastOK num)) := by
  refine F94.call (r := (.bool (lastOK num), [.arr [ratCells false num den] none false])) ?_ rfl
  have e1 := fun S => callO_plain (S := S) (call96 num den hn hd h1) (by simp [ratCells_plain, Plain.int])
  simp only [go_sem, ↓reduceIte, Nat.reduceEqDiff, Nat.reduceBEq, Nat.reduceAdd, Nat.reduceMul, Nat.reduceSub, Nat.reduceLT, Nat.reduceLeDiff, reduceCtorEq, Int.reduceToNat, Int.reduceLE, Int.reduceLT, Int.reduceEq, e1]
  cases lastOK num <;> simp only [go_sem, ↓reduceIte, Nat.reduceEqDiff, Nat.reduceBEq, Nat.reduceAdd, Nat.reduceMul, Nat.reduceSub, Nat.reduceLT, Nat.reduceLeDiff, reduceCtorEq, Int.reduceToNat, Int.reduceLE, Int.reduceLT, Int.reduceEq]
theorem call84 (neg : Bool) (num den : List Int) : callL Try.prog hints 84 [.agg (ratCells neg num den)] = some (.bool (natOK neg num den)) := by
  refine F84.call (r := (.bool (natOK neg num den), [.arr [ratCells neg num den] none false])) ?_ rfl
  cases neg with
  | true => simp only [go_sem, ↓reduceIte, Nat.reduceEqDiff, Nat.reduceBEq, Nat.reduceAdd, Nat.reduceMul, Nat.reduceSub, Nat.reduceLT, Nat.reduceLeDiff, reduceCtorEq, Int.reduceToNat, Int.reduceLE, Int.reduceLT, Int.reduceEq]; rfl
  | false =>
    by_cases hd : den.length = 1
    · have d1 : (den.length : Int) = 1 := by omega
      by_cases h1 : den.getD 0 0 = 1
      · by_cases hn : num.length ≤ 20
        · have n1 : (num.length : Int) ≤ 20 := by omega
          have e1 := fun S => callO_plain (S := S) (call94 num den hn hd h1) (by simp [ratCells_plain])
          have hnat : natOK false num den = lastOK num := by simp only [natOK, hd, h1, hn]; rfl
          rw [hnat]
          simp only [go_sem, ↓reduceIte, Nat.reduceEqDiff, Nat.reduceBEq, Nat.reduceAdd, Nat.reduceMul, Nat.reduceSub, Nat.reduceLT, Nat.reduceLeDiff, reduceCtorEq, Int.reduceToNat, Int.reduceLE, Int.reduceLT, Int.reduceEq, d1, h1, n1, e1]
          cases lastOK num <;> simp only [go_sem, ↓reduceIte, Nat.reduceEqDiff, Nat.reduceBEq, Nat.reduceAdd, Nat.reduceMul, Nat.reduceSub, Nat.reduceLT, Nat.reduceLeDiff, reduceCtorEq, Int.reduceToNat, Int.reduceLE, Int.reduceLT, Int.reduceEq]
        · have n1 : ¬ (num.length : Int) ≤ 20 := by omega
          have hnat : natOK false num den = false := by simp only [natOK, hd, h1, hn]; rfl
          rw [hnat]
          simp only [go_sem, ↓reduceIte, Nat.reduceEqDiff, Nat.reduceBEq, Nat.reduceAdd, Nat.reduceMul, Nat.reduceSub, Nat.reduceLT, Nat.reduceLeDiff, reduceCtorEq, Int.reduceToNat, Int.reduceLE, Int.reduceLT, Int.reduceEq, d1, h1, n1]
      · have hnat : natOK false num den = false := by simp only [natOK, hd, h1]; rfl
        rw [hnat]
        simp only [go_sem, ↓reduceIte, Nat.reduceEqDiff, Nat.reduceBEq, Nat.reduceAdd, Nat.reduceMul, Nat.reduceSub, Nat.reduceLT, Nat.reduceLeDiff, reduceCtorEq, Int.reduceToNat, Int.reduceLE, Int.reduceLT, Int.reduceEq, d1, h1]
    · have d1 : ¬ (den.length : Int) = 1 := by omega
      have hnat : natOK false num den = false := by simp only [natOK, hd]; rfl
      rw [hnat]
      simp only [go_sem, ↓reduceIte, Nat.reduceEqDiff, Nat.reduceBEq, Nat.reduceAdd, Nat.reduceMul, Nat.reduceSub, Nat.reduceLT, Nat.reduceLeDiff, reduceCtorEq, Int.reduceToNat, Int.reduceLE, Int.reduceLT, Int.reduceEq, d1]
@[go_sem] theorem callO84 (S : Store) (neg : Bool) (num den : List Int) : callO (callL Try.prog hints) S 84 [.agg (ratCells neg num den)] = some { v := .bool (natOK neg num den) } := callO_plain (call84 neg num den) (by simp [ratCells_plain])
/-- Operators of formulas that a differential may have. -/
def diffLeaf (o : Int) : Bool := decide (o = 20) || decide (o = 21) || decide (22 ≤ o ∧ o ≤ 27) || decide (o = 37) || decide (o = 38)
mutual
def Node.diff : Node → Bool
  | .mk o _ _ _ _ f => diffLeaf o || ((decide (o = 29) || decide (o = 30)) && Node.diffs f)
def Node.diffs : List Node → Bool
  | [] => true
  | n :: r => n.diff && Node.diffs r
end
theorem Node.diff_eq (n : Node) : n.diff = (diffLeaf n.op || ((decide (n.op = 29) || decide (n.op = 30)) && Node.diffs n.kids)) := by cases n; rfl
theorem loop86 (n : Node) (hk : n.ok) (ih : ∀ k ∈ n.kids, callL Try.prog hints 86 [.agg k.cells] = some (.bool k.diff)) : ∀ (m i : Nat), i + m = n.kids.length →
    ∃ S', F86.L1 0 1 (.sl (Node.rows n.kids) false) (.int .i64 n.kids.length) (.int .i64 i) [.arr [n.cells] none false] = some (.bool (Node.diffs (n.kids.drop i)), S') := by
  intro m
  induction m with
  | zero =>
    intro i hi
    have h1 : ¬ (i : Int) < (n.kids.length : Int) := by omega
    refine ⟨?S, F86.L1_step ?h⟩
    case h =>
      simp only [go_sem, ↓reduceIte, Nat.reduceEqDiff, Nat.reduceBEq, Nat.reduceAdd, Nat.reduceMul, Nat.reduceSub, Nat.reduceLT, Nat.reduceLeDiff, reduceCtorEq, Int.reduceToNat, Int.reduceLE, Int.reduceLT, Int.reduceEq, h1]
      rw [List.drop_of_length_le (by omega)]
      rfl
  | succ m hm =>
    intro i hi
    have h1 : (i : Int) < (n.kids.length : Int) := by omega
    have h2 := wrap_succ (i := i) (n := n.kids.length) (by omega) hk.len
    have h4 : 0 ≤ (i : Int) ∧ (i : Int) < (n.kids.length : Int) := ⟨by omega, h1⟩
    have h5 := fun S => callN S (ih _ (kids_mem (l := n.kids) (i := i) (by omega)))
    obtain ⟨S', h6⟩ := hm (i + 1) (by omega)
    have h7 : Node.diffs (n.kids.drop i) = ((n.kids.getD i default).diff && Node.diffs (n.kids.drop (i + 1))) := by rw [kids_drop (l := n.kids) (i := i) (by omega)]; rfl
    rw [h7]
    cases hd : (n.kids.getD i default).diff with
    | false =>
      rw [hd] at h5
      refine ⟨[.arr [n.cells] none false, .arr [(n.kids.getD i default).cells] none false], F86.L1_step ?_⟩
      simp only [go_sem, ↓reduceIte, Nat.reduceEqDiff, Nat.reduceBEq, Nat.reduceAdd, Nat.reduceMul, Nat.reduceSub, Nat.reduceLT, Nat.reduceLeDiff, reduceCtorEq, Int.reduceToNat, Int.reduceLE, Int.reduceLT, Int.reduceEq, h1, h2, h4, h5]
    | true =>
      rw [hd] at h5
      refine ⟨S', F86.L1_step ?_⟩
      simp only [go_sem, ↓reduceIte, Nat.reduceEqDiff, Nat.reduceBEq, Nat.reduceAdd, Nat.reduceMul, Nat.reduceSub, Nat.reduceLT, Nat.reduceLeDiff, reduceCtorEq, Int.reduceToNat, Int.reduceLE, Int.reduceLT, Int.reduceEq, h1, h2, h4, h5, h6]
theorem call86 : ∀ n : Node, n.ok → callL Try.prog hints 86 [.agg n.cells] = some (.bool n.diff) := by
  refine Node.ind' fun n ih hn => ?_
  obtain ⟨S', h⟩ := loop86 n hn (fun k hk' => ih k hk' (hn.kids k hk')) n.kids.length 0 (by omega)
  simp only [Int.natCast_zero, List.drop_zero] at h
  have key : ∃ S0, F86.E 0 (.agg n.cells) [] = some (.bool n.diff, S0) := by
    rw [Node.diff_eq]
    by_cases h1 : n.op = 29
    · refine ⟨S', ?_⟩
      simp only [go_sem, ↓reduceIte, Nat.reduceEqDiff, Nat.reduceBEq, Nat.reduceAdd, Nat.reduceMul, Nat.reduceSub, Nat.reduceLT, Nat.reduceLeDiff, reduceCtorEq, Int.reduceToNat, Int.reduceLE, Int.reduceLT, Int.reduceEq, h1, h]
      rfl
    by_cases h2 : n.op = 30
    · refine ⟨S', ?_⟩
      simp only [go_sem, ↓reduceIte, Nat.reduceEqDiff, Nat.reduceBEq, Nat.reduceAdd, Nat.reduceMul, Nat.reduceSub, Nat.reduceLT, Nat.reduceLeDiff, reduceCtorEq, Int.reduceToNat, Int.reduceLE, Int.reduceLT, Int.reduceEq, h2, h]
      rfl
    refine ⟨[.arr [n.cells] none false], ?_⟩
    simp only [go_sem, ↓reduceIte, Nat.reduceEqDiff, Nat.reduceBEq, Nat.reduceAdd, Nat.reduceMul, Nat.reduceSub, Nat.reduceLT, Nat.reduceLeDiff, reduceCtorEq, Int.reduceToNat, Int.reduceLE, Int.reduceLT, Int.reduceEq, h1, h2]
    repeat' split
    all_goals (simp [diffLeaf, *] <;> omega)
  obtain ⟨S0, hE⟩ := key
  exact F86.call hE rfl
theorem callO86 (S : Store) (n : Node) (h : n.ok) : callO (callL Try.prog hints) S 86 [.agg n.cells] = some { v := .bool n.diff } := callN S (call86 n h)
end Go.Vs
end
/- tree.within: what it returns, and what it leaves. -/
section
set_option linter.unusedVariables false
set_option linter.unusedSimpArgs false
namespace Go.Vs
open Go Go.Proofs
mutual
def Node.within : Node → Int → Int → Bool × Int
  | .mk _ _ _ _ _ f, left, lv => if left - 1 < 0 ∨ lv ≤ 0 then (false, left - 1) else Node.withins f (left - 1) (lv - 1)
def Node.withins : List Node → Int → Int → Bool × Int
  | [], left, _ => (true, left)
  | n :: r, left, lv => if (n.within left lv).1 = true then Node.withins r (n.within left lv).2 lv else (false, (n.within left lv).2)
end
theorem Node.within_eq (n : Node) (left lv : Int) : n.within left lv = if left - 1 < 0 ∨ lv ≤ 0 then (false, left - 1) else Node.withins n.kids (left - 1) (lv - 1) := by cases n; rfl
theorem heldBelow_mono {n n' : Nat} (h : n ≤ n') : ∀ (m : Nat) (S : Store), heldBelow n m S = true → heldBelow n' m S = true
  | 0, S, _ => by simp [heldBelow]
  | m + 1, [], _ => by simp [heldBelow]
  | m + 1, .arr rows g f :: r, hh => by
    simp only [heldBelow, Bool.and_eq_true, List.all_eq_true, decide_eq_true_eq] at hh ⊢
    exact ⟨fun i hi => Nat.lt_of_lt_of_le (hh.1 i hi) h, heldBelow_mono h m r hh.2⟩
  | m + 1, .gone :: r, hh => by
    simp only [heldBelow] at hh ⊢
    exact heldBelow_mono h m r hh
theorem heldBelow_append (n : Nat) : ∀ (S U : Store) (k : Nat), heldBelow n (S.length + k) (S ++ U) = (heldBelow n S.length S && heldBelow n k U)
  | [], U, k => by simp [heldBelow]
  | .arr rows g f :: S, U, k => by
    have e : (Obj.arr rows g f :: S).length + k = (S.length + k) + 1 := by simp only [List.length_cons]; omega
    rw [e]
    simp only [List.cons_append, heldBelow, List.length_cons, heldBelow_append n S U k, Bool.and_assoc]
  | .gone :: S, U, k => by
    have e : (Obj.gone :: S).length + k = (S.length + k) + 1 := by simp only [List.length_cons]; omega
    rw [e]
    simp only [List.cons_append, heldBelow, List.length_cons, heldBelow_append n S U k]
theorem heldBelow_take (n : Nat) (S U : Store) : heldBelow n S.length (S ++ U) = heldBelow n S.length S := by
  have := heldBelow_append n S U 0
  rw [Nat.add_zero] at this
  rw [this]
  simp [heldBelow]
@[go_sem] theorem rowsAt_tail (T U : Store) : rowsAt (T ++ U) T.length = rowsAt U 0 := by
  simp only [rowsAt]
  rw [List.getElem?_append_right (Nat.le_refl _), Nat.sub_self]
@[go_sem] theorem rowsAt_tail1 (T U : Store) (k : Nat) : rowsAt (T ++ U) (T.length + k) = rowsAt U k := by
  simp only [rowsAt]
  rw [List.getElem?_append_right (by omega), Nat.add_sub_cancel_left]
@[go_sem] theorem evStore_tail1 (m : Nat) (T U : Store) (k i off : Nat) (v : PV) : evStore m (T ++ U) (.mp (T.length + k) i off) v = (evStore m U (.mp k i off) v).map fun U => T ++ U := by
  induction T with
  | nil => simp
  | cons o T ih =>
    have e : (o :: T).length + k = (T.length + k) + 1 := by simp only [List.length_cons]; omega
    rw [e, List.cons_append, evStore_succ, ih]
    cases evStore m U (.mp k i off) v <;> rfl
@[go_sem] theorem evStore_tail (m : Nat) (T U : Store) (i off : Nat) (v : PV) : evStore m (T ++ U) (.mp T.length i off) v = (evStore m U (.mp 0 i off) v).map fun U => T ++ U := evStore_tail1 m T U 0 i off v
@[go_sem] theorem nilCheck_mp (a b c : Nat) : nilCheckO (.mp a b c) = some (.mp a b c) := nr rfl
@[go_sem] theorem alloc3 (id : Nat) : allocO (tyi Try.prog 3) id = some { v := .mp id 0 0, new := some ([[.int .i64 0]], none) } := by
  have e : (tyi Try.prog 3).zero = some [.int .i64 0] := by kernel_rfl
  simp [allocO, e, PV.cell]
attribute [go_sem] List.append_assoc List.length_append
theorem callE_eq {b : Nat} {h : Hint} {S : Store} {f : FuncId} {l : List PV} {v : PV} {S' : Store} (hr : hints.refs f = true) (hc : callRL Try.prog hints f l S = some (v, S')) (hl : S.length ≤ S'.length) : callE (ctxL Try.prog hints b h) S f l = some { v, S := S' } := by
  have e1 : (ctxL Try.prog hints b h).H.refs f = true := hr
  have e2 : (ctxL Try.prog hints b h).cr f l S = some (v, S') := hc
  unfold callE
  rw [if_pos e1, e2]
  simp only [Option.bind_some]
  rw [if_pos hl]
/-- All that is held lies below. -/
def Held (ra : List (List PV)) (T : Store) : Prop := ((rowsRefs ra).all fun i => decide (i < T.length + 2)) = true ∧ heldBelow (T.length + 2) T.length T = true
theorem Held.push {ra : List (List PV)} {T : Store} (h : Held ra T) {row : List PV} (hr : refsL row = []) : Held ra (T ++ [.arr [row] none false]) := by
  refine ⟨?_, ?_⟩
  · have h1 := h.1
    simp only [List.all_eq_true, decide_eq_true_eq, List.length_append, List.length_cons, List.length_nil] at h1 ⊢
    intro i hi
    have := h1 i hi
    omega
  · have e := heldBelow_append ((T ++ [Obj.arr [row] none false]).length + 2) T [Obj.arr [row] none false] 1
    have e2 : (T ++ [Obj.arr [row] none false]).length = T.length + 1 := by simp
    rw [e2] at e ⊢
    rw [e, heldBelow_mono (by omega) _ _ h.2]
    simp [heldBelow, rowsRefs, hr]
theorem take_len (T : Store) : List.take T.length T = T := List.take_length
theorem take_app (T G : Store) : List.take T.length (T ++ G) = T := by simp
theorem withins_drop {l : List Node} {i : Nat} (h : i < l.length) (left lv : Int) : Node.withins (l.drop i) left lv = if ((l.getD i default).within left lv).1 = true then Node.withins (l.drop (i + 1)) ((l.getD i default).within left lv).2 lv else (false, ((l.getD i default).within left lv).2) := by
  rw [kids_drop h]; rfl
mutual
theorem within_range : ∀ (n : Node) (left lv : Int), 0 ≤ left → (n.within left lv).2 ≤ left ∧ -1 ≤ (n.within left lv).2 ∧ ((n.within left lv).1 = true → 0 ≤ (n.within left lv).2)
  | .mk a b c d e f, left, lv, h => by
    simp only [Node.within]
    split
    · refine ⟨by simp only; omega, by simp only; omega, fun h => by cases h⟩
    · have := withins_range f (left - 1) (lv - 1) (by omega)
      exact ⟨by omega, this.2.1, this.2.2⟩
theorem withins_range : ∀ (l : List Node) (left lv : Int), 0 ≤ left → (Node.withins l left lv).2 ≤ left ∧ -1 ≤ (Node.withins l left lv).2 ∧ ((Node.withins l left lv).1 = true → 0 ≤ (Node.withins l left lv).2)
  | [], left, lv, h => by simp only [Node.withins]; exact ⟨by omega, by omega, fun _ => h⟩
  | n :: r, left, lv, h => by
    have h1 := within_range n left lv h
    simp only [Node.withins]
    split
    · rename_i hok
      have := withins_range r (n.within left lv).2 lv (h1.2.2 hok)
      exact ⟨by omega, this.2.1, this.2.2⟩
    · exact ⟨h1.1, h1.2.1, fun h => by cases h⟩
end
theorem loop63 (n : Node) (hn : n.ok) (lv : Int) (hlv : 0 ≤ lv ∧ lv ≤ 1000) (b : Nat) (ra : List (List PV)) (T : Store) (hT : Held ra T)
    (ih : ∀ k ∈ n.kids, ∀ (left : Int), (0 ≤ left ∧ left ≤ 100000) → ∀ T : Store, Held ra T → ∃ G, callRL Try.prog hints 63 [.agg k.cells, .mp 1 0 0, .int .i64 lv] (.arr ra none false :: .arr [[.int .i64 left]] none false :: T) = some (.bool (k.within left lv).1, .arr ra none false :: .arr [[.int .i64 (k.within left lv).2]] none false :: (T ++ G))) :
    ∀ (m i : Nat), i + m = n.kids.length → ∀ (left : Int), (0 ≤ left ∧ left ≤ 100000) →
      ∃ G, F63.L0 b (T.length + 2) (.mp 1 0 0) (.int .i64 (lv + 1)) (.sl (Node.rows n.kids) false) (.int .i64 n.kids.length) (.int .i64 i) (.arr ra none false :: .arr [[.int .i64 left]] none false :: T) =
        some (.bool (Node.withins (n.kids.drop i) left lv).1, .arr ra none false :: .arr [[.int .i64 (Node.withins (n.kids.drop i) left lv).2]] none false :: (T ++ G)) := by
  intro m
  induction m with
  | zero =>
    intro i hi left hleft
    have h1 : ¬ (i : Int) < (n.kids.length : Int) := by omega
    refine ⟨[], F63.L0_step ?_⟩
    simp only [go_sem, ↓reduceIte, Nat.reduceEqDiff, Nat.reduceBEq, Nat.reduceAdd, Nat.reduceMul, Nat.reduceSub, Nat.reduceLT, Nat.reduceLeDiff, reduceCtorEq, Int.reduceToNat, Int.reduceLE, Int.reduceLT, Int.reduceEq, h1, hT.1, hT.2, take_len]
    rw [List.drop_of_length_le (by omega)]
    rfl
  | succ m hm =>
    intro i hi left hleft
    have h1 : (i : Int) < (n.kids.length : Int) := by omega
    have h2 := wrap_succ (i := i) (n := n.kids.length) (by omega) hn.len
    have h3 : IntKind.i64.wrap (lv + 1 - 1) = lv := by rw [IntKind.wrap_i64]; omega
    have h4 : 0 ≤ (i : Int) ∧ (i : Int) < (n.kids.length : Int) := ⟨by omega, h1⟩
    obtain ⟨G, hG⟩ := ih _ (kids_mem (l := n.kids) (i := i) (by omega)) left hleft _ (hT.push (row := (n.kids.getD i default).cells) (Node.refs _))
    have hc := (show callE (F63.C b) _ 63 _ = _ from callE_eq (b := b) (h := F63.hint) (by rfl) hG (by simp))
    rw [List.append_assoc] at hc
    have hrange := within_range (n.kids.getD i default) left lv hleft.1
    rw [withins_drop (by omega)]
    cases hok : ((n.kids.getD i default).within left lv).1 with
    | true =>
      rw [hok] at hc
      obtain ⟨G', hG'⟩ := hm (i + 1) (by omega) ((n.kids.getD i default).within left lv).2 ⟨hrange.2.2 hok, by omega⟩
      refine ⟨G', F63.L0_step ?_⟩
      have h8 : 1 < T.length + 2 := by omega
      simp only [go_sem, ↓reduceIte, Nat.reduceEqDiff, Nat.reduceBEq, Nat.reduceAdd, Nat.reduceMul, Nat.reduceSub, Nat.reduceLT, Nat.reduceLeDiff, reduceCtorEq, Int.reduceToNat, Int.reduceLE, Int.reduceLT, Int.reduceEq, h1, h2, h3, h4, hc, hT.1, hT.2, h8, heldBelow_take, take_app, hG']
    | false =>
      rw [hok] at hc
      refine ⟨.arr [(n.kids.getD i default).cells] none false :: G, F63.L0_step ?_⟩
      simp only [go_sem, ↓reduceIte, Nat.reduceEqDiff, Nat.reduceBEq, Nat.reduceAdd, Nat.reduceMul, Nat.reduceSub, Nat.reduceLT, Nat.reduceLeDiff, reduceCtorEq, Int.reduceToNat, Int.reduceLE, Int.reduceLT, Int.reduceEq, h1, h2, h3, h4, hc, hT.1, hT.2]
theorem call63 : ∀ n : Node, n.ok → ∀ (lv left : Int), (0 ≤ lv ∧ lv ≤ 1000) → (0 ≤ left ∧ left ≤ 100000) → ∀ (ra : List (List PV)) (T : Store), Held ra T →
    ∃ G, callRL Try.prog hints 63 [.agg n.cells, .mp 1 0 0, .int .i64 lv] (.arr ra none false :: .arr [[.int .i64 left]] none false :: T) = some (.bool (n.within left lv).1, .arr ra none false :: .arr [[.int .i64 (n.within left lv).2]] none false :: (T ++ G)) := by
  refine Node.ind' fun n ih hn lv left hlv hleft ra T hT => ?_
  have hw : IntKind.i64.wrap (left - 1) = left - 1 := by rw [IntKind.wrap_i64]; omega
  have hT' := hT.push (row := n.cells) (Node.refs n)
  rw [Node.within_eq]
  by_cases h1 : left - 1 < 0
  · refine ⟨[.arr [n.cells] none false], F63.callR ?_⟩
    simp only [go_sem, ↓reduceIte, Nat.reduceEqDiff, Nat.reduceBEq, Nat.reduceAdd, Nat.reduceMul, Nat.reduceSub, Nat.reduceLT, Nat.reduceLeDiff, reduceCtorEq, Int.reduceToNat, Int.reduceLE, Int.reduceLT, Int.reduceEq, hw, h1, true_or]
  by_cases h2 : lv ≤ 0
  · refine ⟨[.arr [n.cells] none false], F63.callR ?_⟩
    simp only [go_sem, ↓reduceIte, Nat.reduceEqDiff, Nat.reduceBEq, Nat.reduceAdd, Nat.reduceMul, Nat.reduceSub, Nat.reduceLT, Nat.reduceLeDiff, reduceCtorEq, Int.reduceToNat, Int.reduceLE, Int.reduceLT, Int.reduceEq, hw, h1, h2, or_true]
  · obtain ⟨G, hG⟩ := loop63 n hn (lv - 1) (by omega) (T.length + 2) ra _ hT' (fun k hk left hl T hT => ih k hk (hn.kids k hk) (lv - 1) left (by omega) hl ra T hT) n.kids.length 0 (by omega) (left - 1) (by omega)
    have e1 : lv - 1 + 1 = lv := by omega
    have e2 : (T ++ [Obj.arr [n.cells] none false]).length = T.length + 1 := by simp
    rw [e1, e2] at hG
    simp only [Int.natCast_zero, List.drop_zero] at hG
    refine ⟨.arr [n.cells] none false :: G, F63.callR ?_⟩
    simp only [go_sem, ↓reduceIte, Nat.reduceEqDiff, Nat.reduceBEq, Nat.reduceAdd, Nat.reduceMul, Nat.reduceSub, Nat.reduceLT, Nat.reduceLeDiff, reduceCtorEq, Int.reduceToNat, Int.reduceLE, Int.reduceLT, Int.reduceEq, hw, h1, h2, or_self]
    rw [List.append_assoc] at hG
    exact hG
/-! ### The true numbers of nodes and levels -/
mutual
def Node.count : Node → Nat
  | .mk _ _ _ _ _ f => Node.counts f + 1
def Node.counts : List Node → Nat
  | [] => 0
  | n :: r => n.count + Node.counts r
end
mutual
def Node.depth : Node → Nat
  | .mk _ _ _ _ _ f => Node.depths f + 1
def Node.depths : List Node → Nat
  | [] => 0
  | n :: r => max n.depth (Node.depths r)
end
mutual
theorem within_iff : ∀ (n : Node) (left lv : Int), 0 ≤ left → 0 ≤ lv → ((n.within left lv).1 = true ↔ (n.count : Int) ≤ left ∧ (n.depth : Int) ≤ lv) ∧ ((n.within left lv).1 = true → (n.within left lv).2 = left - n.count)
  | .mk a b c d e f, left, lv, h, hl => by
    simp only [Node.within, Node.count, Node.depth]
    split
    · rename_i hc
      refine ⟨⟨(fun h => by cases h), fun h => ?_⟩, fun h => by cases h⟩
      exfalso; omega
    · rename_i hc
      have h1 := withins_iff f (left - 1) (lv - 1) (by omega) (by omega)
      refine ⟨h1.1.trans ?_, fun h => ?_⟩
      · constructor <;> (intro h; omega)
      · rw [h1.2 h]; omega
theorem withins_iff : ∀ (l : List Node) (left lv : Int), 0 ≤ left → 0 ≤ lv → ((Node.withins l left lv).1 = true ↔ (Node.counts l : Int) ≤ left ∧ (Node.depths l : Int) ≤ lv) ∧ ((Node.withins l left lv).1 = true → (Node.withins l left lv).2 = left - Node.counts l)
  | [], left, lv, h, hl => by
    simp only [Node.withins, Node.counts, Node.depths, true_iff]
    exact ⟨⟨by omega, by omega⟩, fun _ => by omega⟩
  | n :: r, left, lv, h, hl => by
    have h1 := within_iff n left lv h hl
    simp only [Node.withins, Node.counts, Node.depths]
    split
    · rename_i hok
      have h2 := withins_iff r (n.within left lv).2 lv ((within_range n left lv h).2.2 hok) hl
      have h3 := h1.1.1 hok
      have h4 := h1.2 hok
      refine ⟨h2.1.trans ?_, fun h => ?_⟩
      · rw [h4]; omega
      · rw [h2.2 h, h4]; omega
    · rename_i hok
      refine ⟨⟨(fun h => by cases h), fun h => ?_⟩, fun h => by cases h⟩
      exact absurd (h1.1.2 (by omega)) hok
end
end Go.Vs
end
/- Trees as arguments. -/
section
set_option linter.unusedVariables false
set_option linter.unusedSimpArgs false
namespace Go.Vs
open Go Go.Proofs
/-- The types of a struct's fields. -/
def fieldTypes (P : Program) (t : TypeId) : Option (List TypeId) := match P.underlying t with
  | some (.struct fs) => some (fs.toList.map Field.type)
  | _ => none
theorem all2_map {α β γ : Type} {R : γ → β → Prop} {f : α → γ} : ∀ {x : List α} {y : List β}, All2 (fun a b => R (f a) b) x y → All2 R (x.map f) y
  | _, _, .nil => .nil
  | _, _, .cons h t => .cons h (all2_map t)
theorem Dt.struct {P : Program} {k : Nat} {t : TypeId} {ts : List TypeId} {pvs : List PV} (hf : fieldTypes P t = some ts) (h : Dt P k t pvs) : ∃ k', k = k' + 1 ∧ ∃ pss : List (List PV), pvs = pss.flatten ∧ All2 (fun t ps => Dt P k' t ps) ts pss := by
  cases k with
  | zero => simp only [Dt] at h
  | succ k =>
    unfold fieldTypes at hf
    split at hf
    · rename_i fs hu
      simp only [Dt, hu] at h
      obtain ⟨pss, h1, h2⟩ := h
      simp only [Option.some.injEq] at hf
      subst hf
      exact ⟨k, rfl, pss, h1, all2_map (R := fun t ps => Dt P k t ps) h2⟩
    · cases hf
theorem Dt.slice {P : Program} {k : Nat} {t e : TypeId} {pvs : List PV} (hu : P.underlying t = some (.slice e)) (h : Dt P k t pvs) : ∃ k', k = k' + 1 ∧ ∃ rows, pvs = [.sl rows false] ∧ rows.length ≤ maxLen ∧ ∀ r ∈ rows, Dt P k' e r := by
  cases k with
  | zero => simp only [Dt] at h
  | succ k =>
    simp only [Dt, hu] at h
    exact ⟨k, rfl, h⟩
theorem Dt.int {P : Program} {k : Nat} {t : TypeId} {kd : IntKind} {pvs : List PV} (hu : P.underlying t = some (.int kd)) (h : Dt P k t pvs) : ∃ n, (Lit.int kd n).wf = true ∧ pvs = [.int kd n] := by
  cases k with
  | zero => simp only [Dt] at h
  | succ k => simpa only [Dt, hu] using h
theorem Dt.bool {P : Program} {k : Nat} {t : TypeId} {pvs : List PV} (hu : P.underlying t = some .bool) (h : Dt P k t pvs) : ∃ b, pvs = [.bool b] := by
  cases k with
  | zero => simp only [Dt] at h
  | succ k => simpa only [Dt, hu] using h
theorem Dt.str {P : Program} {k : Nat} {t : TypeId} {pvs : List PV} (hu : P.underlying t = some .string) (h : Dt P k t pvs) : ∃ s : ByteArray, s.size ≤ maxLen ∧ pvs = [.str s] := by
  cases k with
  | zero => simp only [Dt] at h
  | succ k => simpa only [Dt, hu] using h
theorem All2.inv {α β : Type} {R : α → β → Prop} {a : α} {x : List α} {y : List β} (h : All2 R (a :: x) y) : ∃ b z, y = b :: z ∧ R a b ∧ All2 R x z := by
  cases h with
  | cons h t => exact ⟨_, _, rfl, h, t⟩
theorem All2.inv0 {α β : Type} {R : α → β → Prop} {y : List β} (h : All2 R [] y) : y = [] := by cases h; rfl
theorem rows_choose {α : Type} {P : List PV → Prop} {Q : α → Prop} {f : α → List PV} (h : ∀ r, P r → ∃ a, Q a ∧ r = f a) : ∀ rows : List (List PV), (∀ r ∈ rows, P r) → ∃ l : List α, (∀ a ∈ l, Q a) ∧ rows = l.map f
  | [], _ => ⟨[], by simp, rfl⟩
  | r :: rows, hr => by
    obtain ⟨a, h1, h2⟩ := h r (hr r (by simp))
    obtain ⟨l, h3, h4⟩ := rows_choose h rows fun x hx => hr x (by simp [hx])
    exact ⟨a :: l, by simpa using ⟨h1, h3⟩, by simp [h2, h4]⟩
theorem und76 : Try.prog.underlying 76 = some (.int .u32) := by kernel_rfl
theorem und49 : Try.prog.underlying 49 = some (.slice 76) := by kernel_rfl
theorem und52 : Try.prog.underlying 52 = some (.slice 54) := by kernel_rfl
theorem und22 : Try.prog.underlying 22 = some (.slice 3) := by kernel_rfl
theorem ft54 : fieldTypes Try.prog 54 = some [3, 9, 51, 52] := by kernel_rfl
theorem ft51 : fieldTypes Try.prog 51 = some [4, 49, 49] := by kernel_rfl
theorem wf_i64 {n : Int} (h : (Lit.int .i64 n).wf = true) : -9223372036854775808 ≤ n ∧ n ≤ 9223372036854775807 := by
  simpa [Lit.wf, IntKind.min, IntKind.max, IntKind.signed, IntKind.bits] using h
theorem wf_u32 {n : Int} (h : (Lit.int .u32 n).wf = true) : 0 ≤ n ∧ n ≤ 4294967295 := by
  simpa [Lit.wf, IntKind.min, IntKind.max, IntKind.signed, IntKind.bits] using h
theorem Dt.words {k : Nat} {pvs : List PV} (h : Dt Try.prog k 49 pvs) : ∃ l : List Int, l.length ≤ maxLen ∧ (∀ w ∈ l, 0 ≤ w ∧ w ≤ 4294967295) ∧ pvs = [.sl (wordRows l) false] := by
  obtain ⟨k', rfl, rows, rfl, h1, h2⟩ := h.slice und49
  obtain ⟨l, h3, h4⟩ := rows_choose (Q := fun w => 0 ≤ w ∧ w ≤ 4294967295) (f := fun w : Int => [.int .u32 w]) (fun r hr => by
    obtain ⟨n, h5, h6⟩ := Dt.int und76 hr
    exact ⟨n, wf_u32 h5, h6⟩) rows h2
  subst h4
  exact ⟨l, by simpa using h1, h3, rfl⟩
theorem Dt.node : ∀ (k : Nat) {pvs : List PV}, Dt Try.prog k 54 pvs → ∃ n : Node, n.ok ∧ pvs = n.cells := by
  intro k
  induction k using Nat.strongRecOn with
  | ind k ih =>
    intro pvs h
    obtain ⟨k1, rfl, pss, rfl, s0⟩ := h.struct ft54
    obtain ⟨p1, z1, rfl, h1, s1⟩ := s0.inv
    obtain ⟨p2, z2, rfl, h2, s2⟩ := s1.inv
    obtain ⟨p3, z3, rfl, h3, s3⟩ := s2.inv
    obtain ⟨p4, z4, rfl, h4, s4⟩ := s3.inv
    obtain rfl := s4.inv0
    obtain ⟨a, ha, rfl⟩ := h1.int und3
    obtain ⟨b, hb, rfl⟩ := h2.str und9
    obtain ⟨k2, rfl, qss, rfl, t0⟩ := h3.struct ft51
    obtain ⟨q1, y1, rfl, g1, t1⟩ := t0.inv
    obtain ⟨q2, y2, rfl, g2, t2⟩ := t1.inv
    obtain ⟨q3, y3, rfl, g3, t3⟩ := t2.inv
    obtain rfl := t3.inv0
    obtain ⟨c, rfl⟩ := g1.bool und4
    obtain ⟨d, hd, hd', rfl⟩ := g2.words
    obtain ⟨e, he, he', rfl⟩ := g3.words
    obtain ⟨k3, hk3, rows, rfl, h5, h6⟩ := h4.slice und52
    obtain ⟨f, h7, rfl⟩ := rows_choose (Q := Node.ok) (f := Node.cells) (fun r hr => ih k3 (by omega) hr) rows h6
    refine ⟨.mk a b c d e f, ⟨wf_i64 ha, hb, hd, he, hd', he', by simpa using h5, Node.oks_iff.2 h7⟩, ?_⟩
    simp [Node.cells, Node.rows_eq]
theorem Arg.node {k : Nat} {pv : PV} (h : Arg Try.prog k 54 pv) : ∃ n : Node, n.ok ∧ pv = .agg n.cells := by
  have hf := ft54
  unfold fieldTypes at hf
  split at hf
  · rename_i fs hu
    simp only [Arg, hu] at h
    obtain ⟨cells, rfl, h⟩ := h
    obtain ⟨n, h1, h2⟩ := Dt.node k h
    exact ⟨n, h1, by rw [h2]⟩
  · cases hf
/-- A slice of ints, as an argument. -/
def intRows (l : List Int) : List (List PV) := l.map fun w => [.int .i64 w]
theorem Arg.ints {k : Nat} {pv : PV} (h : Arg Try.prog k 22 pv) : ∃ l : List Int, l.length ≤ maxLen ∧ (∀ w ∈ l, -9223372036854775808 ≤ w ∧ w ≤ 9223372036854775807) ∧ pv = .sl (intRows l) false := by
  simp only [Arg, und22] at h
  obtain ⟨k', rfl, rows, h0, h1, h2⟩ := h.slice und22
  obtain ⟨l, h3, rfl⟩ := rows_choose (Q := fun w => -9223372036854775808 ≤ w ∧ w ≤ 9223372036854775807) (f := fun w : Int => [.int .i64 w]) (fun r hr => by
    obtain ⟨n, h5, h6⟩ := Dt.int und3 hr
    exact ⟨n, wf_i64 h5, h6⟩) rows h2
  exact ⟨l, by simpa using h1, h3, by simpa [intRows] using h0⟩
end Go.Vs
end
/- Rules for slices of ints, places, appends to known arrays. -/
section
set_option linter.unusedVariables false
set_option linter.unusedSimpArgs false
namespace Go.Vs
open Go Go.Proofs
@[go_sem] theorem intRows_length (l : List Int) : (intRows l).length = l.length := nr (by simp [intRows])
@[go_sem] theorem intRows_refs : ∀ l : List Int, rowsRefs (intRows l) = []
  | [] => rfl
  | a :: r => by
    have := intRows_refs r
    simp only [intRows, List.map_cons, rowsRefs_cons] at this ⊢
    rw [this]; rfl
@[go_sem] theorem intRows_nil : intRows [] = [] := nr rfl
theorem intRows_append (a b : List Int) : intRows (a ++ b) = intRows a ++ intRows b := by simp [intRows]
@[go_sem] theorem intRows_ok : ∀ l : List Int, rowsOK 1 (intRows l) = true
  | [] => rfl
  | a :: r => by
    have := intRows_ok r
    simp only [intRows, List.map_cons, rowsOK_cons] at this ⊢
    rw [this]; rfl
@[go_sem] theorem idx22 (S : Store) (l : List Int) (ex : Bool) (i : Int) : indexAddrO Try.prog 22 S (.sl (intRows l) ex) (.int .i64 i) = if 0 ≤ i ∧ i < l.length then some (.cp [.int .i64 (l.getD i.toNat 0)]) else none := by
  have e1 : elemTy (tyi Try.prog 22) = 3 := by simp [elemTy, d22]
  have e2 : isSlice (tyi Try.prog 22) = true := by simp [isSlice, d22]
  simp only [indexAddrO, e1, e2, known3, size3, and_self, if_true, evIndexAddr, intRows_length]
  split
  · rename_i h
    have hl : i.toNat < l.length := by omega
    have e3 : (intRows l).getD i.toNat [] = [.int .i64 (l.getD i.toNat 0)] := by
      simp [intRows, List.getD_eq_getElem?_getD, hl]
    rw [e3]
    rfl
  · rfl
@[go_sem] theorem len22m (i o l : Nat) (ex : Bool) : lenO (tyi Try.prog 22) (.msl i o l ex) = some (.int .i64 l) := lenO_msl _ d22 i o l ex
theorem slice52 (S : Store) (l : List Node) (ex : Bool) (i : Nat) (h : i ≤ l.length) : sliceO Try.prog 52 S (.sl (Node.rows l) ex) none (some (.int .i64 i)) none = some (.sl (Node.rows (l.take i)) false) := by
  have e1 : elemTy (tyi Try.prog 52) = 54 := by simp [elemTy, d52]
  have e4 : rowsOK 6 (Node.rows l) = true := by
    rw [Node.rows_eq]
    simp [rowsOK, Node.cells_length]
  have e5 : (Node.rows l).take i = Node.rows (l.take i) := by
    rw [Node.rows_eq, Node.rows_eq, List.map_take]
  simp [sliceO, e1, known54, size54, evSlice, d52, bound, h, e4, e5, Node.rows_length]
/-! ### Places -/
def placeCells (a b c : Bool) : List PV := [.bool a, .bool b, .bool c]
@[go_sem] theorem d81 : (tyi Try.prog 81).d = .struct [(0, 1, false), (1, 1, false), (2, 1, false)] := nr (by kernel_rfl)
@[go_sem] theorem size81 : (tyi Try.prog 81).size = 3 := nr (by kernel_rfl)
@[go_sem] theorem known81 : (tyi Try.prog 81).known = true := nr (by kernel_rfl)
@[go_sem] theorem zero81 : (tyi Try.prog 81).zero = some (placeCells false false false) := nr (by kernel_rfl)
theorem placeCells_plain (a b c : Bool) : Plain (.agg (placeCells a b c)) := ⟨rfl, fun _ => rfl⟩
@[go_sem] theorem place_length (a b c : Bool) : (placeCells a b c).length = 3 := nr rfl
@[go_sem] theorem place_all (a b c : Bool) : (placeCells a b c).all PV.cell = true := nr rfl
@[go_sem] theorem place_refs (a b c : Bool) : refsL (placeCells a b c) = [] := nr rfl
@[go_sem] theorem place_drop1 (a b c : Bool) : (placeCells a b c).drop 1 = [.bool b, .bool c] := nr rfl
@[go_sem] theorem place_drop2 (a b c : Bool) : (placeCells a b c).drop 2 = [.bool c] := nr rfl
@[go_sem] theorem place_part4 (a b c : Bool) : part (tyi Try.prog 4) (placeCells a b c) = some (.bool a) := nr (part4 _ _)
@[go_sem] theorem place_part81 (a b c : Bool) : part (tyi Try.prog 81) (placeCells a b c) = some (.agg (placeCells a b c)) := by simp [part, known81, TI.isAgg, d81, size81, placeCells]
@[go_sem 1100] theorem place_splice0 (a b c d : Bool) : splice (placeCells a b c) 0 [.bool d] = placeCells d b c := nr rfl
@[go_sem 1100] theorem place_splice1 (a b c d : Bool) : splice (placeCells a b c) 1 [.bool d] = placeCells a d c := nr rfl
@[go_sem 1100] theorem place_splice2 (a b c d : Bool) : splice (placeCells a b c) 2 [.bool d] = placeCells a b d := nr rfl
@[go_sem] theorem fa81_0 (id i off : Nat) : evFieldAddr (tyi Try.prog 81) 0 (.mp id i off) = some (.mp id i off) := by simp [evFieldAddr, d81]
@[go_sem] theorem fa81_1 (id i off : Nat) : evFieldAddr (tyi Try.prog 81) 1 (.mp id i off) = some (.mp id i (off + 1)) := by simp [evFieldAddr, d81]
@[go_sem] theorem fa81_2 (id i off : Nat) : evFieldAddr (tyi Try.prog 81) 2 (.mp id i off) = some (.mp id i (off + 2)) := by simp [evFieldAddr, d81]
@[go_sem] theorem build81 : buildO (tyi Try.prog 81) [] = some (.agg (placeCells false false false)) := by
  simp [buildO, d81, zero81, fillV, placeCells, PV.cell]
/-! ### Appends -/
theorem append_known {b bytes esz : Nat} {S : Store} {id len : Nat} {rows new : List (List PV)} {g : Option Nat} {ex : Bool} {y : PV} (hS : S[id]? = some (.arr rows (some g) false)) (hy : rowsIn S y = some new) (hb : b ≤ id)
    (hl : len = rows.length) (hg : g = none ∨ g = some esz) (h1 : rowsOK esz rows = true) (h2 : rowsOK esz new = true) (h3 : (rows.length + new.length) * bytes ≤ 140737488355328) (h4 : rows.length + new.length ≤ 9223372036854775807)
    (h5 : (rowsRefs rows ++ rowsRefs new).contains id = false) : evAppend b bytes esz S (.msl id 0 len ex) y = some { v := .msl id 0 (rows.length + new.length) false, S := (S.map (killObj [id])).set id (.arr (rows ++ new) (some (some esz)) false), kill := [id] } := by
  simp only [evAppend, if_pos hb, evAppend1, hS, hy, Option.bind_some]
  rw [if_pos ⟨hb, hl, hg, h1, h2, h3, h4, h5⟩]
@[go_sem] theorem appendE22 (b : Nat) (S : Store) (id o len : Nat) (y : PV) : appendE Try.prog b 22 22 S (.msl id o len false) y = evAppend b 8 1 S (.msl id o len false) y := by
  have e1 : zeroOK (tyi Try.prog 3) = true := by kernel_rfl
  have e2 : (tyi Try.prog 3).bytes = 8 := by kernel_rfl
  simp [appendE, exact, d22, e1, e2, size3]
@[go_sem] theorem killE_cons (i : Nat) (e : Env) : killE [i] e = e.map fun (t, v) => (t, kill1 [i] v) := nr rfl
@[go_sem] theorem kill1_eq (ids : List Nat) (v : PV) : kill1 ids v = if (v.refs.any fun i => ids.contains i) = true then .undef else v := nr rfl
@[go_sem] theorem killObj_arr (ids : List Nat) (rows : List (List PV)) (g : Option (Option Nat)) (f : Bool) : killObj ids (.arr rows g f) = .arr (killRows ids rows) g f := nr rfl
@[go_sem] theorem killRows_eq (ids : List Nat) (rows : List (List PV)) : killRows ids rows = if ((rowsRefs rows).any fun i => ids.contains i) = true then rows.map fun r => r.map (kill1 ids) else rows := nr rfl
attribute [go_sem] List.map_cons List.map_nil List.any_cons List.any_nil Bool.or_false Bool.false_or Bool.or_self List.contains_cons List.contains_nil
@[go_sem] theorem reach_eq (S : Store) (d : Nat) (a : Nat) (ids : List Nat) : reach S (d + 1) (a :: ids) = (a :: ids) ++ reach S d ((a :: ids).flatMap fun id => match rowsAt S id with | some rows => rowsRefs rows | none => []) := nr rfl
@[go_sem] theorem reach_none (S : Store) (d : Nat) : reach S d [] = [] := nr (reach_nil S d)
attribute [go_sem] List.flatMap_cons List.flatMap_nil
@[go_sem] theorem freezeAll_cons (S : Store) (i : Nat) (l : List Nat) : freezeAll S (i :: l) = freezeAll (freeze1 S i) l := nr rfl
@[go_sem] theorem freeze1_zero (rows : List (List PV)) (g : Option (Option Nat)) (f : Bool) (S : Store) : freeze1 (.arr rows g f :: S) 0 = .arr rows g true :: S := nr rfl
@[go_sem] theorem freeze1_succ (o : Obj) (S : Store) (i : Nat) : freeze1 (o :: S) (i + 1) = o :: freeze1 S i := nr (by
  simp only [freeze1, List.getElem?_cons_succ]
  split <;> simp_all)
@[go_sem] theorem rowsIn_msl (S : Store) (id off len : Nat) (ex : Bool) : rowsIn S (.msl id off len ex) = (rowsAt S id).bind fun rows => if off + len ≤ rows.length then some ((rows.drop off).take len) else none := nr rfl
theorem mapO_all {α β : Type} {f : α → Option β} {g : α → β} : ∀ {l : List α}, (∀ a ∈ l, f a = some (g a)) → mapO f l = some (l.map g)
  | [], _ => rfl
  | a :: r, h => by simp [mapO, h a (by simp), mapO_all (l := r) fun x hx => h x (by simp [hx])]
/-- A slice of ints, frozen. -/
theorem fz_ints {S : Store} {id : Nat} {l : List Int} {ex : Bool} (h : rowsAt S id = some (intRows l)) : fzPV S (.msl id 0 l.length ex) = some (.sl (intRows l) false) := by
  have e1 : rowsIn S (.msl id 0 l.length false) = some (intRows l) := by
    have : l.length = (intRows l).length := (intRows_length l).symm
    simp only [rowsIn, h, Option.bind_some, Nat.zero_add, List.drop_zero, intRows_length, Nat.le_refl, if_true]
    rw [this, List.take_length]
  have e2 : mapO (mapO (fzCell S 7)) (intRows l) = some (intRows l) := by
    have := mapO_all (f := mapO (fzCell S 7)) (g := fun x => x) (l := intRows l) (fun a ha => by
      obtain ⟨w, _, rfl⟩ := List.mem_map.1 ha
      rfl)
    simpa using this
  show ((rowsIn S (.msl id 0 l.length false)).bind fun rows => (mapO (mapO (fzCell S 7)) rows).map fun rows => PV.sl rows false) = _
  rw [e1]
  simp only [Option.bind_some, e2, Option.map_some]
end Go.Vs
end
/- Rules for stores with a part that isn't known; appends to arrays of trees and of words. -/
section
set_option linter.unusedVariables false
set_option linter.unusedSimpArgs false
namespace Go.Vs
open Go Go.Proofs
/-- Holds no array, and no frozen flag matters: rows without references. -/
def Quiet (T : Store) : Prop := ∀ o ∈ T, ∃ rows g f, o = .arr rows g f ∧ rowsRefs rows = []
theorem Quiet.nil : Quiet [] := by intro o h; cases h
theorem Quiet.cons {rows : List (List PV)} {g : Option (Option Nat)} {f : Bool} {T : Store} (h : rowsRefs rows = []) (hT : Quiet T) : Quiet (.arr rows g f :: T) := by
  intro o ho
  rcases List.mem_cons.1 ho with rfl | ho
  · exact ⟨_, _, _, rfl, h⟩
  · exact hT o ho
theorem Quiet.tail {o : Obj} {T : Store} (hT : Quiet (o :: T)) : Quiet T := fun x hx => hT x (by simp [hx])
theorem Quiet.append {T U : Store} (hT : Quiet T) (hU : Quiet U) : Quiet (T ++ U) := fun o ho => by
  rcases List.mem_append.1 ho with h | h
  · exact hT o h
  · exact hU o h
theorem Quiet.kill : ∀ {T : Store}, Quiet T → ∀ ids, T.map (killObj ids) = T
  | [], _, _ => rfl
  | o :: T, h, ids => by
    obtain ⟨rows, g, f, rfl, hr⟩ := h o (by simp)
    rw [List.map_cons, h.tail.kill, killObj_arr, killRows_eq, hr]
    rfl
theorem Quiet.held : ∀ {T : Store}, Quiet T → ∀ n m, heldBelow n m T = true
  | _, _, _, 0 => by simp [heldBelow]
  | [], _, _, m + 1 => rfl
  | o :: T, h, n, m + 1 => by
    obtain ⟨rows, g, f, rfl, hr⟩ := h o (by simp)
    rw [heldBelow_cons, hr, h.tail.held]
    rfl
@[go_sem] theorem set_tail (T U : Store) (k : Nat) (o : Obj) : (T ++ U).set (T.length + k) o = T ++ U.set k o := nr (by rw [List.set_append, if_neg (by omega), Nat.add_sub_cancel_left])
@[go_sem] theorem set_tail0 (T U : Store) (o : Obj) : (T ++ U).set T.length o = T ++ U.set 0 o := set_tail T U 0 o
attribute [go_sem] List.map_append
/-! ### Structs from parts -/
@[go_sem] theorem build54_nil : buildO (tyi Try.prog 54) [] = some (.agg zeroNode) := by
  simp [buildO, d54, zero54, fillV, PV.cell, zeroNode]
@[go_sem] theorem zeroNode_part54 : part (tyi Try.prog 54) zeroNode = some (.agg zeroNode) := by simp only [zeroNode, part54]
/-! ### Appends -/
end Go.Vs
end
/- Stores that are known in part: what stays, lists of paths in them. -/
section
set_option linter.unusedVariables false
set_option linter.unusedSimpArgs false
namespace Go.Vs
open Go Go.Proofs
/-- A value that reads as a list of ints. -/
inductive Ints (S : Store) : PV → List Int → Prop
  | sl (l : List Int) (ex : Bool) : Ints S (.sl (intRows l) ex) l
  | msl (id : Nat) (l : List Int) (ex : Bool) (g : Option (Option Nat)) (f : Bool) (h : S[id]? = some (.arr (intRows l) g f)) : Ints S (.msl id 0 l.length ex) l
/-- What lies below n stays, but for the places X, and for what refers to D. -/
structure Keep (n : Nat) (X D : List Nat) (S S' : Store) : Prop where
  len : n ≤ S'.length
  keeps : ∀ j, j < n → j ∉ X → ∀ rows g f, S[j]? = some (.arr rows g f) → (∀ r ∈ rowsRefs rows, r < n ∧ r ∉ D) → S'[j]? = some (.arr rows g f)
theorem Keep.refl {n : Nat} {X D : List Nat} {S : Store} (h : n ≤ S.length) : Keep n X D S S := ⟨h, fun _ _ _ _ _ _ h _ => h⟩
/-- Below n nothing changes. -/
theorem Keep.same {n : Nat} {X D : List Nat} {S S' : Store} (h : n ≤ S'.length) (hs : ∀ j, j < n → S'[j]? = S[j]?) : Keep n X D S S' := ⟨h, fun j hj _ _ _ _ ha _ => by rw [hs j hj]; exact ha⟩
theorem Keep.trans {n m : Nat} {X D X' D' : List Nat} {S S1 S2 : Store} (h : Keep n X D S S1) (k : Keep m X' D' S1 S2) (hn : n ≤ m) (hX : ∀ r ∈ X', r ∈ X ∨ n ≤ r) (hD : ∀ r ∈ D', r ∈ D ∨ n ≤ r) : Keep n X D S S2 := by
  refine ⟨Nat.le_trans hn k.len, fun j hj hx rows g f ha hr => ?_⟩
  refine k.keeps j (by omega) (fun hx' => ?_) rows g f (h.keeps j hj hx rows g f ha hr) fun r hrr => ⟨by have := (hr r hrr).1; omega, fun hd => ?_⟩
  · rcases hX j hx' with h1 | h1
    · exact hx h1
    · omega
  · rcases hD r hd with h1 | h1
    · exact (hr r hrr).2 h1
    · have := (hr r hrr).1; omega
theorem Ints.refs_lt {S : Store} {p : PV} {l : List Int} (h : Ints S p l) : ∀ r ∈ p.refs, r < S.length := by
  cases h with
  | sl l ex => intro r hr; cases hr
  | msl id l ex g f h =>
    intro r hr
    have := (List.getElem?_eq_some_iff.1 h).1
    simp only [PV.refs, List.mem_singleton] at hr
    omega
theorem Ints.keep {n : Nat} {X D : List Nat} {S S' : Store} {p : PV} {l : List Int} (h : Ints S p l) (k : Keep n X D S S') (hn : ∀ r ∈ p.refs, r < n ∧ r ∉ X) : Ints S' p l := by
  cases h with
  | sl l ex => exact .sl l ex
  | msl id l ex g f h =>
    have := hn id (by simp [PV.refs])
    exact .msl id l ex g f (k.keeps id this.1 this.2 _ _ _ h (by rw [intRows_refs]; intro r hr; cases hr))
theorem Ints.same {S S' : Store} {p : PV} {l : List Int} (h : Ints S p l) (hs : ∀ r ∈ p.refs, S'[r]? = S[r]?) : Ints S' p l := by
  cases h with
  | sl l ex => exact .sl l ex
  | msl id l ex g f h => exact .msl id l ex g f (by rw [hs id (by simp [PV.refs])]; exact h)
theorem Ints.len {S : Store} {p : PV} {l : List Int} (h : Ints S p l) : lenO (tyi Try.prog 22) p = some (.int .i64 l.length) := by
  cases h with
  | sl l ex => rw [len22, intRows_length]
  | msl id l ex g f h => rw [len22m]
theorem Ints.rowsIn {S : Store} {p : PV} {l : List Int} (h : Ints S p l) : Vs.rowsIn S p = some (intRows l) := by
  cases h with
  | sl l ex => rfl
  | msl id l ex g f h =>
    have e : rowsAt S id = some (intRows l) := by simp only [rowsAt, h]
    rw [rowsIn_msl, e]
    simp only [Option.bind_some, Nat.zero_add, intRows_length, Nat.le_refl, if_true, List.drop_zero]
    rw [← intRows_length l, List.take_length]
theorem Ints.cell {S : Store} {p : PV} {l : List Int} (h : Ints S p l) : p.cell = true := by cases h <;> rfl
theorem Ints.cells {S : Store} {p : PV} {l : List Int} (h : Ints S p l) : p.cells = [p] := by cases h <;> rfl
theorem Ints.fz {S : Store} {p : PV} {l : List Int} (h : Ints S p l) (d : Nat) : fzCell S (d + 2) p = some (.sl (intRows l) false) := by
  cases h with
  | sl l ex => rfl
  | msl id l ex g f h =>
    have e1 : Vs.rowsIn S (.msl id 0 l.length false) = some (intRows l) := (Ints.msl id l false g f h).rowsIn
    have e2 : mapO (mapO (fzCell S (d + 1))) (intRows l) = some (intRows l) := by
      have := mapO_all (f := mapO (fzCell S (d + 1))) (g := fun x => x) (l := intRows l) (fun a ha => by
        obtain ⟨w, _, rfl⟩ := List.mem_map.1 ha
        rfl)
      simpa using this
    show ((Vs.rowsIn S (.msl id 0 l.length false)).bind fun rows => (mapO (mapO (fzCell S (d + 1))) rows).map fun rows => PV.sl rows false) = _
    rw [e1]
    simp only [Option.bind_some, e2, Option.map_some]
/-- Rows of a list of paths; none of them is array id. -/
inductive PathRows (S : Store) (id : Nat) : List (List PV) → List (List Int) → Prop
  | nil : PathRows S id [] []
  | cons {p : PV} {l : List Int} {rows : List (List PV)} {L : List (List Int)} (h : Ints S p l) (hi : id ∉ p.refs) (t : PathRows S id rows L) : PathRows S id ([p] :: rows) (l :: L)
theorem PathRows.length {S : Store} {id : Nat} {rows : List (List PV)} {L : List (List Int)} (h : PathRows S id rows L) : rows.length = L.length := by
  induction h with
  | nil => rfl
  | cons _ _ _ ih => simp [ih]
theorem PathRows.ok {S : Store} {id : Nat} {rows : List (List PV)} {L : List (List Int)} (h : PathRows S id rows L) : rowsOK 1 rows = true := by
  induction h with
  | nil => rfl
  | cons _ _ _ ih => rw [rowsOK_cons, ih]; rfl
theorem PathRows.snoc {S : Store} {id : Nat} {rows : List (List PV)} {L : List (List Int)} (h : PathRows S id rows L) {p : PV} {l : List Int} (hp : Ints S p l) (hi : id ∉ p.refs) : PathRows S id (rows ++ [[p]]) (L ++ [l]) := by
  induction h with
  | nil => exact .cons hp hi .nil
  | cons h1 h2 _ ih => exact .cons h1 h2 ih
theorem PathRows.out {S : Store} {id : Nat} {rows : List (List PV)} {L : List (List Int)} (h : PathRows S id rows L) : id ∉ rowsRefs rows := by
  induction h with
  | nil => simp [rowsRefs]
  | cons h1 h2 _ ih => simp only [rowsRefs_cons, refsL, List.append_nil, List.mem_append, not_or]; exact ⟨h2, ih⟩
/-- The same in another store, perhaps another array, for what the rows refer to. -/
theorem PathRows.move {S S' : Store} {id id' : Nat} {rows : List (List PV)} {L : List (List Int)} (h : PathRows S id rows L) (hs : ∀ r ∈ rowsRefs rows, S'[r]? = S[r]? ∧ r ≠ id') : PathRows S' id' rows L := by
  induction h with
  | nil => exact .nil
  | @cons p l rows L h1 h2 _ ih =>
    simp only [rowsRefs_cons, refsL, List.append_nil, List.mem_append] at hs
    exact .cons (h1.same fun r hr => (hs r (.inl hr)).1) (fun hx => (hs _ (.inl hx)).2 rfl) (ih fun r hr => hs r (.inr hr))
theorem PathRows.lt {S : Store} {id : Nat} {rows : List (List PV)} {L : List (List Int)} (h : PathRows S id rows L) : ∀ r ∈ rowsRefs rows, r < S.length := by
  induction h with
  | nil => intro r hr; cases hr
  | cons h1 _ _ ih =>
    intro r hr
    simp only [rowsRefs_cons, refsL, List.append_nil, List.mem_append] at hr
    rcases hr with hr | hr
    · exact h1.refs_lt r hr
    · exact ih r hr
/-- A list of paths that may be appended to. -/
inductive OutV (S : Store) : PV → List (List Int) → Prop
  | nil : OutV S (.sl [] true) []
  | arr (id : Nat) (rows : List (List PV)) (L : List (List Int)) (h : S[id]? = some (.arr rows (some (some 1)) false)) (hr : PathRows S id rows L) : OutV S (.msl id 0 L.length false) L
theorem OutV.lt {S : Store} {v : PV} {L : List (List Int)} (h : OutV S v L) : ∀ r ∈ v.refs, r < S.length := by
  cases h with
  | nil => intro r hr; cases hr
  | arr id rows L h hr =>
    intro r hr
    have := (List.getElem?_eq_some_iff.1 h).1
    simp only [PV.refs, List.mem_singleton] at hr
    omega
/-- In a longer store. -/
theorem OutV.ext {S : Store} {v : PV} {L : List (List Int)} (h : OutV S v L) (U : Store) : OutV (S ++ U) v L := by
  cases h with
  | nil => exact .nil
  | arr id rows L h hr =>
    have hl := (List.getElem?_eq_some_iff.1 h).1
    refine .arr id rows L (by rw [List.getElem?_append_left hl]; exact h) (hr.move fun r hrr => ⟨by rw [List.getElem?_append_left (hr.lt r hrr)], fun e => hr.out (e ▸ hrr)⟩)
theorem gc_at {n : Nat} {e : Env} {S : Store} (hn : n ≤ S.length) : n ≤ (gc n e S).length ∧ ∀ j, j < n → (gc n e S)[j]? = S[j]? := by
  unfold gc
  split
  · exact ⟨by rw [List.length_take]; omega, fun j hj => by rw [List.getElem?_take_of_lt hj]⟩
  · exact ⟨hn, fun _ _ => rfl⟩
theorem OutV.gc {n : Nat} {e : Env} {S : Store} {v : PV} {L : List (List Int)} (h : OutV S v L) (he : ∃ t, (t, v) ∈ e) : OutV (Vs.gc n e S) v L := by
  unfold Vs.gc
  split
  case isFalse => exact h
  rename_i hc
  obtain ⟨h1, h2⟩ := hc
  rw [List.all_eq_true] at h1 h2
  obtain ⟨t, ht⟩ := he
  have hv := h1 _ ht
  simp only [List.all_eq_true, decide_eq_true_eq] at hv
  cases h with
  | nil => exact .nil
  | arr id rows L h hr =>
    have hid : id < n := hv id (by simp [PV.refs])
    have hrows := h2 (.arr rows (some (some 1)) false) (by
      have e : (S.take n)[id]? = some (.arr rows (some (some 1)) false) := by rw [List.getElem?_take_of_lt hid]; exact h
      exact List.mem_of_getElem? e)
    simp only [List.all_eq_true, decide_eq_true_eq] at hrows
    exact .arr id rows L (by rw [List.getElem?_take_of_lt hid]; exact h) (hr.move fun r hrr => ⟨by rw [List.getElem?_take_of_lt (hrows r hrr)], fun e => hr.out (e ▸ hrr)⟩)
theorem kill1_id {ids : List Nat} {v : PV} (h : ∀ r ∈ v.refs, r ∉ ids) : kill1 ids v = v := by
  unfold kill1
  rw [if_neg]
  simp only [List.any_eq_true, not_exists, not_and, List.contains_iff_mem]
  exact h
theorem killRows_id {ids : List Nat} {rows : List (List PV)} (h : ∀ r ∈ rowsRefs rows, r ∉ ids) : killRows ids rows = rows := by
  unfold killRows
  rw [if_neg]
  simp only [List.any_eq_true, not_exists, not_and, List.contains_iff_mem]
  exact h
theorem map_kill_at {ids : List Nat} {S : Store} {j : Nat} {rows : List (List PV)} {g : Option (Option Nat)} {f : Bool} (h : S[j]? = some (.arr rows g f)) (hr : ∀ r ∈ rowsRefs rows, r ∉ ids) : (S.map (killObj ids))[j]? = some (.arr rows g f) := by
  rw [List.getElem?_map, h]
  simp only [Option.map_some, killObj_arr, killRows_id hr]
theorem PathRows.keep {n : Nat} {X D : List Nat} {S S' : Store} {id id' : Nat} {rows : List (List PV)} {L : List (List Int)} (h : PathRows S id rows L) (k : Keep n X D S S') (hs : ∀ r ∈ rowsRefs rows, r < n ∧ r ∉ X ∧ r ≠ id') : PathRows S' id' rows L := by
  induction h with
  | nil => exact .nil
  | @cons p l rows L h1 h2 _ ih =>
    simp only [rowsRefs_cons, refsL, List.append_nil, List.mem_append] at hs
    exact .cons (h1.keep k fun r hr => ⟨(hs r (.inl hr)).1, (hs r (.inl hr)).2.1⟩) (fun hx => (hs _ (.inl hx)).2.2 rfl) (ih fun r hr => hs r (.inr hr))
theorem bytes22 : (tyi Try.prog 22).bytes = 24 := by kernel_rfl
theorem zeroOK22 : zeroOK (tyi Try.prog 22) = true := by kernel_rfl
theorem killObj_none (o : Obj) : killObj [] o = o := by
  cases o with
  | gone => rfl
  | arr rows g f => rw [killObj_arr, killRows_id (by intro r _ h; cases h)]
/-- A path more. -/
theorem appendOut6 {b : Nat} {S : Store} {v : PV} {L : List (List Int)} {p : PV} {l : List Int} {bid : Nat} (h : OutV S v L) (hp : Ints S p l) (hd : ∀ r ∈ p.refs, r ∉ v.refs) (hb : S[bid]? = some (.arr [[p]] (some (some 1)) false)) (hbd : bid ∉ v.refs) (hn : L.length ≤ 2000000) :
    ∃ v' S' ks, appendE Try.prog b 23 23 S v (.msl bid 0 1 true) = some { v := v', S := S', kill := ks } ∧ OutV S' v' (L ++ [l]) ∧ Keep S.length v.refs v.refs S S' ∧ (∀ r ∈ ks, r ∈ v.refs) ∧ (∀ r ∈ v'.refs, r ∈ v.refs ∨ S.length ≤ r) ∧ (∀ j, j < S.length → j ∉ v.refs → S'[j]? = (S[j]?).map (killObj v.refs)) := by
  have hrb : rowsIn S (.msl bid 0 1 true) = some [[p]] := by
    have e : rowsAt S bid = some [[p]] := by simp only [rowsAt, hb]
    rw [rowsIn_msl, e]; rfl
  have hpl := hp.refs_lt
  cases h with
  | nil =>
    refine ⟨.msl S.length 0 1 false, S ++ [.arr [[p]] (some (some 1)) false], [], ?_, ?_, ?_, (by intro r hr; cases hr), (by intro r hr; simp only [PV.refs, List.mem_singleton] at hr; omega), fun j hj _ => ?_⟩
    · have e5 : evAppendNew 24 1 S S.length (.sl [] true) (.msl bid 0 1 true) = some { v := .msl S.length 0 1 false, new := some ([[p]], some (some 1)) } := by
        simp only [evAppendNew, exact, if_true, rowsIn, Option.bind_some] at hrb ⊢
        rw [hrb]
        rfl
      simp only [appendE, exact, if_true, appendN, d23, zeroOK22, bytes22, size22, e5, Option.map_some, place]
    · refine .arr S.length [[p]] [l] (by simp) (.cons (hp.same fun r hr => by rw [List.getElem?_append_left (hpl r hr)]) (fun hx => by have := hpl _ hx; omega) .nil)
    · exact .same (by simp) fun j hj => by rw [List.getElem?_append_left hj]
    · rw [List.getElem?_append_left hj]
      cases S[j]? with
      | none => rfl
      | some o => simp only [PV.refs, Option.map_some, killObj_none]
  | arr id rows L h hr =>
    have hid := (List.getElem?_eq_some_iff.1 h).1
    simp only [PV.refs, List.mem_singleton] at hd hbd
    have hlen := hr.length
    have hout : ((rowsRefs rows ++ rowsRefs [[p]]).contains id) = false := by
      have h1 := hr.out
      have h2 : id ∉ p.refs := fun hx => hd id hx rfl
      simp [rowsRefs_cons, rowsRefs_nil, refsL, h1, h2]
    have hk : ∀ b, b ≤ id → evAppend b 24 1 S (.msl id 0 L.length false) (.msl bid 0 1 true) = some { v := .msl id 0 (rows.length + [[p]].length) false, S := (S.map (killObj [id])).set id (.arr (rows ++ [[p]]) (some (some 1)) false), kill := [id] } := fun b hle =>
      append_known h hrb hle hlen.symm (.inr rfl) hr.ok rfl (by simp only [List.length_cons, List.length_nil]; omega) (by simp only [List.length_cons, List.length_nil]; omega) hout
    have e1 : appendE Try.prog b 23 23 S (.msl id 0 L.length false) (.msl bid 0 1 true) = evAppend b 24 1 S (.msl id 0 L.length false) (.msl bid 0 1 true) := by
      simp only [appendE, exact, Bool.false_eq_true, if_false, d23, zeroOK22, if_true, bytes22, size22]
    have hl1 : rows.length + [[p]].length = (L ++ [l]).length := by simp [hlen]
    have keep1 : ∀ o, Keep S.length [id] [id] S ((S.map (killObj [id])).set id o) := fun o => ⟨by simp, fun j hj hx rows' g f ha hrr => by
      rw [List.getElem?_set_ne (fun e => hx (by simp [e]))]
      exact map_kill_at ha fun r h => (hrr r h).2⟩
    by_cases hle : b ≤ id
    · refine ⟨.msl id 0 (L ++ [l]).length false, _, [id], by rw [e1, hk b hle, hl1], ?_, keep1 _, (by intro r h; exact h), (by intro r h; exact .inl h), fun j hj hx => by rw [List.getElem?_set_ne (fun e => hx (by simp [PV.refs, e])), List.getElem?_map]; rfl⟩
      refine .arr id (rows ++ [[p]]) (L ++ [l]) (by simp [hid]) (PathRows.snoc ?_ (hp.keep (keep1 _) fun r h => ⟨hpl r h, by simpa using fun e => hd r h e⟩) fun hx => hd id hx rfl)
      exact hr.keep (keep1 _) fun r h => ⟨hr.lt r h, (by simp only [List.mem_singleton]; intro e; exact hr.out (e ▸ h)), fun e => hr.out (e ▸ h)⟩
    · have e2 : evAppend b 24 1 S (.msl id 0 L.length false) (.msl bid 0 1 true) = some (renewed id S { v := .msl id 0 (L ++ [l]).length false, S := (S.map (killObj [id])).set id (.arr (rows ++ [[p]]) (some (some 1)) false), kill := [id] }) := by
        have := hk 0 (Nat.zero_le _)
        simp only [evAppend, Nat.zero_le, if_true] at this
        simp only [evAppend, if_neg hle, this, Option.map_some, hl1]
      have e3 : ((S.map (killObj [id])).set id (.arr (rows ++ [[p]]) (some (some 1)) false)).getD id .gone = .arr (rows ++ [[p]]) (some (some 1)) false := by
        simp [List.getD_eq_getElem?_getD, hid]
      have keep2 : Keep S.length [id] [id] S ((((S.map (killObj [id])).set id (.arr (rows ++ [[p]]) (some (some 1)) false)).set id .gone) ++ [.arr (rows ++ [[p]]) (some (some 1)) false]) := ⟨by simp, fun j hj hx rows' g f ha hrr => by
        rw [List.getElem?_append_left (by simpa using hj), List.getElem?_set_ne (fun e => hx (by simp [e]))]
        exact (keep1 _).keeps j hj hx rows' g f ha hrr⟩
      refine ⟨.msl S.length 0 (L ++ [l]).length false, (((S.map (killObj [id])).set id (.arr (rows ++ [[p]]) (some (some 1)) false)).set id .gone) ++ [Obj.arr (rows ++ [[p]]) (some (some 1)) false], [id], ?_, ?_, keep2, (by intro r h; exact h), (by intro r h; simp only [PV.refs, List.mem_singleton] at h; omega), fun j hj hx => by rw [List.getElem?_append_left (by simpa using hj), List.getElem?_set_ne (fun e => hx (by simp [PV.refs, e])), List.getElem?_set_ne (fun e => hx (by simp [PV.refs, e])), List.getElem?_map]; rfl⟩
      · rw [e1, e2]
        simp only [renewed, e3]
      · refine .arr S.length (rows ++ [[p]]) (L ++ [l]) (by rw [List.getElem?_append_right (by simp)]; simp) (PathRows.snoc ?_ (hp.keep keep2 fun r h => ⟨hpl r h, by simpa using fun e => hd r h e⟩) fun hx => by have := hpl _ hx; omega)
        exact hr.keep keep2 fun r h => ⟨hr.lt r h, (by simp only [List.mem_singleton]; intro e; exact hr.out (e ▸ h)), fun e => by have := hr.lt r h; omega⟩
theorem appendOut {b : Nat} {S : Store} {v : PV} {L : List (List Int)} {p : PV} {l : List Int} {bid : Nat} (h : OutV S v L) (hp : Ints S p l) (hd : ∀ r ∈ p.refs, r ∉ v.refs) (hb : S[bid]? = some (.arr [[p]] (some (some 1)) false)) (hbd : bid ∉ v.refs) (hn : L.length ≤ 2000000) :
    ∃ v' S' ks, appendE Try.prog b 23 23 S v (.msl bid 0 1 true) = some { v := v', S := S', kill := ks } ∧ OutV S' v' (L ++ [l]) ∧ Keep S.length v.refs v.refs S S' ∧ (∀ r ∈ ks, r ∈ v.refs) ∧ (∀ r ∈ v'.refs, r ∈ v.refs ∨ S.length ≤ r) := by
  obtain ⟨v', S', ks, a1, a2, a3, a4, a5, _⟩ := appendOut6 (b := b) h hp hd hb hbd hn
  exact ⟨v', S', ks, a1, a2, a3, a4, a5⟩
end Go.Vs
end
