/- The reference's flow, over well: what it returns. -/

import Derived.Test.YtnddhkcciphhkaaMQ10
import Derived.Test.YtnddhkcciphhkaaMQ20
import Derived.Test.YtnddhkcciphhkaaMQ21
section
set_option linter.unusedVariables false
set_option linter.unusedSimpArgs false
namespace Go.Vs
open Go Go.Proofs
/-- The sorts of a node's kids, by the reference. -/
def sortsRef (o : Int) (m : Nat) : List Int := if (o = 10 ∨ o = 37) ∧ m = 1 then [1] else kidSorts o
def tailRef (o : Int) (f : List Node) : Bool :=
  if o = 8 then decide ((f.getD 1 default).op = 1) && decide (0 < (f.getD 1 default).num.length)
  else if o = 9 then decide ((f.getD 1 default).op = 1) && decide (0 ≤ natVal (f.getD 1 default).num 20)
  else if o = 39 then (f.getD 0 default).diff
  else true
mutual
def Node.well : Node → Int → Bool → Bool → Bool
  | .mk o nm ng nu de fs, s, t, f =>
    (decide (sortOf o = s) && (decide (hasName' o = nameOK nm) && (hasName' o || noName nm))) &&
    ((if o = 1 then natOK ng nu de else (!ng && (decide (nu.length = 0) && decide (de.length = 0)))) &&
    (!((t && decide (o = 12)) || ((t || f) && decide (o = 3))) &&
    (if o = 54 then decide (2 ≤ fs.length) && (!((decide (o = 3) || (decide (o = 12) || decide (o = 39))) || Node.primeds fs) && (Node.wells fs (List.replicate (fs.length - 1) 4 ++ [2]) t f && flowOK fs))
     else decide ((sortsRef o fs.length).length = fs.length) && (Node.wells fs (sortsRef o fs.length) (t || decide (o = 12)) (f || decide (o = 39)) && tailRef o fs))))
def Node.wells : List Node → List Int → Bool → Bool → Bool
  | [], _, _, _ => true
  | n :: r, s, t, f => n.well (s.getD 0 0) t f && Node.wells r s.tail t f
end
def flowRef (n : Node) (t f : Bool) : Bool := decide (2 ≤ n.kids.length) && (!n.primed && (Node.wells n.kids (List.replicate (n.kids.length - 1) 4 ++ [2]) t f && flowOK n.kids))
theorem Node.well_eq (n : Node) (s : Int) (t f : Bool) : n.well s t f = ((decide (sortOf n.op = s) && (decide (hasName' n.op = nameOK n.name) && (hasName' n.op || noName n.name))) &&
    ((if n.op = 1 then natOK n.neg n.num n.den else (!n.neg && (decide (n.num.length = 0) && decide (n.den.length = 0)))) &&
    (!((t && decide (n.op = 12)) || ((t || f) && decide (n.op = 3))) &&
    (if n.op = 54 then flowRef n t f
     else decide ((sortsRef n.op n.kids.length).length = n.kids.length) && (Node.wells n.kids (sortsRef n.op n.kids.length) (t || decide (n.op = 12)) (f || decide (n.op = 39)) && tailRef n.op n.kids))))) := by
  cases n
  simp only [Node.well, flowRef, Node.primed, Node.op, Node.name, Node.neg, Node.num, Node.den, Node.kids]
  rfl
def Kids65 (n : Node) : Prop := ∀ k ∈ n.kids, ∀ s t f, callL Try.prog hints 65 [.agg k.cells, .int .i64 s, .bool t, .bool f] = some (.bool (k.well s t f))
theorem callWell {k : Node} {s : Int} {t f v : Bool} (S : Store) (h : callL Try.prog hints 65 [.agg k.cells, .int .i64 s, .bool t, .bool f] = some (.bool v)) : callO (callL Try.prog hints) S 65 [.agg k.cells, .int .i64 s, .bool t, .bool f] = some { v := .bool v } := callO_plain h (by simp [Node.plain, Plain.int, Plain.bool])
/-- What the loop over a flow's kids asks. -/
def flowRest (f : List Node) (last : Nat) (t u : Bool) : Nat → Nat → Bool
  | 0, _ => true
  | m + 1, i => ((decide ((f.getD i default).op = 55) || (decide ((f.getD i default).op = 56) && decide (i = last - 1))) && (f.getD i default).well 4 t u) && ((f.take i).all (otherVar (f.getD i default)) && flowRest f last t u m (i + 1))
theorem loop89i (n : Node) (hn : n.ok) (t f : Bool) (k i : Nat) (hi : i < n.kids.length) (B : Bool) (Sn : Store)
    (hnext : F89.L0 0 1 (.bool t) (.bool f) (.mp 0 0 0) (.int .i64 k) (.int .i64 ((i + 1 : Nat) : Int)) [.arr [n.cells] none false] = some (.bool B, Sn)) :
    ∀ (m j : Nat), j + m = i → ∃ S2, F89.L2 0 1 2 (.bool t) (.bool f) (.mp 0 0 0) (.int .i64 k) (.int .i64 i) (.mp 1 0 0) (.int .i64 j) [.arr [n.cells] none false, .arr [(n.kids.getD i default).cells] none false] =
      some (.bool ((((n.kids.take i).drop j).all (otherVar (n.kids.getD i default))) && B), S2) := by
  have hw := wrap_succ (i := i) (n := n.kids.length) hi hn.len
  intro m
  induction m with
  | zero =>
    intro j hj
    have h1 : ¬ (j : Int) < (i : Int) := by omega
    refine ⟨Sn, F89.L2_step ?_⟩
    rw [List.drop_of_length_le (by simp; omega)]
    simp only [go_sem, ↓reduceIte, Nat.reduceEqDiff, Nat.reduceBEq, Nat.reduceAdd, Nat.reduceMul, Nat.reduceSub, Nat.reduceLT, Nat.reduceLeDiff, reduceCtorEq, Int.reduceToNat, Int.reduceLE, Int.reduceLT, Int.reduceEq, h1, hw, hnext]
  | succ m hm =>
    intro j hj
    have h1 : (j : Int) < (i : Int) := by omega
    have h2 := wrap_succ (i := j) (n := n.kids.length) (by omega) hn.len
    have h3 : (0 : Int) ≤ (j : Int) := by omega
    have h4 : (j : Int) < (n.kids.length : Int) := by omega
    obtain ⟨S2, h5⟩ := hm (j + 1) (by omega)
    rw [take_drop_cons (l := n.kids) (i := i) (j := j) (by omega) (by omega), List.all_cons]
    by_cases hop : (n.kids.getD i default).op = 55
    · by_cases hnm : (n.kids.getD j default).name.toList = (n.kids.getD i default).name.toList
      · have e1 : otherVar (n.kids.getD i default) (n.kids.getD j default) = false := by simp only [otherVar, hop, hnm]; simp
        rw [e1]
        refine ⟨[.arr [n.cells] none false, .arr [(n.kids.getD i default).cells] none false], F89.L2_step ?_⟩
        simp only [go_sem, ↓reduceIte, Nat.reduceEqDiff, Nat.reduceBEq, Nat.reduceAdd, Nat.reduceMul, Nat.reduceSub, Nat.reduceLT, Nat.reduceLeDiff, reduceCtorEq, Int.reduceToNat, Int.reduceLE, Int.reduceLT, Int.reduceEq, h1, h2, h3, h4, hop, hnm]
      · have e1 : otherVar (n.kids.getD i default) (n.kids.getD j default) = true := by
          have : ((n.kids.getD j default).name.toList == (n.kids.getD i default).name.toList) = false := by simpa using hnm
          simp only [otherVar, this]; simp
        rw [e1, Bool.true_and]
        refine ⟨S2, F89.L2_step ?_⟩
        simp only [go_sem, ↓reduceIte, Nat.reduceEqDiff, Nat.reduceBEq, Nat.reduceAdd, Nat.reduceMul, Nat.reduceSub, Nat.reduceLT, Nat.reduceLeDiff, reduceCtorEq, Int.reduceToNat, Int.reduceLE, Int.reduceLT, Int.reduceEq, h1, h2, h3, h4, hop, hnm, h5]
    · have e1 : otherVar (n.kids.getD i default) (n.kids.getD j default) = true := by simp only [otherVar, hop]; simp
      rw [e1, Bool.true_and]
      refine ⟨S2, F89.L2_step ?_⟩
      simp only [go_sem, ↓reduceIte, Nat.reduceEqDiff, Nat.reduceBEq, Nat.reduceAdd, Nat.reduceMul, Nat.reduceSub, Nat.reduceLT, Nat.reduceLeDiff, reduceCtorEq, Int.reduceToNat, Int.reduceLE, Int.reduceLT, Int.reduceEq, h1, h2, h3, h4, hop, h5]
theorem loop89 (n : Node) (hn : n.ok) (t f : Bool) (ih : Kids65 n) (last : Nat) (hlast : last + 1 = n.kids.length) :
    ∀ (m i : Nat), i + m = last → ∃ S2, F89.L0 0 1 (.bool t) (.bool f) (.mp 0 0 0) (.int .i64 n.kids.length) (.int .i64 i) [.arr [n.cells] none false] = some (.bool (flowRest n.kids last t f m i), S2) := by
  have hb := maxLen_le
  have hbl := hn.len
  have hw1 : IntKind.i64.wrap ((n.kids.length : Int) - 1) = (last : Int) := by rw [IntKind.wrap_i64]; omega
  have hw2 : IntKind.i64.wrap ((n.kids.length : Int) - 2) = (last : Int) - 1 := by rw [IntKind.wrap_i64]; omega
  intro m
  induction m with
  | zero =>
    intro i hi
    obtain rfl : i = last := by omega
    have h1 : ¬ (i : Int) < (i : Int) := by omega
    refine ⟨[.arr [n.cells] none false], F89.L0_step ?_⟩
    simp only [go_sem, ↓reduceIte, Nat.reduceEqDiff, Nat.reduceBEq, Nat.reduceAdd, Nat.reduceMul, Nat.reduceSub, Nat.reduceLT, Nat.reduceLeDiff, reduceCtorEq, Int.reduceToNat, Int.reduceLE, Int.reduceLT, Int.reduceEq, h1, hw1]
    rfl
  | succ m hm =>
    intro i hi
    have h1 : (i : Int) < (last : Int) := by omega
    have h2 : (i : Int) < (n.kids.length : Int) := by omega
    have h3 : (0 : Int) ≤ (i : Int) := by omega
    obtain ⟨Sn, hnext⟩ := hm (i + 1) (by omega)
    obtain ⟨S2, h5⟩ := loop89i n hn t f n.kids.length i (by omega) _ Sn hnext i 0 (by omega)
    simp only [List.drop_zero, Int.natCast_zero] at h5
    have h6 := fun S => callWell S (ih _ (kids_mem (l := n.kids) (i := i) (by omega)) 4 t f)
    have e0 : flowRest n.kids last t f (m + 1) i = (((decide ((n.kids.getD i default).op = 55) || (decide ((n.kids.getD i default).op = 56) && decide (i = last - 1))) && (n.kids.getD i default).well 4 t f) && ((n.kids.take i).all (otherVar (n.kids.getD i default)) && flowRest n.kids last t f m (i + 1))) := rfl
    rw [e0]
    by_cases c2 : (n.kids.getD i default).op = 56
    · by_cases c3 : (i : Int) < (last : Int) - 1
      · have c3' : ¬ i = last - 1 := by omega
        refine ⟨[.arr [n.cells] none false, .arr [(n.kids.getD i default).cells] none false], F89.L0_step ?_⟩
        simp only [go_sem, ↓reduceIte, Nat.reduceEqDiff, Nat.reduceBEq, Nat.reduceAdd, Nat.reduceMul, Nat.reduceSub, Nat.reduceLT, Nat.reduceLeDiff, reduceCtorEq, Int.reduceToNat, Int.reduceLE, Int.reduceLT, Int.reduceEq, h1, h2, h3, hw1, hw2, c2, c3, c3']
      · have c3' : i = last - 1 := by omega
        have c3'' : decide (i = last - 1) = true := decide_eq_true c3'
        cases hwl : (n.kids.getD i default).well 4 t f
        · rw [hwl] at h6
          refine ⟨[.arr [n.cells] none false, .arr [(n.kids.getD i default).cells] none false], F89.L0_step ?_⟩
          cases t <;> cases f <;> simp only [go_sem, ↓reduceIte, Nat.reduceEqDiff, Nat.reduceBEq, Nat.reduceAdd, Nat.reduceMul, Nat.reduceSub, Nat.reduceLT, Nat.reduceLeDiff, reduceCtorEq, Int.reduceToNat, Int.reduceLE, Int.reduceLT, Int.reduceEq, h1, h2, h3, hw1, hw2, c2, c3, c3'', h6]
        · rw [hwl] at h6
          refine ⟨S2, F89.L0_step ?_⟩
          cases t <;> cases f <;> simp only [go_sem, ↓reduceIte, Nat.reduceEqDiff, Nat.reduceBEq, Nat.reduceAdd, Nat.reduceMul, Nat.reduceSub, Nat.reduceLT, Nat.reduceLeDiff, reduceCtorEq, Int.reduceToNat, Int.reduceLE, Int.reduceLT, Int.reduceEq, h1, h2, h3, hw1, hw2, c2, c3, c3'', h6, h5]
    · by_cases c1 : (n.kids.getD i default).op = 55
      · cases hwl : (n.kids.getD i default).well 4 t f
        · rw [hwl] at h6
          refine ⟨[.arr [n.cells] none false, .arr [(n.kids.getD i default).cells] none false], F89.L0_step ?_⟩
          cases t <;> cases f <;> simp only [go_sem, ↓reduceIte, Nat.reduceEqDiff, Nat.reduceBEq, Nat.reduceAdd, Nat.reduceMul, Nat.reduceSub, Nat.reduceLT, Nat.reduceLeDiff, reduceCtorEq, Int.reduceToNat, Int.reduceLE, Int.reduceLT, Int.reduceEq, h1, h2, h3, hw1, hw2, c1, h6]
        · rw [hwl] at h6
          refine ⟨S2, F89.L0_step ?_⟩
          cases t <;> cases f <;> simp only [go_sem, ↓reduceIte, Nat.reduceEqDiff, Nat.reduceBEq, Nat.reduceAdd, Nat.reduceMul, Nat.reduceSub, Nat.reduceLT, Nat.reduceLeDiff, reduceCtorEq, Int.reduceToNat, Int.reduceLE, Int.reduceLT, Int.reduceEq, h1, h2, h3, hw1, hw2, c1, h6, h5, Bool.true_or]
      · refine ⟨[.arr [n.cells] none false, .arr [(n.kids.getD i default).cells] none false], F89.L0_step ?_⟩
        simp only [go_sem, ↓reduceIte, Nat.reduceEqDiff, Nat.reduceBEq, Nat.reduceAdd, Nat.reduceMul, Nat.reduceSub, Nat.reduceLT, Nat.reduceLeDiff, reduceCtorEq, Int.reduceToNat, Int.reduceLE, Int.reduceLT, Int.reduceEq, h1, h2, h3, hw1, hw2, c1, c2]
theorem wells_flow (l : List Node) (last : Nat) (hlast : last + 1 = l.length) (t f : Bool) : ∀ (m i : Nat), i + m = last →
    (Node.wells (l.drop i) (List.replicate m 4 ++ [2]) t f && flowFrom l last m i) = ((l.getD last default).well 2 t f && flowRest l last t f m i) := by
  intro m
  induction m with
  | zero =>
    intro i hi
    obtain rfl : i = last := by omega
    rw [kids_drop (by omega), List.drop_of_length_le (l := l) (by omega)]
    simp only [List.replicate_zero, List.nil_append, Node.wells, List.getD_cons_zero, flowFrom, flowRest, Bool.and_true]
  | succ m hm =>
    intro i hi
    have h := hm (i + 1) (by omega)
    rw [kids_drop (by omega)]
    simp only [List.replicate_succ, List.cons_append, Node.wells, List.getD_cons_zero, List.tail_cons, flowFrom, flowRest, flowAt]
    generalize (l.getD i default).well 4 t f = a at *
    generalize (decide ((l.getD i default).op = 55) || (decide ((l.getD i default).op = 56) && decide (i = last - 1))) = c at *
    generalize (l.take i).all (otherVar (l.getD i default)) = d at *
    cases a <;> cases c <;> cases d <;> simp [h]
theorem call89 (n : Node) (hn : n.ok) (t f : Bool) (ih : Kids65 n) : callL Try.prog hints 89 [.agg n.cells, .bool t, .bool f] = some (.bool (flowRef n t f)) := by
  have hb := maxLen_le
  have hbl := hn.len
  have hp := fun S => callO95 S n hn
  have key : ∃ S0, F89.E 0 (.agg n.cells) (.bool t) (.bool f) [] = some (.bool (flowRef n t f), S0) := by
    by_cases hl : 2 ≤ n.kids.length
    · have hl' : ¬ (n.kids.length : Int) < 2 := by omega
      obtain ⟨last, hlast⟩ : ∃ last, last + 1 = n.kids.length := ⟨n.kids.length - 1, by omega⟩
      have hlast' : n.kids.length - 1 = last := by omega
      have hw1 : IntKind.i64.wrap ((n.kids.length : Int) - 1) = (last : Int) := by rw [IntKind.wrap_i64]; omega
      have hx : (0 : Int) ≤ (last : Int) ∧ (last : Int) < (n.kids.length : Int) := by omega
      have hwl := fun S => callWell S (ih _ (kids_mem (l := n.kids) (i := last) (by omega)) 2 t f)
      have e : flowRef n t f = (!n.primed && ((n.kids.getD last default).well 2 t f && flowRest n.kids last t f last 0)) := by
        have h := wells_flow n.kids last hlast t f last 0 (by omega)
        simp only [List.drop_zero] at h
        simp only [flowRef, hl, decide_true, Bool.true_and, hlast', flowOK, h]
      rw [e]
      cases hpr : n.primed
      · rw [hpr] at hp
        cases hwv : (n.kids.getD last default).well 2 t f
        · rw [hwv] at hwl
          refine ⟨[.arr [n.cells] none false], ?_⟩
          cases t <;> cases f <;> simp only [go_sem, ↓reduceIte, Nat.reduceEqDiff, Nat.reduceBEq, Nat.reduceAdd, Nat.reduceMul, Nat.reduceSub, Nat.reduceLT, Nat.reduceLeDiff, reduceCtorEq, Int.reduceToNat, Int.reduceLE, Int.reduceLT, Int.reduceEq, hl', hp, hw1, hx, hwl]
        · rw [hwv] at hwl
          obtain ⟨S2, h⟩ := loop89 n hn t f ih last hlast last 0 (by omega)
          simp only [Int.natCast_zero] at h
          refine ⟨S2, ?_⟩
          cases t <;> cases f <;> simp only [go_sem, ↓reduceIte, Nat.reduceEqDiff, Nat.reduceBEq, Nat.reduceAdd, Nat.reduceMul, Nat.reduceSub, Nat.reduceLT, Nat.reduceLeDiff, reduceCtorEq, Int.reduceToNat, Int.reduceLE, Int.reduceLT, Int.reduceEq, hl', hp, hw1, hx, hwl, h]
      · rw [hpr] at hp
        refine ⟨[.arr [n.cells] none false], ?_⟩
        simp only [go_sem, ↓reduceIte, Nat.reduceEqDiff, Nat.reduceBEq, Nat.reduceAdd, Nat.reduceMul, Nat.reduceSub, Nat.reduceLT, Nat.reduceLeDiff, reduceCtorEq, Int.reduceToNat, Int.reduceLE, Int.reduceLT, Int.reduceEq, hl', hp]
    · have hl' : (n.kids.length : Int) < 2 := by omega
      refine ⟨[.arr [n.cells] none false], ?_⟩
      simp only [go_sem, ↓reduceIte, Nat.reduceEqDiff, Nat.reduceBEq, Nat.reduceAdd, Nat.reduceMul, Nat.reduceSub, Nat.reduceLT, Nat.reduceLeDiff, reduceCtorEq, Int.reduceToNat, Int.reduceLE, Int.reduceLT, Int.reduceEq, hl', flowRef, hl, decide_false, Bool.false_and]
  obtain ⟨S0, hE⟩ := key
  exact F89.call hE rfl
end Go.Vs
end
/- The reference's well: what it returns. -/
section
set_option linter.unusedVariables false
set_option linter.unusedSimpArgs false
namespace Go.Vs
open Go Go.Proofs
@[go_sem] theorem digits_size (l : List Int) : (digits l).size = l.length := by simp [digits, ByteArray.size]
theorem digits_at {l : List Int} {i : Nat} (h : i < l.length) (hd : 0 ≤ l.getD i 0 ∧ l.getD i 0 ≤ 100) : byteAt (digits l) i = 48 + l.getD i 0 := by
  have e : (digits l).data.toList.getD i 0 = UInt8.ofNat (48 + (l.getD i 0).toNat) := by
    simp [digits, List.getD_eq_getElem?_getD, h]
  simp only [byteAt, e]
  generalize l.getD i 0 = d at hd ⊢
  have : (UInt8.ofNat (48 + d.toNat)).toNat = 48 + d.toNat := by
    simp; omega
  rw [this]
  omega
theorem iteProp {α : Type} {P : α → Prop} {c : Prop} [Decidable c] {a b : α} (h1 : c → P a) (h2 : ¬ c → P b) : P (if c then a else b) := by
  by_cases h : c
  · rw [if_pos h]; exact h1 h
  · rw [if_neg h]; exact h2 h
theorem tail65 (n : Node) (hn : n.ok) (h2 : n.op = 8 ∨ n.op = 9 → n.kids.length = 2) (h3 : n.op = 39 → n.kids.length = 1) :
    ∃ S', ∀ x2 x3 x9 x10 x108, F65.k26 0 .normal (F65.ee3 x2 x3 (.mp 0 0 0) x9 x10 x108) [.arr [n.cells] none false] = some (.bool (tailRef n.op n.kids), S') := by
  refine ⟨[.arr [n.cells] none false], fun x2 x3 x9 x10 x108 => ?_⟩
  by_cases h8 : n.op = 8
  · have h1 : (n.kids.length : Int) = 2 := by have := h2 (.inl h8); omega
    have key : tailRef n.op n.kids = (decide ((n.kids.getD 1 default).op = 1) && decide (0 < (n.kids.getD 1 default).num.length)) := by
      unfold tailRef; rw [if_pos h8]
    rw [key]
    simp only [go_sem, ↓reduceIte, Nat.reduceEqDiff, Nat.reduceBEq, Nat.reduceAdd, Nat.reduceMul, Nat.reduceSub, Nat.reduceLT, Nat.reduceLeDiff, reduceCtorEq, Int.reduceToNat, Int.reduceLE, Int.reduceLT, Int.reduceEq, h8, h1]
    generalize n.kids.getD 1 default = k
    by_cases e1 : k.op = 1 <;> by_cases e2 : 0 < k.num.length <;> simp [e1, e2]
  by_cases h9 : n.op = 9
  · have h1 : (n.kids.length : Int) = 2 := by have := h2 (.inr h9); omega
    have key : tailRef n.op n.kids = (decide ((n.kids.getD 1 default).op = 1) && decide (0 ≤ natVal (n.kids.getD 1 default).num 20)) := by
      unfold tailRef; rw [if_neg h8, if_pos h9]
    have hk := hn.kids _ (kids_mem (l := n.kids) (i := 1) (by omega))
    rw [key]
    have hc := fun S => callO91 S (n.kids.getD 1 default).neg (n.kids.getD 1 default).num (n.kids.getD 1 default).den (by revert hk; cases n.kids.getD 1 default; intro hk; exact hk.2.2.2.2.1) 20
    simp only [go_sem, ↓reduceIte, Nat.reduceEqDiff, Nat.reduceBEq, Nat.reduceAdd, Nat.reduceMul, Nat.reduceSub, Nat.reduceLT, Nat.reduceLeDiff, reduceCtorEq, Int.reduceToNat, Int.reduceLE, Int.reduceLT, Int.reduceEq, h9, h1, hc]
    generalize n.kids.getD 1 default = k
    by_cases e1 : k.op = 1 <;> by_cases e2 : 0 ≤ natVal k.num 20 <;> simp [e1, e2]
  by_cases h39 : n.op = 39
  · have h1 : (n.kids.length : Int) = 1 := by have := h3 h39; omega
    have key : tailRef n.op n.kids = (n.kids.getD 0 default).diff := by unfold tailRef; rw [if_neg h8, if_neg h9, if_pos h39]
    have hc := fun S => callO92 S _ (hn.kids _ (kids_mem (l := n.kids) (i := 0) (by omega)))
    rw [key]
    simp only [go_sem, ↓reduceIte, Nat.reduceEqDiff, Nat.reduceBEq, Nat.reduceAdd, Nat.reduceMul, Nat.reduceSub, Nat.reduceLT, Nat.reduceLeDiff, reduceCtorEq, Int.reduceToNat, Int.reduceLE, Int.reduceLT, Int.reduceEq, h39, h1, hc]
    cases (n.kids.getD 0 default).diff <;> simp only [go_sem, ↓reduceIte, Nat.reduceEqDiff, Nat.reduceBEq, Nat.reduceAdd, Nat.reduceMul, Nat.reduceSub, Nat.reduceLT, Nat.reduceLeDiff, reduceCtorEq, Int.reduceToNat, Int.reduceLE, Int.reduceLT, Int.reduceEq]
  · have key : tailRef n.op n.kids = true := by unfold tailRef; rw [if_neg h8, if_neg h9, if_neg h39]
    rw [key]
    simp only [go_sem, ↓reduceIte, Nat.reduceEqDiff, Nat.reduceBEq, Nat.reduceAdd, Nat.reduceMul, Nat.reduceSub, Nat.reduceLT, Nat.reduceLeDiff, reduceCtorEq, Int.reduceToNat, Int.reduceLE, Int.reduceLT, Int.reduceEq, h8, h9, h39]
theorem loop65 (n : Node) (hn : n.ok) (t f : Bool) (s : List Int) (hs : s.length = n.kids.length) (hd : ∀ d ∈ s, 0 ≤ d ∧ d ≤ 100) (ih : Kids65 n) (h2 : n.op = 8 ∨ n.op = 9 → n.kids.length = 2) (h3 : n.op = 39 → n.kids.length = 1) :
    ∀ (m i : Nat), i + m = n.kids.length → ∃ S', F65.L0 0 1 (.bool t) (.bool f) (.mp 0 0 0) (.str (digits s)) (.int .i64 i) [.arr [n.cells] none false] =
      some (.bool (Node.wells (n.kids.drop i) (s.drop i) (t || decide (n.op = 12)) (f || decide (n.op = 39)) && tailRef n.op n.kids), S') := by
  obtain ⟨St, ht⟩ := tail65 n hn h2 h3
  intro m
  induction m with
  | zero =>
    intro i hi
    have h1 : ¬ (i : Int) < (s.length : Int) := by omega
    refine ⟨St, F65.L0_step ?_⟩
    rw [List.drop_of_length_le (l := n.kids) (by omega)]
    simp only [go_sem, ↓reduceIte, Nat.reduceEqDiff, Nat.reduceBEq, Nat.reduceAdd, Nat.reduceMul, Nat.reduceSub, Nat.reduceLT, Nat.reduceLeDiff, reduceCtorEq, Int.reduceToNat, Int.reduceLE, Int.reduceLT, Int.reduceEq, h1, ↓ht]
    rfl
  | succ m hm =>
    intro i hi
    have h1 : (i : Int) < (s.length : Int) := by omega
    have h1' : (i : Int) < (n.kids.length : Int) := by omega
    have h4 : (0 : Int) ≤ (i : Int) := by omega
    have h5 := wrap_succ (i := i) (n := n.kids.length) (by omega) hn.len
    have hsi : s.getD i 0 ∈ s := by
      have : i < s.length := by omega
      simp [List.getD_eq_getElem?_getD, this]
    have hdi := hd _ hsi
    have hb := digits_at (l := s) (i := i) (by omega) hdi
    have hw1 : IntKind.u8.wrap (48 + s.getD i 0 - 48) = s.getD i 0 := by rw [IntKind.wrap_u8]; omega
    have hw2 : IntKind.i64.wrap (s.getD i 0) = s.getD i 0 := by rw [IntKind.wrap_i64]; omega
    obtain ⟨S', h6⟩ := hm (i + 1) (by omega)
    have e : Node.wells (n.kids.drop i) (s.drop i) (t || decide (n.op = 12)) (f || decide (n.op = 39)) = ((n.kids.getD i default).well (s.getD i 0) (t || decide (n.op = 12)) (f || decide (n.op = 39)) && Node.wells (n.kids.drop (i + 1)) (s.drop (i + 1)) (t || decide (n.op = 12)) (f || decide (n.op = 39))) := by
      rw [kids_drop (l := n.kids) (by omega)]
      simp only [Node.wells, List.tail_drop]
      have : (s.drop i).getD 0 0 = s.getD i 0 := by simp [List.getD_eq_getElem?_getD]
      rw [this]
    rw [e]
    have hc := fun S => callWell S (ih _ (kids_mem (l := n.kids) (i := i) (by omega)) (s.getD i 0) (t || decide (n.op = 12)) (f || decide (n.op = 39)))
    cases hv : (n.kids.getD i default).well (s.getD i 0) (t || decide (n.op = 12)) (f || decide (n.op = 39))
    · rw [hv] at hc
      refine ⟨[.arr [n.cells] none false], F65.L0_step ?_⟩
      by_cases h12 : n.op = 12
      · have h39 : ¬ n.op = 39 := by omega
        simp only [h12, decide_true, Bool.or_true, Int.reduceEq, decide_false, Bool.or_false] at hc
        cases t <;> cases f <;> simp only [go_sem, ↓reduceIte, Nat.reduceEqDiff, Nat.reduceBEq, Nat.reduceAdd, Nat.reduceMul, Nat.reduceSub, Nat.reduceLT, Nat.reduceLeDiff, reduceCtorEq, Int.reduceToNat, Int.reduceLE, Int.reduceLT, Int.reduceEq, h1, h1', h4, h5, hb, hw1, hw2, h12, hc]
      · by_cases h39 : n.op = 39
        · simp only [h39, decide_true, Bool.or_true, Int.reduceEq, decide_false, Bool.or_false] at hc
          cases t <;> cases f <;> simp only [go_sem, ↓reduceIte, Nat.reduceEqDiff, Nat.reduceBEq, Nat.reduceAdd, Nat.reduceMul, Nat.reduceSub, Nat.reduceLT, Nat.reduceLeDiff, reduceCtorEq, Int.reduceToNat, Int.reduceLE, Int.reduceLT, Int.reduceEq, h1, h1', h4, h5, hb, hw1, hw2, h39, hc]
        · simp only [h12, h39, decide_false, Bool.or_false] at hc
          cases t <;> cases f <;> simp only [go_sem, ↓reduceIte, Nat.reduceEqDiff, Nat.reduceBEq, Nat.reduceAdd, Nat.reduceMul, Nat.reduceSub, Nat.reduceLT, Nat.reduceLeDiff, reduceCtorEq, Int.reduceToNat, Int.reduceLE, Int.reduceLT, Int.reduceEq, h1, h1', h4, h5, hb, hw1, hw2, h12, h39, hc]
    · rw [hv] at hc
      refine ⟨S', F65.L0_step ?_⟩
      rw [Bool.true_and]
      by_cases h12 : n.op = 12
      · have h39 : ¬ n.op = 39 := by omega
        simp only [h12, decide_true, Bool.or_true, Int.reduceEq, decide_false, Bool.or_false] at hc h6
        cases t <;> cases f <;> simp only [go_sem, ↓reduceIte, Nat.reduceEqDiff, Nat.reduceBEq, Nat.reduceAdd, Nat.reduceMul, Nat.reduceSub, Nat.reduceLT, Nat.reduceLeDiff, reduceCtorEq, Int.reduceToNat, Int.reduceLE, Int.reduceLT, Int.reduceEq, h1, h1', h4, h5, hb, hw1, hw2, h12, hc] <;> exact h6
      · by_cases h39 : n.op = 39
        · simp only [h39, decide_true, Bool.or_true, Int.reduceEq, decide_false, Bool.or_false] at hc h6
          cases t <;> cases f <;> simp only [go_sem, ↓reduceIte, Nat.reduceEqDiff, Nat.reduceBEq, Nat.reduceAdd, Nat.reduceMul, Nat.reduceSub, Nat.reduceLT, Nat.reduceLeDiff, reduceCtorEq, Int.reduceToNat, Int.reduceLE, Int.reduceLT, Int.reduceEq, h1, h1', h4, h5, hb, hw1, hw2, h39, hc] <;> exact h6
        · simp only [h12, h39, decide_false, Bool.or_false] at hc h6
          cases t <;> cases f <;> simp only [go_sem, ↓reduceIte, Nat.reduceEqDiff, Nat.reduceBEq, Nat.reduceAdd, Nat.reduceMul, Nat.reduceSub, Nat.reduceLT, Nat.reduceLeDiff, reduceCtorEq, Int.reduceToNat, Int.reduceLE, Int.reduceLT, Int.reduceEq, h1, h1', h4, h5, hb, hw1, hw2, h12, h39, hc] <;> exact h6
/-- Behind the kids' sorts. -/
theorem after65 (n : Node) (hn : n.ok) (t f : Bool) (s : List Int) (hd : ∀ d ∈ s, 0 ≤ d ∧ d ≤ 100) (ih : Kids65 n) (h2 : s.length = n.kids.length → (n.op = 8 ∨ n.op = 9) → n.kids.length = 2) (h3 : s.length = n.kids.length → n.op = 39 → n.kids.length = 1) :
    ∃ S', ∀ x94 x98, F65.k105 0 .normal (F65.ee5 (.bool t) (.bool f) (.mp 0 0 0) (.str (digits s)) x94 x98) [.arr [n.cells] none false] =
      some (.bool (decide (s.length = n.kids.length) && (Node.wells n.kids s (t || decide (n.op = 12)) (f || decide (n.op = 39)) && tailRef n.op n.kids)), S') := by
  by_cases hl : s.length = n.kids.length
  · have hl' : (s.length : Int) = (n.kids.length : Int) := by omega
    obtain ⟨S', h⟩ := loop65 n hn t f s hl hd ih (h2 hl) (h3 hl) n.kids.length 0 (by omega)
    simp only [Int.natCast_zero, List.drop_zero] at h
    refine ⟨S', fun x94 x98 => ?_⟩
    simp only [go_sem, ↓reduceIte, Nat.reduceEqDiff, Nat.reduceBEq, Nat.reduceAdd, Nat.reduceMul, Nat.reduceSub, Nat.reduceLT, Nat.reduceLeDiff, reduceCtorEq, Int.reduceToNat, Int.reduceLE, Int.reduceLT, Int.reduceEq, hl', hl, decide_true, Bool.true_and, h]
  · have hl' : ¬ (s.length : Int) = (n.kids.length : Int) := by omega
    refine ⟨[.arr [n.cells] none false], fun x94 x98 => ?_⟩
    simp only [go_sem, ↓reduceIte, Nat.reduceEqDiff, Nat.reduceBEq, Nat.reduceAdd, Nat.reduceMul, Nat.reduceSub, Nat.reduceLT, Nat.reduceLeDiff, reduceCtorEq, Int.reduceToNat, Int.reduceLE, Int.reduceLT, Int.reduceEq, hl', hl, decide_false, Bool.false_and]
theorem kidSorts_small (o : Int) : ∀ d ∈ kidSorts o, 0 ≤ d ∧ d ≤ 100 := by
  have key : ∀ l : List Int, l = [1] ∨ l = [2] ∨ l = [3] ∨ l = [1, 1] ∨ l = [2, 2] ∨ l = [3, 2] ∨ l = [3, 3] ∨ l = [] → ∀ d ∈ l, 0 ≤ d ∧ d ≤ 100 := by
    intro l h d hd
    rcases h with rfl | rfl | rfl | rfl | rfl | rfl | rfl | rfl <;> simp at hd <;> omega
  refine key _ ?_
  unfold kidSorts
  repeat' (first | (apply iteProp (P := fun l : List Int => l = [1] ∨ l = [2] ∨ l = [3] ∨ l = [1, 1] ∨ l = [2, 2] ∨ l = [3, 2] ∨ l = [3, 3] ∨ l = []) <;> intro _))
  all_goals simp
end Go.Vs
end
/- The reference's well and Check: what they return. -/
section
set_option linter.unusedVariables false
set_option linter.unusedSimpArgs false
namespace Go.Vs
open Go Go.Proofs
theorem digits_one : digits [1] = ⟨#[49]⟩ := rfl
def Node.wellKids (n : Node) (t f : Bool) : Bool := decide ((sortsRef n.op n.kids.length).length = n.kids.length) && (Node.wells n.kids (sortsRef n.op n.kids.length) (t || decide (n.op = 12)) (f || decide (n.op = 39)) && tailRef n.op n.kids)
theorem kids65 (n : Node) (hn : n.ok) (t f : Bool) (ih : Kids65 n) :
    ∃ S', F65.k117 0 .normal (F65.ee1 (.bool t) (.bool f) (.mp 0 0 0) (.str (digits (kidSorts n.op)))) [.arr [n.cells] none false] = some (.bool (n.wellKids t f), S') := by
  by_cases hfn : n.op = 10 ∨ n.op = 37
  · have e0 : kidSorts n.op = [] := by rcases hfn with h | h <;> rw [h] <;> rfl
    rw [e0]
    by_cases h1 : n.kids.length = 1
    · have h1' : (n.kids.length : Int) = 1 := by omega
      have es : sortsRef n.op n.kids.length = [1] := by simp [sortsRef, hfn, h1]
      obtain ⟨S', h⟩ := after65 n hn t f [1] (by simp) ih (fun _ ho => by omega) (fun _ ho => by omega)
      refine ⟨S', ?_⟩
      rw [digits_one] at h
      rw [Node.wellKids, es]
      rcases hfn with hfn | hfn <;> (rw [hfn] at h ⊢; simp only [go_sem, ↓reduceIte, Nat.reduceEqDiff, Nat.reduceBEq, Nat.reduceAdd, Nat.reduceMul, Nat.reduceSub, Nat.reduceLT, Nat.reduceLeDiff, reduceCtorEq, Int.reduceToNat, Int.reduceLE, Int.reduceLT, Int.reduceEq, hfn, h1', ↓h])
    · have h1' : ¬ (n.kids.length : Int) = 1 := by omega
      have es : sortsRef n.op n.kids.length = [] := by simp [sortsRef, h1, e0]
      obtain ⟨S', h⟩ := after65 n hn t f [] (by simp) ih (fun hl ho => by omega) (fun _ ho => by omega)
      refine ⟨S', ?_⟩
      rw [Node.wellKids, es]
      rcases hfn with hfn | hfn <;> (rw [hfn] at h ⊢; simp only [go_sem, ↓reduceIte, Nat.reduceEqDiff, Nat.reduceBEq, Nat.reduceAdd, Nat.reduceMul, Nat.reduceSub, Nat.reduceLT, Nat.reduceLeDiff, reduceCtorEq, Int.reduceToNat, Int.reduceLE, Int.reduceLT, Int.reduceEq, hfn, h1', ↓h])
  · have h10 : ¬ n.op = 10 := fun h => hfn (.inl h)
    have h37 : ¬ n.op = 37 := fun h => hfn (.inr h)
    have es : sortsRef n.op n.kids.length = kidSorts n.op := by simp [sortsRef, hfn]
    obtain ⟨S', h⟩ := after65 n hn t f (kidSorts n.op) (kidSorts_small _) ih (fun hl ho => by rw [← hl]; rcases ho with ho | ho <;> rw [ho] <;> rfl) (fun hl ho => by rw [← hl, ho]; rfl)
    refine ⟨S', ?_⟩
    rw [Node.wellKids, es]
    simp only [go_sem, ↓reduceIte, Nat.reduceEqDiff, Nat.reduceBEq, Nat.reduceAdd, Nat.reduceMul, Nat.reduceSub, Nat.reduceLT, Nat.reduceLeDiff, reduceCtorEq, Int.reduceToNat, Int.reduceLE, Int.reduceLT, Int.reduceEq, h10, h37, ↓h]
theorem flow65 (n : Node) (hn : n.ok) (t f : Bool) (ih : Kids65 n) :
    ∃ S', ∀ x76, F65.k135 0 .normal (F65.ee10 (.bool t) (.bool f) (.mp 0 0 0) x76) [.arr [n.cells] none false] = some (.bool (if n.op = 54 then flowRef n t f else n.wellKids t f), S') := by
  by_cases h54 : n.op = 54
  · rw [if_pos h54]
    have hc := fun S => callO_plain (S := S) (call89 n hn t f ih) (by simp [Node.plain, Plain.bool])
    refine ⟨[.arr [n.cells] none false], fun x76 => ?_⟩
    cases hv : flowRef n t f
    · rw [hv] at hc
      cases t <;> cases f <;> simp only [go_sem, ↓reduceIte, Nat.reduceEqDiff, Nat.reduceBEq, Nat.reduceAdd, Nat.reduceMul, Nat.reduceSub, Nat.reduceLT, Nat.reduceLeDiff, reduceCtorEq, Int.reduceToNat, Int.reduceLE, Int.reduceLT, Int.reduceEq, h54, hc]
    · rw [hv] at hc
      cases t <;> cases f <;> simp only [go_sem, ↓reduceIte, Nat.reduceEqDiff, Nat.reduceBEq, Nat.reduceAdd, Nat.reduceMul, Nat.reduceSub, Nat.reduceLT, Nat.reduceLeDiff, reduceCtorEq, Int.reduceToNat, Int.reduceLE, Int.reduceLT, Int.reduceEq, h54, hc]
  · rw [if_neg h54]
    obtain ⟨S', h⟩ := kids65 n hn t f ih
    refine ⟨S', fun x76 => ?_⟩
    simp only [go_sem, ↓reduceIte, Nat.reduceEqDiff, Nat.reduceBEq, Nat.reduceAdd, Nat.reduceMul, Nat.reduceSub, Nat.reduceLT, Nat.reduceLeDiff, reduceCtorEq, Int.reduceToNat, Int.reduceLE, Int.reduceLT, Int.reduceEq, h54, ↓h, h]
theorem primes65 (n : Node) (hn : n.ok) (t f : Bool) (ih : Kids65 n) :
    ∃ S', ∀ x42 x59, F65.k147 0 .normal (F65.ee9 (.bool t) (.bool f) (.mp 0 0 0) x42 x59) [.arr [n.cells] none false] =
      some (.bool (!((t && decide (n.op = 12)) || ((t || f) && decide (n.op = 3))) && (if n.op = 54 then flowRef n t f else n.wellKids t f)), S') := by
  obtain ⟨S', h⟩ := flow65 n hn t f ih
  by_cases h12 : n.op = 12
  · cases t
    · refine ⟨S', fun x42 x59 => ?_⟩
      cases f <;> simp only [go_sem, ↓reduceIte, Nat.reduceEqDiff, Nat.reduceBEq, Nat.reduceAdd, Nat.reduceMul, Nat.reduceSub, Nat.reduceLT, Nat.reduceLeDiff, reduceCtorEq, Int.reduceToNat, Int.reduceLE, Int.reduceLT, Int.reduceEq, h12, ↓h] <;> rfl
    · refine ⟨[.arr [n.cells] none false], fun x42 x59 => ?_⟩
      simp only [go_sem, ↓reduceIte, Nat.reduceEqDiff, Nat.reduceBEq, Nat.reduceAdd, Nat.reduceMul, Nat.reduceSub, Nat.reduceLT, Nat.reduceLeDiff, reduceCtorEq, Int.reduceToNat, Int.reduceLE, Int.reduceLT, Int.reduceEq, h12] <;> rfl
  by_cases h3 : n.op = 3
  · cases t
    · cases f
      · refine ⟨S', fun x42 x59 => ?_⟩
        simp only [go_sem, ↓reduceIte, Nat.reduceEqDiff, Nat.reduceBEq, Nat.reduceAdd, Nat.reduceMul, Nat.reduceSub, Nat.reduceLT, Nat.reduceLeDiff, reduceCtorEq, Int.reduceToNat, Int.reduceLE, Int.reduceLT, Int.reduceEq, h3, ↓h] <;> rfl
      · refine ⟨[.arr [n.cells] none false], fun x42 x59 => ?_⟩
        simp only [go_sem, ↓reduceIte, Nat.reduceEqDiff, Nat.reduceBEq, Nat.reduceAdd, Nat.reduceMul, Nat.reduceSub, Nat.reduceLT, Nat.reduceLeDiff, reduceCtorEq, Int.reduceToNat, Int.reduceLE, Int.reduceLT, Int.reduceEq, h3] <;> rfl
    · refine ⟨[.arr [n.cells] none false], fun x42 x59 => ?_⟩
      simp only [go_sem, ↓reduceIte, Nat.reduceEqDiff, Nat.reduceBEq, Nat.reduceAdd, Nat.reduceMul, Nat.reduceSub, Nat.reduceLT, Nat.reduceLeDiff, reduceCtorEq, Int.reduceToNat, Int.reduceLE, Int.reduceLT, Int.reduceEq, h3] <;> rfl
  · refine ⟨S', fun x42 x59 => ?_⟩
    have e : (!((t && decide (n.op = 12)) || ((t || f) && decide (n.op = 3)))) = true := by simp [h12, h3]
    rw [e, Bool.true_and]
    cases t <;> cases f <;> simp only [go_sem, ↓reduceIte, Nat.reduceEqDiff, Nat.reduceBEq, Nat.reduceAdd, Nat.reduceMul, Nat.reduceSub, Nat.reduceLT, Nat.reduceLeDiff, reduceCtorEq, Int.reduceToNat, Int.reduceLE, Int.reduceLT, Int.reduceEq, h12, h3, ↓h]
theorem num65 (n : Node) (hn : n.ok) (t f : Bool) (ih : Kids65 n) :
    ∃ S', ∀ x35, F65.k159 0 .normal (F65.ee7 (.bool t) (.bool f) (.mp 0 0 0) x35) [.arr [n.cells] none false] =
      some (.bool ((if n.op = 1 then natOK n.neg n.num n.den else (!n.neg && (decide (n.num.length = 0) && decide (n.den.length = 0)))) && (!((t && decide (n.op = 12)) || ((t || f) && decide (n.op = 3))) && (if n.op = 54 then flowRef n t f else n.wellKids t f))), S') := by
  obtain ⟨S', h⟩ := primes65 n hn t f ih
  generalize (!((t && decide (n.op = 12)) || ((t || f) && decide (n.op = 3))) && (if n.op = 54 then flowRef n t f else n.wellKids t f)) = R at h ⊢
  by_cases h1 : n.op = 1
  · rw [if_pos h1]
    have hc := fun S => callO88 S n.neg n.num n.den hn.num
    cases hnat : natOK n.neg n.num n.den
    · rw [hnat] at hc
      refine ⟨[.arr [n.cells] none false], fun x35 => ?_⟩
      simp only [go_sem, ↓reduceIte, Nat.reduceEqDiff, Nat.reduceBEq, Nat.reduceAdd, Nat.reduceMul, Nat.reduceSub, Nat.reduceLT, Nat.reduceLeDiff, reduceCtorEq, Int.reduceToNat, Int.reduceLE, Int.reduceLT, Int.reduceEq, h1, hc] <;> rfl
    · rw [hnat] at hc
      refine ⟨S', fun x35 => ?_⟩
      simp only [go_sem, ↓reduceIte, Nat.reduceEqDiff, Nat.reduceBEq, Nat.reduceAdd, Nat.reduceMul, Nat.reduceSub, Nat.reduceLT, Nat.reduceLeDiff, reduceCtorEq, Int.reduceToNat, Int.reduceLE, Int.reduceLT, Int.reduceEq, h1, hc, ↓h] <;> rfl
  · rw [if_neg h1]
    cases hneg : n.neg
    · by_cases hnum : n.num.length = 0
      · have hnum' : ¬ 0 < (n.num.length : Int) := by omega
        by_cases hden : n.den.length = 0
        · have hden' : ¬ 0 < (n.den.length : Int) := by omega
          refine ⟨S', fun x35 => ?_⟩
          simp only [go_sem, ↓reduceIte, Nat.reduceEqDiff, Nat.reduceBEq, Nat.reduceAdd, Nat.reduceMul, Nat.reduceSub, Nat.reduceLT, Nat.reduceLeDiff, reduceCtorEq, Int.reduceToNat, Int.reduceLE, Int.reduceLT, Int.reduceEq, h1, hneg, hnum', hden', ↓h]
          simp [hnum, hden]
        · have hden' : 0 < (n.den.length : Int) := by omega
          refine ⟨[.arr [n.cells] none false], fun x35 => ?_⟩
          simp only [go_sem, ↓reduceIte, Nat.reduceEqDiff, Nat.reduceBEq, Nat.reduceAdd, Nat.reduceMul, Nat.reduceSub, Nat.reduceLT, Nat.reduceLeDiff, reduceCtorEq, Int.reduceToNat, Int.reduceLE, Int.reduceLT, Int.reduceEq, h1, hneg, hnum', hden']
          simp [hden]
      · have hnum' : 0 < (n.num.length : Int) := by omega
        refine ⟨[.arr [n.cells] none false], fun x35 => ?_⟩
        simp only [go_sem, ↓reduceIte, Nat.reduceEqDiff, Nat.reduceBEq, Nat.reduceAdd, Nat.reduceMul, Nat.reduceSub, Nat.reduceLT, Nat.reduceLeDiff, reduceCtorEq, Int.reduceToNat, Int.reduceLE, Int.reduceLT, Int.reduceEq, h1, hneg, hnum']
        simp [hnum]
    · refine ⟨[.arr [n.cells] none false], fun x35 => ?_⟩
      simp only [go_sem, ↓reduceIte, Nat.reduceEqDiff, Nat.reduceBEq, Nat.reduceAdd, Nat.reduceMul, Nat.reduceSub, Nat.reduceLT, Nat.reduceLeDiff, reduceCtorEq, Int.reduceToNat, Int.reduceLE, Int.reduceLT, Int.reduceEq, h1, hneg] <;> rfl
theorem call65 : ∀ n : Node, n.ok → ∀ s t f, callL Try.prog hints 65 [.agg n.cells, .int .i64 s, .bool t, .bool f] = some (.bool (n.well s t f)) := by
  refine Node.ind' fun n ih0 hn s t f => ?_
  have ih : Kids65 n := fun k hk => ih0 k hk (hn.kids k hk)
  obtain ⟨S', h⟩ := num65 n hn t f ih
  have e : n.well s t f = ((decide (sortOf n.op = s) && (decide (hasName' n.op = nameOK n.name) && (hasName' n.op || noName n.name))) && ((if n.op = 1 then natOK n.neg n.num n.den else (!n.neg && (decide (n.num.length = 0) && decide (n.den.length = 0)))) && (!((t && decide (n.op = 12)) || ((t || f) && decide (n.op = 3))) && (if n.op = 54 then flowRef n t f else n.wellKids t f)))) := by
    rw [Node.well_eq]; rfl
  generalize ((if n.op = 1 then natOK n.neg n.num n.den else (!n.neg && (decide (n.num.length = 0) && decide (n.den.length = 0)))) && (!((t && decide (n.op = 12)) || ((t || f) && decide (n.op = 3))) && (if n.op = 54 then flowRef n t f else n.wellKids t f))) = R at h e
  have key : ∃ S0, F65.E 0 (.agg n.cells) (.int .i64 s) (.bool t) (.bool f) [] = some (.bool (n.well s t f), S0) := by
    rw [e]
    by_cases h1 : sortOf n.op = s
    · cases h2 : hasName' n.op
      · cases h3 : nameOK n.name
        · cases h4 : noName n.name
          · have h4' : ¬ n.name.toList = (⟨#[]⟩ : ByteArray).toList := by simpa [noName] using h4
            refine ⟨[.arr [n.cells] none false], ?_⟩
            simp only [go_sem, ↓reduceIte, Nat.reduceEqDiff, Nat.reduceBEq, Nat.reduceAdd, Nat.reduceMul, Nat.reduceSub, Nat.reduceLT, Nat.reduceLeDiff, reduceCtorEq, Int.reduceToNat, Int.reduceLE, Int.reduceLT, Int.reduceEq, h1, h2, h3, h4'] <;> simp
          · have h4' : n.name.toList = (⟨#[]⟩ : ByteArray).toList := by simpa [noName] using h4
            refine ⟨S', ?_⟩
            simp only [go_sem, ↓reduceIte, Nat.reduceEqDiff, Nat.reduceBEq, Nat.reduceAdd, Nat.reduceMul, Nat.reduceSub, Nat.reduceLT, Nat.reduceLeDiff, reduceCtorEq, Int.reduceToNat, Int.reduceLE, Int.reduceLT, Int.reduceEq, h1, h2, h3, h4', ↓h] <;> simp
        · refine ⟨[.arr [n.cells] none false], ?_⟩
          simp only [go_sem, ↓reduceIte, Nat.reduceEqDiff, Nat.reduceBEq, Nat.reduceAdd, Nat.reduceMul, Nat.reduceSub, Nat.reduceLT, Nat.reduceLeDiff, reduceCtorEq, Int.reduceToNat, Int.reduceLE, Int.reduceLT, Int.reduceEq, h1, h2, h3] <;> simp
      · cases h3 : nameOK n.name
        · refine ⟨[.arr [n.cells] none false], ?_⟩
          simp only [go_sem, ↓reduceIte, Nat.reduceEqDiff, Nat.reduceBEq, Nat.reduceAdd, Nat.reduceMul, Nat.reduceSub, Nat.reduceLT, Nat.reduceLeDiff, reduceCtorEq, Int.reduceToNat, Int.reduceLE, Int.reduceLT, Int.reduceEq, h1, h2, h3] <;> simp
        · refine ⟨S', ?_⟩
          simp only [go_sem, ↓reduceIte, Nat.reduceEqDiff, Nat.reduceBEq, Nat.reduceAdd, Nat.reduceMul, Nat.reduceSub, Nat.reduceLT, Nat.reduceLeDiff, reduceCtorEq, Int.reduceToNat, Int.reduceLE, Int.reduceLT, Int.reduceEq, h1, h2, h3, ↓h] <;> simp
    · refine ⟨[.arr [n.cells] none false], ?_⟩
      simp only [go_sem, ↓reduceIte, Nat.reduceEqDiff, Nat.reduceBEq, Nat.reduceAdd, Nat.reduceMul, Nat.reduceSub, Nat.reduceLT, Nat.reduceLeDiff, reduceCtorEq, Int.reduceToNat, Int.reduceLE, Int.reduceLT, Int.reduceEq, h1] <;> simp
  obtain ⟨S0, hE⟩ := key
  exact F65.call hE rfl
end Go.Vs
end
/- The reference's Check; both agree where nothing wraps. -/
section
set_option linter.unusedVariables false
set_option linter.unusedSimpArgs false
namespace Go.Vs
open Go Go.Proofs
def Node.checkRef (n : Node) (sort : Int) : Int :=
  if sort < 1 ∨ 3 < sort then 1 else if 4000 < n.size ∨ 60 < n.levels then 2 else if sortOf n.op ≠ sort then 80 else if n.well sort false false = false then 3 else 0
theorem call37 (n : Node) (hn : n.ok) (sort : Int) : callL Try.prog hints 37 [.agg n.cells, .int .i64 sort] = some (.int .i64 (n.checkRef sort)) := by
  refine F37.call (r := (.int .i64 (n.checkRef sort), [.arr [n.cells] none false])) ?_ rfl
  have hs := fun S => callN S (call35 n hn)
  have hl := fun S => callN S (call45 n hn)
  have hw := fun S => callWell S (call65 n hn sort false false)
  unfold Node.checkRef
  by_cases h1 : sort < 1
  · rw [if_pos (.inl h1)]
    simp only [go_sem, ↓reduceIte, Nat.reduceEqDiff, Nat.reduceBEq, Nat.reduceAdd, Nat.reduceMul, Nat.reduceSub, Nat.reduceLT, Nat.reduceLeDiff, reduceCtorEq, Int.reduceToNat, Int.reduceLE, Int.reduceLT, Int.reduceEq, h1]
  by_cases h2 : 3 < sort
  · rw [if_pos (.inr h2)]
    simp only [go_sem, ↓reduceIte, Nat.reduceEqDiff, Nat.reduceBEq, Nat.reduceAdd, Nat.reduceMul, Nat.reduceSub, Nat.reduceLT, Nat.reduceLeDiff, reduceCtorEq, Int.reduceToNat, Int.reduceLE, Int.reduceLT, Int.reduceEq, h1, h2]
  rw [if_neg (by omega)]
  by_cases h3 : 4000 < n.size
  · rw [if_pos (.inl h3)]
    simp only [go_sem, ↓reduceIte, Nat.reduceEqDiff, Nat.reduceBEq, Nat.reduceAdd, Nat.reduceMul, Nat.reduceSub, Nat.reduceLT, Nat.reduceLeDiff, reduceCtorEq, Int.reduceToNat, Int.reduceLE, Int.reduceLT, Int.reduceEq, h1, h2, hs, h3]
  by_cases h4 : 60 < n.levels
  · rw [if_pos (.inr h4)]
    simp only [go_sem, ↓reduceIte, Nat.reduceEqDiff, Nat.reduceBEq, Nat.reduceAdd, Nat.reduceMul, Nat.reduceSub, Nat.reduceLT, Nat.reduceLeDiff, reduceCtorEq, Int.reduceToNat, Int.reduceLE, Int.reduceLT, Int.reduceEq, h1, h2, hs, h3, hl, h4]
  rw [if_neg (by omega)]
  by_cases h5 : sortOf n.op = sort
  · rw [if_neg (by simpa using h5)]
    cases hv : n.well sort false false
    · rw [hv] at hw
      rw [if_pos rfl]
      simp only [go_sem, ↓reduceIte, Nat.reduceEqDiff, Nat.reduceBEq, Nat.reduceAdd, Nat.reduceMul, Nat.reduceSub, Nat.reduceLT, Nat.reduceLeDiff, reduceCtorEq, Int.reduceToNat, Int.reduceLE, Int.reduceLT, Int.reduceEq, h1, h2, hs, h3, hl, h4, h5, hw]
    · rw [hv] at hw
      rw [if_neg (by simp)]
      simp only [go_sem, ↓reduceIte, Nat.reduceEqDiff, Nat.reduceBEq, Nat.reduceAdd, Nat.reduceMul, Nat.reduceSub, Nat.reduceLT, Nat.reduceLeDiff, reduceCtorEq, Int.reduceToNat, Int.reduceLE, Int.reduceLT, Int.reduceEq, h1, h2, hs, h3, hl, h4, h5, hw]
  · rw [if_pos h5]
    simp only [go_sem, ↓reduceIte, Nat.reduceEqDiff, Nat.reduceBEq, Nat.reduceAdd, Nat.reduceMul, Nat.reduceSub, Nat.reduceLT, Nat.reduceLeDiff, reduceCtorEq, Int.reduceToNat, Int.reduceLE, Int.reduceLT, Int.reduceEq, h1, h2, hs, h3, hl, h4, h5]
/-! ### Sizes and levels that don't wrap are the true ones -/
mutual
theorem size_count : ∀ n : Node, n.count ≤ 1000000000 → n.size = n.count
  | .mk a b c d e f, h => by
    simp only [Node.count] at h ⊢
    simp only [Node.size]
    rw [sizes_counts f 1 (by omega) (by omega)]
    omega
theorem sizes_counts : ∀ (l : List Node) (a : Int), 0 ≤ a → a + Node.counts l ≤ 1000000000 → Node.sizes a l = a + Node.counts l
  | [], a, h0, h => by simp only [Node.sizes, Node.counts]; omega
  | n :: r, a, h0, h => by
    simp only [Node.counts] at h ⊢
    simp only [Node.sizes]
    have hs := size_count n (by omega)
    have hw : IntKind.i64.wrap (a + n.size) = a + n.count := by rw [hs, IntKind.wrap_i64]; omega
    rw [hw, sizes_counts r (a + n.count) (by omega) (by omega)]
    omega
end
mutual
theorem depth_count : ∀ n : Node, n.depth ≤ n.count
  | .mk a b c d e f => by
    have := depths_counts f
    simp only [Node.depth, Node.count]; omega
theorem depths_counts : ∀ l : List Node, Node.depths l ≤ Node.counts l
  | [] => by simp [Node.depths, Node.counts]
  | n :: r => by
    have := depth_count n
    have := depths_counts r
    simp only [Node.depths, Node.counts]; omega
end
mutual
theorem levels_depth : ∀ n : Node, n.count ≤ 1000000000 → n.levels = n.depth
  | .mk a b c d e f, h => by
    simp only [Node.count] at h
    have hd := depths_counts f
    simp only [Node.levels, Node.depth]
    rw [most_depths f 0 (by omega) (by omega), IntKind.wrap_i64]
    omega
theorem most_depths : ∀ (l : List Node) (a : Int), 0 ≤ a → Node.counts l ≤ 1000000000 → Node.most a l = max a (Node.depths l)
  | [], a, h0, h => by simp only [Node.most, Node.depths]; omega
  | n :: r, a, h0, h => by
    simp only [Node.counts] at h
    simp only [Node.most, Node.depths]
    rw [levels_depth n (by omega)]
    rw [most_depths r _ (by split <;> omega) (by omega)]
    split <;> omega
end
/-! ### Well formed, by both -/
theorem noName_not {s : ByteArray} (h : noName s = true) : nameOK s = false := by
  have h1 : s.toList = (⟨#[]⟩ : ByteArray).toList := by simpa only [noName, beq_iff_eq] using h
  rw [ByteArray.toList_eq, ByteArray.toList_eq] at h1
  have h2 : s.size = 0 := by
    have e : s.data.toList.length = s.size := rfl
    rw [← e, h1]; rfl
  simp only [nameOK, h2]
  rfl
/-- Within a flow: no differentials. -/
theorem formed_flow : ∀ n : Node, ∀ a b, n.formed a b true = (n.formed a b false && !n.primed) := by
  refine Node.ind' fun n ih a b => ?_
  have kids : ∀ (l : List Node), (∀ k ∈ l, k ∈ n.kids) → ∀ s a b, Node.formeds l s a b true = (Node.formeds l s a b false && !Node.primeds l) := by
    intro l
    induction l with
    | nil => intro _ s a b; rfl
    | cons k r ihr =>
      intro hsub s a b
      simp only [Node.formeds, Node.primeds, ih k (hsub k (by simp)), ihr (fun x hx => hsub x (by simp [hx]))]
      cases decide (sortOf k.op = s.getD 0 0) <;> cases k.formed a b false <;> cases k.primed <;> simp
  have hk := kids n.kids (fun k hk => hk)
  rw [Node.formed_eq, Node.formed_eq, Node.primed_eq]
  simp only [switchOK]
  by_cases h1 : n.op = 10 ∨ n.op = 37
  · have h3 : ¬ n.op = 3 := by omega
    have h12 : ¬ n.op = 12 := by omega
    have h39 : ¬ n.op = 39 := by omega
    have h54 : ¬ n.op = 54 := by omega
    simp only [h1, h3, h12, h39, h54, if_true, decide_false, Bool.or_false, Bool.true_or, Bool.false_or, hk]
    generalize headOK n.op n.name n.neg n.num n.den = x1
    generalize Node.formeds n.kids (sortsFor n.op n.kids.length) a b false = x2
    generalize tailOK n.op n.kids = x3
    cases x1 <;> cases x2 <;> cases x3 <;> cases Node.primeds n.kids <;> simp
  by_cases h54 : n.op = 54
  · have h3 : ¬ n.op = 3 := by omega
    have h12 : ¬ n.op = 12 := by omega
    have h39 : ¬ n.op = 39 := by omega
    simp only [h1, h3, h12, h39, h54, if_true, if_false, decide_false, decide_true, Bool.or_false, Bool.or_true, Bool.true_or, Bool.false_or, hk, Int.reduceEq, or_self]
    generalize headOK 54 n.name n.neg n.num n.den = x1
    generalize Node.formeds n.kids (sortsFor 54 n.kids.length) a b false = x2
    generalize tailOK 54 n.kids = x3
    cases x1 <;> cases x2 <;> cases x3 <;> cases Node.primeds n.kids <;> simp
  by_cases h3 : n.op = 3
  · simp [h3]
  by_cases h12 : n.op = 12
  · simp [h12]
  by_cases h39 : n.op = 39
  · simp [h39]
  · simp only [h1, h3, h12, h39, h54, if_false, decide_false, Bool.or_false, Bool.true_or, Bool.false_or, hk]
    generalize headOK n.op n.name n.neg n.num n.den = x1
    generalize Node.formeds n.kids (sortsFor n.op n.kids.length) a b false = x2
    generalize tailOK n.op n.kids = x3
    cases x1 <;> cases x2 <;> cases x3 <;> cases Node.primeds n.kids <;> simp
theorem formeds_flow : ∀ (l : List Node) (s : List Int) (a b : Bool), Node.formeds l s a b true = (Node.formeds l s a b false && !Node.primeds l)
  | [], s, a, b => rfl
  | k :: r, s, a, b => by
    simp only [Node.formeds, Node.primeds, formed_flow k, formeds_flow r]
    cases decide (sortOf k.op = s.getD 0 0) <;> cases k.formed a b false <;> cases k.primed <;> simp
end Go.Vs
end
/- tree.formed and the reference's well agree. -/
section
set_option linter.unusedVariables false
set_option linter.unusedSimpArgs false
namespace Go.Vs
open Go Go.Proofs
theorem tail_same (n : Node) (hn : n.ok) (h : n.op = 9 → n.kids.length = 2) (h39 : n.op ≠ 39) : tailRef n.op n.kids = tailOK n.op n.kids := by
  unfold tailRef tailOK
  by_cases h8 : n.op = 8
  · rw [if_pos h8, if_pos h8]
  by_cases h9 : n.op = 9
  · rw [if_neg h8, if_neg h8, if_pos h9, if_pos h9]
    have hl := h h9
    have hk := hn.kids _ (kids_mem (l := n.kids) (i := 1) (by omega))
    generalize n.kids.getD 1 default = k at hk ⊢
    have hw : ∀ w ∈ k.num, 0 ≤ w ∧ w ≤ 4294967295 := by cases k; exact hk.2.2.2.2.1
    congr 1
    unfold natVal
    by_cases l0 : k.num.length = 0
    · rw [if_pos l0]; simp [l0]
    · rw [if_neg l0]
      have hmem : k.num.getD 0 0 ∈ k.num := by
        have : 0 < k.num.length := by omega
        simp [List.getD_eq_getElem?_getD, this]
      have hb := hw _ hmem
      generalize k.num.getD 0 0 = w at hb ⊢
      by_cases l1 : k.num.length = 1
      · by_cases hw20 : w ≤ 20
        · have : ¬ (1 < k.num.length ∨ 20 < w) := by omega
          rw [if_neg this]; simp [l1, hw20, hb.1]
        · have : 1 < k.num.length ∨ 20 < w := by omega
          rw [if_pos this]; simp [l1, hw20]
      · have : 1 < k.num.length ∨ 20 < w := by omega
        rw [if_pos this]; simp [l0, l1]
  · rw [if_neg h8, if_neg h8, if_neg h9, if_neg h9, if_neg h39]
/-- The number and the name, for both. -/
theorem name_same (o : Int) (nm : ByteArray) (h : o ≠ 10 ∧ o ≠ 37) : (decide (hasName' o = nameOK nm) && (hasName' o || noName nm)) = !((hasName o && !nameOK nm) || (!hasName o && (!noName nm && (decide (o ≠ 10) && decide (o ≠ 37))))) := by
  have e : hasName' o = hasName o := by simp [hasName', h.1, h.2]
  rw [e]
  have := @noName_not nm
  simp only [ne_eq, h.1, h.2, not_false_eq_true, decide_true, Bool.and_true]
  revert this
  cases hasName o <;> cases nameOK nm <;> cases noName nm <;> simp
theorem well_formed : ∀ n : Node, n.ok → ∀ s t f, n.well s t f = (decide (sortOf n.op = s) && n.formed t f false) := by
  refine Node.ind' fun n ih hn s t f => ?_
  have kids : ∀ (l : List Node), (∀ k ∈ l, k ∈ n.kids) → ∀ s t f, Node.wells l s t f = Node.formeds l s t f false := by
    intro l
    induction l with
    | nil => intro _ s t f; rfl
    | cons k r ihr =>
      intro hsub s t f
      simp only [Node.wells, Node.formeds, ih k (hsub k (by simp)) (hn.kids k (hsub k (by simp))), ihr (fun x hx => hsub x (by simp [hx])), Bool.and_assoc]
  have hk := kids n.kids (fun k hk => hk)
  rw [Node.well_eq, Node.formed_eq]
  simp only [headOK, switchOK]
  generalize decide (sortOf n.op = s) = x0
  generalize hnum : (if n.op = 1 then natOK n.neg n.num n.den else (!n.neg && (decide (n.num.length = 0) && decide (n.den.length = 0)))) = x1
  by_cases h1 : n.op = 10 ∨ n.op = 37
  · have h3 : ¬ n.op = 3 := by omega
    have h12 : ¬ n.op = 12 := by omega
    have h39 : ¬ n.op = 39 := by omega
    have h54 : ¬ n.op = 54 := by omega
    have e1 : hasName' n.op = true := by rcases h1 with h | h <;> rw [h] <;> rfl
    have e2 : hasName n.op = false := by rcases h1 with h | h <;> rw [h] <;> rfl
    have e3 : (decide (n.op ≠ 10) && decide (n.op ≠ 37)) = false := by rcases h1 with h | h <;> rw [h] <;> rfl
    have e4 : tailRef n.op n.kids = true := by unfold tailRef; rw [if_neg (by omega), if_neg (by omega), if_neg h39]
    have e5 : tailOK n.op n.kids = true := by unfold tailOK; rw [if_neg (by omega), if_neg (by omega)]
    have e6 : sortsFor n.op n.kids.length = List.replicate n.kids.length 1 := by unfold sortsFor; rw [if_pos h1]
    have e7 : kidSorts n.op = [] := by rcases h1 with h | h <;> rw [h] <;> rfl
    simp only [h1, h3, h12, h39, h54, if_true, if_false, decide_false, Bool.or_false, Bool.false_or, Bool.and_false, e1, e2, e3, e4, e5, e6, Bool.true_or, Bool.and_true, Bool.false_and, Bool.not_false, Bool.true_and, hk]
    by_cases l0 : n.kids.length = 0
    · have : n.kids = [] := List.eq_nil_of_length_eq_zero l0
      simp only [this, sortsRef, e7, List.length_nil]
      cases x0 <;> cases x1 <;> cases nameOK n.name <;> simp [Node.formeds]
    · by_cases l1 : n.kids.length = 1
      · have : sortsRef n.op n.kids.length = [1] := by simp [sortsRef, h1, l1]
        rw [this, l1]
        cases x0 <;> cases x1 <;> cases nameOK n.name <;> simp
      · have : sortsRef n.op n.kids.length = [] := by simp [sortsRef, l1, e7]
        have l2 : ¬ n.kids.length ≤ 1 := by omega
        rw [this]
        cases x0 <;> cases x1 <;> cases nameOK n.name <;> simp [l2, l0] <;> omega
  have hne : n.op ≠ 10 ∧ n.op ≠ 37 := ⟨fun h => h1 (.inl h), fun h => h1 (.inr h)⟩
  rw [name_same n.op n.name hne]
  generalize hname : (!((hasName n.op && !nameOK n.name) || (!hasName n.op && (!noName n.name && (decide (n.op ≠ 10) && decide (n.op ≠ 37)))))) = x2
  have e6 : n.op ≠ 54 → sortsFor n.op n.kids.length = kidSorts n.op := fun h => by unfold sortsFor; rw [if_neg h1, if_neg h]
  have e8 : sortsRef n.op n.kids.length = kidSorts n.op := by unfold sortsRef; rw [if_neg (by intro h; exact h1 h.1)]
  have hsym : decide ((kidSorts n.op).length = n.kids.length) = decide (n.kids.length = (kidSorts n.op).length) := by
    by_cases h : n.kids.length = (kidSorts n.op).length
    · simp [h]
    · have h' : ¬ (kidSorts n.op).length = n.kids.length := fun e => h e.symm
      simp [h, h']
  by_cases h54 : n.op = 54
  · have h3 : ¬ n.op = 3 := by omega
    have h12 : ¬ n.op = 12 := by omega
    have h39 : ¬ n.op = 39 := by omega
    have ex2 : x2 = noName n.name := by
      rw [← hname, h54]
      have : hasName 54 = false := rfl
      rw [this]
      cases noName n.name <;> simp
    have e1 : n.primed = Node.primeds n.kids := by rw [Node.primed_eq]; simp [h3, h12, h39]
    have e2 : sortsFor n.op n.kids.length = List.replicate (n.kids.length - 1) 4 ++ [2] := by unfold sortsFor; rw [if_neg h1, if_pos h54]
    have e3 : tailOK n.op n.kids = true := by unfold tailOK; rw [if_neg (by omega), if_neg (by omega)]
    have e4 : decide (n.op = 54) = true := by simp [h54]
    rw [ex2]
    simp only [h1, if_false, h3, h12, h39, decide_false, Bool.and_false, Bool.or_false, Bool.not_false, Bool.true_and, e2, e3, e4, Bool.or_true, if_pos h54, flowRef, e1, hk, formeds_flow, Bool.and_true]
    by_cases l2 : 2 ≤ n.kids.length
    · have l3 : n.kids.length = (List.replicate (n.kids.length - 1) (4 : Int) ++ [2]).length := by simp; omega
      rw [decide_eq_true l2, decide_eq_true l3]
      generalize Node.formeds n.kids (List.replicate (n.kids.length - 1) 4 ++ [2]) t f false = x3
      generalize Node.primeds n.kids = x4
      generalize flowOK n.kids = x5
      cases x0 <;> cases x1 <;> cases noName n.name <;> cases x3 <;> cases x4 <;> cases x5 <;> rfl
    · rw [decide_eq_false l2]
      cases x0 <;> cases x1 <;> cases noName n.name <;> simp
  rw [e8, hsym, e6 h54]
  have d54 : decide (n.op = 54) = false := by simp [h54]
  by_cases hl : n.kids.length = (kidSorts n.op).length
  case neg =>
    rw [decide_eq_false hl]
    simp only [if_neg h54, Bool.false_and, Bool.and_false]
  rw [decide_eq_true hl]
  by_cases h3 : n.op = 3
  · have ht : tailRef n.op n.kids = tailOK n.op n.kids := tail_same n hn (by omega) (by omega)
    rw [ht]
    simp only [h1, h54, if_false, hk, h3, if_true, decide_true, Int.reduceEq, decide_false, Bool.and_false, Bool.and_true, Bool.or_false, Bool.false_or, or_self, Bool.true_and]
    generalize Node.formeds n.kids (kidSorts 3) t f false = x3
    generalize tailOK 3 n.kids = x4
    cases x0 <;> cases x1 <;> cases x2 <;> cases x3 <;> cases x4 <;> cases t <;> cases f <;> rfl
  by_cases h12 : n.op = 12
  · have ht : tailRef n.op n.kids = tailOK n.op n.kids := tail_same n hn (by omega) (by omega)
    rw [ht]
    simp only [h1, h54, h3, if_false, hk, h12, if_true, decide_true, Int.reduceEq, decide_false, Bool.and_false, Bool.and_true, Bool.or_false, Bool.false_or, Bool.or_true, or_self, Bool.true_and]
    generalize Node.formeds n.kids (kidSorts 12) true f false = x3
    generalize tailOK 12 n.kids = x4
    cases x0 <;> cases x1 <;> cases x2 <;> cases x3 <;> cases x4 <;> cases t <;> cases f <;> rfl
  by_cases h39 : n.op = 39
  · have l1 : n.kids.length = 1 := by rw [hl, h39]; rfl
    have e3 : tailOK n.op n.kids = true := by unfold tailOK; rw [if_neg (by omega), if_neg (by omega)]
    have e4 : tailRef n.op n.kids = (n.kids.getD 0 default).diff := by unfold tailRef; rw [if_neg (by omega), if_neg (by omega), if_pos h39]
    rw [e3, e4]
    simp only [h1, h54, h3, h12, if_false, hk, h39, if_true, decide_true, Int.reduceEq, decide_false, Bool.and_false, Bool.and_true, Bool.or_false, Bool.false_or, Bool.or_true, or_self, Bool.true_and, l1, Bool.not_false]
    generalize Node.formeds n.kids (kidSorts 39) t true false = x3
    generalize (n.kids.getD 0 default).diff = x4
    cases x0 <;> cases x1 <;> cases x2 <;> cases x3 <;> cases x4 <;> rfl
  · have ht : tailRef n.op n.kids = tailOK n.op n.kids := tail_same n hn (fun h => by rw [hl, h]; rfl) h39
    simp only [h1, h54, h3, h12, h39, if_false, ht, hk, decide_false, Bool.and_false, Bool.or_false, Bool.not_false, Bool.true_and]
    generalize Node.formeds n.kids (kidSorts n.op) t f false = x3
    generalize tailOK n.op n.kids = x4
    cases x0 <;> cases x1 <;> cases x2 <;> cases x3 <;> cases x4 <;> rfl
end Go.Vs
end
/- The check of the statements' own package comes to true. -/
section
set_option linter.unusedVariables false
namespace Go.Vs
open Go Go.Proofs
def isTrue (x : Option PV) : Bool := match x with | some (.bool b) => b | _ => false
theorem isTrue_eq {x : Option PV} (h : isTrue x = true) : x = some (.bool true) := by
  unfold isTrue at h
  split at h
  · subst h; rfl
  · cases h
theorem call34 : callL Try.prog hints 34 [] = some (.bool true) := callL_run (n := 60) (isTrue_eq (by kernel_rfl))
@[go_sem] theorem callO34 (S : Store) : callO (callL Try.prog hints) S 34 [] = some { v := .bool true } := callO_plain call34 (by simp)
end Go.Vs
end
/- TreeChecks gives true for all trees of at most 1000000000 nodes. -/
section
set_option linter.unusedVariables false
set_option linter.unusedSimpArgs false
namespace Go.Vs
open Go Go.Proofs
theorem check_same (n : Node) (hn : n.ok) (hc : n.count ≤ 1000000000) (s : Int) : n.checkRef s = n.check s := by
  have e1 := size_count n hc
  have e2 := levels_depth n hc
  have hs : (4000 < n.size ∨ 60 < n.levels) ↔ n.small = false := by
    rw [e1, e2]
    simp only [Node.small]
    by_cases h1 : n.count ≤ 4000 <;> by_cases h2 : n.depth ≤ 60 <;> simp [h1, h2] <;> omega
  unfold Node.checkRef Node.check
  by_cases h1 : s < 1 ∨ 3 < s
  · rw [if_pos h1, if_pos h1]
  rw [if_neg h1, if_neg h1]
  by_cases h2 : n.small = false
  · rw [if_pos h2, if_pos (hs.2 h2)]
  rw [if_neg h2, if_neg (fun h => h2 (hs.1 h))]
  by_cases h3 : sortOf n.op = s
  · simp only [h3, ne_eq, not_true_eq_false, if_false, well_formed n hn, decide_true, Bool.true_and]
  · rw [if_pos h3, if_pos h3]
end Go.Vs
end
