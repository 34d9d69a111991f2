/- tree.formed: what it returns. -/
import Derived.Test.YtnddhkcciphhkaaRows
import Derived.Test.YtnddhkcciphhkaaMB9
import Derived.Test.YtnddhkcciphhkaaMB11
import Derived.Test.YtnddhkcciphhkaaMB12
import Derived.Test.YtnddhkcciphhkaaMB21
section
set_option linter.unusedVariables false
set_option linter.unusedSimpArgs false
namespace Go.Vs
open Go Go.Proofs
def noName (s : ByteArray) : Bool := s.toList == (⟨#[]⟩ : ByteArray).toList
/-- The sorts of a node's kids. -/
def sortsFor (o : Int) (m : Nat) : List Int := if o = 10 ∨ o = 37 then List.replicate m 1 else if o = 54 then List.replicate (m - 1) 4 ++ [2] else kidSorts o
/-- The last test: a quotient's, a power's second kid. -/
def tailOK (o : Int) (f : List Node) : Bool :=
  if o = 8 then decide ((f.getD 1 default).op = 1) && decide (0 < (f.getD 1 default).num.length)
  else if o = 9 then decide ((f.getD 1 default).op = 1) && (decide ((f.getD 1 default).num.length = 0) || (decide ((f.getD 1 default).num.length = 1) && decide ((f.getD 1 default).num.getD 0 0 ≤ 20)))
  else true
theorem tail64 (n : Node) (T : Store) (x3 x6 x208 x209 x210 x211 : PV) (h2 : n.op = 8 ∨ n.op = 9 → n.kids.length = 2) :
    ∃ S', F64.k40 0 .normal (F64.ee27 (.mp 0 0 0) x3 x6 x208 x209 x210 x211) (.arr [n.cells] none false :: T) = some (.bool (tailOK n.op n.kids), S') := by
  by_cases h8 : n.op = 8
  · have h1 : (n.kids.length : Int) = 2 := by have := h2 (.inl h8); omega
    refine ⟨.arr [n.cells] none false :: T, ?_⟩
    have key : tailOK n.op n.kids = (decide ((n.kids.getD 1 default).op = 1) && decide (0 < (n.kids.getD 1 default).num.length)) := by
      unfold tailOK; rw [if_pos h8]
    rw [key]
    simp only [go_sem, ↓reduceIte, Nat.reduceEqDiff, Nat.reduceBEq, Nat.reduceAdd, Nat.reduceMul, Nat.reduceSub, Nat.reduceLT, Nat.reduceLeDiff, reduceCtorEq, Int.reduceToNat, Int.reduceLE, Int.reduceLT, Int.reduceEq, h8, h1]
    generalize n.kids.getD 1 default = k
    by_cases e1 : k.op = 1 <;> by_cases e2 : 0 < k.num.length <;> simp [e1, e2]
  by_cases h9 : n.op = 9
  · have h1 : (n.kids.length : Int) = 2 := by have := h2 (.inr h9); omega
    refine ⟨.arr [n.cells] none false :: (T ++ [.arr [(n.kids.getD 1 default).cells] none false]), ?_⟩
    have key : tailOK n.op n.kids = (decide ((n.kids.getD 1 default).op = 1) && (decide ((n.kids.getD 1 default).num.length = 0) || (decide ((n.kids.getD 1 default).num.length = 1) && decide ((n.kids.getD 1 default).num.getD 0 0 ≤ 20)))) := by
      unfold tailOK; rw [if_neg h8, if_pos h9]
    rw [key]
    simp only [go_sem, ↓reduceIte, Nat.reduceEqDiff, Nat.reduceBEq, Nat.reduceAdd, Nat.reduceMul, Nat.reduceSub, Nat.reduceLT, Nat.reduceLeDiff, reduceCtorEq, Int.reduceToNat, Int.reduceLE, Int.reduceLT, Int.reduceEq, h9, h1]
    generalize n.kids.getD 1 default = k
    generalize k.num.getD 0 0 = w
    by_cases e1 : k.op = 1 <;> by_cases e2 : k.num.length = 0 <;> by_cases e3 : k.num.length = 1 <;> by_cases e5 : w ≤ 20 <;> simp [e1, e2, e3, e5] <;> omega
  · refine ⟨.arr [n.cells] none false :: T, ?_⟩
    have key : tailOK n.op n.kids = true := by unfold tailOK; rw [if_neg h8, if_neg h9]
    rw [key]
    simp only [go_sem, ↓reduceIte, Nat.reduceEqDiff, Nat.reduceBEq, Nat.reduceAdd, Nat.reduceMul, Nat.reduceSub, Nat.reduceLT, Nat.reduceLeDiff, reduceCtorEq, Int.reduceToNat, Int.reduceLE, Int.reduceLT, Int.reduceEq, h8, h9]
/-- Another variable than this equation's. -/
def otherVar (k o : Node) : Bool := !(decide (k.op = 55) && (o.name.toList == k.name.toList))
/-- A flow's kid at a place: an equation of another variable than those before, or further equations at the end. -/
def flowAt (f : List Node) (last i : Nat) : Bool :=
  (decide ((f.getD i default).op = 55) || (decide ((f.getD i default).op = 56) && decide (i = last - 1))) && (f.take i).all (otherVar (f.getD i default))
def flowFrom (f : List Node) (last : Nat) : Nat → Nat → Bool
  | 0, _ => true
  | m + 1, i => flowAt f last i && flowFrom f last m (i + 1)
def flowOK (f : List Node) : Bool := flowFrom f (f.length - 1) (f.length - 1) 0
/-- The number, the name. -/
def headOK (o : Int) (nm : ByteArray) (ng : Bool) (nu de : List Int) : Bool :=
  (if o = 1 then natOK ng nu de else (!ng && (decide (nu.length = 0) && decide (de.length = 0)))) &&
  !((hasName o && !nameOK nm) || (!hasName o && (!noName nm && (decide (o ≠ 10) && decide (o ≠ 37)))))
/-- What an operator asks besides. -/
def switchOK (o : Int) (nm : ByteArray) (f : List Node) (a b c : Bool) : Bool :=
  if o = 10 ∨ o = 37 then nameOK nm && decide (f.length ≤ 1)
  else if o = 54 then noName nm && (decide (2 ≤ f.length) && flowOK f)
  else if o = 3 then !(a || (b || c))
  else if o = 12 then !(a || c)
  else if o = 39 then !c && (decide (f.length = 1) && (f.getD 0 default).diff)
  else true
mutual
def Node.formed : Node → Bool → Bool → Bool → Bool
  | .mk o nm ng nu de f, a, b, c => headOK o nm ng nu de && (switchOK o nm f a b c && (decide (f.length = (sortsFor o f.length).length) && (Node.formeds f (sortsFor o f.length) (a || decide (o = 12)) (b || decide (o = 39)) (c || decide (o = 54)) && tailOK o f)))
def Node.formeds : List Node → List Int → Bool → Bool → Bool → Bool
  | [], _, _, _, _ => true
  | n :: r, s, a, b, c => decide (sortOf n.op = s.getD 0 0) && (n.formed a b c && Node.formeds r s.tail a b c)
end
theorem formeds_drop {l : List Node} {i : Nat} (h : i < l.length) (s : List Int) (a b c : Bool) : Node.formeds (l.drop i) (s.drop i) a b c = (decide (sortOf (l.getD i default).op = s.getD i 0) && ((l.getD i default).formed a b c && Node.formeds (l.drop (i + 1)) (s.drop (i + 1)) a b c)) := by
  rw [kids_drop h]
  simp only [Node.formeds, List.tail_drop]
  have : (s.drop i).getD 0 0 = s.getD i 0 := by simp [List.getD_eq_getElem?_getD]
  rw [this]
theorem callFormed {k : Node} {a b c v : Bool} (S : Store) (h : callL Try.prog hints 64 [.agg k.cells, .agg (placeCells a b c)] = some (.bool v)) : callO (callL Try.prog hints) S 64 [.agg k.cells, .agg (placeCells a b c)] = some { v := .bool v } := callO_plain h (by simp [Node.plain, placeCells_plain])
theorem loop64 (n : Node) (hn : n.ok) (a b c : Bool) (s : List Int) (hs : s.length = n.kids.length) (e : Bool) (he : e = false ∨ s = []) (h2 : n.op = 8 ∨ n.op = 9 → n.kids.length = 2)
    (ih : ∀ k ∈ n.kids, callL Try.prog hints 64 [.agg k.cells, .agg (placeCells a b c)] = some (.bool (k.formed a b c))) (T : Store) (hT : heldBelow (T.length + 2) T.length T = true) :
    ∀ (m i : Nat), i + m = n.kids.length → ∃ S', F64.L7 0 (T.length + 2) (.mp 0 0 0) (.mp 1 0 0) (.sl (intRows s) e) (.sl (Node.rows n.kids) false) (.int .i64 n.kids.length) (.int .i64 i) (.arr [n.cells] none false :: .arr [placeCells a b c] none false :: T) =
      some (.bool (Node.formeds (n.kids.drop i) (s.drop i) a b c && tailOK n.op n.kids), S') := by
  have d0 : 0 < T.length + 2 := by omega
  have d1 : 1 < T.length + 2 := by omega
  have hz : ∀ S, fzPV S (.sl (intRows s) e) = some (.sl (intRows s) e) := fun S => by
    rcases he with rfl | rfl
    · simp only [go_sem]
    · cases e <;> simp only [go_sem]
  intro m
  induction m with
  | zero =>
    intro i hi
    have h1 : ¬ (i : Int) < (n.kids.length : Int) := by omega
    obtain ⟨S', hS'⟩ := tail64 n (.arr [placeCells a b c] none false :: T) .undef .undef .undef .undef .undef .undef h2
    refine ⟨S', F64.L7_step ?_⟩
    rw [List.drop_of_length_le (by omega)]
    simp only [go_sem, ↓reduceIte, Nat.reduceEqDiff, Nat.reduceBEq, Nat.reduceAdd, Nat.reduceMul, Nat.reduceSub, Nat.reduceLT, Nat.reduceLeDiff, reduceCtorEq, Int.reduceToNat, Int.reduceLE, Int.reduceLT, Int.reduceEq, h1, hT, d0, d1, take_len, ↓hS']
    rfl
  | succ m hm =>
    intro i hi
    have h1 : (i : Int) < (n.kids.length : Int) := by omega
    have h1' : (i : Int) < (s.length : Int) := by omega
    have h4 : (0 : Int) ≤ (i : Int) := by omega
    have h3 := wrap_succ (i := i) (n := n.kids.length) (by omega) hn.len
    have h5 := fun S => callFormed S (ih _ (kids_mem (l := n.kids) (i := i) (by omega)))
    rw [formeds_drop (by omega)]
    obtain ⟨S', h6⟩ := hm (i + 1) (by omega)
    by_cases c1 : sortOf (n.kids.getD i default).op = s.getD i 0
    · cases c2 : (n.kids.getD i default).formed a b c with
      | true =>
        rw [c2] at h5
        refine ⟨S', F64.L7_step ?_⟩
        simp only [go_sem, ↓reduceIte, Nat.reduceEqDiff, Nat.reduceBEq, Nat.reduceAdd, Nat.reduceMul, Nat.reduceSub, Nat.reduceLT, Nat.reduceLeDiff, reduceCtorEq, Int.reduceToNat, Int.reduceLE, Int.reduceLT, Int.reduceEq, h1, h1', h3, h4, h5, hz, c1, hT, d0, d1, heldBelow_take, take_app, h6]
      | false =>
        rw [c2] at h5
        refine ⟨.arr [n.cells] none false :: .arr [placeCells a b c] none false :: (T ++ [.arr [(n.kids.getD i default).cells] none false]), F64.L7_step ?_⟩
        simp only [go_sem, ↓reduceIte, Nat.reduceEqDiff, Nat.reduceBEq, Nat.reduceAdd, Nat.reduceMul, Nat.reduceSub, Nat.reduceLT, Nat.reduceLeDiff, reduceCtorEq, Int.reduceToNat, Int.reduceLE, Int.reduceLT, Int.reduceEq, h1, h1', h3, h4, h5, hz, c1]
    · refine ⟨.arr [n.cells] none false :: .arr [placeCells a b c] none false :: (T ++ [.arr [(n.kids.getD i default).cells] none false]), F64.L7_step ?_⟩
      simp only [go_sem, ↓reduceIte, Nat.reduceEqDiff, Nat.reduceBEq, Nat.reduceAdd, Nat.reduceMul, Nat.reduceSub, Nat.reduceLT, Nat.reduceLeDiff, reduceCtorEq, Int.reduceToNat, Int.reduceLE, Int.reduceLT, Int.reduceEq, h1, h1', h3, h4, h5, hz, c1]
/-- All that formed asks behind the number and the name. -/
def Node.rest (n : Node) (a b c : Bool) : Bool := switchOK n.op n.name n.kids a b c && (decide (n.kids.length = (sortsFor n.op n.kids.length).length) && (Node.formeds n.kids (sortsFor n.op n.kids.length) (a || decide (n.op = 12)) (b || decide (n.op = 39)) (c || decide (n.op = 54)) && tailOK n.op n.kids))
end Go.Vs
end
/- tree.formed on a flow. -/
section
set_option linter.unusedVariables false
set_option linter.unusedSimpArgs false
namespace Go.Vs
open Go Go.Proofs
end Go.Vs
end
/- tree.Check: what it returns. -/
section
set_option linter.unusedVariables false
set_option linter.unusedSimpArgs false
namespace Go.Vs
open Go Go.Proofs
def Node.small (n : Node) : Bool := decide (n.count ≤ 4000) && decide (n.depth ≤ 60)
def Node.check (n : Node) (sort : Int) : Int :=
  if sort < 1 ∨ 3 < sort then 1 else if n.small = false then 2 else if sortOf n.op ≠ sort then 80 else if n.formed false false false = false then 3 else 0
end Go.Vs
end
/- Printed by a program of mine (stage1.py): the functions 52, 54, piece by piece. -/
section
set_option linter.unusedVariables false
set_option linter.unusedSimpArgs false
namespace Go.Vs
open Go Go.Proofs
noncomputable section

/-! ### tree.At -/
namespace F52
section
variable (b : Nat) (K : KT) (x0 x1 x2 x4 x5 x6 x7 x8 x12 x22 : PV) (e : Env) (S : Store)
end
end F52
/-! ### tree.Replace -/
namespace F54
section
variable (b : Nat) (K : KT) (x0 x1 x2 x3 x5 x6 x7 x8 x9 x10 x11 x12 x13 x17 x27 x41 x45 x57 : PV) (e : Env) (S : Store)
end
end F54
end
end Go.Vs
end
/- tree.root, step, At: what they return. -/
section
set_option linter.unusedVariables false
set_option linter.unusedSimpArgs false
namespace Go.Vs
open Go Go.Proofs
/-- The node at a place. -/
def Node.at : List Int → Node → Option Node
  | [], n => some n
  | p :: ps, n => if p < 0 ∨ (n.kids.length : Int) ≤ p then none else Node.at ps (n.kids.getD p.toNat default)
end Go.Vs
end
/- tree.within, with the number anywhere in the store. -/
section
set_option linter.unusedVariables false
set_option linter.unusedSimpArgs false
namespace Go.Vs
open Go Go.Proofs
end Go.Vs
end
/- tree.Replace: what it returns. -/
section
set_option linter.unusedVariables false
set_option linter.unusedSimpArgs false
namespace Go.Vs
open Go Go.Proofs
end Go.Vs
end
/- The order of trees: antisymmetric, transitive. -/
section
set_option linter.unusedVariables false
set_option linter.unusedSimpArgs false
namespace Go.Vs
open Go Go.Proofs
/-- Three comparisons, of a with b, b with c, a with c, go together. -/
def Tri (x y z : Int) : Prop := (0 < x ∨ 0 < y ∨ (z ≤ 0 ∧ (z ≠ 0 ∨ (x = 0 ∧ y = 0)))) ∧ (x < 0 ∨ y < 0 ∨ (0 ≤ z ∧ (z ≠ 0 ∨ (x = 0 ∧ y = 0))))
theorem Tri.seq {x y z x' y' z' : Int} (h : Tri x y z) (k : x = 0 → y = 0 → z = 0 → Tri x' y' z') : Tri (seqI x x') (seqI y y') (seqI z z') := by
  unfold Tri at *
  have e : ∀ u v : Int, (u = 0 ∧ seqI u v = v) ∨ (u ≠ 0 ∧ seqI u v = u) := fun u v => by
    by_cases hu : u = 0
    · left; simp [seqI, hu]
    · right; simp [seqI, hu]
  rcases e x x' with ⟨h1, e1⟩ | ⟨h1, e1⟩ <;> rcases e y y' with ⟨h2, e2⟩ | ⟨h2, e2⟩ <;> rcases e z z' with ⟨h3, e3⟩ | ⟨h3, e3⟩ <;> rw [e1, e2, e3]
  · exact k h1 h2 h3
  all_goals (clear k; omega)
/-- The results are -1, 0, 1. -/
def Small (x : Int) : Prop := -1 ≤ x ∧ x ≤ 1
theorem Small.seq {x y : Int} (h : Small x) (k : Small y) : Small (seqI x y) := by unfold seqI; split <;> assumption
end Go.Vs
end
/- Places in trees: plain laws. -/
section
set_option linter.unusedVariables false
set_option linter.unusedSimpArgs false
namespace Go.Vs
open Go Go.Proofs
theorem depths_get : ∀ {l : List Node} {i : Nat}, i < l.length → (l.getD i default).depth ≤ Node.depths l
  | x :: l, 0, h => by simp only [List.getD_cons_zero, Node.depths]; omega
  | x :: l, i + 1, h => by
    have := depths_get (l := l) (i := i) (by simpa using h)
    simp only [List.getD_cons_succ, Node.depths]; omega
theorem Node.depth_eq (n : Node) : n.depth = Node.depths n.kids + 1 := by cases n; rfl
/-! ### A well formed tree's nodes have sorts -/
end Go.Vs
end
/- Printed by a program of mine (stage1.py): the functions 87, 88, 90, 91, 92, 95, piece by piece. -/
section
set_option linter.unusedVariables false
set_option linter.unusedSimpArgs false
namespace Go.Vs
open Go Go.Proofs
noncomputable section

/-! ### isochroneref08.named -/
namespace F87
section
variable (b : Nat) (K : KT) (x0 x2 x3 x4 : PV) (e : Env) (S : Store)
end
end F87
/-! ### isochroneref08.natural -/
namespace F88
section
variable (b : Nat) (K : KT) (x0 x1 x2 x23 : PV) (e : Env) (S : Store)
end
end F88
/-! ### isochroneref08.kids -/
namespace F90
section
variable (b : Nat) (K : KT) (x0 x2 x3 x4 x10 x22 x28 x33 x36 x39 : PV) (e : Env) (S : Store)
end
end F90
/-! ### isochroneref08.Natural -/
namespace F91
section
variable (b : Nat) (K : KT) (x0 x1 x2 x4 x8 x21 : PV) (e : Env) (S : Store)
end
end F91
/-! ### isochroneref08.differential -/
namespace F92
section
variable (b i n n1 : Nat) (K : KT) (x0 x1 x2 x3 x4 x33 x46 x55 : PV) (e : Env) (S : Store)
end
end F92
/-! ### isochroneref08.primed -/
namespace F95
section
variable (b i n n0 : Nat) (K : KT) (x0 x1 x2 x3 x16 x21 x29 : PV) (e : Env) (S : Store)
end
end F95
end
end Go.Vs
end
/- The reference's small functions: what they return. -/
section
set_option linter.unusedVariables false
set_option linter.unusedSimpArgs false
namespace Go.Vs
open Go Go.Proofs
def hasName' (o : Int) : Bool := hasName o || (decide (o = 10) || decide (o = 37))
/-- The sorts as digits. -/
def digits (l : List Int) : ByteArray := ⟨(l.map fun d => UInt8.ofNat (48 + d.toNat)).toArray⟩
/-- The value of a natural number, -1 if it is greater than a bound. -/
def natVal (num : List Int) (most : Int) : Int := if num.length = 0 then 0 else if 1 < num.length ∨ most < num.getD 0 0 then -1 else num.getD 0 0
mutual
/-- Does a differential occur? -/
def Node.primed : Node → Bool
  | .mk o _ _ _ _ f => (decide (o = 3) || (decide (o = 12) || decide (o = 39))) || Node.primeds f
def Node.primeds : List Node → Bool
  | [] => false
  | n :: r => n.primed || Node.primeds r
end
end Go.Vs
end
/- Printed by a program of mine (stage1.py): the functions 89, 65, 37, 7, piece by piece. -/
section
set_option linter.unusedVariables false
set_option linter.unusedSimpArgs false
namespace Go.Vs
open Go Go.Proofs
noncomputable section

/-! ### isochroneref08.flow -/
namespace F89
section
variable (b i n n0 n2 : Nat) (K : KT) (x0 x1 x2 x3 x6 x7 x8 x9 x10 x31 x35 x68 x71 x87 : PV) (e : Env) (S : Store)
end
end F89
/-! ### isochroneref08.well -/
namespace F65
section
variable (b i n n0 : Nat) (K : KT) (x0 x1 x2 x3 x4 x8 x9 x10 x35 x38 x42 x59 x76 x79 x94 x98 x104 x108 x134 x136 x137 x155 x172 : PV) (e : Env) (S : Store)
end
end F65
/-! ### isochroneref08.Check -/
namespace F37
section
variable (b : Nat) (K : KT) (x0 x1 x2 x4 x5 x12 x21 x27 : PV) (e : Env) (S : Store)
end
end F37
/-! ### isochronelaw08.TreeChecks -/
namespace F7
section
variable (b : Nat) (K : KT) (x0 x1 x2 x4 x6 : PV) (e : Env) (S : Store)
end
end F7
end
end Go.Vs
end
/- The reference's flow, over well: what it returns. -/
section
set_option linter.unusedVariables false
set_option linter.unusedSimpArgs false
namespace Go.Vs
open Go Go.Proofs
/-- The sorts of a node's kids, by the reference. -/
def sortsRef (o : Int) (m : Nat) : List Int := if (o = 10 ∨ o = 37) ∧ m = 1 then [1] else kidSorts o
def tailRef (o : Int) (f : List Node) : Bool :=
  if o = 8 then decide ((f.getD 1 default).op = 1) && decide (0 < (f.getD 1 default).num.length)
  else if o = 9 then decide ((f.getD 1 default).op = 1) && decide (0 ≤ natVal (f.getD 1 default).num 20)
  else if o = 39 then (f.getD 0 default).diff
  else true
mutual
def Node.well : Node → Int → Bool → Bool → Bool
  | .mk o nm ng nu de fs, s, t, f =>
    (decide (sortOf o = s) && (decide (hasName' o = nameOK nm) && (hasName' o || noName nm))) &&
    ((if o = 1 then natOK ng nu de else (!ng && (decide (nu.length = 0) && decide (de.length = 0)))) &&
    (!((t && decide (o = 12)) || ((t || f) && decide (o = 3))) &&
    (if o = 54 then decide (2 ≤ fs.length) && (!((decide (o = 3) || (decide (o = 12) || decide (o = 39))) || Node.primeds fs) && (Node.wells fs (List.replicate (fs.length - 1) 4 ++ [2]) t f && flowOK fs))
     else decide ((sortsRef o fs.length).length = fs.length) && (Node.wells fs (sortsRef o fs.length) (t || decide (o = 12)) (f || decide (o = 39)) && tailRef o fs))))
def Node.wells : List Node → List Int → Bool → Bool → Bool
  | [], _, _, _ => true
  | n :: r, s, t, f => n.well (s.getD 0 0) t f && Node.wells r s.tail t f
end
end Go.Vs
end
/- The reference's well: what it returns. -/
section
set_option linter.unusedVariables false
set_option linter.unusedSimpArgs false
namespace Go.Vs
open Go Go.Proofs
end Go.Vs
end
/- The reference's well and Check: what they return. -/
section
set_option linter.unusedVariables false
set_option linter.unusedSimpArgs false
namespace Go.Vs
open Go Go.Proofs
end Go.Vs
end
/- The reference's Check; both agree where nothing wraps. -/
section
set_option linter.unusedVariables false
set_option linter.unusedSimpArgs false
namespace Go.Vs
open Go Go.Proofs
/-! ### Sizes and levels that don't wrap are the true ones -/
/-! ### Well formed, by both -/
end Go.Vs
end
/- tree.formed and the reference's well agree. -/
section
set_option linter.unusedVariables false
set_option linter.unusedSimpArgs false
namespace Go.Vs
open Go Go.Proofs
end Go.Vs
end
/- The check of the statements' own package comes to true. -/
section
set_option linter.unusedVariables false
namespace Go.Vs
open Go Go.Proofs
def isTrue (x : Option PV) : Bool := match x with | some (.bool b) => b | _ => false
theorem isTrue_eq {x : Option PV} (h : isTrue x = true) : x = some (.bool true) := by
  unfold isTrue at h
  split at h
  · subst h; rfl
  · cases h
end Go.Vs
end
/- TreeChecks gives true for all trees of at most 1000000000 nodes. -/
section
set_option linter.unusedVariables false
set_option linter.unusedSimpArgs false
namespace Go.Vs
open Go Go.Proofs
end Go.Vs
end
/- A law's arguments as pure values, with a bound for what they hold: the second form's bulk. -/
section
set_option linter.unusedVariables false
set_option linter.unusedSimpArgs false
namespace Go.Vs
open Go Go.RowKit Go.Proofs
open Go.Proofs.Ytnddhkcciphhkaa.Rows
section
variable {H : Type}
end
end Go.Vs
end
/- Printed by a program of mine (stage1.py): the functions 12, piece by piece. -/
section
set_option linter.unusedVariables false
set_option linter.unusedSimpArgs false
namespace Go.Vs
open Go Go.Proofs
noncomputable section

/-! ### isochronelaw08.TreeReplaces -/
namespace F12
section
variable (b : Nat) (K : KT) (x0 x1 x2 x3 x5 x6 x7 x8 x9 x10 x11 x12 x13 x14 x15 x16 x18 x26 x34 x49 x58 : PV) (e : Env) (S : Store)
end
end F12
end
end Go.Vs
end
/- TreeReplaces gives true. -/
section
set_option linter.unusedVariables false
set_option linter.unusedSimpArgs false
namespace Go.Vs
open Go Go.Proofs
end Go.Vs
end
/- TreeReplaces gives true for all arguments of bulk at most 1048576. -/
section
set_option linter.unusedVariables false
namespace Go.Vs
open Go Go.Proofs
end Go.Vs
end
/- Printed by a program of mine (stage1.py): the functions 75, 80, 53, 82, 55, 56, 11, piece by piece. -/
section
set_option linter.unusedVariables false
set_option linter.unusedSimpArgs false
namespace Go.Vs
open Go Go.Proofs
noncomputable section

/-! ### isochroneref08.whole -/
namespace F75
section
variable (b : Nat) (K : KT) (x0 x1 x2 x3 x12 : PV) (e : Env) (S : Store)
end
end F75
/-! ### isochroneref08.at -/
namespace F80
section
variable (b i n n0 : Nat) (K : KT) (x0 x1 x2 x4 x5 x6 x10 x27 : PV) (e : Env) (S : Store)
end
end F80
/-! ### isochroneref08.At -/
namespace F53
section
variable (b : Nat) (K : KT) (x0 x1 x2 x4 x5 x6 x7 x8 x12 x22 : PV) (e : Env) (S : Store)
end
end F53
/-! ### isochroneref08.Put -/
namespace F82
section
variable (b : Nat) (K : KT) (x0 x1 x2 x3 x5 x6 x7 x10 : PV) (e : Env) (S : Store)
end
end F82
/-! ### isochroneref08.Replace -/
namespace F55
section
variable (b : Nat) (K : KT) (x0 x1 x2 x3 x5 x6 x7 x8 x9 x10 x11 x12 x20 x34 x46 : PV) (e : Env) (S : Store)
end
end F55
/-! ### isochroneref08.Equal -/
namespace F56
section
variable (b : Nat) (K : KT) (x0 x1 x2 x3 x4 : PV) (e : Env) (S : Store)
end
end F56
/-! ### isochronelaw08.TreePlaces -/
namespace F11
section
variable (b : Nat) (K : KT) (x0 x1 x2 x3 x5 x6 x7 x8 x9 x10 x11 x12 x13 x14 x16 x24 : PV) (e : Env) (S : Store)
end
end F11
end
end Go.Vs
end
/- The reference's whole, at, At, Put, Replace: what they return; TreePlaces gives true. -/
section
set_option linter.unusedVariables false
set_option linter.unusedSimpArgs false
namespace Go.Vs
open Go Go.Proofs
/-! ### Put -/
end Go.Vs
end
/- TreeChecks gives true for all arguments of bulk at most 1048576. -/
section
set_option linter.unusedVariables false
namespace Go.Vs
open Go Go.Proofs
/- A tree's nodes are no more than what it holds. -/
end Go.Vs
end
/- TreePlaces gives true for all arguments of bulk at most 1048576. -/
section
set_option linter.unusedVariables false
set_option linter.unusedSimpArgs false
namespace Go.Vs
open Go Go.Proofs
end Go.Vs
end
/- Printed by a program of mine (stage1.py): the functions 76, 49, 51, 33, 59, 10, piece by piece. -/
section
set_option linter.unusedVariables false
set_option linter.unusedSimpArgs false
namespace Go.Vs
open Go Go.Proofs
noncomputable section

/-! ### isochroneref08.walk -/
namespace F76
section
variable (b i n n0 : Nat) (K : KT) (x0 x1 x2 x3 x4 x6 x9 x10 x11 x12 x13 x20 x35 : PV) (e : Env) (S : Store)
noncomputable def hint : Hint := { keep := [], loops := [(0, { live := [0, 2, 3, 6, 9, 12], after := [0], own := [], fz := [] })], regs := [(0, [0, 2, 3, 6, 9]), (1, [0, 2, 3, 6, 9, 20]), (2, [0, 2, 3, 6, 9, 11]), (3, [0, 2, 3, 6, 9, 11]), (4, [0, 2, 3, 6, 9, 20]), (5, [0, 2, 3, 6, 9, 12]), (6, [0, 2, 3, 6, 9, 12, 35]), (7, [0, 2, 3, 6, 9, 12]), (8, [0, 2, 3, 6, 9, 12, 13]), (9, [0, 2, 3, 6, 9, 12, 13]), (10, [0, 2, 3, 6, 9, 12, 13]), (11, [0, 2, 3, 6, 9, 12]), (12, [10])] }
noncomputable def C (b : Nat) : Ctx := ctxL Try.prog hints b hint
noncomputable def code : Code := Try.f76.body.get rfl
noncomputable def k0 (b : Nat) : KT := endC Try.prog Try.f76
def ee2 (x0 x2 x3 x6 x9 x12 : PV) : Env := [(0, x0), (2, x2), (3, x3), (6, x6), (9, x9), (12, x12)]
def ee3 (x0 x2 x3 x6 x9 x12 x13 : PV) : Env := [(0, x0), (2, x2), (3, x3), (6, x6), (9, x9), (12, x12), (13, x13)]
def ee4 (x0 x2 x3 x6 x9 x12 x35 : PV) : Env := [(0, x0), (2, x2), (3, x3), (6, x6), (9, x9), (12, x12), (35, x35)]
def c2 : Code := at1 code
def c4 : Code := at1 c2
def c5 : Code := at0 c4
def c6 : Code := at1 c4
def k10 (b : Nat) : KT := seqC (fun e S => execL (C b) 0 c6 (k0 b) e S) (k0 b)
def c14 : Code := at1 c5
def c16 : Code := atB c14
def k17 (b : Nat) : KT := blockC 0 (k10 b)
def c18 : Code := atL c16
def k19 (b n0 : Nat) : KT := afterC 0 n0 [0] (k17 b)
def L0g (b n0 : Nat) (e : Env) (S : Store) : RT := loopL (fun K e S => execL (C b) 0 c18 K e S) (normG [0, 2, 3, 6, 9, 12] [] n0) (k19 b n0) e S
def L0 (b n0 : Nat) (x0 x2 x3 x6 x9 x12 : PV) (S : Store) : RT := L0g b n0 (ee2 x0 x2 x3 x6 x9 x12) S
def k20 (b n0 : Nat) : KT := stepC (normG [0, 2, 3, 6, 9, 12] [] n0) (k19 b n0) (L0g b n0)
@[go_sem] theorem k20_n : k20 b n0 .normal (ee2 x0 x2 x3 x6 x9 x12) S = L0 b n0 x0 x2 x3 x6 x9 x12 (gc n0 (ee2 x0 x2 x3 x6 x9 x12) S) := nr (by kernel_rfl)
def c21 : Code := at0 c18
def c22 : Code := at1 c18
def c23 : Code := at0 c22
def c24 : Code := at1 c22
def k25 (b n0 : Nat) : KT := seqC (fun e S => execL (C b) 0 c24 (k20 b n0) e S) (k20 b n0)
@[go_sem] theorem k25_n : k25 b n0 .normal e S = execL (C b) 0 c24 (k20 b n0) e S := nr (seqN rfl)
def k27 (b n0 : Nat) : KT := seqC (fun e S => execL (C b) 0 c22 (k20 b n0) e S) (k20 b n0)
def c28 : Code := atB c23
def k29 (b n0 : Nat) : KT := blockC 1 (k25 b n0)
@[go_sem] theorem k29_n : k29 b n0 .normal e S = (k25 b n0) .normal e S := nr (blockC_n _ _ _ _)
def c30 : Code := at0 c28
def c31 : Code := at1 c28
def c32 : Code := at0 c31
def c33 : Code := at1 c31
def c34 : Code := at0 c33
def c35 : Code := at1 c33
def k36 (b n0 : Nat) : KT := seqC (fun e S => execL (C b) 1 c35 (k29 b n0) e S) (k29 b n0)
@[go_sem] theorem k36_n : k36 b n0 .normal e S = execL (C b) 1 c35 (k29 b n0) e S := nr (seqN rfl)
def k38 (b n0 : Nat) : KT := seqC (fun e S => execL (C b) 1 c33 (k29 b n0) e S) (k29 b n0)
@[go_sem] theorem k38_n : k38 b n0 .normal e S = execL (C b) 1 c34 (k36 b n0) e S := nr (seqN (enterS (by kernel_rfl)))
def k40 (b n0 : Nat) : KT := seqC (fun e S => execL (C b) 1 c31 (k29 b n0) e S) (k29 b n0)
@[go_sem] theorem k40_n : k40 b n0 .normal e S = execL (C b) 1 c32 (k38 b n0) e S := nr (seqN (enterS (by kernel_rfl)))
@[go_sem] theorem k27_n : k27 b n0 .normal (ee4 x0 x2 x3 x6 x9 x12 x35) S =
  execL (C b) 1 c30 (k40 b n0) (ee4 x0 x2 x3 x6 x9 x12 x35) S := nr (seqN ((enterS (by kernel_rfl)).trans ((blockE (by kernel_rfl)).trans (enterS (by kernel_rfl)))))
def c43 : Code := at0 c21
def c44 : Code := at1 c21
def k45 (b n0 : Nat) : KT := seqC (fun e S => execL (C b) 0 c44 (k27 b n0) e S) (k27 b n0)
@[go_sem] theorem k45_n : k45 b n0 .normal (ee4 x0 x2 x3 x6 x9 x12 x35) S =
  condC x35 ((k27 b n0) .normal (ee4 x0 x2 x3 x6 x9 x12 x35) S)
    ((k27 b n0) (.exit 0) (ee4 x0 x2 x3 x6 x9 x12 x35) S) := nr (seqN (condE (t := 35) (by kernel_rfl) (execL_skip (by kernel_rfl)) (execL_exit (by kernel_rfl)) rfl))
def B0 (b n0 : Nat) (x0 x2 x3 x6 x9 x12 : PV) (S : Store) : RT := execL (C b) 0 c18 (k20 b n0) (ee2 x0 x2 x3 x6 x9 x12) S
@[go_sem] theorem B0_eq : B0 b n0 x0 x2 x3 x6 x9 x12 S =
  execL (C b) 0 c43 (k45 b n0) (ee2 x0 x2 x3 x6 x9 x12) S := nr ((enterS (by kernel_rfl)).trans (enterS (by kernel_rfl)))
theorem L0_step {b n0 : Nat} {x0 x2 x3 x6 x9 x12 : PV} {S : Store} {z : PV × Store} (h : B0 b n0 x0 x2 x3 x6 x9 x12 S = some z) : L0 b n0 x0 x2 x3 x6 x9 x12 S = some z := loopL_step h
end
end F76
/-! ### isochroneref08.Paths -/
namespace F49
section
variable (b : Nat) (K : KT) (x0 x1 x2 x3 x4 x8 : PV) (e : Env) (S : Store)
end
end F49
/-! ### isochroneref08.Find -/
namespace F51
section
variable (b : Nat) (K : KT) (x0 x1 x2 x3 x4 x5 x6 x10 : PV) (e : Env) (S : Store)
end
end F51
/-! ### isochroneref08.SamePaths -/
namespace F33
section
variable (b i n n0 : Nat) (K : KT) (x0 x1 x4 x5 x10 x14 x26 : PV) (e : Env) (S : Store)
end
end F33
/-! ### isochroneref08.SamePath -/
namespace F59
section
variable (b i n n0 : Nat) (K : KT) (x0 x1 x4 x5 x10 x14 x25 : PV) (e : Env) (S : Store)
noncomputable def hint : Hint := { keep := [], loops := [(0, { live := [0, 1, 5], after := [], own := [], fz := [] })], regs := [(0, [0, 1]), (1, [0, 1, 10]), (2, [4]), (3, [0, 1, 5]), (4, [0, 1, 5, 14]), (5, [0, 1, 5]), (6, [0, 1, 5, 25]), (7, [4]), (8, [4])] }
noncomputable def C (b : Nat) : Ctx := ctxL Try.prog hints b hint
noncomputable def code : Code := Try.f59.body.get rfl
noncomputable def k0 (b : Nat) : KT := endC Try.prog Try.f59
def ee0 (x0 x1 : PV) : Env := [(0, x0), (1, x1)]
def ee1 (x0 x1 x5 : PV) : Env := [(0, x0), (1, x1), (5, x5)]
def ee2 (x0 x1 x5 x14 : PV) : Env := [(0, x0), (1, x1), (5, x5), (14, x14)]
def ee3 (x0 x1 x5 x25 : PV) : Env := [(0, x0), (1, x1), (5, x5), (25, x25)]
def ee4 (x0 x1 x10 : PV) : Env := [(0, x0), (1, x1), (10, x10)]
def ee5 (x4 : PV) : Env := [(4, x4)]
def c1 : Code := at0 code
def c2 : Code := at1 code
def c3 : Code := at0 c2
def c4 : Code := at1 c2
def c5 : Code := at0 c4
def c6 : Code := at1 c4
def c7 : Code := at0 c6
def c8 : Code := at1 c6
def k9 (b : Nat) : KT := seqC (fun e S => execL (C b) 0 c8 (k0 b) e S) (k0 b)
@[go_sem] theorem k9_n : k9 b .normal (ee5 x4) S =
  (k0 b) .ret (ee5 x4) S := nr (seqN (execL_ret (by kernel_rfl)))
def k10 (b : Nat) : KT := seqC (fun e S => execL (C b) 0 c6 (k0 b) e S) (k0 b)
@[go_sem] theorem g11 : execL (C b) 0 c7 K (ee2 x0 x1 x5 x14) S =
  withV (some (.bool true)) fun x4 =>
    K .normal (ee5 x4) S := nr (by kernel_rfl)
@[go_sem] theorem k10_n : k10 b .normal e S = execL (C b) 0 c7 (k9 b) e S := nr (seqN (enterS (by kernel_rfl)))
def k12 (b : Nat) : KT := seqC (fun e S => execL (C b) 0 c4 (k0 b) e S) (k0 b)
def c13 : Code := at0 c5
def c14 : Code := at1 c5
def k15 (b : Nat) : KT := seqC (fun e S => execL (C b) 0 c14 (k10 b) e S) (k10 b)
def c16 : Code := atB c14
def k17 (b : Nat) : KT := blockC 0 (k10 b)
@[go_sem] theorem k17_exit : k17 b (.exit i) e S = if i = 0 then (k10 b) .normal e S else (k10 b) (.exit i) e S := nr (blockC_x _ _ _ _ _)
def c18 : Code := atL c16
def k19 (b n0 : Nat) : KT := afterC 0 n0 [] (k17 b)
def L0g (b n0 : Nat) (e : Env) (S : Store) : RT := loopL (fun K e S => execL (C b) 0 c18 K e S) (normG [0, 1, 5] [] n0) (k19 b n0) e S
def L0 (b n0 : Nat) (x0 x1 x5 : PV) (S : Store) : RT := L0g b n0 (ee1 x0 x1 x5) S
def k20 (b n0 : Nat) : KT := stepC (normG [0, 1, 5] [] n0) (k19 b n0) (L0g b n0)
@[go_sem] theorem k20_n : k20 b n0 .normal (ee1 x0 x1 x5) S = L0 b n0 x0 x1 x5 (gc n0 (ee1 x0 x1 x5) S) := nr (by kernel_rfl)
@[go_sem] theorem k20_x1 : k20 b n0 (.exit 0) (ee2 x0 x1 x5 x14) S = (k17 b) (.exit 0) (ee2 .undef .undef .undef .undef) (gc n0 (ee2 .undef .undef .undef .undef) S) := nr ((show k20 b n0 (.exit 0) (ee2 x0 x1 x5 x14) S = (k19 b n0) (.exit 0) (ee2 x0 x1 x5 x14) S from stepC_x _ _ _ _ _ _).trans ((show (k19 b n0) (.exit 0) (ee2 x0 x1 x5 x14) S = _ from afterC_x _ _ _ _ _ _ _).trans (if_pos rfl)))
def c21 : Code := at0 c18
def c22 : Code := at1 c18
def c23 : Code := at0 c22
def c24 : Code := at1 c22
def k25 (b n0 : Nat) : KT := seqC (fun e S => execL (C b) 0 c24 (k20 b n0) e S) (k20 b n0)
@[go_sem] theorem g26 : execL (C b) 0 c24 K (ee3 x0 x1 x5 x25) S =
  withV (some x5) fun x15 =>
    withV (evBin .add (tyi Try.prog 3) x15 (.int .i64 1)) fun x16 =>
    withV (some x16) fun x5 =>
    K .normal (ee1 x0 x1 x5) S := nr (by kernel_rfl)
@[go_sem] theorem k25_n : k25 b n0 .normal e S = execL (C b) 0 c24 (k20 b n0) e S := nr (seqN rfl)
def k27 (b n0 : Nat) : KT := seqC (fun e S => execL (C b) 0 c22 (k20 b n0) e S) (k20 b n0)
def c28 : Code := atB c23
def k29 (b n0 : Nat) : KT := blockC 1 (k25 b n0)
@[go_sem] theorem k29_n : k29 b n0 .normal e S = (k25 b n0) .normal e S := nr (blockC_n _ _ _ _)
def c30 : Code := at0 c28
def c31 : Code := at1 c28
def k32 (b n0 : Nat) : KT := seqC (fun e S => execL (C b) 1 c31 (k29 b n0) e S) (k29 b n0)
def c33 : Code := atT c31
def c36 : Code := at0 c33
def c37 : Code := at1 c33
def k38 (b n0 : Nat) : KT := seqC (fun e S => execL (C b) 1 c37 (k29 b n0) e S) (k29 b n0)
@[go_sem] theorem k32_n : k32 b n0 .normal (ee3 x0 x1 x5 x25) S =
  condC x25 (execL (C b) 1 c36 (k38 b n0) (ee3 x0 x1 x5 x25) S)
    ((k29 b n0) .normal (ee3 x0 x1 x5 x25) S) := nr (seqN (condE (t := 25) (by kernel_rfl) (enterS (by kernel_rfl)) (execL_skip (by kernel_rfl)) rfl))
@[go_sem] theorem g40 : execL (C b) 1 c30 K (ee2 x0 x1 x5 x14) S =
  withV (some x0) fun x17 =>
    withV (some x5) fun x18 =>
    withV (indexAddrO Try.prog 22 S x17 x18) fun x19 =>
    withV (evLoad (tyi Try.prog 3) S x19) fun x20 =>
    withV (some x1) fun x21 =>
    withV (some x5) fun x22 =>
    withV (indexAddrO Try.prog 22 S x21 x22) fun x23 =>
    withV (evLoad (tyi Try.prog 3) S x23) fun x24 =>
    withV (evBin .neq (tyi Try.prog 3) x20 x24) fun x25 =>
    K .normal (ee3 x0 x1 x5 x25) S := nr (by kernel_rfl)
@[go_sem] theorem k27_n : k27 b n0 .normal (ee2 x0 x1 x5 x14) S =
  execL (C b) 1 c30 (k32 b n0) (ee2 x0 x1 x5 x14) S := nr (seqN ((enterS (by kernel_rfl)).trans ((blockE (by kernel_rfl)).trans (enterS (by kernel_rfl)))))
@[go_sem] theorem k27_exit : k27 b n0 (.exit i) e S = (k20 b n0) (.exit i) e S := nr (seqC_x _ _ _ _ _)
def c41 : Code := at0 c21
def c42 : Code := at1 c21
def k43 (b n0 : Nat) : KT := seqC (fun e S => execL (C b) 0 c42 (k27 b n0) e S) (k27 b n0)
@[go_sem] theorem k43_n : k43 b n0 .normal (ee2 x0 x1 x5 x14) S =
  condC x14 ((k27 b n0) .normal (ee2 x0 x1 x5 x14) S)
    ((k27 b n0) (.exit 0) (ee2 x0 x1 x5 x14) S) := nr (seqN (condE (t := 14) (by kernel_rfl) (execL_skip (by kernel_rfl)) (execL_exit (by kernel_rfl)) rfl))
@[go_sem] theorem g46 : execL (C b) 0 c41 K (ee1 x0 x1 x5) S =
  withV (some x5) fun x11 =>
    withV (some x0) fun x12 =>
    withV (lenO (tyi Try.prog 22) x12) fun x13 =>
    withV (evBin .lss (tyi Try.prog 3) x11 x13) fun x14 =>
    K .normal (ee2 x0 x1 x5 x14) S := nr (by kernel_rfl)
def B0 (b n0 : Nat) (x0 x1 x5 : PV) (S : Store) : RT := execL (C b) 0 c18 (k20 b n0) (ee1 x0 x1 x5) S
@[go_sem] theorem B0_eq : B0 b n0 x0 x1 x5 S =
  execL (C b) 0 c41 (k43 b n0) (ee1 x0 x1 x5) S := nr ((enterS (by kernel_rfl)).trans (enterS (by kernel_rfl)))
theorem L0_step {b n0 : Nat} {x0 x1 x5 : PV} {S : Store} {z : PV × Store} (h : B0 b n0 x0 x1 x5 S = some z) : L0 b n0 x0 x1 x5 S = some z := loopL_step h
theorem L0_in (b : Nat) (x0 x1 x5 : PV) (S : Store) : execL (C b) 0 c16 (k17 b) (ee1 x0 x1 x5) S = L0 b (List.length S) x0 x1 x5 S := by kernel_rfl
@[go_sem] theorem k15_n : k15 b .normal (ee1 x0 x1 x5) S =
  L0 b (List.length S) x0 x1 x5 S := nr (seqN ((blockE (by kernel_rfl)).trans (L0_in b x0 x1 x5 S)))
@[go_sem] theorem g48 : execL (C b) 0 c13 K (ee4 x0 x1 x10) S =
  withV (some (.int .i64 0)) fun x5 =>
    K .normal (ee1 x0 x1 x5) S := nr (by kernel_rfl)
@[go_sem] theorem k12_n : k12 b .normal (ee4 x0 x1 x10) S =
  execL (C b) 0 c13 (k15 b) (ee4 x0 x1 x10) S := nr (seqN ((enterS (by kernel_rfl)).trans (enterS (by kernel_rfl))))
def k49 (b : Nat) : KT := seqC (fun e S => execL (C b) 0 c2 (k0 b) e S) (k0 b)
def c50 : Code := at0 c3
def c51 : Code := at1 c3
def k52 (b : Nat) : KT := seqC (fun e S => execL (C b) 0 c51 (k12 b) e S) (k12 b)
def c53 : Code := atT c51
def c56 : Code := at0 c53
def c57 : Code := at1 c53
def k58 (b : Nat) : KT := seqC (fun e S => execL (C b) 0 c57 (k12 b) e S) (k12 b)
@[go_sem] theorem k52_n : k52 b .normal (ee4 x0 x1 x10) S =
  condC x10 (execL (C b) 0 c56 (k58 b) (ee4 x0 x1 x10) S)
    ((k12 b) .normal (ee4 x0 x1 x10) S) := nr (seqN (condE (t := 10) (by kernel_rfl) (enterS (by kernel_rfl)) (execL_skip (by kernel_rfl)) rfl))
@[go_sem] theorem g60 : execL (C b) 0 c50 K (ee0 x0 x1) S =
  withV (some x0) fun x6 =>
    withV (lenO (tyi Try.prog 22) x6) fun x7 =>
    withV (some x1) fun x8 =>
    withV (lenO (tyi Try.prog 22) x8) fun x9 =>
    withV (evBin .neq (tyi Try.prog 3) x7 x9) fun x10 =>
    K .normal (ee4 x0 x1 x10) S := nr (by kernel_rfl)
@[go_sem] theorem k49_n : k49 b .normal (ee0 x0 x1) S =
  execL (C b) 0 c50 (k52 b) (ee0 x0 x1) S := nr (seqN ((enterS (by kernel_rfl)).trans (enterS (by kernel_rfl))))
@[go_sem] theorem g61 : execL (C b) 0 c1 K (ee0 x0 x1) S =
  withV (some (.bool false)) fun x4 =>
    K .normal (ee0 x0 x1) S := nr (by kernel_rfl)
def E (b : Nat) (x0 x1 : PV) (S : Store) : RT := execL (C b) 0 code (k0 b) (ee0 x0 x1) S
@[go_sem] theorem E_eq : E b x0 x1 S =
  execL (C b) 0 c1 (k49 b) (ee0 x0 x1) S := nr (enterS (by kernel_rfl))
@[go_sem] theorem k0_ret5 : k0 b .ret (ee5 x4) S = some (x4, S) := nr (by kernel_rfl)
theorem call {x0 x1 : PV} {r : PV × Store} {v : PV} (h : E 0 x0 x1 [] = some r) (hv : fzPV r.2 r.1 = some v) : callL Try.prog hints 59 [x0, x1] = some v := callL_of (fn := Try.f59) (c := code) (by kernel_rfl) (by kernel_rfl) (by decide) (by kernel_rfl) (Nat.le_of_ble_eq_true (by kernel_rfl)) h hv
end
end F59
/-! ### isochronelaw08.TreePaths -/
namespace F10
section
variable (b : Nat) (K : KT) (x0 x1 x2 x3 x4 x5 x6 x7 x8 x9 x10 x11 x12 x14 x22 : PV) (e : Env) (S : Store)
end
end F10
end
end Go.Vs
end
/- The reference's walk: what it returns, and what it leaves. -/
section
set_option linter.unusedVariables false
set_option linter.unusedSimpArgs false
namespace Go.Vs
open Go Go.Proofs
/- The paths of the nodes for which c holds, in preorder. -/
mutual
def walkL (c : Node → Bool) : Node → List Int → List (List Int)
  | .mk o s g d e f, path => (if c (.mk o s g d e f) = true then [path] else []) ++ walksL c f path 0
def walksL (c : Node → Bool) : List Node → List Int → Nat → List (List Int)
  | [], _, _ => []
  | k :: r, path, i => walkL c k (path ++ [(i : Int)]) ++ walksL c r path (i + 1)
end
theorem walksL_drop (c : Node → Bool) {l : List Node} {i : Nat} (h : i < l.length) (path : List Int) : walksL c (l.drop i) path i = walkL c (l.getD i default) (path ++ [(i : Int)]) ++ walksL c (l.drop (i + 1)) path (i + 1) := by
  rw [kids_drop h]; rfl
mutual
theorem walkL_length (c : Node → Bool) : ∀ (n : Node) (path : List Int), (walkL c n path).length ≤ n.count
  | .mk o s g d e f, path => by
    have := walksL_length c f path 0
    simp only [walkL, List.length_append, Node.count]
    split <;> simp <;> omega
theorem walksL_length (c : Node → Bool) : ∀ (l : List Node) (path : List Int) (i : Nat), (walksL c l path i).length ≤ Node.counts l
  | [], path, i => by simp [walksL, Node.counts]
  | k :: r, path, i => by
    have h1 := walkL_length c k (path ++ [(i : Int)])
    have h2 := walksL_length c r path (i + 1)
    simp only [walksL, List.length_append, Node.counts]
    omega
end
/-- Is a node's path asked for? -/
def wanted (sm : Bool) (part : Node) (x : Node) : Bool := !sm || decide (x.cmp part = 0)
/-- The part asked for, as it lies in memory. -/
structure PartOK (sm : Bool) (pt : Node) (pc : List PV) : Prop where
  len : pc.length = 6
  all : pc.all PV.cell = true
  refs : refsL pc = []
  part : Vs.part (tyi Try.prog 54) pc = some (.agg pc)
  eq : sm = true → pc = pt.cells
theorem PartOK.node (sm : Bool) (n : Node) : PartOK sm n n.cells := ⟨n.cells_length, n.cells_cell, n.refs, n.part54, fun _ => rfl⟩
theorem PartOK.none (n : Node) : PartOK false n zeroNode := ⟨rfl, rfl, rfl, zeroNode_part54, fun h => by cases h⟩
/-- What the walk from a node does. -/
def Walk76 (sm : Bool) (part : Node) (pc : List PV) (n : Node) : Prop := ∀ (path : List Int) (v : PV) (L : List (List Int)) (S : Store) (pv : PV), OutV S v L → Ints S pv path → (∀ r ∈ pv.refs, r ∉ v.refs) → path.length + n.depth ≤ 1500000 → L.length + n.count ≤ 2000000 →
  ∃ v' S', callRL Try.prog hints 76 [v, .agg n.cells, pv, .bool sm, .agg pc] S = some (v', S') ∧ OutV S' v' (L ++ walkL (wanted sm part) n path) ∧ Keep S.length v.refs v.refs S S' ∧ (∀ r ∈ v'.refs, r ∈ v.refs ∨ S.length ≤ r)
theorem set_last (path : List Int) (i : Int) : (intRows path ++ [[PV.int .i64 0]]).set path.length [.int .i64 i] = intRows (path ++ [i]) := by
  have : path.length = (intRows path).length := (intRows_length path).symm
  rw [this, List.set_append, if_neg (by omega), Nat.sub_self, intRows_append]
  rfl
theorem get_last (path : List Int) : (intRows path ++ [[PV.int .i64 0]]).getD path.length [] = [.int .i64 0] := by
  have : path.length = (intRows path).length := (intRows_length path).symm
  rw [this, List.getD_eq_getElem?_getD, List.getElem?_append_right (Nat.le_refl _), Nat.sub_self]
  rfl
theorem drop_last (path : List Int) : (List.replicate (path.length + 1) [PV.int .i64 0]).drop path.length = [[.int .i64 0]] := by
  rw [List.drop_replicate, Nat.add_sub_cancel_left]; rfl
theorem loop76 (sm : Bool) (part n : Node) (pc : List PV) (hpc : PartOK sm part pc) (hn : n.ok) (path : List Int) (ih : ∀ k ∈ n.kids, Walk76 sm part pc k) (b n0 x6 x9 : Nat) (pv : PV) (hpl : path.length + n.depth ≤ 1500000) (hx6 : x6 < n0) (hx9 : x9 < n0) (hpv : ∀ r ∈ pv.refs, r < n0) :
    ∀ (m i : Nat), i + m = n.kids.length → ∀ (v : PV) (L : List (List Int)) (S : Store), n0 ≤ S.length → OutV S v L → S[x6]? = some (.arr [n.cells] none false) → S[x9]? = some (.arr [pc] none false) → Ints S pv path → x6 ∉ v.refs → x9 ∉ v.refs → (∀ r ∈ pv.refs, r ∉ v.refs) → L.length + Node.counts (n.kids.drop i) ≤ 2000000 →
      ∃ v' S', F76.L0 b n0 v pv (.bool sm) (.mp x6 0 0) (.mp x9 0 0) (.int .i64 i) S = some (v', S') ∧ OutV S' v' (L ++ walksL (wanted sm part) (n.kids.drop i) path i) ∧ Keep n0 v.refs v.refs S S' ∧ (∀ r ∈ v'.refs, r ∈ v.refs ∨ n0 ≤ r) := by
  intro m
  induction m with
  | zero =>
    intro i hi v L S hS hO h6 h9 hp d6 d9 dp hL
    have h1 : ¬ (i : Int) < (n.kids.length : Int) := by omega
    have r6 := rowsAt_of h6
    have hg := gc_at (e := F76.ee4 v .undef .undef .undef .undef .undef .undef) hS
    refine ⟨v, Vs.gc n0 (F76.ee4 v .undef .undef .undef .undef .undef .undef) S, F76.L0_step ?_, ?_, .same hg.1 hg.2, fun r hr => .inl hr⟩
    · simp only [go_sem, ↓reduceIte, Nat.reduceEqDiff, Nat.reduceBEq, Nat.reduceAdd, Nat.reduceMul, Nat.reduceSub, Nat.reduceLT, Nat.reduceLeDiff, reduceCtorEq, Int.reduceToNat, Int.reduceLE, Int.reduceLT, Int.reduceEq, withV_any, h1, r6]
    · rw [List.drop_of_length_le (by omega)]
      simp only [walksL, List.append_nil]
      exact hO.gc ⟨0, by simp [F76.ee4]⟩
  | succ m hm =>
    intro i hi v L S hS hO h6 h9 hp d6 d9 dp hL
    have h1 : (i : Int) < (n.kids.length : Int) := by omega
    have h2 := wrap_succ (i := i) (n := n.kids.length) (by omega) hn.len
    have h4 : 0 ≤ (i : Int) ∧ (i : Int) < (n.kids.length : Int) := ⟨by omega, h1⟩
    have r6 := rowsAt_of h6
    have hmem := kids_mem (l := n.kids) (i := i) (by omega)
    have hkd : (n.kids.getD i default).depth ≤ Node.depths n.kids := depths_get (by omega)
    have hnd := n.depth_eq
    have hlen := hp.len
    have hw : IntKind.i64.wrap ((path.length : Int) + 1) = ((path.length + 1 : Nat) : Int) := by rw [IntKind.wrap_i64]; omega
    have e1 := fun id => makeSlice22 id (path.length + 1) (by omega)
    have e2 : (S ++ [Obj.arr (List.replicate (path.length + 1) [PV.int .i64 0]) (some (some 1)) false])[S.length]? = some (.arr (List.replicate (path.length + 1) [PV.int .i64 0]) (some (some 1)) false) := by simp
    have hp1 : ∀ o, Ints (S ++ [o]) pv path := fun o => hp.same fun r hr => by rw [List.getElem?_append_left (hp.refs_lt r hr)]
    have e3 := copyE22 (ex := true) e2 (by simp) (rowsOK_replicate _) (hp1 _) (Nat.le_succ _)
    rw [drop_last] at e3
    have e5 : (S ++ [Obj.arr (List.replicate (path.length + 1) [PV.int .i64 0]) (some (some 1)) false]).set S.length (.arr (intRows path ++ [[.int .i64 0]]) (some (some 1)) false) = S ++ [.arr (intRows path ++ [[.int .i64 0]]) (some (some 1)) false] := by
      rw [set_tail0]; rfl
    rw [e5] at e3
    have hl2 := (hp1 (.arr (intRows path ++ [[.int .i64 0]]) (some (some 1)) false)).len
    have e6 := idx22m (S := S ++ [.arr (intRows path ++ [[.int .i64 0]]) (some (some 1)) false]) (id := S.length) (n := path.length + 1) (ex := true) (rows := intRows path ++ [[.int .i64 0]]) path.length (rowsAt_of (by simp; exact ⟨rfl, rfl⟩)) (by simp [intRows_length]) (by simp [rowsOK, intRows]) (Nat.lt_succ_self _)
    have e7 : Ints (S ++ [.arr (intRows (path ++ [(i : Int)])) (some (some 1)) false]) (.msl S.length 0 (path.length + 1) true) (path ++ [(i : Int)]) := by
      have := Ints.msl (S := S ++ [.arr (intRows (path ++ [(i : Int)])) (some (some 1)) false]) S.length (path ++ [(i : Int)]) true (some (some 1)) false (by simp)
      simpa using this
    have hcd : Node.counts (n.kids.drop i) = (n.kids.getD i default).count + Node.counts (n.kids.drop (i + 1)) := by rw [kids_drop (l := n.kids) (i := i) (by omega)]; rfl
    obtain ⟨v', S', a1, a2, a3, a4⟩ := ih _ hmem (path ++ [(i : Int)]) v L (S ++ [.arr (intRows (path ++ [(i : Int)])) (some (some 1)) false]) (.msl S.length 0 (path.length + 1) true) (hO.ext _) e7
      (by intro r hr; simp only [PV.refs, List.mem_singleton] at hr; subst hr; intro hx; have := hO.lt _ hx; omega) (by simp only [List.length_append, List.length_cons, List.length_nil]; omega) (by omega)
    have hlS : (S ++ [Obj.arr (intRows (path ++ [(i : Int)])) (some (some 1)) false]).length = S.length + 1 := by simp
    rw [hlS] at a3 a4
    have hc := (show callE (F76.C b) _ 76 _ = _ from callE_eq (b := b) (h := F76.hint) (by rfl) a1 (by rw [hlS]; exact a3.len))
    have keepS : Keep n0 v.refs v.refs S S' := Keep.trans (.same (by simp; omega) fun j hj => List.getElem?_append_left (by omega)) a3 (by omega) (fun r h => .inl h) (fun r h => .inl h)
    have hg := gc_at (e := F76.ee2 v' pv (.bool sm) (.mp x6 0 0) (.mp x9 0 0) (.int .i64 ((i + 1 : Nat) : Int))) (show n0 ≤ S'.length from keepS.len)
    have quietN : ∀ x : List PV, refsL x = [] → ∀ r ∈ rowsRefs [x], r < n0 ∧ r ∉ v.refs := fun x hx r hr => by simp only [rowsRefs_cons, hx] at hr; cases hr
    have g6 : (Vs.gc n0 (F76.ee2 v' pv (.bool sm) (.mp x6 0 0) (.mp x9 0 0) (.int .i64 ((i + 1 : Nat) : Int))) S')[x6]? = some (.arr [n.cells] none false) := by rw [hg.2 x6 hx6]; exact keepS.keeps x6 hx6 d6 _ _ _ h6 (quietN _ n.refs)
    have g9 : (Vs.gc n0 (F76.ee2 v' pv (.bool sm) (.mp x6 0 0) (.mp x9 0 0) (.int .i64 ((i + 1 : Nat) : Int))) S')[x9]? = some (.arr [pc] none false) := by rw [hg.2 x9 hx9]; exact keepS.keeps x9 hx9 d9 _ _ _ h9 (quietN _ hpc.refs)
    have gp : Ints (Vs.gc n0 (F76.ee2 v' pv (.bool sm) (.mp x6 0 0) (.mp x9 0 0) (.int .i64 ((i + 1 : Nat) : Int))) S') pv path := (hp.keep keepS fun r hr => ⟨hpv r hr, dp r hr⟩).same fun r hr => hg.2 r (hpv r hr)
    have nv : ∀ r, r < n0 → r ∉ v.refs → r ∉ v'.refs := fun r hr hv hx => by
      rcases a4 r hx with h | h
      · exact hv h
      · omega
    obtain ⟨v2, S2, b1, b2, b3, b4⟩ := hm (i + 1) (by omega) v' (L ++ walkL (wanted sm part) (n.kids.getD i default) (path ++ [(i : Int)])) _ hg.1 (a2.gc ⟨0, by simp [F76.ee2]⟩) g6 g9 gp (nv x6 hx6 d6) (nv x9 hx9 d9) (fun r hr => nv r (hpv r hr) (dp r hr))
      (by have := walkL_length (wanted sm part) (n.kids.getD i default) (path ++ [(i : Int)]); rw [List.length_append]; omega)
    refine ⟨v2, S2, F76.L0_step ?_, ?_, ?_, fun r hr => ?_⟩
    · have t1 : ∀ K : KT, execL (F76.C b) 0 F76.c43 K (F76.ee2 v pv (.bool sm) (.mp x6 0 0) (.mp x9 0 0) (.int .i64 i)) S = K .normal (F76.ee4 v pv (.bool sm) (.mp x6 0 0) (.mp x9 0 0) (.int .i64 i) (.bool true)) S := fun K => by
        simp only [go_sem, ↓reduceIte, Nat.reduceEqDiff, Nat.reduceBEq, Nat.reduceAdd, Nat.reduceMul, Nat.reduceSub, Nat.reduceLT, Nat.reduceLeDiff, reduceCtorEq, Int.reduceToNat, Int.reduceLE, Int.reduceLT, Int.reduceEq, withV_any, h1, r6]
      have t2 : ∀ K : KT, execL (F76.C b) 1 F76.c30 K (F76.ee4 v pv (.bool sm) (.mp x6 0 0) (.mp x9 0 0) (.int .i64 i) (.bool true)) S = K .normal (F76.ee3 v pv (.bool sm) (.mp x6 0 0) (.mp x9 0 0) (.int .i64 i) (.msl S.length 0 (path.length + 1) true)) (S ++ [.arr (List.replicate (path.length + 1) [.int .i64 0]) (some (some 1)) false]) := fun K => by
        simp only [go_sem, ↓reduceIte, Nat.reduceEqDiff, Nat.reduceBEq, Nat.reduceAdd, Nat.reduceMul, Nat.reduceSub, Nat.reduceLT, Nat.reduceLeDiff, reduceCtorEq, Int.reduceToNat, Int.reduceLE, Int.reduceLT, Int.reduceEq, withV_any, hlen, hw, e1]
      have t3 : ∀ K : KT, execL (F76.C b) 1 F76.c32 K (F76.ee3 v pv (.bool sm) (.mp x6 0 0) (.mp x9 0 0) (.int .i64 i) (.msl S.length 0 (path.length + 1) true)) (S ++ [.arr (List.replicate (path.length + 1) [.int .i64 0]) (some (some 1)) false]) = K .normal (F76.ee3 v pv (.bool sm) (.mp x6 0 0) (.mp x9 0 0) (.int .i64 i) (.msl S.length 0 (path.length + 1) true)) (S ++ [.arr (intRows path ++ [[.int .i64 0]]) (some (some 1)) false]) := fun K => by
        simp only [go_sem, ↓reduceIte, Nat.reduceEqDiff, Nat.reduceBEq, Nat.reduceAdd, Nat.reduceMul, Nat.reduceSub, Nat.reduceLT, Nat.reduceLeDiff, reduceCtorEq, Int.reduceToNat, Int.reduceLE, Int.reduceLT, Int.reduceEq, withV_any, e3]
      have t4 : ∀ K : KT, execL (F76.C b) 1 F76.c34 K (F76.ee3 v pv (.bool sm) (.mp x6 0 0) (.mp x9 0 0) (.int .i64 i) (.msl S.length 0 (path.length + 1) true)) (S ++ [.arr (intRows path ++ [[.int .i64 0]]) (some (some 1)) false]) = K .normal (F76.ee3 v pv (.bool sm) (.mp x6 0 0) (.mp x9 0 0) (.int .i64 i) (.msl S.length 0 (path.length + 1) true)) (S ++ [.arr (intRows (path ++ [(i : Int)])) (some (some 1)) false]) := fun K => by
        simp only [go_sem, ↓reduceIte, Nat.reduceEqDiff, Nat.reduceBEq, Nat.reduceAdd, Nat.reduceMul, Nat.reduceSub, Nat.reduceLT, Nat.reduceLeDiff, reduceCtorEq, Int.reduceToNat, Int.reduceLE, Int.reduceLT, Int.reduceEq, withV_any, hl2, e6, get_last, set_last]
      have r6' : rowsAt (S ++ [Obj.arr (intRows (path ++ [(i : Int)])) (some (some 1)) false]) x6 = some [n.cells] := rowsAt_of (by rw [List.getElem?_append_left (by omega)]; exact h6)
      have r9' : rowsAt (S ++ [Obj.arr (intRows (path ++ [(i : Int)])) (some (some 1)) false]) x9 = some [pc] := rowsAt_of (by rw [List.getElem?_append_left (by omega)]; exact h9)
      have t5 : ∀ K : KT, execL (F76.C b) 1 F76.c35 K (F76.ee3 v pv (.bool sm) (.mp x6 0 0) (.mp x9 0 0) (.int .i64 i) (.msl S.length 0 (path.length + 1) true)) (S ++ [.arr (intRows (path ++ [(i : Int)])) (some (some 1)) false]) = K .normal (F76.ee2 v' pv (.bool sm) (.mp x6 0 0) (.mp x9 0 0) (.int .i64 i)) S' := fun K => by
        simp only [go_sem, ↓reduceIte, Nat.reduceEqDiff, Nat.reduceBEq, Nat.reduceAdd, Nat.reduceMul, Nat.reduceSub, Nat.reduceLT, Nat.reduceLeDiff, reduceCtorEq, Int.reduceToNat, Int.reduceLE, Int.reduceLT, Int.reduceEq, withV_any, r6', r9', h4, hc, hpc.part]
      have t6 : ∀ K : KT, execL (F76.C b) 0 F76.c24 K (F76.ee2 v' pv (.bool sm) (.mp x6 0 0) (.mp x9 0 0) (.int .i64 i)) S' = K .normal (F76.ee2 v' pv (.bool sm) (.mp x6 0 0) (.mp x9 0 0) (.int .i64 ((i + 1 : Nat) : Int))) S' := fun K => by
        simp only [go_sem, ↓reduceIte, Nat.reduceEqDiff, Nat.reduceBEq, Nat.reduceAdd, Nat.reduceMul, Nat.reduceSub, Nat.reduceLT, Nat.reduceLeDiff, reduceCtorEq, Int.reduceToNat, Int.reduceLE, Int.reduceLT, Int.reduceEq, withV_any, h2]
      simp only [F76.B0_eq, t1, F76.k45_n, condC_true, F76.k27_n, t2, F76.k40_n, t3, F76.k38_n, t4, F76.k36_n, t5, F76.k29_n, F76.k25_n, t6, F76.k20_n]
      exact b1
    · rw [walksL_drop _ (by omega), ← List.append_assoc]
      exact b2
    · exact (keepS.trans (.same hg.1 hg.2) (Nat.le_refl _) (fun r h => .inl h) (fun r h => .inl h)).trans b3 (Nat.le_refl _) (fun r h => by rcases a4 r h with h | h; exact .inl h; exact .inr (by omega)) (fun r h => by rcases a4 r h with h | h; exact .inl h; exact .inr (by omega))
    · rcases b4 r hr with h | h
      · rcases a4 r h with h | h
        · exact .inl h
        · exact .inr (by omega)
      · exact .inr h
end Go.Vs
end
/- The reference's walk, Paths, Find: what they return. -/
section
set_option linter.unusedVariables false
set_option linter.unusedSimpArgs false
namespace Go.Vs
open Go Go.Proofs
/-! ### Lists of paths, frozen -/
theorem PathRows.fz {S : Store} {id : Nat} {rows : List (List PV)} {L : List (List Int)} (h : PathRows S id rows L) (d : Nat) : mapO (mapO (fzCell S (d + 2))) rows = some (pathRows L) := by
  induction h with
  | nil => rfl
  | cons h1 _ _ ih =>
    simp only [mapO, h1.fz, Option.bind_some, ih, Option.map_some]
    rfl
theorem OutV.fz {S : Store} {v : PV} {L : List (List Int)} (h : OutV S v L) : ∃ ex, fzPV1 S v = some (.sl (pathRows L) ex) ∧ (ex = true → L = []) := by
  cases h with
  | nil => exact ⟨true, rfl, fun _ => rfl⟩
  | arr id rows L h hr =>
    refine ⟨false, ?_, fun h => by cases h⟩
    have e1 : rowsIn S (.msl id 0 L.length false) = some rows := by
      rw [rowsIn_msl, rowsAt_of h]
      simp only [Option.bind_some, Nat.zero_add, List.drop_zero, ← hr.length, Nat.le_refl, if_true, List.take_length]
    show ((rowsIn S (.msl id 0 L.length false)).bind fun rows => (mapO (mapO (fzCell S 7)) rows).map fun rows => PV.sl rows false) = _
    rw [e1]
    simp only [Option.bind_some, hr.fz 5, Option.map_some]
end Go.Vs
end
