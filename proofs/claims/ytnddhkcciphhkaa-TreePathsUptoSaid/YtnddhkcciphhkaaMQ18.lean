/- Printed by a program of mine (stage1.py): the functions 72, 78, 79, 81, piece by piece. -/

import Derived.Test.YtnddhkcciphhkaaMQ9
import Derived.Test.YtnddhkcciphhkaaMQ14
import Derived.Test.YtnddhkcciphhkaaMQ17
section
set_option linter.unusedVariables false
set_option linter.unusedSimpArgs false
namespace Go.Vs
open Go Go.Proofs
noncomputable section

/-! ### tree.root -/
namespace F72
section
variable (b : Nat) (K : KT) (x0 x1 x2 x3 x12 : PV) (e : Env) (S : Store)
noncomputable def hint : Hint := { keep := [], loops := [], regs := [(0, [1]), (1, [1, 3]), (2, [1, 3, 12]), (3, [2]), (4, [2])] }
noncomputable def C (b : Nat) : Ctx := ctxL Try.prog hints b hint
noncomputable def code : Code := Try.f72.body.get rfl
noncomputable def k0 (b : Nat) : KT := endC Try.prog Try.f72
def ee0 (x1 : PV) : Env := [(1, x1)]
def ee1 (x1 x3 : PV) : Env := [(1, x1), (3, x3)]
def ee2 (x1 x3 x12 : PV) : Env := [(1, x1), (3, x3), (12, x12)]
def ee3 (x2 : PV) : Env := [(2, x2)]
def c1 : Code := at0 code
def c2 : Code := at1 code
def c3 : Code := at0 c2
def c4 : Code := at1 c2
def c5 : Code := at0 c4
def c6 : Code := at1 c4
def c7 : Code := at0 c6
def c8 : Code := at1 c6
def k9 (b : Nat) : KT := seqC (fun e S => execL (C b) 0 c8 (k0 b) e S) (k0 b)
@[go_sem] theorem k9_n : k9 b .normal (ee3 x2) S =
  (k0 b) .ret (ee3 x2) S := nr (seqN (execL_ret (by kernel_rfl)))
def k10 (b : Nat) : KT := seqC (fun e S => execL (C b) 0 c6 (k0 b) e S) (k0 b)
@[go_sem] theorem g11 : execL (C b) 0 c7 K (ee2 x1 x3 x12) S =
  withV (evLoad (tyi Try.prog 54) S x1) fun x13 =>
    withV (some x3) fun x14 =>
    withN (callO (callL Try.prog hints) S 36 [x13, x14]) S fun x15 S =>
    withV (some x15) fun x2 =>
    K .normal (ee3 x2) S := nr (by kernel_rfl)
@[go_sem] theorem k10_n : k10 b .normal e S = execL (C b) 0 c7 (k9 b) e S := nr (seqN (enterS (by kernel_rfl)))
@[go_sem] theorem k10_ret : k10 b .ret e S = (k0 b) .ret e S := nr (seqC_r _ _ _ _)
def k12 (b : Nat) : KT := seqC (fun e S => execL (C b) 0 c4 (k0 b) e S) (k0 b)
def c13 : Code := at0 c5
def c14 : Code := at1 c5
def k15 (b : Nat) : KT := seqC (fun e S => execL (C b) 0 c14 (k10 b) e S) (k10 b)
def c16 : Code := atT c14
def c19 : Code := at0 c16
def c20 : Code := at1 c16
def k21 (b : Nat) : KT := seqC (fun e S => execL (C b) 0 c20 (k10 b) e S) (k10 b)
@[go_sem] theorem k21_n : k21 b .normal (ee3 x2) S =
  (k10 b) .ret (ee3 x2) S := nr (seqN (execL_ret (by kernel_rfl)))
@[go_sem] theorem g22 : execL (C b) 0 c19 K (ee2 x1 x3 x12) S =
  withV (some (.int .i64 80)) fun x2 =>
    K .normal (ee3 x2) S := nr (by kernel_rfl)
@[go_sem] theorem k15_n : k15 b .normal (ee2 x1 x3 x12) S =
  condC x12 (execL (C b) 0 c19 (k21 b) (ee2 x1 x3 x12) S)
    ((k10 b) .normal (ee2 x1 x3 x12) S) := nr (seqN (condE (t := 12) (by kernel_rfl) (enterS (by kernel_rfl)) (execL_skip (by kernel_rfl)) rfl))
@[go_sem] theorem g23 : execL (C b) 0 c13 K (ee1 x1 x3) S =
  withV (some x3) fun x7 =>
    withV (evBin .eql (tyi Try.prog 3) x7 (.int .i64 0)) fun x8 =>
    withV (some x8) fun x9 =>
    withV (gval x9 false (some x3)) fun x10 =>
    withV (gval x9 false (evBin .eql (tyi Try.prog 3) x10 (.int .i64 4))) fun x11 =>
    withV (pickO x9 (.bool true) x11) fun x12 =>
    K .normal (ee2 x1 x3 x12) S := nr (by kernel_rfl)
@[go_sem] theorem k12_n : k12 b .normal (ee1 x1 x3) S =
  execL (C b) 0 c13 (k15 b) (ee1 x1 x3) S := nr (seqN ((enterS (by kernel_rfl)).trans (enterS (by kernel_rfl))))
def k24 (b : Nat) : KT := seqC (fun e S => execL (C b) 0 c2 (k0 b) e S) (k0 b)
@[go_sem] theorem g25 : execL (C b) 0 c3 K (ee0 x1) S =
  withV (evFieldAddr (tyi Try.prog 54) 0 x1) fun x4 =>
    withV (evLoad (tyi Try.prog 3) S x4) fun x5 =>
    withN (callO (callL Try.prog hints) S 40 [x5]) S fun x6 S =>
    withV (some x6) fun x3 =>
    K .normal (ee1 x1 x3) S := nr (by kernel_rfl)
@[go_sem] theorem k24_n : k24 b .normal e S = execL (C b) 0 c3 (k12 b) e S := nr (seqN (enterS (by kernel_rfl)))
@[go_sem] theorem g26 : execL (C b) 0 c1 K [(0, x0)] S =
  withN (boxed S (List.length S) (TI.size (tyi Try.prog 54)) x0) S fun x1 S =>
    withV (some (.int .i64 0)) fun x2 =>
    K .normal (ee0 x1) S := nr (by kernel_rfl)
def E (b : Nat) (x0 : PV) (S : Store) : RT := execL (C b) 0 code (k0 b) [(0, x0)] S
@[go_sem] theorem E_eq : E b x0 S =
  execL (C b) 0 c1 (k24 b) [(0, x0)] S := nr (enterS (by kernel_rfl))
@[go_sem] theorem k0_ret3 : k0 b .ret (ee3 x2) S = some (x2, S) := nr (by kernel_rfl)
theorem call {x0 : PV} {r : PV × Store} {v : PV} (h : E 0 x0 [] = some r) (hv : fzPV r.2 r.1 = some v) : callL Try.prog hints 72 [x0] = some v := callL_of (fn := Try.f72) (c := code) (by kernel_rfl) (by kernel_rfl) (by decide) (by kernel_rfl) (Nat.le_of_ble_eq_true (by kernel_rfl)) h hv
end
end F72
/-! ### tree.step -/
namespace F78
section
variable (b i n n0 : Nat) (K : KT) (x0 x1 x2 x4 x5 x7 x8 x9 x10 x11 x22 : PV) (e : Env) (S : Store)
end
end F78
/-! ### tree.Copy -/
namespace F79
section
variable (b i n n0 : Nat) (K : KT) (x0 x1 x2 x3 x5 x6 x20 x31 x39 x40 x41 x42 : PV) (e : Env) (S : Store)
end
end F79
/-! ### tree.put -/
namespace F81
section
variable (b i n n0 : Nat) (K : KT) (x0 x1 x2 x3 x5 x6 x7 x8 x9 x10 x13 x19 x20 x21 x22 x30 : PV) (e : Env) (S : Store)
end
end F81
end
end Go.Vs
end
/- tree.Copy: it returns the same tree. -/
section
set_option linter.unusedVariables false
set_option linter.unusedSimpArgs false
namespace Go.Vs
open Go Go.Proofs
/- No list of a tree is too long to be appended to. -/
/-- A cell that freezes to a value, refers but below, and isn't hurt by what comes behind. -/
structure CellOK (A B R0 : Obj) (T : Store) (v w : PV) : Prop where
  cell : v.cell = true
  low : (v.refs.all fun i => decide (i < T.length + 3)) = true
  fz : ∀ A B R U d, fzCell (A :: B :: R :: (T ++ U)) (d + 2) v = some w
  ne : ∀ i, T.length + 3 ≤ i → (v.refs.any fun x => [i].contains x) = false
/-- A slice of words that lie in the store. -/
theorem fzCell_words {S : Store} {id : Nat} {l : List Int} {ex : Bool} (h : rowsAt S id = some (wordRows l)) (d : Nat) : fzCell S (d + 2) (.msl id 0 l.length ex) = some (.sl (wordRows l) false) := by
  have e1 : rowsIn S (.msl id 0 l.length false) = some (wordRows l) := by
    have : l.length = (wordRows l).length := (wordRows_length l).symm
    simp only [rowsIn, h, Option.bind_some, Nat.zero_add, List.drop_zero, wordRows_length, Nat.le_refl, if_true]
    rw [this, List.take_length]
  have e2 : mapO (mapO (fzCell S (d + 1))) (wordRows l) = some (wordRows l) := by
    have := mapO_all (f := mapO (fzCell S (d + 1))) (g := fun x => x) (l := wordRows l) (fun a ha => by
      obtain ⟨w, _, rfl⟩ := List.mem_map.1 ha
      rfl)
    simpa using this
  show ((rowsIn S (.msl id 0 l.length false)).bind fun rows => (mapO (mapO (fzCell S (d + 1))) rows).map fun rows => PV.sl rows false) = _
  rw [e1]
  simp only [Option.bind_some, e2, Option.map_some]
theorem CellOK.none {A B R0 : Obj} {T : Store} {l : List Int} (h : l.length = 0) : CellOK A B R0 T (.sl [] true) (.sl (wordRows l) false) := by
  obtain rfl := List.eq_nil_of_length_eq_zero h
  exact ⟨rfl, rfl, fun _ _ _ _ _ => rfl, fun _ _ => rfl⟩
theorem CellOK.some {A B R0 : Obj} {T : Store} {l : List Int} {j : Nat} (hj : j < T.length) (h : ∀ U, rowsAt (T ++ U) j = some (wordRows l)) : CellOK A B R0 T (.msl (j + 3) 0 l.length false) (.sl (wordRows l) false) := by
  refine ⟨rfl, ?_, fun A B R U d => fzCell_words ?_ d, fun i hi => ?_⟩
  · simp [PV.refs]; omega
  · rw [rowsAt_succ, rowsAt_succ, rowsAt_succ]; exact h U
  · simp [PV.refs]; omega
end Go.Vs
end
/- tree.put: the tree with another node at a place. -/
section
set_option linter.unusedVariables false
set_option linter.unusedSimpArgs false
namespace Go.Vs
open Go Go.Proofs
/-- The tree with w at a place. -/
def Node.put (w : Node) : List Int → Node → Node
  | [], _ => w
  | p :: ps, n => .mk n.op n.name n.neg n.num n.den (n.kids.mapIdx fun i k => if (i : Int) = p then Node.put w ps k else k)
end Go.Vs
end
/- tree.shape: what it returns. -/
section
set_option linter.unusedVariables false
set_option linter.unusedSimpArgs false
namespace Go.Vs
open Go Go.Proofs
/-- The sorts of an operator's kids; what differs by the node is not told here. -/
def kidSorts (o : Int) : List Int :=
  if o = 4 ∨ o = 12 then [1] else if o = 59 ∨ o = 60 then [3] else if o = 53 ∨ o = 28 ∨ o = 39 then [2] else
  if (5 ≤ o ∧ o ≤ 9) ∨ (22 ≤ o ∧ o ≤ 27) then [1, 1] else if 29 ≤ o ∧ o ≤ 32 then [2, 2] else if o = 33 ∨ o = 34 then [2] else
  if o = 35 ∨ o = 36 then [3, 2] else if o = 50 ∨ o = 51 ∨ o = 55 then [1] else if o = 57 ∨ o = 58 then [3, 3] else []
/-- Has a node of an operator a name? -/
def hasName (o : Int) : Bool := decide (o = 2 ∨ o = 3 ∨ o = 11 ∨ o = 33 ∨ o = 34 ∨ o = 38 ∨ o = 50 ∨ o = 51 ∨ o = 52 ∨ o = 55 ∨ o = 56 ∨ o = 61 ∨ o = 62)
def kidsV (l : List Int) : PV := .sl (intRows l) l.isEmpty
@[go_sem] theorem withV_kids {R : Type} (l : List Int) (K : PV → Option R) : withV (some (kidsV l)) K = K (kidsV l) := nr rfl
@[go_sem ↓] theorem pre_withV_kids {R : Type} (l : List Int) (K : PV → Option R) : withV (some (kidsV l)) K = K (kidsV l) := nr rfl
theorem kidSorts_none {o : Int} (h1 : o ≠ 4 ∧ o ≠ 12 ∧ o ≠ 59 ∧ o ≠ 60 ∧ o ≠ 53 ∧ o ≠ 28 ∧ o ≠ 39) (h2 : ¬ (5 ≤ o ∧ o ≤ 9) ∧ ¬ (22 ≤ o ∧ o ≤ 27) ∧ ¬ (29 ≤ o ∧ o ≤ 36)) (h3 : ¬ (50 ≤ o ∧ o ≤ 51) ∧ o ≠ 55 ∧ o ≠ 57 ∧ o ≠ 58) : kidSorts o = [] := by
  unfold kidSorts
  repeat' (refine iteEq (fun _ => ?_) (fun _ => ?_))
  all_goals first | rfl | (exfalso; omega)
theorem call85 (o : Int) : callL Try.prog hints 85 [.int .i64 o] = some (.tup [.bool (hasName o), kidsV (kidSorts o)]) := by
  refine bindCall F85.call ?_
  simp only [go_sem, ↓reduceIte, Nat.reduceEqDiff, Nat.reduceBEq, Nat.reduceAdd, Nat.reduceMul, Nat.reduceSub, Nat.reduceLT, Nat.reduceLeDiff, reduceCtorEq, Int.reduceToNat, Int.reduceLE, Int.reduceLT, Int.reduceEq]
  repeat' (refine iteBind ?_ ?_ <;> intro _)
  all_goals first
    | (subst_vars; rfl)
    | (exfalso; omega)
    | (rw [kidSorts_none (by omega) (by omega) (by omega), show hasName o = false by simp only [hasName, decide_eq_false_iff_not]; omega]; rfl)
@[go_sem] theorem callO85 (S : Store) (o : Int) : callO (callL Try.prog hints) S 85 [.int .i64 o] = some { v := .tup [.bool (hasName o), kidsV (kidSorts o)] } := callO_plain (call85 o) (by simp [Plain.int])
end Go.Vs
end
/- tree.formed: what it returns. -/
section
set_option linter.unusedVariables false
set_option linter.unusedSimpArgs false
namespace Go.Vs
open Go Go.Proofs
def noName (s : ByteArray) : Bool := s.toList == (⟨#[]⟩ : ByteArray).toList
/-- The sorts of a node's kids. -/
def sortsFor (o : Int) (m : Nat) : List Int := if o = 10 ∨ o = 37 then List.replicate m 1 else if o = 54 then List.replicate (m - 1) 4 ++ [2] else kidSorts o
/-- The last test: a quotient's, a power's second kid. -/
def tailOK (o : Int) (f : List Node) : Bool :=
  if o = 8 then decide ((f.getD 1 default).op = 1) && decide (0 < (f.getD 1 default).num.length)
  else if o = 9 then decide ((f.getD 1 default).op = 1) && (decide ((f.getD 1 default).num.length = 0) || (decide ((f.getD 1 default).num.length = 1) && decide ((f.getD 1 default).num.getD 0 0 ≤ 20)))
  else true
theorem tail64 (n : Node) (T : Store) (x3 x6 x208 x209 x210 x211 : PV) (h2 : n.op = 8 ∨ n.op = 9 → n.kids.length = 2) :
    ∃ S', F64.k40 0 .normal (F64.ee27 (.mp 0 0 0) x3 x6 x208 x209 x210 x211) (.arr [n.cells] none false :: T) = some (.bool (tailOK n.op n.kids), S') := by
  by_cases h8 : n.op = 8
  · have h1 : (n.kids.length : Int) = 2 := by have := h2 (.inl h8); omega
    refine ⟨.arr [n.cells] none false :: T, ?_⟩
    have key : tailOK n.op n.kids = (decide ((n.kids.getD 1 default).op = 1) && decide (0 < (n.kids.getD 1 default).num.length)) := by
      unfold tailOK; rw [if_pos h8]
    rw [key]
    simp only [go_sem, ↓reduceIte, Nat.reduceEqDiff, Nat.reduceBEq, Nat.reduceAdd, Nat.reduceMul, Nat.reduceSub, Nat.reduceLT, Nat.reduceLeDiff, reduceCtorEq, Int.reduceToNat, Int.reduceLE, Int.reduceLT, Int.reduceEq, h8, h1]
    generalize n.kids.getD 1 default = k
    by_cases e1 : k.op = 1 <;> by_cases e2 : 0 < k.num.length <;> simp [e1, e2]
  by_cases h9 : n.op = 9
  · have h1 : (n.kids.length : Int) = 2 := by have := h2 (.inr h9); omega
    refine ⟨.arr [n.cells] none false :: (T ++ [.arr [(n.kids.getD 1 default).cells] none false]), ?_⟩
    have key : tailOK n.op n.kids = (decide ((n.kids.getD 1 default).op = 1) && (decide ((n.kids.getD 1 default).num.length = 0) || (decide ((n.kids.getD 1 default).num.length = 1) && decide ((n.kids.getD 1 default).num.getD 0 0 ≤ 20)))) := by
      unfold tailOK; rw [if_neg h8, if_pos h9]
    rw [key]
    simp only [go_sem, ↓reduceIte, Nat.reduceEqDiff, Nat.reduceBEq, Nat.reduceAdd, Nat.reduceMul, Nat.reduceSub, Nat.reduceLT, Nat.reduceLeDiff, reduceCtorEq, Int.reduceToNat, Int.reduceLE, Int.reduceLT, Int.reduceEq, h9, h1]
    generalize n.kids.getD 1 default = k
    generalize k.num.getD 0 0 = w
    by_cases e1 : k.op = 1 <;> by_cases e2 : k.num.length = 0 <;> by_cases e3 : k.num.length = 1 <;> by_cases e5 : w ≤ 20 <;> simp [e1, e2, e3, e5] <;> omega
  · refine ⟨.arr [n.cells] none false :: T, ?_⟩
    have key : tailOK n.op n.kids = true := by unfold tailOK; rw [if_neg h8, if_neg h9]
    rw [key]
    simp only [go_sem, ↓reduceIte, Nat.reduceEqDiff, Nat.reduceBEq, Nat.reduceAdd, Nat.reduceMul, Nat.reduceSub, Nat.reduceLT, Nat.reduceLeDiff, reduceCtorEq, Int.reduceToNat, Int.reduceLE, Int.reduceLT, Int.reduceEq, h8, h9]
/-- Another variable than this equation's. -/
def otherVar (k o : Node) : Bool := !(decide (k.op = 55) && (o.name.toList == k.name.toList))
/-- A flow's kid at a place: an equation of another variable than those before, or further equations at the end. -/
def flowAt (f : List Node) (last i : Nat) : Bool :=
  (decide ((f.getD i default).op = 55) || (decide ((f.getD i default).op = 56) && decide (i = last - 1))) && (f.take i).all (otherVar (f.getD i default))
def flowFrom (f : List Node) (last : Nat) : Nat → Nat → Bool
  | 0, _ => true
  | m + 1, i => flowAt f last i && flowFrom f last m (i + 1)
def flowOK (f : List Node) : Bool := flowFrom f (f.length - 1) (f.length - 1) 0
/-- The number, the name. -/
def headOK (o : Int) (nm : ByteArray) (ng : Bool) (nu de : List Int) : Bool :=
  (if o = 1 then natOK ng nu de else (!ng && (decide (nu.length = 0) && decide (de.length = 0)))) &&
  !((hasName o && !nameOK nm) || (!hasName o && (!noName nm && (decide (o ≠ 10) && decide (o ≠ 37)))))
/-- What an operator asks besides. -/
def switchOK (o : Int) (nm : ByteArray) (f : List Node) (a b c : Bool) : Bool :=
  if o = 10 ∨ o = 37 then nameOK nm && decide (f.length ≤ 1)
  else if o = 54 then noName nm && (decide (2 ≤ f.length) && flowOK f)
  else if o = 3 then !(a || (b || c))
  else if o = 12 then !(a || c)
  else if o = 39 then !c && (decide (f.length = 1) && (f.getD 0 default).diff)
  else true
mutual
def Node.formed : Node → Bool → Bool → Bool → Bool
  | .mk o nm ng nu de f, a, b, c => headOK o nm ng nu de && (switchOK o nm f a b c && (decide (f.length = (sortsFor o f.length).length) && (Node.formeds f (sortsFor o f.length) (a || decide (o = 12)) (b || decide (o = 39)) (c || decide (o = 54)) && tailOK o f)))
def Node.formeds : List Node → List Int → Bool → Bool → Bool → Bool
  | [], _, _, _, _ => true
  | n :: r, s, a, b, c => decide (sortOf n.op = s.getD 0 0) && (n.formed a b c && Node.formeds r s.tail a b c)
end
theorem Node.formed_eq (n : Node) (a b c : Bool) : n.formed a b c = (headOK n.op n.name n.neg n.num n.den && (switchOK n.op n.name n.kids a b c && (decide (n.kids.length = (sortsFor n.op n.kids.length).length) && (Node.formeds n.kids (sortsFor n.op n.kids.length) (a || decide (n.op = 12)) (b || decide (n.op = 39)) (c || decide (n.op = 54)) && tailOK n.op n.kids)))) := by cases n; rfl
theorem formeds_drop {l : List Node} {i : Nat} (h : i < l.length) (s : List Int) (a b c : Bool) : Node.formeds (l.drop i) (s.drop i) a b c = (decide (sortOf (l.getD i default).op = s.getD i 0) && ((l.getD i default).formed a b c && Node.formeds (l.drop (i + 1)) (s.drop (i + 1)) a b c)) := by
  rw [kids_drop h]
  simp only [Node.formeds, List.tail_drop]
  have : (s.drop i).getD 0 0 = s.getD i 0 := by simp [List.getD_eq_getElem?_getD]
  rw [this]
theorem callFormed {k : Node} {a b c v : Bool} (S : Store) (h : callL Try.prog hints 64 [.agg k.cells, .agg (placeCells a b c)] = some (.bool v)) : callO (callL Try.prog hints) S 64 [.agg k.cells, .agg (placeCells a b c)] = some { v := .bool v } := callO_plain h (by simp [Node.plain, placeCells_plain])
theorem loop64 (n : Node) (hn : n.ok) (a b c : Bool) (s : List Int) (hs : s.length = n.kids.length) (e : Bool) (he : e = false ∨ s = []) (h2 : n.op = 8 ∨ n.op = 9 → n.kids.length = 2)
    (ih : ∀ k ∈ n.kids, callL Try.prog hints 64 [.agg k.cells, .agg (placeCells a b c)] = some (.bool (k.formed a b c))) (T : Store) (hT : heldBelow (T.length + 2) T.length T = true) :
    ∀ (m i : Nat), i + m = n.kids.length → ∃ S', F64.L7 0 (T.length + 2) (.mp 0 0 0) (.mp 1 0 0) (.sl (intRows s) e) (.sl (Node.rows n.kids) false) (.int .i64 n.kids.length) (.int .i64 i) (.arr [n.cells] none false :: .arr [placeCells a b c] none false :: T) =
      some (.bool (Node.formeds (n.kids.drop i) (s.drop i) a b c && tailOK n.op n.kids), S') := by
  have d0 : 0 < T.length + 2 := by omega
  have d1 : 1 < T.length + 2 := by omega
  have hz : ∀ S, fzPV S (.sl (intRows s) e) = some (.sl (intRows s) e) := fun S => by
    rcases he with rfl | rfl
    · simp only [go_sem]
    · cases e <;> simp only [go_sem]
  intro m
  induction m with
  | zero =>
    intro i hi
    have h1 : ¬ (i : Int) < (n.kids.length : Int) := by omega
    obtain ⟨S', hS'⟩ := tail64 n (.arr [placeCells a b c] none false :: T) .undef .undef .undef .undef .undef .undef h2
    refine ⟨S', F64.L7_step ?_⟩
    rw [List.drop_of_length_le (by omega)]
    simp only [go_sem, ↓reduceIte, Nat.reduceEqDiff, Nat.reduceBEq, Nat.reduceAdd, Nat.reduceMul, Nat.reduceSub, Nat.reduceLT, Nat.reduceLeDiff, reduceCtorEq, Int.reduceToNat, Int.reduceLE, Int.reduceLT, Int.reduceEq, h1, hT, d0, d1, take_len, ↓hS']
    rfl
  | succ m hm =>
    intro i hi
    have h1 : (i : Int) < (n.kids.length : Int) := by omega
    have h1' : (i : Int) < (s.length : Int) := by omega
    have h4 : (0 : Int) ≤ (i : Int) := by omega
    have h3 := wrap_succ (i := i) (n := n.kids.length) (by omega) hn.len
    have h5 := fun S => callFormed S (ih _ (kids_mem (l := n.kids) (i := i) (by omega)))
    rw [formeds_drop (by omega)]
    obtain ⟨S', h6⟩ := hm (i + 1) (by omega)
    by_cases c1 : sortOf (n.kids.getD i default).op = s.getD i 0
    · cases c2 : (n.kids.getD i default).formed a b c with
      | true =>
        rw [c2] at h5
        refine ⟨S', F64.L7_step ?_⟩
        simp only [go_sem, ↓reduceIte, Nat.reduceEqDiff, Nat.reduceBEq, Nat.reduceAdd, Nat.reduceMul, Nat.reduceSub, Nat.reduceLT, Nat.reduceLeDiff, reduceCtorEq, Int.reduceToNat, Int.reduceLE, Int.reduceLT, Int.reduceEq, h1, h1', h3, h4, h5, hz, c1, hT, d0, d1, heldBelow_take, take_app, h6]
      | false =>
        rw [c2] at h5
        refine ⟨.arr [n.cells] none false :: .arr [placeCells a b c] none false :: (T ++ [.arr [(n.kids.getD i default).cells] none false]), F64.L7_step ?_⟩
        simp only [go_sem, ↓reduceIte, Nat.reduceEqDiff, Nat.reduceBEq, Nat.reduceAdd, Nat.reduceMul, Nat.reduceSub, Nat.reduceLT, Nat.reduceLeDiff, reduceCtorEq, Int.reduceToNat, Int.reduceLE, Int.reduceLT, Int.reduceEq, h1, h1', h3, h4, h5, hz, c1]
    · refine ⟨.arr [n.cells] none false :: .arr [placeCells a b c] none false :: (T ++ [.arr [(n.kids.getD i default).cells] none false]), F64.L7_step ?_⟩
      simp only [go_sem, ↓reduceIte, Nat.reduceEqDiff, Nat.reduceBEq, Nat.reduceAdd, Nat.reduceMul, Nat.reduceSub, Nat.reduceLT, Nat.reduceLeDiff, reduceCtorEq, Int.reduceToNat, Int.reduceLE, Int.reduceLT, Int.reduceEq, h1, h1', h3, h4, h5, hz, c1]
/-- Behind the choice by operator. -/
theorem after64A (n : Node) (hn : n.ok) (a b c : Bool) (s : List Int) (h2 : n.kids.length = s.length → (n.op = 8 ∨ n.op = 9) → n.kids.length = 2)
    (ih : ∀ k ∈ n.kids, callL Try.prog hints 64 [.agg k.cells, .agg (placeCells a b c)] = some (.bool (k.formed a b c))) (T : Store) (hT : heldBelow (T.length + 2) T.length T = true) :
    ∃ S', ∀ (x88 x89 x90 x172 x182 : PV), F64.k93 0 .normal (F64.ee21 (.mp 0 0 0) (.mp 1 0 0) (kidsV s) x88 x89 x90 x172 x182) (.arr [n.cells] none false :: .arr [placeCells a b c] none false :: T) =
      some (.bool (decide (n.kids.length = s.length) && (Node.formeds n.kids s a b c && tailOK n.op n.kids)), S') := by
  by_cases hl : n.kids.length = s.length
  · have hl' : (n.kids.length : Int) = (s.length : Int) := by omega
    have hz : ∀ S, fzPV S (.sl (intRows s) s.isEmpty) = some (.sl (intRows s) s.isEmpty) := fun S => by
      cases s with
      | nil => rfl
      | cons x r => simp only [List.isEmpty_cons, go_sem]
    obtain ⟨S', h⟩ := loop64 n hn a b c s hl.symm s.isEmpty (by cases s <;> simp) (h2 hl) ih T hT n.kids.length 0 (by omega)
    simp only [Int.natCast_zero, List.drop_zero] at h
    refine ⟨S', ?_⟩
    rw [hl'] at h
    intro x88 x89 x90 x172 x182
    simp only [kidsV, go_sem, ↓reduceIte, Nat.reduceEqDiff, Nat.reduceBEq, Nat.reduceAdd, Nat.reduceMul, Nat.reduceSub, Nat.reduceLT, Nat.reduceLeDiff, reduceCtorEq, Int.reduceToNat, Int.reduceLE, Int.reduceLT, Int.reduceEq, hl', hz, hl, decide_true, Bool.true_and]
    exact h
  · have hl' : ¬ (n.kids.length : Int) = (s.length : Int) := by omega
    refine ⟨.arr [n.cells] none false :: .arr [placeCells a b c] none false :: T, ?_⟩
    intro x88 x89 x90 x172 x182
    simp only [kidsV, go_sem, ↓reduceIte, Nat.reduceEqDiff, Nat.reduceBEq, Nat.reduceAdd, Nat.reduceMul, Nat.reduceSub, Nat.reduceLT, Nat.reduceLeDiff, reduceCtorEq, Int.reduceToNat, Int.reduceLE, Int.reduceLT, Int.reduceEq, hl', hl, decide_false, Bool.false_and]
theorem after64B (n : Node) (hn : n.ok) (a b c : Bool) (s : List Int) (g : Option (Option Nat)) (h2 : n.kids.length = s.length → (n.op = 8 ∨ n.op = 9) → n.kids.length = 2)
    (ih : ∀ k ∈ n.kids, callL Try.prog hints 64 [.agg k.cells, .agg (placeCells a b c)] = some (.bool (k.formed a b c))) (U : Store) (hU : heldBelow (U.length + 3) U.length U = true) :
    ∃ S', ∀ (x88 x89 x90 x172 x182 : PV), F64.k93 0 .normal (F64.ee21 (.mp 0 0 0) (.mp 1 0 0) (.msl 2 0 s.length false) x88 x89 x90 x172 x182) (.arr [n.cells] none false :: .arr [placeCells a b c] none false :: .arr (intRows s) g false :: U) =
      some (.bool (decide (n.kids.length = s.length) && (Node.formeds n.kids s a b c && tailOK n.op n.kids)), S') := by
  by_cases hl : n.kids.length = s.length
  · have hl' : (n.kids.length : Int) = (s.length : Int) := by omega
    have hz := fz_ints (S := .arr [n.cells] none false :: .arr [placeCells a b c] none false :: .arr (intRows s) g false :: U) (id := 2) (l := s) (ex := false) rfl
    have hT : heldBelow ((Obj.arr (intRows s) g true :: U).length + 2) (Obj.arr (intRows s) g true :: U).length (.arr (intRows s) g true :: U) = true := by
      simp only [List.length_cons, go_sem]
      exact hU
    obtain ⟨S', h⟩ := loop64 n hn a b c s hl.symm false (.inl rfl) (h2 hl) ih (.arr (intRows s) g true :: U) hT n.kids.length 0 (by omega)
    simp only [Int.natCast_zero, List.drop_zero] at h
    refine ⟨S', ?_⟩
    rw [hl'] at h
    intro x88 x89 x90 x172 x182
    simp only [go_sem, ↓reduceIte, Nat.reduceEqDiff, Nat.reduceBEq, Nat.reduceAdd, Nat.reduceMul, Nat.reduceSub, Nat.reduceLT, Nat.reduceLeDiff, reduceCtorEq, Int.reduceToNat, Int.reduceLE, Int.reduceLT, Int.reduceEq, hl', hz, hl, decide_true, Bool.true_and]
    exact h
  · have hl' : ¬ (n.kids.length : Int) = (s.length : Int) := by omega
    refine ⟨.arr [n.cells] none false :: .arr [placeCells a b c] none false :: .arr (intRows s) g false :: U, ?_⟩
    intro x88 x89 x90 x172 x182
    simp only [go_sem, ↓reduceIte, Nat.reduceEqDiff, Nat.reduceBEq, Nat.reduceAdd, Nat.reduceMul, Nat.reduceSub, Nat.reduceLT, Nat.reduceLeDiff, reduceCtorEq, Int.reduceToNat, Int.reduceLE, Int.reduceLT, Int.reduceEq, hl', hl, decide_false, Bool.false_and]
/-- All that formed asks behind the number and the name. -/
def Node.rest (n : Node) (a b c : Bool) : Bool := switchOK n.op n.name n.kids a b c && (decide (n.kids.length = (sortsFor n.op n.kids.length).length) && (Node.formeds n.kids (sortsFor n.op n.kids.length) (a || decide (n.op = 12)) (b || decide (n.op = 39)) (c || decide (n.op = 54)) && tailOK n.op n.kids))
def Kids64 (n : Node) : Prop := ∀ k ∈ n.kids, ∀ a b c, callL Try.prog hints 64 [.agg k.cells, .agg (placeCells a b c)] = some (.bool (k.formed a b c))
/-- The operators without a case of their own. -/
theorem switch_else (n : Node) (hn : n.ok) (a b c : Bool) (ih : Kids64 n) (h : n.op ≠ 10 ∧ n.op ≠ 37 ∧ n.op ≠ 54 ∧ n.op ≠ 3 ∧ n.op ≠ 12 ∧ n.op ≠ 39) :
    ∃ S', F64.k108 0 .normal (F64.ee14 (.mp 0 0 0) (.mp 1 0 0) (kidsV (kidSorts n.op)) (.int .i64 n.op)) [.arr [n.cells] none false, .arr [placeCells a b c] none false] = some (.bool (n.rest a b c), S') := by
  obtain ⟨h1, h2, h3, h4, h5, h6⟩ := h
  have e1 : sortsFor n.op n.kids.length = kidSorts n.op := by simp [sortsFor, h1, h2, h3]
  have e2 : n.rest a b c = (decide (n.kids.length = (kidSorts n.op).length) && (Node.formeds n.kids (kidSorts n.op) a b c && tailOK n.op n.kids)) := by
    simp [Node.rest, switchOK, e1, h1, h2, h3, h4, h5, h6]
  obtain ⟨S', h7⟩ := after64A n hn a b c (kidSorts n.op) (fun hl ho => by rw [hl]; rcases ho with ho | ho <;> rw [ho] <;> rfl) (fun k hk => ih k hk a b c) [] rfl
  refine ⟨S', ?_⟩
  rw [e2]
  simp only [go_sem, ↓reduceIte, Nat.reduceEqDiff, Nat.reduceBEq, Nat.reduceAdd, Nat.reduceMul, Nat.reduceSub, Nat.reduceLT, Nat.reduceLeDiff, reduceCtorEq, Int.reduceToNat, Int.reduceLE, Int.reduceLT, Int.reduceEq, h1, h2, h3, h4, h5, h6, ↓h7]
theorem switch_prime (n : Node) (hn : n.ok) (a b c : Bool) (ih : Kids64 n) (h : n.op = 3) :
    ∃ S', F64.k108 0 .normal (F64.ee14 (.mp 0 0 0) (.mp 1 0 0) (kidsV (kidSorts n.op)) (.int .i64 n.op)) [.arr [n.cells] none false, .arr [placeCells a b c] none false] = some (.bool (n.rest a b c), S') := by
  have e2 : n.rest a b c = (!(a || (b || c)) && (decide (n.kids.length = (kidSorts n.op).length) && (Node.formeds n.kids (kidSorts n.op) a b c && tailOK n.op n.kids))) := by
    simp [Node.rest, switchOK, sortsFor, h]
  obtain ⟨S', h7⟩ := after64A n hn a b c (kidSorts n.op) (fun hl ho => by rw [h] at ho; omega) (fun k hk => ih k hk a b c) [] rfl
  rw [h] at h7 e2 ⊢
  rw [e2]
  cases a
  · cases b
    · cases c
      · exact ⟨S', by simp only [go_sem, ↓reduceIte, Nat.reduceEqDiff, Nat.reduceBEq, Nat.reduceAdd, Nat.reduceMul, Nat.reduceSub, Nat.reduceLT, Nat.reduceLeDiff, reduceCtorEq, Int.reduceToNat, Int.reduceLE, Int.reduceLT, Int.reduceEq, ↓h7] <;> rfl⟩
      · exact ⟨[.arr [n.cells] none false, .arr [placeCells false false true] none false], by simp only [go_sem, ↓reduceIte, Nat.reduceEqDiff, Nat.reduceBEq, Nat.reduceAdd, Nat.reduceMul, Nat.reduceSub, Nat.reduceLT, Nat.reduceLeDiff, reduceCtorEq, Int.reduceToNat, Int.reduceLE, Int.reduceLT, Int.reduceEq, placeCells] <;> rfl⟩
    · exact ⟨[.arr [n.cells] none false, .arr [placeCells false true c] none false], by simp only [go_sem, ↓reduceIte, Nat.reduceEqDiff, Nat.reduceBEq, Nat.reduceAdd, Nat.reduceMul, Nat.reduceSub, Nat.reduceLT, Nat.reduceLeDiff, reduceCtorEq, Int.reduceToNat, Int.reduceLE, Int.reduceLT, Int.reduceEq, placeCells] <;> rfl⟩
  · exact ⟨[.arr [n.cells] none false, .arr [placeCells true b c] none false], by simp only [go_sem, ↓reduceIte, Nat.reduceEqDiff, Nat.reduceBEq, Nat.reduceAdd, Nat.reduceMul, Nat.reduceSub, Nat.reduceLT, Nat.reduceLeDiff, reduceCtorEq, Int.reduceToNat, Int.reduceLE, Int.reduceLT, Int.reduceEq] <;> rfl⟩
theorem switch_diff (n : Node) (hn : n.ok) (a b c : Bool) (ih : Kids64 n) (h : n.op = 12) :
    ∃ S', F64.k108 0 .normal (F64.ee14 (.mp 0 0 0) (.mp 1 0 0) (kidsV (kidSorts n.op)) (.int .i64 n.op)) [.arr [n.cells] none false, .arr [placeCells a b c] none false] = some (.bool (n.rest a b c), S') := by
  have e2 : n.rest a b c = (!(a || c) && (decide (n.kids.length = (kidSorts n.op).length) && (Node.formeds n.kids (kidSorts n.op) true b c && tailOK n.op n.kids))) := by
    simp [Node.rest, switchOK, sortsFor, h]
  obtain ⟨S', h7⟩ := after64A n hn true b c (kidSorts n.op) (fun hl ho => by rw [h] at ho; omega) (fun k hk => ih k hk true b c) [] rfl
  rw [h] at h7 e2 ⊢
  rw [e2]
  cases a
  · cases c
    · exact ⟨S', by simp only [go_sem, ↓reduceIte, Nat.reduceEqDiff, Nat.reduceBEq, Nat.reduceAdd, Nat.reduceMul, Nat.reduceSub, Nat.reduceLT, Nat.reduceLeDiff, reduceCtorEq, Int.reduceToNat, Int.reduceLE, Int.reduceLT, Int.reduceEq, ↓h7] <;> rfl⟩
    · exact ⟨[.arr [n.cells] none false, .arr [placeCells false b true] none false], by simp only [go_sem, ↓reduceIte, Nat.reduceEqDiff, Nat.reduceBEq, Nat.reduceAdd, Nat.reduceMul, Nat.reduceSub, Nat.reduceLT, Nat.reduceLeDiff, reduceCtorEq, Int.reduceToNat, Int.reduceLE, Int.reduceLT, Int.reduceEq, placeCells] <;> rfl⟩
  · exact ⟨[.arr [n.cells] none false, .arr [placeCells true b c] none false], by simp only [go_sem, ↓reduceIte, Nat.reduceEqDiff, Nat.reduceBEq, Nat.reduceAdd, Nat.reduceMul, Nat.reduceSub, Nat.reduceLT, Nat.reduceLeDiff, reduceCtorEq, Int.reduceToNat, Int.reduceLE, Int.reduceLT, Int.reduceEq] <;> rfl⟩
theorem switch_fdiff (n : Node) (hn : n.ok) (a b c : Bool) (ih : Kids64 n) (h : n.op = 39) :
    ∃ S', F64.k108 0 .normal (F64.ee14 (.mp 0 0 0) (.mp 1 0 0) (kidsV (kidSorts n.op)) (.int .i64 n.op)) [.arr [n.cells] none false, .arr [placeCells a b c] none false] = some (.bool (n.rest a b c), S') := by
  have e2 : n.rest a b c = (!c && (decide (n.kids.length = 1) && (n.kids.getD 0 default).diff) && (decide (n.kids.length = (kidSorts n.op).length) && (Node.formeds n.kids (kidSorts n.op) a true c && tailOK n.op n.kids))) := by
    simp [Node.rest, switchOK, sortsFor, h]
  obtain ⟨S', h7⟩ := after64A n hn a true c (kidSorts n.op) (fun hl ho => by rw [h] at ho; omega) (fun k hk => ih k hk a true c) [] rfl
  rw [h] at h7 e2 ⊢
  rw [e2]
  cases c
  · by_cases hl : n.kids.length = 1
    · have hl' : (n.kids.length : Int) = 1 := by omega
      have h5 := fun S => callO86 S _ (hn.kids _ (kids_mem (l := n.kids) (i := 0) (by omega)))
      cases hd : (n.kids.getD 0 default).diff
      · rw [hd] at h5
        exact ⟨[.arr [n.cells] none false, .arr [placeCells a b false] none false], by simp only [go_sem, ↓reduceIte, Nat.reduceEqDiff, Nat.reduceBEq, Nat.reduceAdd, Nat.reduceMul, Nat.reduceSub, Nat.reduceLT, Nat.reduceLeDiff, reduceCtorEq, Int.reduceToNat, Int.reduceLE, Int.reduceLT, Int.reduceEq, hl', h5] <;> simp [hl]⟩
      · rw [hd] at h5
        refine ⟨S', ?_⟩
        simp only [go_sem, ↓reduceIte, Nat.reduceEqDiff, Nat.reduceBEq, Nat.reduceAdd, Nat.reduceMul, Nat.reduceSub, Nat.reduceLT, Nat.reduceLeDiff, reduceCtorEq, Int.reduceToNat, Int.reduceLE, Int.reduceLT, Int.reduceEq, hl', h5, ↓h7]
        simp [hl]
    · have hl' : ¬ (n.kids.length : Int) = 1 := by omega
      exact ⟨[.arr [n.cells] none false, .arr [placeCells a b false] none false], by simp only [go_sem, ↓reduceIte, Nat.reduceEqDiff, Nat.reduceBEq, Nat.reduceAdd, Nat.reduceMul, Nat.reduceSub, Nat.reduceLT, Nat.reduceLeDiff, reduceCtorEq, Int.reduceToNat, Int.reduceLE, Int.reduceLT, Int.reduceEq, hl'] <;> simp [hl]⟩
  · exact ⟨[.arr [n.cells] none false, .arr [placeCells a b true] none false], by simp only [go_sem, ↓reduceIte, Nat.reduceEqDiff, Nat.reduceBEq, Nat.reduceAdd, Nat.reduceMul, Nat.reduceSub, Nat.reduceLT, Nat.reduceLeDiff, reduceCtorEq, Int.reduceToNat, Int.reduceLE, Int.reduceLT, Int.reduceEq, placeCells] <;> rfl⟩
theorem switch_fun (n : Node) (hn : n.ok) (a b c : Bool) (ih : Kids64 n) (h : n.op = 10 ∨ n.op = 37) :
    ∃ S', F64.k108 0 .normal (F64.ee14 (.mp 0 0 0) (.mp 1 0 0) (kidsV (kidSorts n.op)) (.int .i64 n.op)) [.arr [n.cells] none false, .arr [placeCells a b c] none false] = some (.bool (n.rest a b c), S') := by
  have e0 : kidSorts n.op = [] := by rcases h with h | h <;> rw [h] <;> rfl
  have e3 : decide (n.op = 12) = false ∧ decide (n.op = 39) = false ∧ decide (n.op = 54) = false := by rcases h with h | h <;> simp [h]
  have e2 : n.rest a b c = (nameOK n.name && decide (n.kids.length ≤ 1) && (decide (n.kids.length = (List.replicate n.kids.length (1 : Int)).length) && (Node.formeds n.kids (List.replicate n.kids.length 1) a b c && tailOK n.op n.kids))) := by
    have : sortsFor n.op n.kids.length = List.replicate n.kids.length 1 := by simp [sortsFor, h]
    simp only [Node.rest, switchOK, if_pos h, this, e3.1, e3.2.1, e3.2.2, Bool.or_false]
  rw [e2, e0]
  have ho : n.op = 8 ∨ n.op = 9 → n.kids.length = 2 := fun ho => by omega
  cases hnm : nameOK n.name
  · refine ⟨[.arr [n.cells] none false, .arr [placeCells a b c] none false], ?_⟩
    rcases h with h | h <;> (simp only [go_sem, ↓reduceIte, Nat.reduceEqDiff, Nat.reduceBEq, Nat.reduceAdd, Nat.reduceMul, Nat.reduceSub, Nat.reduceLT, Nat.reduceLeDiff, reduceCtorEq, Int.reduceToNat, Int.reduceLE, Int.reduceLT, Int.reduceEq, h, hnm] <;> rfl)
  by_cases hl : n.kids.length ≤ 1
  case neg =>
    have hl' : 1 < (n.kids.length : Int) := by omega
    refine ⟨[.arr [n.cells] none false, .arr [placeCells a b c] none false], ?_⟩
    rcases h with h | h <;> (simp only [go_sem, ↓reduceIte, Nat.reduceEqDiff, Nat.reduceBEq, Nat.reduceAdd, Nat.reduceMul, Nat.reduceSub, Nat.reduceLT, Nat.reduceLeDiff, reduceCtorEq, Int.reduceToNat, Int.reduceLE, Int.reduceLT, Int.reduceEq, h, hnm, hl', hl, decide_false, Bool.and_false, Bool.false_and])
  by_cases h0 : n.kids.length = 0
  · obtain ⟨S', h7⟩ := after64B n hn a b c [] (some none) (fun _ => ho) (fun k hk => ih k hk a b c) [] rfl
    have h0' : (n.kids.length : Int) = 0 := by omega
    have hL : F64.L1 0 3 (.mp 0 0 0) (.mp 1 0 0) (.msl 2 0 0 false) (.int .i64 0) (.int .i64 0) [.arr [n.cells] none false, .arr [placeCells a b c] none false, .arr [] (some none) false] = some (.bool (decide (n.kids.length = 0) && (Node.formeds n.kids [] a b c && tailOK n.op n.kids)), S') := by
      refine F64.L1_step ?_
      simp only [intRows, List.map_nil, List.length_nil] at h7
      simp only [go_sem, ↓reduceIte, Nat.reduceEqDiff, Nat.reduceBEq, Nat.reduceAdd, Nat.reduceMul, Nat.reduceSub, Nat.reduceLT, Nat.reduceLeDiff, reduceCtorEq, Int.reduceToNat, Int.reduceLE, Int.reduceLT, Int.reduceEq, ↓h7]
    refine ⟨S', ?_⟩
    rw [h0] at hL ⊢
    rcases h with h | h <;> (simp only [kidsV, List.isEmpty_nil, go_sem, ↓reduceIte, Nat.reduceEqDiff, Nat.reduceBEq, Nat.reduceAdd, Nat.reduceMul, Nat.reduceSub, Nat.reduceLT, Nat.reduceLeDiff, reduceCtorEq, Int.reduceToNat, Int.reduceLE, Int.reduceLT, Int.reduceEq, h, hnm, h0', hL]; rfl)
  · have h1 : n.kids.length = 1 := by omega
    have h1' : (n.kids.length : Int) = 1 := by omega
    obtain ⟨S', h7⟩ := after64B n hn a b c [1] (some (some 1)) (fun _ => ho) (fun k hk => ih k hk a b c) [] rfl
    have happ := append_known (b := 0) (bytes := 8) (esz := 1) (S := [.arr [n.cells] none false, .arr [placeCells a b c] none false, .arr [] (some none) false, .arr [[.int .i64 1]] (some (some 1)) false]) (id := 2) (len := 0) (rows := []) (new := [[.int .i64 1]]) (g := none) (ex := false) (y := .msl 3 0 1 true) rfl rfl (by decide) rfl (.inl rfl) rfl rfl (by decide) (by decide) rfl
    have hL2 : F64.L1 0 3 (.mp 0 0 0) (.mp 1 0 0) (.msl 2 0 1 false) (.int .i64 1) (.int .i64 1) [.arr [n.cells] none false, .arr [placeCells a b c] none false, .arr [[.int .i64 1]] (some (some 1)) false] = some (.bool (decide (n.kids.length = 1) && (Node.formeds n.kids [1] a b c && tailOK n.op n.kids)), S') := by
      refine F64.L1_step ?_
      simp only [intRows, List.map_cons, List.map_nil, List.length_cons, List.length_nil, Nat.zero_add] at h7
      simp only [go_sem, ↓reduceIte, Nat.reduceEqDiff, Nat.reduceBEq, Nat.reduceAdd, Nat.reduceMul, Nat.reduceSub, Nat.reduceLT, Nat.reduceLeDiff, reduceCtorEq, Int.reduceToNat, Int.reduceLE, Int.reduceLT, Int.reduceEq, ↓h7]
    have hw : IntKind.i64.wrap (0 + 1) = 1 := by rfl
    have hL : F64.L1 0 3 (.mp 0 0 0) (.mp 1 0 0) (.msl 2 0 0 false) (.int .i64 1) (.int .i64 0) [.arr [n.cells] none false, .arr [placeCells a b c] none false, .arr [] (some none) false] = some (.bool (decide (n.kids.length = 1) && (Node.formeds n.kids [1] a b c && tailOK n.op n.kids)), S') := by
      refine F64.L1_step ?_
      simp only [go_sem, ↓reduceIte, Nat.reduceEqDiff, Nat.reduceBEq, Nat.reduceAdd, Nat.reduceMul, Nat.reduceSub, Nat.reduceLT, Nat.reduceLeDiff, reduceCtorEq, Int.reduceToNat, Int.reduceLE, Int.reduceLT, Int.reduceEq, happ, hw, hL2]
    refine ⟨S', ?_⟩
    rw [h1] at hL ⊢
    rcases h with h | h <;> (simp only [kidsV, List.isEmpty_nil, go_sem, ↓reduceIte, Nat.reduceEqDiff, Nat.reduceBEq, Nat.reduceAdd, Nat.reduceMul, Nat.reduceSub, Nat.reduceLT, Nat.reduceLeDiff, reduceCtorEq, Int.reduceToNat, Int.reduceLE, Int.reduceLT, Int.reduceEq, h, hnm, h1', hL]; rfl)
end Go.Vs
end
/- tree.formed on a flow. -/
section
set_option linter.unusedVariables false
set_option linter.unusedSimpArgs false
namespace Go.Vs
open Go Go.Proofs
def fours (i : Nat) : List (List PV) := intRows (List.replicate i 4)
@[go_sem] theorem fours_length (i : Nat) : (fours i).length = i := by simp [fours, intRows]
@[go_sem] theorem fours_refs (i : Nat) : rowsRefs (fours i) = [] := intRows_refs _
@[go_sem] theorem fours_ok (i : Nat) : rowsOK 1 (fours i) = true := intRows_ok _
theorem fours_succ (i : Nat) : fours i ++ [[.int .i64 4]] = fours (i + 1) := by
  simp [fours, intRows, List.replicate_succ']
theorem take_drop_cons {l : List Node} {i j : Nat} (hj : j < i) (hi : i ≤ l.length) : (l.take i).drop j = l.getD j default :: (l.take i).drop (j + 1) := by
  have h : j < (l.take i).length := by simp; omega
  rw [kids_drop h]
  congr 1
  simp [List.getD_eq_getElem?_getD, List.getElem?_take, hj]
theorem getD_take {l : List Node} {i j : Nat} (hj : j < i) : (l.take i).getD j default = l.getD j default := by
  simp [List.getD_eq_getElem?_getD, List.getElem?_take, hj]
theorem loop5 (n : Node) (hn : n.ok) (hlen : n.kids.length ≤ 100000) (a b c : Bool) (last i : Nat) (hi : i < n.kids.length) (g : Option Nat) (hg : g = none ∨ g = some 1) (B : Bool) (Sn : Store)
    (hnext : F64.L3 0 3 (.mp 0 0 0) (.mp 1 0 0) (.msl 2 0 (i + 1) false) (.int .i64 last) (.int .i64 ((i + 1 : Nat) : Int)) [.arr [n.cells] none false, .arr [placeCells a b c] none false, .arr (fours (i + 1)) (some (some 1)) false] = some (.bool B, Sn)) :
    ∀ (m j : Nat), j + m = i → ∃ S2, F64.L5 0 3 4 (.mp 0 0 0) (.mp 1 0 0) (.msl 2 0 i false) (.int .i64 last) (.int .i64 i) (.mp 3 0 0) (.sl (Node.rows (n.kids.take i)) false) (.int .i64 i) (.int .i64 j)
      [.arr [n.cells] none false, .arr [placeCells a b c] none false, .arr (fours i) (some g) false, .arr [(n.kids.getD i default).cells] none false] =
      some (.bool ((((n.kids.take i).drop j).all (otherVar (n.kids.getD i default))) && B), S2) := by
  have hw := wrap_succ (i := i) (n := n.kids.length) hi hn.len
  intro m
  induction m with
  | zero =>
    intro j hj
    have h1 : ¬ (j : Int) < (i : Int) := by omega
    have happ := append_known (b := 0) (bytes := 8) (esz := 1) (S := [.arr [n.cells] none false, .arr [placeCells a b c] none false, .arr (fours i) (some g) false, .arr [(n.kids.getD i default).cells] none false, .arr [[.int .i64 4]] (some (some 1)) false]) (id := 2) (len := i) (rows := fours i) (new := [[.int .i64 4]]) (g := g) (ex := false) (y := .msl 4 0 1 true) rfl rfl (by decide) (fours_length i).symm hg (fours_ok i) rfl (by rw [fours_length]; simp; omega) (by rw [fours_length]; simp; omega) (by rw [fours_refs]; rfl)
    refine ⟨Sn, F64.L5_step ?_⟩
    rw [List.drop_of_length_le (by simp; omega)]
    simp only [go_sem, ↓reduceIte, Nat.reduceEqDiff, Nat.reduceBEq, Nat.reduceAdd, Nat.reduceMul, Nat.reduceSub, Nat.reduceLT, Nat.reduceLeDiff, reduceCtorEq, Int.reduceToNat, Int.reduceLE, Int.reduceLT, Int.reduceEq, h1, happ, hw, fours_succ, hnext]
  | succ m hm =>
    intro j hj
    have h1 : (j : Int) < (i : Int) := by omega
    have h2 := wrap_succ (i := j) (n := n.kids.length) (by omega) hn.len
    have h3 : (0 : Int) ≤ (j : Int) := by omega
    have h4 : (j : Int) < ((n.kids.take i).length : Int) := by simp; omega
    obtain ⟨S2, h5⟩ := hm (j + 1) (by omega)
    rw [take_drop_cons (l := n.kids) (i := i) (j := j) (by omega) (by omega), List.all_cons]
    by_cases hop : (n.kids.getD i default).op = 55
    · by_cases hnm : (n.kids.getD j default).name.toList = (n.kids.getD i default).name.toList
      · have e1 : otherVar (n.kids.getD i default) (n.kids.getD j default) = false := by simp only [otherVar, hop, hnm]; simp
        rw [e1]
        refine ⟨[.arr [n.cells] none false, .arr [placeCells a b c] none false, .arr (fours i) (some g) false, .arr [(n.kids.getD i default).cells] none false, .arr [(n.kids.getD j default).cells] none false], F64.L5_step ?_⟩
        simp only [go_sem, ↓reduceIte, Nat.reduceEqDiff, Nat.reduceBEq, Nat.reduceAdd, Nat.reduceMul, Nat.reduceSub, Nat.reduceLT, Nat.reduceLeDiff, reduceCtorEq, Int.reduceToNat, Int.reduceLE, Int.reduceLT, Int.reduceEq, h1, h2, h3, h4, getD_take (l := n.kids) (i := i) (j := j) (by omega), hop, hnm]
      · have e1 : otherVar (n.kids.getD i default) (n.kids.getD j default) = true := by
          have : ((n.kids.getD j default).name.toList == (n.kids.getD i default).name.toList) = false := by simpa using hnm
          simp only [otherVar, this]; simp
        rw [e1, Bool.true_and]
        refine ⟨S2, F64.L5_step ?_⟩
        simp only [go_sem, ↓reduceIte, Nat.reduceEqDiff, Nat.reduceBEq, Nat.reduceAdd, Nat.reduceMul, Nat.reduceSub, Nat.reduceLT, Nat.reduceLeDiff, reduceCtorEq, Int.reduceToNat, Int.reduceLE, Int.reduceLT, Int.reduceEq, h1, h2, h3, h4, getD_take (l := n.kids) (i := i) (j := j) (by omega), hop, hnm, h5]
    · have e1 : otherVar (n.kids.getD i default) (n.kids.getD j default) = true := by simp only [otherVar, hop]; simp
      rw [e1, Bool.true_and]
      refine ⟨S2, F64.L5_step ?_⟩
      simp only [go_sem, ↓reduceIte, Nat.reduceEqDiff, Nat.reduceBEq, Nat.reduceAdd, Nat.reduceMul, Nat.reduceSub, Nat.reduceLT, Nat.reduceLeDiff, reduceCtorEq, Int.reduceToNat, Int.reduceLE, Int.reduceLT, Int.reduceEq, h1, h2, h3, h4, getD_take (l := n.kids) (i := i) (j := j) (by omega), hop, h5]
theorem loop3 (n : Node) (hn : n.ok) (hlen : n.kids.length ≤ 100000) (a b c : Bool) (last : Nat) (hlast : last + 1 = n.kids.length) (R : Bool) (Sr : Store)
    (h7 : ∀ (x88 x89 x90 x172 x182 : PV), F64.k93 0 .normal (F64.ee21 (.mp 0 0 0) (.mp 1 0 0) (.msl 2 0 (last + 1) false) x88 x89 x90 x172 x182) [.arr [n.cells] none false, .arr [placeCells a b true] none false, .arr (fours last ++ [[.int .i64 2]]) (some (some 1)) false, .arr [[.int .i64 2]] (some (some 1)) false] = some (.bool R, Sr)) :
    ∀ (m i : Nat), i + m = last → ∀ (g : Option Nat), (g = none ∨ g = some 1) →
      ∃ S2, F64.L3 0 3 (.mp 0 0 0) (.mp 1 0 0) (.msl 2 0 i false) (.int .i64 last) (.int .i64 i) [.arr [n.cells] none false, .arr [placeCells a b c] none false, .arr (fours i) (some g) false] = some (.bool (flowFrom n.kids last m i && R), S2) := by
  intro m
  induction m with
  | zero =>
    intro i hi g hg
    obtain rfl : i = last := by omega
    have h1 : ¬ (i : Int) < (i : Int) := by omega
    have happ := append_known (b := 0) (bytes := 8) (esz := 1) (S := [.arr [n.cells] none false, .arr [placeCells a b c] none false, .arr (fours i) (some g) false, .arr [[.int .i64 2]] (some (some 1)) false]) (id := 2) (len := i) (rows := fours i) (new := [[.int .i64 2]]) (g := g) (ex := false) (y := .msl 3 0 1 true) rfl rfl (by decide) (fours_length i).symm hg (fours_ok i) rfl (by rw [fours_length]; simp; omega) (by rw [fours_length]; simp; omega) (by rw [fours_refs]; rfl)
    refine ⟨Sr, F64.L3_step ?_⟩
    simp only [go_sem, ↓reduceIte, Nat.reduceEqDiff, Nat.reduceBEq, Nat.reduceAdd, Nat.reduceMul, Nat.reduceSub, Nat.reduceLT, Nat.reduceLeDiff, reduceCtorEq, Int.reduceToNat, Int.reduceLE, Int.reduceLT, Int.reduceEq, h1, happ, ↓h7]
    rfl
  | succ m hm =>
    intro i hi g hg
    have h1 : (i : Int) < (last : Int) := by omega
    have h2 : (i : Int) < (n.kids.length : Int) := by omega
    have h3 : (0 : Int) ≤ (i : Int) := by omega
    have h4 : IntKind.i64.wrap ((last : Int) - 1) = ((last - 1 : Nat) : Int) := by
      have := maxLen_le
      have := hn.len
      rw [IntKind.wrap_i64]; omega
    have hsl := fun S => slice52 S n.kids false i (by omega)
    have hlt : (n.kids.take i).length = i := by simp; omega
    obtain ⟨Sn, hnext⟩ := hm (i + 1) (by omega) (some 1) (.inr rfl)
    obtain ⟨S2, h5⟩ := loop5 n hn hlen a b c last i (by omega) g hg _ Sn hnext i 0 (by omega)
    simp only [List.drop_zero, Int.natCast_zero] at h5
    have e0 : flowFrom n.kids last (m + 1) i = (flowAt n.kids last i && flowFrom n.kids last m (i + 1)) := rfl
    rw [e0]
    have bad : ∀ (hbad : flowAt n.kids last i = false), (flowAt n.kids last i && flowFrom n.kids last m (i + 1) && R) = false := fun h => by rw [h]; rfl
    by_cases c1 : (n.kids.getD i default).op = 55
    · have e1 : flowAt n.kids last i = (n.kids.take i).all (otherVar (n.kids.getD i default)) := by
        simp only [flowAt, c1, decide_true, Bool.true_or, Bool.true_and]
      rw [e1, Bool.and_assoc]
      refine ⟨S2, F64.L3_step ?_⟩
      simp only [go_sem, ↓reduceIte, Nat.reduceEqDiff, Nat.reduceBEq, Nat.reduceAdd, Nat.reduceMul, Nat.reduceSub, Nat.reduceLT, Nat.reduceLeDiff, reduceCtorEq, Int.reduceToNat, Int.reduceLE, Int.reduceLT, Int.reduceEq, h1, h2, h3, h4, c1, hsl, hlt, h5]
    · by_cases c2 : (n.kids.getD i default).op = 56
      · by_cases c3 : i = last - 1
        · have c3' : ((last - 1 : Nat) : Int) = (i : Int) := by omega
          have e1 : flowAt n.kids last i = (n.kids.take i).all (otherVar (n.kids.getD i default)) := by
            have : decide (i = last - 1) = true := by simp [c3]
            simp only [flowAt, c2, this, decide_true, Bool.and_true, Bool.or_true, Bool.true_and]
          rw [e1, Bool.and_assoc]
          refine ⟨S2, F64.L3_step ?_⟩
          simp only [go_sem, ↓reduceIte, Nat.reduceEqDiff, Nat.reduceBEq, Nat.reduceAdd, Nat.reduceMul, Nat.reduceSub, Nat.reduceLT, Nat.reduceLeDiff, reduceCtorEq, Int.reduceToNat, Int.reduceLE, Int.reduceLT, Int.reduceEq, h1, h2, h3, h4, c1, c2, c3', hsl, hlt, h5]
        · have c3' : ¬ (i : Int) = ((last - 1 : Nat) : Int) := by omega
          have e1 : flowAt n.kids last i = false := by simp only [flowAt, c1, c3, decide_false, Bool.and_false, Bool.or_self, Bool.false_and]
          rw [bad e1]
          refine ⟨[.arr [n.cells] none false, .arr [placeCells a b c] none false, .arr (fours i) (some g) false, .arr [(n.kids.getD i default).cells] none false], F64.L3_step ?_⟩
          simp only [go_sem, ↓reduceIte, Nat.reduceEqDiff, Nat.reduceBEq, Nat.reduceAdd, Nat.reduceMul, Nat.reduceSub, Nat.reduceLT, Nat.reduceLeDiff, reduceCtorEq, Int.reduceToNat, Int.reduceLE, Int.reduceLT, Int.reduceEq, h1, h2, h3, h4, c1, c2, c3']
      · have e1 : flowAt n.kids last i = false := by simp only [flowAt, c1, c2, decide_false, Bool.false_and, Bool.or_self]
        rw [bad e1]
        refine ⟨[.arr [n.cells] none false, .arr [placeCells a b c] none false, .arr (fours i) (some g) false, .arr [(n.kids.getD i default).cells] none false], F64.L3_step ?_⟩
        simp only [go_sem, ↓reduceIte, Nat.reduceEqDiff, Nat.reduceBEq, Nat.reduceAdd, Nat.reduceMul, Nat.reduceSub, Nat.reduceLT, Nat.reduceLeDiff, reduceCtorEq, Int.reduceToNat, Int.reduceLE, Int.reduceLT, Int.reduceEq, h1, h2, h3, h4, c1, c2]
theorem switch_flow (n : Node) (hn : n.ok) (hlen : n.kids.length ≤ 100000) (a b c : Bool) (ih : Kids64 n) (h : n.op = 54) :
    ∃ S', F64.k108 0 .normal (F64.ee14 (.mp 0 0 0) (.mp 1 0 0) (kidsV (kidSorts n.op)) (.int .i64 n.op)) [.arr [n.cells] none false, .arr [placeCells a b c] none false] = some (.bool (n.rest a b c), S') := by
  have e2 : n.rest a b c = (noName n.name && (decide (2 ≤ n.kids.length) && flowOK n.kids) && (decide (n.kids.length = (List.replicate (n.kids.length - 1) (4 : Int) ++ [2]).length) && (Node.formeds n.kids (List.replicate (n.kids.length - 1) 4 ++ [2]) a b true && tailOK n.op n.kids))) := by
    simp [Node.rest, switchOK, sortsFor, h]
  rw [e2, h]
  cases hnm : noName n.name
  · have hnm' : ¬ n.name.toList = (⟨#[]⟩ : ByteArray).toList := by simpa [noName] using hnm
    refine ⟨[.arr [n.cells] none false, .arr [placeCells a b c] none false], ?_⟩
    simp only [go_sem, ↓reduceIte, Nat.reduceEqDiff, Nat.reduceBEq, Nat.reduceAdd, Nat.reduceMul, Nat.reduceSub, Nat.reduceLT, Nat.reduceLeDiff, reduceCtorEq, Int.reduceToNat, Int.reduceLE, Int.reduceLT, Int.reduceEq, hnm']
  have hnm' : n.name.toList = (⟨#[]⟩ : ByteArray).toList := by simpa [noName] using hnm
  by_cases hl : 2 ≤ n.kids.length
  case neg =>
    have hl' : (n.kids.length : Int) < 2 := by omega
    refine ⟨[.arr [n.cells] none false, .arr [placeCells a b c] none false], ?_⟩
    simp only [go_sem, ↓reduceIte, Nat.reduceEqDiff, Nat.reduceBEq, Nat.reduceAdd, Nat.reduceMul, Nat.reduceSub, Nat.reduceLT, Nat.reduceLeDiff, reduceCtorEq, Int.reduceToNat, Int.reduceLE, Int.reduceLT, Int.reduceEq, hnm', hl', hl, decide_false, Bool.and_false, Bool.false_and]
  · have hl' : ¬ (n.kids.length : Int) < 2 := by omega
    obtain ⟨last, hlast⟩ : ∃ last, last + 1 = n.kids.length := ⟨n.kids.length - 1, by omega⟩
    have hlast' : n.kids.length - 1 = last := by omega
    have hw : IntKind.i64.wrap ((n.kids.length : Int) - 1) = (last : Int) := by
      have := maxLen_le
      have := hn.len
      rw [IntKind.wrap_i64]; omega
    obtain ⟨Sr, h7⟩ := after64B n hn a b true (List.replicate last 4 ++ [2]) (some (some 1)) (fun _ ho => by omega) (fun k hk => ih k hk a b true) [.arr [[.int .i64 2]] (some (some 1)) false] rfl
    have e3 : (List.replicate last (4 : Int) ++ [2]).length = last + 1 := by simp
    have e4 : intRows (List.replicate last 4 ++ [2]) = fours last ++ [[.int .i64 2]] := by rw [intRows_append]; rfl
    rw [e3, e4] at h7
    obtain ⟨S2, h8⟩ := loop3 n hn hlen a b c last hlast _ Sr h7 last 0 (by omega) none (.inl rfl)
    have e5 : fours 0 = [] := rfl
    simp only [Int.natCast_zero, e5] at h8
    refine ⟨S2, ?_⟩
    have e6 : flowOK n.kids = flowFrom n.kids last last 0 := by unfold flowOK; rw [hlast']
    rw [hlast', e3, e6]
    simp only [kidsV, show kidSorts 54 = [] from rfl, List.isEmpty_nil, go_sem, ↓reduceIte, Nat.reduceEqDiff, Nat.reduceBEq, Nat.reduceAdd, Nat.reduceMul, Nat.reduceSub, Nat.reduceLT, Nat.reduceLeDiff, reduceCtorEq, Int.reduceToNat, Int.reduceLE, Int.reduceLT, Int.reduceEq, hnm', hl', hl, hw, h8, decide_true]
    rw [h]
theorem switch64 (n : Node) (hn : n.ok) (hlen : n.kids.length ≤ 100000) (a b c : Bool) (ih : Kids64 n) :
    ∃ S', F64.k108 0 .normal (F64.ee14 (.mp 0 0 0) (.mp 1 0 0) (kidsV (kidSorts n.op)) (.int .i64 n.op)) [.arr [n.cells] none false, .arr [placeCells a b c] none false] = some (.bool (n.rest a b c), S') := by
  by_cases h1 : n.op = 10 ∨ n.op = 37
  · exact switch_fun n hn a b c ih h1
  by_cases h2 : n.op = 54
  · exact switch_flow n hn hlen a b c ih h2
  by_cases h3 : n.op = 3
  · exact switch_prime n hn a b c ih h3
  by_cases h4 : n.op = 12
  · exact switch_diff n hn a b c ih h4
  by_cases h5 : n.op = 39
  · exact switch_fdiff n hn a b c ih h5
  · exact switch_else n hn a b c ih ⟨fun h => h1 (.inl h), fun h => h1 (.inr h), h2, h3, h4, h5⟩
theorem counts_le : ∀ (l : List Node), ∀ k ∈ l, k.count ≤ Node.counts l
  | [], k, h => by cases h
  | n :: r, k, h => by
    simp only [Node.counts]
    rcases List.mem_cons.1 h with rfl | h
    · omega
    · have := counts_le r k h; omega
theorem count_pos (n : Node) : 1 ≤ n.count := by cases n; simp [Node.count]
theorem counts_len : ∀ (l : List Node), l.length ≤ Node.counts l
  | [] => by simp
  | n :: r => by
    have := counts_len r
    have := count_pos n
    simp only [Node.counts, List.length_cons]; omega
theorem count_kids (n : Node) : n.count = Node.counts n.kids + 1 := by cases n; rfl
@[go_sem] theorem callO84x (S : Store) (neg : Bool) (num den : List Int) : callO (callL Try.prog hints) S 84 [.agg [.bool neg, .sl (wordRows num) false, .sl (wordRows den) false]] = some { v := .bool (natOK neg num den) } := callO84 S neg num den
/-- Behind the head: the name. -/
theorem name64 (n : Node) (hn : n.ok) (hlen : n.kids.length ≤ 100000) (a b c : Bool) (ih : Kids64 n) :
    ∃ S', ∀ (x21 x38 : PV), F64.k364 0 .normal (F64.ee30 (.mp 0 0 0) (.mp 1 0 0) x21 x38) [.arr [n.cells] none false, .arr [placeCells a b c] none false] = some (.bool (!((hasName n.op && !nameOK n.name) || (!hasName n.op && (!noName n.name && (decide (n.op ≠ 10) && decide (n.op ≠ 37))))) && n.rest a b c), S') := by
  obtain ⟨S', h⟩ := switch64 n hn hlen a b c ih
  cases hh : hasName n.op
  · cases hm : noName n.name
    · have hm' : ¬ n.name.toList = (⟨#[]⟩ : ByteArray).toList := by simpa [noName] using hm
      by_cases h10 : n.op = 10
      · refine ⟨S', fun x21 x38 => ?_⟩
        rw [h10] at h hh ⊢
        simp only [go_sem, ↓reduceIte, Nat.reduceEqDiff, Nat.reduceBEq, Nat.reduceAdd, Nat.reduceMul, Nat.reduceSub, Nat.reduceLT, Nat.reduceLeDiff, reduceCtorEq, Int.reduceToNat, Int.reduceLE, Int.reduceLT, Int.reduceEq, h10, hh, hm', ↓h] <;> rfl
      by_cases h37 : n.op = 37
      · refine ⟨S', fun x21 x38 => ?_⟩
        rw [h37] at h hh ⊢
        simp only [go_sem, ↓reduceIte, Nat.reduceEqDiff, Nat.reduceBEq, Nat.reduceAdd, Nat.reduceMul, Nat.reduceSub, Nat.reduceLT, Nat.reduceLeDiff, reduceCtorEq, Int.reduceToNat, Int.reduceLE, Int.reduceLT, Int.reduceEq, h37, hh, hm', ↓h] <;> rfl
      · refine ⟨[.arr [n.cells] none false, .arr [placeCells a b c] none false], fun x21 x38 => ?_⟩
        simp only [go_sem, ↓reduceIte, Nat.reduceEqDiff, Nat.reduceBEq, Nat.reduceAdd, Nat.reduceMul, Nat.reduceSub, Nat.reduceLT, Nat.reduceLeDiff, reduceCtorEq, Int.reduceToNat, Int.reduceLE, Int.reduceLT, Int.reduceEq, hh, hm', h10, h37]
        simp [h10, h37]
    · have hm' : n.name.toList = (⟨#[]⟩ : ByteArray).toList := by simpa [noName] using hm
      refine ⟨S', fun x21 x38 => ?_⟩
      simp only [go_sem, ↓reduceIte, Nat.reduceEqDiff, Nat.reduceBEq, Nat.reduceAdd, Nat.reduceMul, Nat.reduceSub, Nat.reduceLT, Nat.reduceLeDiff, reduceCtorEq, Int.reduceToNat, Int.reduceLE, Int.reduceLT, Int.reduceEq, hh, hm', ↓h] <;> rfl
  · cases hm : nameOK n.name
    · refine ⟨[.arr [n.cells] none false, .arr [placeCells a b c] none false], fun x21 x38 => ?_⟩
      simp only [go_sem, ↓reduceIte, Nat.reduceEqDiff, Nat.reduceBEq, Nat.reduceAdd, Nat.reduceMul, Nat.reduceSub, Nat.reduceLT, Nat.reduceLeDiff, reduceCtorEq, Int.reduceToNat, Int.reduceLE, Int.reduceLT, Int.reduceEq, hh, hm] <;> rfl
    · refine ⟨S', fun x21 x38 => ?_⟩
      simp only [go_sem, ↓reduceIte, Nat.reduceEqDiff, Nat.reduceBEq, Nat.reduceAdd, Nat.reduceMul, Nat.reduceSub, Nat.reduceLT, Nat.reduceLeDiff, reduceCtorEq, Int.reduceToNat, Int.reduceLE, Int.reduceLT, Int.reduceEq, hh, hm, ↓h] <;> rfl
theorem call64 : ∀ n : Node, n.ok → n.count ≤ 100000 → ∀ a b c, callL Try.prog hints 64 [.agg n.cells, .agg (placeCells a b c)] = some (.bool (n.formed a b c)) := by
  refine Node.ind' fun n ih0 hn hc a b c => ?_
  have hck := count_kids n
  have ih : Kids64 n := fun k hk => ih0 k hk (hn.kids k hk) (by have := counts_le _ k hk; omega)
  have hlen : n.kids.length ≤ 100000 := by have := counts_len n.kids; omega
  obtain ⟨S', h⟩ := name64 n hn hlen a b c ih
  have e : n.formed a b c = ((if n.op = 1 then natOK n.neg n.num n.den else (!n.neg && (decide (n.num.length = 0) && decide (n.den.length = 0)))) && (!((hasName n.op && !nameOK n.name) || (!hasName n.op && (!noName n.name && (decide (n.op ≠ 10) && decide (n.op ≠ 37))))) && n.rest a b c)) := by
    rw [Node.formed_eq]
    simp only [headOK, Node.rest, Bool.and_assoc]
  have key : ∃ S0, F64.E 0 (.agg n.cells) (.agg (placeCells a b c)) [] = some (.bool (n.formed a b c), S0) := by
    rw [e]
    by_cases h1 : n.op = 1
    · rw [if_pos h1]
      cases hnat : natOK n.neg n.num n.den
      · refine ⟨[.arr [n.cells] none false, .arr [placeCells a b c] none false], ?_⟩
        simp only [go_sem, ↓reduceIte, Nat.reduceEqDiff, Nat.reduceBEq, Nat.reduceAdd, Nat.reduceMul, Nat.reduceSub, Nat.reduceLT, Nat.reduceLeDiff, reduceCtorEq, Int.reduceToNat, Int.reduceLE, Int.reduceLT, Int.reduceEq, h1, hnat] <;> rfl
      · refine ⟨S', ?_⟩
        rw [h1] at h ⊢
        simp only [go_sem, ↓reduceIte, Nat.reduceEqDiff, Nat.reduceBEq, Nat.reduceAdd, Nat.reduceMul, Nat.reduceSub, Nat.reduceLT, Nat.reduceLeDiff, reduceCtorEq, Int.reduceToNat, Int.reduceLE, Int.reduceLT, Int.reduceEq, h1, hnat, ↓h] <;> rfl
    · rw [if_neg h1]
      cases hneg : n.neg
      · by_cases hnum : n.num.length = 0
        · have hnum' : ¬ 0 < (n.num.length : Int) := by omega
          by_cases hden : n.den.length = 0
          · have hden' : ¬ 0 < (n.den.length : Int) := by omega
            refine ⟨S', ?_⟩
            simp only [go_sem, ↓reduceIte, Nat.reduceEqDiff, Nat.reduceBEq, Nat.reduceAdd, Nat.reduceMul, Nat.reduceSub, Nat.reduceLT, Nat.reduceLeDiff, reduceCtorEq, Int.reduceToNat, Int.reduceLE, Int.reduceLT, Int.reduceEq, h1, hneg, hnum', hden', ↓h]
            simp [hnum, hden]
          · have hden' : 0 < (n.den.length : Int) := by omega
            refine ⟨[.arr [n.cells] none false, .arr [placeCells a b c] none false], ?_⟩
            simp only [go_sem, ↓reduceIte, Nat.reduceEqDiff, Nat.reduceBEq, Nat.reduceAdd, Nat.reduceMul, Nat.reduceSub, Nat.reduceLT, Nat.reduceLeDiff, reduceCtorEq, Int.reduceToNat, Int.reduceLE, Int.reduceLT, Int.reduceEq, h1, hneg, hnum', hden']
            simp [hden]
        · have hnum' : 0 < (n.num.length : Int) := by omega
          refine ⟨[.arr [n.cells] none false, .arr [placeCells a b c] none false], ?_⟩
          simp only [go_sem, ↓reduceIte, Nat.reduceEqDiff, Nat.reduceBEq, Nat.reduceAdd, Nat.reduceMul, Nat.reduceSub, Nat.reduceLT, Nat.reduceLeDiff, reduceCtorEq, Int.reduceToNat, Int.reduceLE, Int.reduceLT, Int.reduceEq, h1, hneg, hnum']
          simp [hnum]
      · refine ⟨[.arr [n.cells] none false, .arr [placeCells a b c] none false], ?_⟩
        simp only [go_sem, ↓reduceIte, Nat.reduceEqDiff, Nat.reduceBEq, Nat.reduceAdd, Nat.reduceMul, Nat.reduceSub, Nat.reduceLT, Nat.reduceLeDiff, reduceCtorEq, Int.reduceToNat, Int.reduceLE, Int.reduceLT, Int.reduceEq, h1, hneg] <;> rfl
  obtain ⟨S0, hE⟩ := key
  exact F64.call hE rfl
end Go.Vs
end
/- tree.Check: what it returns. -/
section
set_option linter.unusedVariables false
set_option linter.unusedSimpArgs false
namespace Go.Vs
open Go Go.Proofs
def Node.small (n : Node) : Bool := decide (n.count ≤ 4000) && decide (n.depth ≤ 60)
def Node.check (n : Node) (sort : Int) : Int :=
  if sort < 1 ∨ 3 < sort then 1 else if n.small = false then 2 else if sortOf n.op ≠ sort then 80 else if n.formed false false false = false then 3 else 0
theorem call36 (n : Node) (hn : n.ok) (sort : Int) : callL Try.prog hints 36 [.agg n.cells, .int .i64 sort] = some (.int .i64 (n.check sort)) := by
  obtain ⟨G, hG⟩ := call63 n hn 60 4000 (by omega) (by omega) [n.cells] [] ⟨by simp [rowsRefs, Node.refs], rfl⟩
  have hw := within_iff n 4000 60 (by omega) (by omega)
  have hs : (n.within 4000 60).1 = n.small := by
    cases h : (n.within 4000 60).1
    · have := hw.1
      rw [h] at this
      cases h2 : n.small
      · rfl
      · exfalso
        simp only [Node.small, Bool.and_eq_true, decide_eq_true_eq] at h2
        have := this.2 (by omega)
        cases this
    · have := hw.1.1 h
      simp only [Node.small]
      rw [decide_eq_true (show n.count ≤ 4000 by omega), decide_eq_true (show n.depth ≤ 60 by omega)]
      rfl
  have hc := (show callE (F36.C 0) _ 63 _ = _ from callE_eq (b := 0) (h := F36.hint) (by rfl) hG (by simp))
  rw [hs] at hc
  have key : ∃ S0, F36.E 0 (.agg n.cells) (.int .i64 sort) [] = some (.int .i64 (n.check sort), S0) := by
    unfold Node.check
    by_cases h1 : sort < 1
    · refine ⟨[.arr [n.cells] none false], ?_⟩
      rw [if_pos (.inl h1)]
      simp only [go_sem, ↓reduceIte, Nat.reduceEqDiff, Nat.reduceBEq, Nat.reduceAdd, Nat.reduceMul, Nat.reduceSub, Nat.reduceLT, Nat.reduceLeDiff, reduceCtorEq, Int.reduceToNat, Int.reduceLE, Int.reduceLT, Int.reduceEq, h1]
    by_cases h2 : 3 < sort
    · refine ⟨[.arr [n.cells] none false], ?_⟩
      rw [if_pos (.inr h2)]
      simp only [go_sem, ↓reduceIte, Nat.reduceEqDiff, Nat.reduceBEq, Nat.reduceAdd, Nat.reduceMul, Nat.reduceSub, Nat.reduceLT, Nat.reduceLeDiff, reduceCtorEq, Int.reduceToNat, Int.reduceLE, Int.reduceLT, Int.reduceEq, h1, h2]
    rw [if_neg (by omega)]
    cases hsm : n.small
    · rw [hsm] at hc
      refine ⟨.arr [n.cells] none false :: .arr [[.int .i64 (n.within 4000 60).2]] none false :: ([] ++ G), ?_⟩
      rw [if_pos rfl]
      simp only [go_sem, ↓reduceIte, Nat.reduceEqDiff, Nat.reduceBEq, Nat.reduceAdd, Nat.reduceMul, Nat.reduceSub, Nat.reduceLT, Nat.reduceLeDiff, reduceCtorEq, Int.reduceToNat, Int.reduceLE, Int.reduceLT, Int.reduceEq, h1, h2, hc]
    · rw [hsm] at hc
      have hcount : n.count ≤ 4000 := by
        simp only [Node.small, Bool.and_eq_true, decide_eq_true_eq] at hsm
        exact hsm.1
      have hf := fun S => callFormed S (call64 n hn (by omega) false false false)
      refine ⟨.arr [n.cells] none false :: .arr [[.int .i64 (n.within 4000 60).2]] none false :: ([] ++ G), ?_⟩
      rw [if_neg (by simp)]
      by_cases h3 : sortOf n.op = sort
      · rw [if_neg (by simpa using h3)]
        cases hfm : n.formed false false false
        · rw [hfm] at hf
          rw [if_pos rfl]
          simp only [go_sem, ↓reduceIte, Nat.reduceEqDiff, Nat.reduceBEq, Nat.reduceAdd, Nat.reduceMul, Nat.reduceSub, Nat.reduceLT, Nat.reduceLeDiff, reduceCtorEq, Int.reduceToNat, Int.reduceLE, Int.reduceLT, Int.reduceEq, h1, h2, hc, h3, hf]
        · rw [hfm] at hf
          rw [if_neg (by simp)]
          simp only [go_sem, ↓reduceIte, Nat.reduceEqDiff, Nat.reduceBEq, Nat.reduceAdd, Nat.reduceMul, Nat.reduceSub, Nat.reduceLT, Nat.reduceLeDiff, reduceCtorEq, Int.reduceToNat, Int.reduceLE, Int.reduceLT, Int.reduceEq, h1, h2, hc, h3, hf]
      · rw [if_pos h3]
        simp only [go_sem, ↓reduceIte, Nat.reduceEqDiff, Nat.reduceBEq, Nat.reduceAdd, Nat.reduceMul, Nat.reduceSub, Nat.reduceLT, Nat.reduceLeDiff, reduceCtorEq, Int.reduceToNat, Int.reduceLE, Int.reduceLT, Int.reduceEq, h1, h2, hc, h3]
  obtain ⟨S0, hE⟩ := key
  exact F36.call hE rfl
end Go.Vs
end
/- Printed by a program of mine (stage1.py): the functions 52, 54, piece by piece. -/
section
set_option linter.unusedVariables false
set_option linter.unusedSimpArgs false
namespace Go.Vs
open Go Go.Proofs
noncomputable section

/-! ### tree.At -/
namespace F52
section
variable (b : Nat) (K : KT) (x0 x1 x2 x4 x5 x6 x7 x8 x12 x22 : PV) (e : Env) (S : Store)
end
end F52
/-! ### tree.Replace -/
namespace F54
section
variable (b : Nat) (K : KT) (x0 x1 x2 x3 x5 x6 x7 x8 x9 x10 x11 x12 x13 x17 x27 x41 x45 x57 : PV) (e : Env) (S : Store)
end
end F54
end
end Go.Vs
end
/- tree.root, step, At: what they return. -/
section
set_option linter.unusedVariables false
set_option linter.unusedSimpArgs false
namespace Go.Vs
open Go Go.Proofs
/-- The first error of the functions over whole trees. -/
def Node.rootErr (n : Node) : Int := if sortOf n.op = 0 ∨ sortOf n.op = 4 then 80 else n.check (sortOf n.op)
theorem call72 (n : Node) (hn : n.ok) : callL Try.prog hints 72 [.agg n.cells] = some (.int .i64 n.rootErr) := by
  refine F72.call (r := (.int .i64 n.rootErr, [.arr [n.cells] none false])) ?_ rfl
  have h1 := fun S s => callO_plain (S := S) (call36 n hn s) (by simp [Node.plain, Plain.int])
  unfold Node.rootErr
  by_cases h0 : sortOf n.op = 0
  · simp only [go_sem, ↓reduceIte, Nat.reduceEqDiff, Nat.reduceBEq, Nat.reduceAdd, Nat.reduceMul, Nat.reduceSub, Nat.reduceLT, Nat.reduceLeDiff, reduceCtorEq, Int.reduceToNat, Int.reduceLE, Int.reduceLT, Int.reduceEq, h0, true_or]
  by_cases h4 : sortOf n.op = 4
  · simp only [go_sem, ↓reduceIte, Nat.reduceEqDiff, Nat.reduceBEq, Nat.reduceAdd, Nat.reduceMul, Nat.reduceSub, Nat.reduceLT, Nat.reduceLeDiff, reduceCtorEq, Int.reduceToNat, Int.reduceLE, Int.reduceLT, Int.reduceEq, h4, or_true]
  · simp only [go_sem, ↓reduceIte, Nat.reduceEqDiff, Nat.reduceBEq, Nat.reduceAdd, Nat.reduceMul, Nat.reduceSub, Nat.reduceLT, Nat.reduceLeDiff, reduceCtorEq, Int.reduceToNat, Int.reduceLE, Int.reduceLT, Int.reduceEq, h0, h4, h1, or_self]
/-- The node at a place. -/
def Node.at : List Int → Node → Option Node
  | [], n => some n
  | p :: ps, n => if p < 0 ∨ (n.kids.length : Int) ≤ p then none else Node.at ps (n.kids.getD p.toNat default)
end Go.Vs
end
/- tree.within, with the number anywhere in the store. -/
section
set_option linter.unusedVariables false
set_option linter.unusedSimpArgs false
namespace Go.Vs
open Go Go.Proofs
end Go.Vs
end
/- tree.Replace: what it returns. -/
section
set_option linter.unusedVariables false
set_option linter.unusedSimpArgs false
namespace Go.Vs
open Go Go.Proofs
end Go.Vs
end
/- The order of trees: antisymmetric, transitive. -/
section
set_option linter.unusedVariables false
set_option linter.unusedSimpArgs false
namespace Go.Vs
open Go Go.Proofs
/-- Three comparisons, of a with b, b with c, a with c, go together. -/
def Tri (x y z : Int) : Prop := (0 < x ∨ 0 < y ∨ (z ≤ 0 ∧ (z ≠ 0 ∨ (x = 0 ∧ y = 0)))) ∧ (x < 0 ∨ y < 0 ∨ (0 ≤ z ∧ (z ≠ 0 ∨ (x = 0 ∧ y = 0))))
theorem Tri.seq {x y z x' y' z' : Int} (h : Tri x y z) (k : x = 0 → y = 0 → z = 0 → Tri x' y' z') : Tri (seqI x x') (seqI y y') (seqI z z') := by
  unfold Tri at *
  have e : ∀ u v : Int, (u = 0 ∧ seqI u v = v) ∨ (u ≠ 0 ∧ seqI u v = u) := fun u v => by
    by_cases hu : u = 0
    · left; simp [seqI, hu]
    · right; simp [seqI, hu]
  rcases e x x' with ⟨h1, e1⟩ | ⟨h1, e1⟩ <;> rcases e y y' with ⟨h2, e2⟩ | ⟨h2, e2⟩ <;> rcases e z z' with ⟨h3, e3⟩ | ⟨h3, e3⟩ <;> rw [e1, e2, e3]
  · exact k h1 h2 h3
  all_goals (clear k; omega)
/-- The results are -1, 0, 1. -/
def Small (x : Int) : Prop := -1 ≤ x ∧ x ≤ 1
theorem Small.seq {x y : Int} (h : Small x) (k : Small y) : Small (seqI x y) := by unfold seqI; split <;> assumption
end Go.Vs
end
/- Places in trees: plain laws. -/
section
set_option linter.unusedVariables false
set_option linter.unusedSimpArgs false
namespace Go.Vs
open Go Go.Proofs
theorem depths_get : ∀ {l : List Node} {i : Nat}, i < l.length → (l.getD i default).depth ≤ Node.depths l
  | x :: l, 0, h => by simp only [List.getD_cons_zero, Node.depths]; omega
  | x :: l, i + 1, h => by
    have := depths_get (l := l) (i := i) (by simpa using h)
    simp only [List.getD_cons_succ, Node.depths]; omega
theorem Node.count_eq (n : Node) : n.count = Node.counts n.kids + 1 := by cases n; rfl
theorem Node.depth_eq (n : Node) : n.depth = Node.depths n.kids + 1 := by cases n; rfl
/-! ### A well formed tree's nodes have sorts -/
end Go.Vs
end
