/- Rules for stores of known arrays. -/
import Derived.Test.YtnddhkcciphhkaaVs43
set_option linter.unusedVariables false
set_option linter.unusedSimpArgs false
namespace Go.Vs
open Go Go.Proofs
attribute [go_sem] List.all_cons List.all_nil Bool.and_self Bool.and_true Bool.true_and Bool.and_false Bool.false_and decide_true decide_false List.take_succ_cons List.take_zero List.take_nil List.drop_nil List.append_nil List.set_cons_zero List.set_cons_succ ge_iff_le
@[go_sem] theorem pvcells_agg (l : List PV) : PV.cells (.agg l) = l := nr rfl
@[go_sem] theorem pvcells_int (k : IntKind) (n : Int) : PV.cells (.int k n) = [.int k n] := nr rfl
@[go_sem] theorem pvcells_bool (b : Bool) : PV.cells (.bool b) = [.bool b] := nr rfl
@[go_sem] theorem pvcells_str (b : ByteArray) : PV.cells (.str b) = [.str b] := nr rfl
@[go_sem] theorem pvcells_sl (r : List (List PV)) (ex : Bool) : PV.cells (.sl r ex) = [.sl r ex] := nr rfl
@[go_sem] theorem pvcells_msl (a b c : Nat) (ex : Bool) : PV.cells (.msl a b c ex) = [.msl a b c ex] := nr rfl
@[go_sem] theorem pvcells_mp (a b c : Nat) : PV.cells (.mp a b c) = [.mp a b c] := nr rfl
@[go_sem] theorem cell_int (k : IntKind) (n : Int) : PV.cell (.int k n) = true := nr rfl
@[go_sem] theorem cell_bool (b : Bool) : PV.cell (.bool b) = true := nr rfl
@[go_sem] theorem cell_str (b : ByteArray) : PV.cell (.str b) = true := nr rfl
@[go_sem] theorem cell_sl (r : List (List PV)) (ex : Bool) : PV.cell (.sl r ex) = true := nr rfl
@[go_sem] theorem cell_msl (a b c : Nat) (ex : Bool) : PV.cell (.msl a b c ex) = true := nr rfl
@[go_sem] theorem cell_mp (a b c : Nat) : PV.cell (.mp a b c) = true := nr rfl
@[go_sem] theorem refs_undef : PV.refs .undef = [] := nr rfl
@[go_sem] theorem refs_skip : PV.refs .skip = [] := nr rfl
@[go_sem] theorem refs_int (k : IntKind) (n : Int) : PV.refs (.int k n) = [] := nr rfl
@[go_sem] theorem refs_bool (b : Bool) : PV.refs (.bool b) = [] := nr rfl
@[go_sem] theorem refs_str (b : ByteArray) : PV.refs (.str b) = [] := nr rfl
@[go_sem] theorem refs_sl (r : List (List PV)) (ex : Bool) : PV.refs (.sl r ex) = [] := nr rfl
@[go_sem] theorem refs_cp (r : List PV) : PV.refs (.cp r) = [] := nr rfl
@[go_sem] theorem refs_agg (l : List PV) : PV.refs (.agg l) = refsL l := nr rfl
@[go_sem] theorem refs_tup (l : List PV) : PV.refs (.tup l) = refsL l := nr rfl
@[go_sem] theorem refs_msl (a b c : Nat) (ex : Bool) : PV.refs (.msl a b c ex) = [a] := nr rfl
@[go_sem] theorem refs_mp (a b c : Nat) : PV.refs (.mp a b c) = [a] := nr rfl
@[go_sem] theorem refsL_nil : refsL [] = [] := nr rfl
@[go_sem] theorem refsL_cons (v : PV) (r : List PV) : refsL (v :: r) = v.refs ++ refsL r := nr rfl
@[go_sem] theorem rowsRefs_nil : rowsRefs [] = [] := nr rfl
@[go_sem] theorem rowsRefs_cons (v : List PV) (r : List (List PV)) : rowsRefs (v :: r) = refsL v ++ rowsRefs r := nr rfl
@[go_sem] theorem zeroNode_length : zeroNode.length = 6 := nr rfl
@[go_sem] theorem zeroNode_refs : refsL zeroNode = [] := nr rfl
/-- Does all that is seen lie below a number? -/
def seenBelow (n : Nat) : Env → Bool
  | [] => true
  | (_, v) :: r => (v.refs.all fun i => decide (i < n)) && seenBelow n r
def heldBelow (n : Nat) : Nat → Store → Bool
  | 0, _ => true
  | _, [] => true
  | m + 1, .arr rows _ _ :: r => ((rowsRefs rows).all fun i => decide (i < n)) && heldBelow n m r
  | m + 1, .gone :: r => heldBelow n m r
theorem seenBelow_eq (n : Nat) : ∀ e : Env, (e.all fun (_, v) => v.refs.all fun i => decide (i < n)) = seenBelow n e
  | [] => rfl
  | (_, v) :: r => by simp only [List.all_cons, seenBelow, seenBelow_eq n r]
theorem heldBelow_eq (n : Nat) : ∀ (m : Nat) (S : Store), ((S.take m).all fun | .arr rows _ _ => (rowsRefs rows).all fun i => decide (i < n) | .gone => true) = heldBelow n m S
  | 0, S => by simp [heldBelow]
  | m + 1, [] => by simp [heldBelow]
  | m + 1, .arr rows g f :: r => by simp only [List.take_succ_cons, List.all_cons, heldBelow, heldBelow_eq n m r]
  | m + 1, .gone :: r => by simp only [List.take_succ_cons, List.all_cons, heldBelow, heldBelow_eq n m r, Bool.true_and]
@[go_sem] theorem gc_eq (n : Nat) (k : Nat) (v : PV) (e : Env) (o : Obj) (S : Store) : gc n ((k, v) :: e) (o :: S) = if seenBelow n ((k, v) :: e) = true ∧ heldBelow n n (o :: S) = true then (o :: S).take n else o :: S := by
  rw [← seenBelow_eq, ← heldBelow_eq]
  rfl
@[go_sem] theorem seenBelow_nil (n : Nat) : seenBelow n [] = true := nr rfl
@[go_sem] theorem seenBelow_cons (n k : Nat) (v : PV) (r : Env) : seenBelow n ((k, v) :: r) = ((v.refs.all fun i => decide (i < n)) && seenBelow n r) := nr rfl
@[go_sem] theorem heldBelow_zero (n : Nat) (S : Store) : heldBelow n 0 S = true := nr (by cases S <;> rfl)
@[go_sem] theorem heldBelow_nil (n m : Nat) : heldBelow n m [] = true := nr (by cases m <;> rfl)
@[go_sem] theorem heldBelow_cons (n m : Nat) (rows : List (List PV)) (g : Option (Option Nat)) (f : Bool) (r : Store) : heldBelow n (m + 1) (.arr rows g f :: r) = (((rowsRefs rows).all fun i => decide (i < n)) && heldBelow n m r) := nr rfl
@[go_sem] theorem heldBelow_gone (n m : Nat) (r : Store) : heldBelow n (m + 1) (.gone :: r) = heldBelow n m r := nr rfl
@[go_sem] theorem storeE_eq (ti : TI) (S : Store) (a v : PV) : storeE ti S a v = if ti.known = true then (evStore ti.size S a v).map fun S => { v := .skip, S } else none := nr rfl
@[go_sem] theorem evStore_zero (n : Nat) (rows : List (List PV)) (g : Option (Option Nat)) (S : Store) (i off : Nat) (v : PV) : evStore n (.arr rows g false :: S) (.mp 0 i off) v =
    if i < rows.length ∧ off + n ≤ (rows.getD i []).length ∧ v.cells.length = n ∧ v.cells.all PV.cell = true then some (.arr (rows.set i (splice (rows.getD i []) off v.cells)) g false :: S) else none := nr rfl
@[go_sem] theorem evStore_succ (n : Nat) (o : Obj) (S : Store) (id i off : Nat) (v : PV) : evStore n (o :: S) (.mp (id + 1) i off) v = (evStore n S (.mp id i off) v).map fun S => o :: S := by
  simp only [evStore, List.getElem?_cons_succ]
  cases h : S[id]? with
  | none => rfl
  | some q =>
    cases q with
    | gone => rfl
    | arr rows g f =>
      cases f with
      | true => rfl
      | false =>
        simp only
        split <;> simp
@[go_sem] theorem splice_if (row : List PV) (off : Nat) (cs : List PV) : splice row off cs = if off = 0 ∧ cs.length = row.length then cs else row.take off ++ cs ++ row.drop (off + cs.length) := nr rfl
@[go_sem] theorem killE_nil' (e : Env) : killE [] e = e := nr rfl
@[go_sem] theorem len_nil : List.length ([] : Store) = 0 := nr rfl
attribute [go_sem] Nat.le_refl
end Go.Vs
