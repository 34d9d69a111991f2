/- The reference's whole, at, At, Put, Replace: what they return; TreePlaces gives true. -/

import Derived.Test.YtnddhkcciphhkaaMP12
import Derived.Test.YtnddhkcciphhkaaMP21
import Derived.Test.YtnddhkcciphhkaaMP25
import Derived.Test.YtnddhkcciphhkaaMP26
import Derived.Test.YtnddhkcciphhkaaMP27
section
set_option linter.unusedVariables false
set_option linter.unusedSimpArgs false
namespace Go.Vs
open Go Go.Proofs
theorem call75 (n : Node) (hn : n.ok) (hc : n.count ≤ 1000000000) : callL Try.prog hints 75 [.agg n.cells] = some (.int .i64 n.rootErr) := by
  refine F75.call (r := (.int .i64 n.rootErr, [.arr [n.cells] none false])) ?_ rfl
  have h1 := fun S s => callO_plain (S := S) (call37 n hn s) (by simp [Node.plain, Plain.int])
  simp only [check_same n hn hc] at h1
  unfold Node.rootErr
  by_cases h0 : sortOf n.op = 0
  · simp only [go_sem, ↓reduceIte, Nat.reduceEqDiff, Nat.reduceBEq, Nat.reduceAdd, Nat.reduceMul, Nat.reduceSub, Nat.reduceLT, Nat.reduceLeDiff, reduceCtorEq, Int.reduceToNat, Int.reduceLE, Int.reduceLT, Int.reduceEq, h0, true_or]
  by_cases h4 : sortOf n.op = 4
  · simp only [go_sem, ↓reduceIte, Nat.reduceEqDiff, Nat.reduceBEq, Nat.reduceAdd, Nat.reduceMul, Nat.reduceSub, Nat.reduceLT, Nat.reduceLeDiff, reduceCtorEq, Int.reduceToNat, Int.reduceLE, Int.reduceLT, Int.reduceEq, h4, or_true]
  · simp only [go_sem, ↓reduceIte, Nat.reduceEqDiff, Nat.reduceBEq, Nat.reduceAdd, Nat.reduceMul, Nat.reduceSub, Nat.reduceLT, Nat.reduceLeDiff, reduceCtorEq, Int.reduceToNat, Int.reduceLE, Int.reduceLT, Int.reduceEq, h0, h4, h1, or_self]
theorem loop80 (path : List Int) (hp : path.length ≤ maxLen) : ∀ (m i : Nat), i + m = path.length → ∀ n : Node, n.ok →
    ∃ S', F80.L0 0 2 (.sl (intRows path) false) (.mp 0 0 0) (.mp 1 0 0) (.int .i64 i) [.arr [n.cells] none false, .arr [zeroNode] none false] =
      some (.tup [.agg (atCells (Node.at (path.drop i) n)), .bool (Node.at (path.drop i) n).isSome], S') := by
  intro m
  induction m with
  | zero =>
    intro i hi n hn
    have h1 : ¬ (i : Int) < (path.length : Int) := by omega
    refine ⟨[.arr [n.cells] none false, .arr [n.cells] none false], F80.L0_step ?_⟩
    rw [List.drop_of_length_le (by omega)]
    simp only [go_sem, ↓reduceIte, Nat.reduceEqDiff, Nat.reduceBEq, Nat.reduceAdd, Nat.reduceMul, Nat.reduceSub, Nat.reduceLT, Nat.reduceLeDiff, reduceCtorEq, Int.reduceToNat, Int.reduceLE, Int.reduceLT, Int.reduceEq, h1]
    rfl
  | succ m hm =>
    intro i hi n hn
    have h1 : (i : Int) < (path.length : Int) := by omega
    have h2 := wrap_succ (i := i) (n := path.length) (by omega) hp
    have h4 : 0 ≤ (i : Int) ∧ (i : Int) < (path.length : Int) := ⟨by omega, h1⟩
    have e1 : path.drop i = path.getD i 0 :: path.drop (i + 1) := by
      rw [List.drop_eq_getElem_cons (by omega)]
      simp [List.getD_eq_getElem?_getD, show i < path.length by omega]
    have e3 : Int.toNat (i : Int) = i := by omega
    rw [e1]
    generalize hq : path.getD i 0 = q
    simp only [Node.at]
    by_cases h5 : q < 0
    · refine ⟨[.arr [n.cells] none false, .arr [zeroNode] none false], F80.L0_step ?_⟩
      simp only [go_sem, ↓reduceIte, Nat.reduceEqDiff, Nat.reduceBEq, Nat.reduceAdd, Nat.reduceMul, Nat.reduceSub, Nat.reduceLT, Nat.reduceLeDiff, reduceCtorEq, Int.reduceToNat, Int.reduceLE, Int.reduceLT, Int.reduceEq, h1, h4, hq, h5, e3, true_or]
      rfl
    by_cases h6 : (n.kids.length : Int) ≤ q
    · refine ⟨[.arr [n.cells] none false, .arr [zeroNode] none false], F80.L0_step ?_⟩
      simp only [go_sem, ↓reduceIte, Nat.reduceEqDiff, Nat.reduceBEq, Nat.reduceAdd, Nat.reduceMul, Nat.reduceSub, Nat.reduceLT, Nat.reduceLeDiff, reduceCtorEq, Int.reduceToNat, Int.reduceLE, Int.reduceLT, Int.reduceEq, h1, h4, hq, h5, h6, e3, or_true]
      rfl
    · obtain ⟨S', h7⟩ := hm (i + 1) (by omega) (n.kids.getD q.toNat default) (hn.kids _ (kids_mem (by omega)))
      refine ⟨S', F80.L0_step ?_⟩
      have h8 : 0 ≤ q ∧ q < (n.kids.length : Int) := by omega
      simp only [go_sem, ↓reduceIte, Nat.reduceEqDiff, Nat.reduceBEq, Nat.reduceAdd, Nat.reduceMul, Nat.reduceSub, Nat.reduceLT, Nat.reduceLeDiff, reduceCtorEq, Int.reduceToNat, Int.reduceLE, Int.reduceLT, Int.reduceEq, h1, h2, h4, hq, h5, h6, h8, e3, or_self, ↓h7]
theorem call80 (path : List Int) (hp : path.length ≤ maxLen) (n : Node) (hn : n.ok) : callL Try.prog hints 80 [.agg n.cells, .sl (intRows path) false] = some (.tup [.agg ((Node.at path n).getD default).cells, .bool (Node.at path n).isSome]) := by
  obtain ⟨S', h⟩ := loop80 path hp path.length 0 (by omega) n hn
  simp only [Int.natCast_zero, List.drop_zero] at h
  refine F80.call (r := (.tup [.agg (atCells (Node.at path n)), .bool (Node.at path n).isSome], S')) ?_ ?_
  · simp only [go_sem, ↓reduceIte, Nat.reduceEqDiff, Nat.reduceBEq, Nat.reduceAdd, Nat.reduceMul, Nat.reduceSub, Nat.reduceLT, Nat.reduceLeDiff, reduceCtorEq, Int.reduceToNat, Int.reduceLE, Int.reduceLT, Int.reduceEq, h]
  · cases Node.at path n with
    | none => rfl
    | some x =>
      show (mapO (fzPV1 S') [.agg x.cells, .bool true]).map PV.tup = _
      have e : fzPV1 S' (.agg x.cells) = some (.agg x.cells) := Node.fz S' x
      simp only [mapO, e, Option.bind_some]
      rfl
theorem call53 (path : List Int) (hp : path.length ≤ maxLen) (n : Node) (hn : n.ok) (hc : n.count ≤ 1000000000) : callL Try.prog hints 53 [.agg n.cells, .sl (intRows path) false] = some (.tup [.agg (n.atRes path).1.cells, .int .i64 (n.atRes path).2]) := by
  have h1 := fun S => callN S (call75 n hn hc)
  have h2 := fun S => callO_plain (S := S) (call80 path hp n hn) (by simp [Node.plain, Plain.sl])
  have key : ∃ S0 c, F53.E 0 (.agg n.cells) (.sl (intRows path) false) [] = some (.tup [.agg c, .int .i64 (n.atRes path).2], S0) ∧ ∀ S, fzPV1 S (.agg c) = some (.agg (n.atRes path).1.cells) := by
    unfold Node.atRes
    by_cases h3 : n.rootErr = 0
    · simp only [h3, ne_eq, not_true_eq_false, if_false]
      cases h4 : Node.at path n with
      | none =>
        rw [h4] at h2
        refine ⟨?S1, zeroNode, ?h1, fun _ => rfl⟩
        case h1 =>
          simp only [go_sem, ↓reduceIte, Nat.reduceEqDiff, Nat.reduceBEq, Nat.reduceAdd, Nat.reduceMul, Nat.reduceSub, Nat.reduceLT, Nat.reduceLeDiff, reduceCtorEq, Int.reduceToNat, Int.reduceLE, Int.reduceLT, Int.reduceEq, h1, h2, h3, Option.isSome]
          rfl
      | some x =>
        rw [h4] at h2
        refine ⟨?S2, x.cells, ?h2, fun S => Node.fz S x⟩
        case h2 =>
          simp only [go_sem, ↓reduceIte, Nat.reduceEqDiff, Nat.reduceBEq, Nat.reduceAdd, Nat.reduceMul, Nat.reduceSub, Nat.reduceLT, Nat.reduceLeDiff, reduceCtorEq, Int.reduceToNat, Int.reduceLE, Int.reduceLT, Int.reduceEq, h1, h2, h3, Option.isSome, Option.getD]
          rfl
    · rw [if_pos h3]
      refine ⟨?S3, zeroNode, ?h3, fun _ => rfl⟩
      case h3 =>
        simp only [go_sem, ↓reduceIte, Nat.reduceEqDiff, Nat.reduceBEq, Nat.reduceAdd, Nat.reduceMul, Nat.reduceSub, Nat.reduceLT, Nat.reduceLeDiff, reduceCtorEq, Int.reduceToNat, Int.reduceLE, Int.reduceLT, Int.reduceEq, h1, h3]
        rfl
  obtain ⟨S0, c, hE, hz⟩ := key
  refine F53.call hE ?_
  show (mapO (fzPV1 S0) [.agg c, .int .i64 (n.atRes path).2]).map PV.tup = _
  simp only [mapO, hz, Option.bind_some]
  rfl
/-! ### Put -/
theorem makeSlice52 (id n : Nat) (h : n ≤ 1048576) : makeSliceO Try.prog 52 id (.int .i64 n) (.int .i64 n) = some { v := .msl id 0 n true, new := some (List.replicate n zeroNode, some (some 6)) } := by
  have e2 : (tyi Try.prog 54).bytes = 104 := by kernel_rfl
  simp only [makeSliceO, d52, zero54, Option.bind_some, e2, size54]
  rw [if_pos ⟨by omega, by omega, by omega, by omega, rfl, rfl⟩]
  simp [zeroNode]
theorem copyE52 (S : Store) (id n : Nat) (rows : List (List PV)) (g : Option (Option Nat)) (l : List Node) (hS : S[id]? = some (.arr rows g false)) (h1 : rows.length = n) (h2 : rowsOK 6 rows = true) (h3 : l.length = n) :
    copyE Try.prog 52 52 S (.msl id 0 n true) (.sl (Node.rows l) false) = some { v := .int .i64 n, S := S.set id (.arr (Node.rows l) g false) } := by
  simp only [copyE, d52, known54, if_true, size54, evCopy, hS, rowsIn, Option.bind_some]
  rw [if_pos ⟨by omega, h2, nodeRows_ok l⟩]
  have e1 : (Node.rows l).take n = Node.rows l := by rw [List.take_of_length_le (by rw [Node.rows_length]; omega)]
  have e2 : rows.drop (0 + min (Node.rows l).length n) = [] := by rw [List.drop_of_length_le (by rw [Node.rows_length]; omega)]
  rw [e1, e2, Node.rows_length, h3, Nat.min_self]
  simp
theorem idx52m (S : Store) (id n : Nat) (ex : Bool) (l : List Node) (i : Int) (hS : rowsAt S id = some (Node.rows l)) (hl : l.length = n) : indexAddrO Try.prog 52 S (.msl id 0 n ex) (.int .i64 i) = if 0 ≤ i ∧ i < n then some (.mp id i.toNat 0) else none := by
  have e1 : elemTy (tyi Try.prog 52) = 54 := by simp [elemTy, d52]
  have e2 : isSlice (tyi Try.prog 52) = true := by simp [isSlice, d52]
  simp only [indexAddrO, e1, e2, known54, size54, and_self, if_true, evIndexAddr, hS, Option.bind_some]
  split
  · rw [if_pos ⟨nodeRows_ok l, by rw [Node.rows_length]; omega⟩, Nat.zero_add]
  · rfl
theorem rows_set (l : List Node) (i : Nat) (x : Node) : (Node.rows l).set i x.cells = Node.rows (l.set i x) := by
  rw [Node.rows_eq, Node.rows_eq, List.map_set]
theorem rows_get (l : List Node) (i : Nat) (h : i < l.length) : (Node.rows l).getD i [] = (l.getD i default).cells := by
  rw [Node.rows_eq]
  simp [List.getD_eq_getElem?_getD, h]
theorem putKids_set (w : Node) (i : Nat) (ps : List Int) (l : List Node) (h : i < l.length) : putKids w i ps l = l.set i (Node.put w ps (l.getD i default)) := by
  apply List.ext_getElem (by simp [putKids])
  intro j h1 h2
  simp only [putKids, List.getElem_mapIdx, List.getElem_set]
  by_cases hj : i = j
  · subst hj
    simp [List.getD_eq_getElem?_getD, h]
  · rw [if_neg (by omega), if_neg hj]
theorem call82 (w : Node) (hw : w.ok) (path : List Int) : path.length ≤ maxLen → ∀ n : Node, n.ok → n.brief → ∀ x, Node.at path n = some x → callL Try.prog hints 82 [.agg n.cells, .sl (intRows path) false, .agg w.cells] = some (.agg (Node.put w path n).cells) := by
  induction path with
  | nil =>
    intro _ n hn hb x hx
    refine F82.call (r := (.agg w.cells, [.arr [n.cells] none false, .arr [w.cells] none false, .arr [w.cells] none false])) ?_ (Node.fz _ _)
    simp only [go_sem, ↓reduceIte, Nat.reduceEqDiff, Nat.reduceBEq, Nat.reduceAdd, Nat.reduceMul, Nat.reduceSub, Nat.reduceLT, Nat.reduceLeDiff, reduceCtorEq, Int.reduceToNat, Int.reduceLE, Int.reduceLT, Int.reduceEq, Int.natCast_zero]
  | cons p ps ihp =>
    intro hl n hn hb x hx
    rw [Node.brief_eq] at hb
    have hl' : ps.length ≤ maxLen := by simp only [List.length_cons] at hl; omega
    simp only [Node.at] at hx
    split at hx
    · cases hx
    rename_i hp
    obtain ⟨i, rfl⟩ : ∃ i : Nat, p = i := ⟨p.toNat, by omega⟩
    have hi : i < n.kids.length := by omega
    simp only [Int.toNat_natCast] at hx
    have ih := fun S => callO_plain (S := S) (ihp hl' (n.kids.getD i default) (hn.kids _ (kids_mem hi)) (Node.briefs_mem hb.2.2.2 _ (kids_mem hi)) x hx) (by simp [Node.plain, Plain.sl])
    have e1 : ¬ ((ps.length + 1 : Nat) : Int) = 0 := by omega
    have e2 := fun id => makeSlice52 id n.kids.length hb.2.2.1
    have e3 := copyE52 [.arr [n.cells] none false, .arr [w.cells] none false, .arr [zeroNode] none false, .arr (List.replicate n.kids.length zeroNode) (some (some 6)) false] 3 n.kids.length (List.replicate n.kids.length zeroNode) (some (some 6)) n.kids rfl (by simp) (by simp [rowsOK, zeroNode]) rfl
    have e4 := fun (S : Store) (hS : rowsAt S 3 = some (Node.rows n.kids)) => idx52m S 3 n.kids.length true n.kids i hS rfl
    have e5 : 0 ≤ (i : Int) ∧ (i : Int) < (n.kids.length : Int) := by omega
    have e6 : (0 : Int) < ((ps.length + 1 : Nat) : Int) := by omega
    have e7 := rows_get n.kids i hi
    have e8 := fun x => rows_set n.kids i x
    have e9 : n.cells.take 5 ++ .msl 3 0 n.kids.length true :: n.cells.drop 6 = putRow n (.msl 3 0 n.kids.length true) := by cases n; rfl
    have e10 : (putRow n (.msl 3 0 n.kids.length true)).all PV.cell = true := rfl
    have s1 : ∀ K : KT, execL (F82.C 0) 0 F82.c5 K (F82.ee2 (.sl (intRows ((i : Int) :: ps)) false) (.mp 0 0 0) (.mp 1 0 0) (.mp 2 0 0) (.bool false)) [.arr [n.cells] none false, .arr [w.cells] none false, .arr [zeroNode] none false] =
        K .normal (F82.ee1 (.sl (intRows ((i : Int) :: ps)) false) (.mp 0 0 0) (.mp 1 0 0) (.mp 2 0 0) (.msl 3 0 n.kids.length true)) [.arr [n.cells] none false, .arr [w.cells] none false, .arr [zeroNode] none false, .arr (List.replicate n.kids.length zeroNode) (some (some 6)) false] := fun K => by
      simp only [go_sem, ↓reduceIte, Nat.reduceEqDiff, Nat.reduceBEq, Nat.reduceAdd, Nat.reduceMul, Nat.reduceSub, Nat.reduceLT, Nat.reduceLeDiff, reduceCtorEq, Int.reduceToNat, Int.reduceLE, Int.reduceLT, Int.reduceEq, e2]
    have s2 : ∀ K : KT, execL (F82.C 0) 0 F82.c7 K (F82.ee1 (.sl (intRows ((i : Int) :: ps)) false) (.mp 0 0 0) (.mp 1 0 0) (.mp 2 0 0) (.msl 3 0 n.kids.length true)) [.arr [n.cells] none false, .arr [w.cells] none false, .arr [zeroNode] none false, .arr (List.replicate n.kids.length zeroNode) (some (some 6)) false] =
        K .normal (F82.ee1 (.sl (intRows ((i : Int) :: ps)) false) (.mp 0 0 0) (.mp 1 0 0) (.mp 2 0 0) (.msl 3 0 n.kids.length true)) [.arr [n.cells] none false, .arr [w.cells] none false, .arr [zeroNode] none false, .arr (Node.rows n.kids) (some (some 6)) false] := fun K => by
      simp only [go_sem, ↓reduceIte, Nat.reduceEqDiff, Nat.reduceBEq, Nat.reduceAdd, Nat.reduceMul, Nat.reduceSub, Nat.reduceLT, Nat.reduceLeDiff, reduceCtorEq, Int.reduceToNat, Int.reduceLE, Int.reduceLT, Int.reduceEq, e3]
    have s3 : ∀ K : KT, execL (F82.C 0) 0 F82.c9 K (F82.ee1 (.sl (intRows ((i : Int) :: ps)) false) (.mp 0 0 0) (.mp 1 0 0) (.mp 2 0 0) (.msl 3 0 n.kids.length true)) [.arr [n.cells] none false, .arr [w.cells] none false, .arr [zeroNode] none false, .arr (Node.rows n.kids) (some (some 6)) false] =
        K .normal (F82.ee4 (.mp 0 0 0) (.mp 2 0 0) (.msl 3 0 n.kids.length true)) [.arr [n.cells] none false, .arr [w.cells] none false, .arr [zeroNode] none false, .arr (Node.rows (n.kids.set i (Node.put w ps (n.kids.getD i default)))) (some (some 6)) false] := fun K => by
      simp only [go_sem, ↓reduceIte, Nat.reduceEqDiff, Nat.reduceBEq, Nat.reduceAdd, Nat.reduceMul, Nat.reduceSub, Nat.reduceLT, Nat.reduceLeDiff, reduceCtorEq, Int.reduceToNat, Int.reduceLE, Int.reduceLT, Int.reduceEq, e4, e5, e6, e7, e8, ih, hi, List.getD_cons_zero]
    have key : F82.E 0 (.agg n.cells) (.sl (intRows ((i : Int) :: ps)) false) (.agg w.cells) [] = some (.agg (putRow n (.msl 3 0 n.kids.length true)), [.arr [putRow n (.msl 3 0 n.kids.length true)] none false, .arr [w.cells] none false, .arr [putRow n (.msl 3 0 n.kids.length true)] none false, .arr (Node.rows (n.kids.set i (Node.put w ps (n.kids.getD i default)))) (some (some 6)) false]) := by
      simp only [go_sem, ↓reduceIte, Nat.reduceEqDiff, Nat.reduceBEq, Nat.reduceAdd, Nat.reduceMul, Nat.reduceSub, Nat.reduceLT, Nat.reduceLeDiff, reduceCtorEq, Int.reduceToNat, Int.reduceLE, Int.reduceLT, Int.reduceEq, e1, ↓s1, ↓s2, ↓s3, e9, e10, putRow_part, putRow_len]
    refine F82.call key ?_
    have e11 := fzCell_nodes (S := [.arr [putRow n (.msl 3 0 n.kids.length true)] none false, .arr [w.cells] none false, .arr [putRow n (.msl 3 0 n.kids.length true)] none false, .arr (Node.rows (n.kids.set i (Node.put w ps (n.kids.getD i default)))) (some (some 6)) false]) (id := 3) (l := n.kids.set i (Node.put w ps (n.kids.getD i default))) (ex := true) rfl 6
    rw [List.length_set] at e11
    simp only [fzPV, fzPV1, putRow, mapO_cons, mapO_nil, fzCell_int, fzCell_str, fzCell_bool, fzCell_sl, some_bind, some_map] at e11 ⊢
    rw [e11]
    have e12 := putKids_set w i ps n.kids hi
    show _ = some (PV.agg (Node.mk n.op n.name n.neg n.num n.den (putKids w i ps n.kids)).cells)
    rw [e12]
    rfl
theorem small_put {path : List Int} {n x w : Node} (h : Node.at path n = some x) (hs : w.small = false) : (Node.put w path n).small = false := by
  have h1 := at_count (at_put w h)
  cases hp : (Node.put w path n).small with
  | false => rfl
  | true =>
    exfalso
    have : w.small = true := by
      simp only [Node.small, Bool.and_eq_true, decide_eq_true_eq] at hp ⊢
      omega
    rw [this] at hs
    cases hs
theorem sortOf_range (o : Int) (h0 : sortOf o ≠ 0) (h4 : sortOf o ≠ 4) : 1 ≤ sortOf o ∧ sortOf o ≤ 3 := by
  unfold sortOf at h0 h4 ⊢
  repeat' split
  all_goals first | omega | simp_all
theorem check_big {n : Node} {s : Int} (h : n.small = false) (hs : 1 ≤ s ∧ s ≤ 3) : n.check s = 2 := by
  unfold Node.check
  rw [if_neg (by omega), if_pos h]
theorem call55 (path : List Int) (hp : path.length ≤ maxLen) (n w : Node) (hn : n.ok) (hb : n.brief) (hc : n.count ≤ 1048576) (hw : w.ok) (hwb : w.brief) (hwc : w.count ≤ 1048576) : callL Try.prog hints 55 [.agg n.cells, .sl (intRows path) false, .agg w.cells] = some (.tup [.agg (n.replRes path w).1.cells, .int .i64 (n.replRes path w).2]) := by
  have h2 := fun S => callO_plain (S := S) (call53 path hp n hn (by omega)) (by simp [Node.plain, Plain.sl])
  have key : ∃ S0 c, F55.E 0 (.agg n.cells) (.sl (intRows path) false) (.agg w.cells) [] = some (.tup [.agg c, .int .i64 (n.replRes path w).2], S0) ∧ ∀ S, fzPV1 S (.agg c) = some (.agg (n.replRes path w).1.cells) := by
    unfold Node.replRes
    unfold Node.atRes at h2
    by_cases h3 : n.rootErr = 0
    case neg =>
      rw [if_pos h3]
      rw [if_pos h3] at h2
      refine ⟨?S1, zeroNode, ?h1, fun _ => rfl⟩
      case h1 =>
        simp only [go_sem, ↓reduceIte, Nat.reduceEqDiff, Nat.reduceBEq, Nat.reduceAdd, Nat.reduceMul, Nat.reduceSub, Nat.reduceLT, Nat.reduceLeDiff, reduceCtorEq, Int.reduceToNat, Int.reduceLE, Int.reduceLT, Int.reduceEq, h2, h3]
        rfl
    rw [if_neg (by simpa using h3)] at h2
    rw [if_neg (by simpa using h3)]
    cases h4 : Node.at path n with
    | none =>
      rw [h4] at h2
      simp only at h2
      refine ⟨?S2, zeroNode, ?h2, fun _ => rfl⟩
      case h2 =>
        simp only [go_sem, ↓reduceIte, Nat.reduceEqDiff, Nat.reduceBEq, Nat.reduceAdd, Nat.reduceMul, Nat.reduceSub, Nat.reduceLT, Nat.reduceLeDiff, reduceCtorEq, Int.reduceToNat, Int.reduceLE, Int.reduceLT, Int.reduceEq, h2]
        rfl
    | some x =>
      rw [h4] at h2
      simp only at h2 ⊢
      by_cases h6 : sortOf w.op = 0
      case pos =>
        rw [if_pos (.inr h6)]
        refine ⟨?S4, zeroNode, ?h4, fun _ => rfl⟩
        case h4 =>
          simp only [go_sem, ↓reduceIte, Nat.reduceEqDiff, Nat.reduceBEq, Nat.reduceAdd, Nat.reduceMul, Nat.reduceSub, Nat.reduceLT, Nat.reduceLeDiff, reduceCtorEq, Int.reduceToNat, Int.reduceLE, Int.reduceLT, Int.reduceEq, h2, h6]
          rfl
      by_cases h5 : sortOf x.op = sortOf w.op
      case neg =>
        have h5' : ¬ sortOf w.op = sortOf x.op := fun e => h5 e.symm
        rw [if_pos (.inl h5)]
        refine ⟨?S3, zeroNode, ?h3, fun _ => rfl⟩
        case h3 =>
          simp only [go_sem, ↓reduceIte, Nat.reduceEqDiff, Nat.reduceBEq, Nat.reduceAdd, Nat.reduceMul, Nat.reduceSub, Nat.reduceLT, Nat.reduceLeDiff, reduceCtorEq, Int.reduceToNat, Int.reduceLE, Int.reduceLT, Int.reduceEq, h2, h5', h6]
          rfl
      rw [if_neg (by simp [h5, h6])]
      obtain ⟨p1, p4, pc, ps, pf⟩ := rootErr_zero h3
      have h8 := fun S => callO_plain (S := S) (call82 w hw path hp n hn hb x h4) (by simp [Node.plain, Plain.sl])
      have hro := Node.put_ok hw path n hn
      have hcount := put_count w h4
      have h9 := fun S s => callO_plain (S := S) (call37 (Node.put w path n) hro s) (by simp [Node.plain, Plain.int])
      simp only [check_same _ hro (show (Node.put w path n).count ≤ 1000000000 by omega)] at h9
      have hop := put_op (w := w) h4 h5
      have hbig := fun hs => check_big (s := sortOf n.op) (small_put (w := w) h4 hs) (sortOf_range n.op p1 p4)
      rw [hop]
      have hn0 : n.op = n.op := rfl
      cases h7 : w.small with
      | false =>
        rw [if_pos rfl]
        have h10 := hbig h7
        generalize Node.put w path n = r at *
        refine ⟨?S5, zeroNode, ?h5, fun _ => rfl⟩
        case h5 =>
          simp only [go_sem, ↓reduceIte, Nat.reduceEqDiff, Nat.reduceBEq, Nat.reduceAdd, Nat.reduceMul, Nat.reduceSub, Nat.reduceLT, Nat.reduceLeDiff, reduceCtorEq, Int.reduceToNat, Int.reduceLE, Int.reduceLT, Int.reduceEq, h2, h5, h6, h8, h9, h10]
          rfl
      | true =>
        rw [if_neg (by simp)]
        generalize Node.put w path n = r at *
        by_cases h10 : r.check (sortOf n.op) = 0
        · rw [if_neg (by simp [h10])]
          refine ⟨?S6, r.cells, ?h6, fun S => Node.fz S r⟩
          case h6 =>
            simp only [go_sem, ↓reduceIte, Nat.reduceEqDiff, Nat.reduceBEq, Nat.reduceAdd, Nat.reduceMul, Nat.reduceSub, Nat.reduceLT, Nat.reduceLeDiff, reduceCtorEq, Int.reduceToNat, Int.reduceLE, Int.reduceLT, Int.reduceEq, h2, h5, h6, h8, h9, h10]
            rfl
        · rw [if_pos h10]
          refine ⟨?S7, zeroNode, ?h7, fun _ => rfl⟩
          case h7 =>
            simp only [go_sem, ↓reduceIte, Nat.reduceEqDiff, Nat.reduceBEq, Nat.reduceAdd, Nat.reduceMul, Nat.reduceSub, Nat.reduceLT, Nat.reduceLeDiff, reduceCtorEq, Int.reduceToNat, Int.reduceLE, Int.reduceLT, Int.reduceEq, h2, h5, h6, h8, h9, h10]
            rfl
  obtain ⟨S0, c, hE, hz⟩ := key
  refine F55.call hE ?_
  show (mapO (fzPV1 S0) [.agg c, .int .i64 (n.replRes path w).2]).map PV.tup = _
  simp only [mapO, hz, Option.bind_some]
  rfl
end Go.Vs
end
/- TreeChecks gives true for all arguments of bulk at most 1048576. -/
section
set_option linter.unusedVariables false
namespace Go.Vs
open Go Go.Proofs
/- A tree's nodes are no more than what it holds. -/
mutual
theorem count_bulk : ∀ n : Node, n.count ≤ pvsB n.cells
  | .mk a b c d e f => by
    have := counts_bulk f
    simp only [Node.count, Node.cells, pvsB, pvB]
    omega
theorem counts_bulk : ∀ l : List Node, Node.counts l ≤ rowsB (Node.rows l)
  | [] => by simp [Node.counts, Node.rows, rowsB]
  | x :: l => by
    have h1 := count_bulk x
    have h2 := counts_bulk l
    simp only [Node.counts, Node.rows, rowsB]
    omega
end
end Go.Vs
end
/- TreePlaces gives true for all arguments of bulk at most 1048576. -/
section
set_option linter.unusedVariables false
set_option linter.unusedSimpArgs false
namespace Go.Vs
open Go Go.Proofs
theorem call56 (a b : Node) (ha : a.ok) (hb : b.ok) : callL Try.prog hints 56 [.agg a.cells, .agg b.cells] = some (.bool (decide (a.cmp b = 0))) := by
  refine F56.call (r := (.bool (decide (a.cmp b = 0)), [.arr [a.cells] none false, .arr [b.cells] none false])) ?_ rfl
  have ab := fun S => callN2 S (call46 a ha b hb)
  simp only [go_sem, ↓reduceIte, Nat.reduceEqDiff, Nat.reduceBEq, Nat.reduceAdd, Nat.reduceMul, Nat.reduceSub, Nat.reduceLT, Nat.reduceLeDiff, reduceCtorEq, Int.reduceToNat, Int.reduceLE, Int.reduceLT, Int.reduceEq, ab]
  by_cases h : a.cmp b = 0 <;> simp [h]
theorem default_ok : (default : Node).ok := ⟨by decide, Nat.zero_le _, Nat.zero_le _, Nat.zero_le _, by simp, by simp, Nat.zero_le _, trivial⟩
theorem atRes_ok {n : Node} (hn : n.ok) (path : List Int) : (n.atRes path).1.ok := by
  unfold Node.atRes
  split
  · exact default_ok
  · cases h : Node.at path n with
    | none => exact default_ok
    | some x => exact Node.at_ok h hn
theorem replRes_ok {n w : Node} (hn : n.ok) (hw : w.ok) (path : List Int) : (n.replRes path w).1.ok := by
  unfold Node.replRes
  split
  · exact default_ok
  · cases h : Node.at path n with
    | none => exact default_ok
    | some x =>
      simp only
      repeat' split
      all_goals first | exact default_ok | exact Node.put_ok hw path n hn
theorem call11 (path : List Int) (hp : path.length ≤ maxLen) (n w : Node) (hn : n.ok) (hb : n.brief) (hc : n.count ≤ 1048576) (hw : w.ok) (hwb : w.brief) (hwc : w.count ≤ 1048576) : callL Try.prog hints 11 [.agg n.cells, .sl (intRows path) false, .agg w.cells] = some (.bool true) := by
  have s1 := fun S => callN S (call35 n hn)
  have s2 := fun S => callN S (call35 w hw)
  have a1 := fun S => callO_plain (S := S) (call52 path hp n hn hb) (by simp [Node.plain, Plain.sl])
  have a2 := fun S => callO_plain (S := S) (call53 path hp n hn (by omega)) (by simp [Node.plain, Plain.sl])
  have b1 := fun S => callO_plain (S := S) (call54 path hp n w hn hb hw hwb) (by simp [Node.plain, Plain.sl])
  have b2 := fun S => callO_plain (S := S) (call55 path hp n w hn hb hc hw hwb hwc) (by simp [Node.plain, Plain.sl])
  have e1 := fun S => callN2 S (call56 _ _ (atRes_ok hn path) (atRes_ok hn path))
  have e2 := fun S => callN2 S (call56 _ _ (replRes_ok hn hw path) (replRes_ok hn hw path))
  simp only [cmp_self, decide_true] at e1 e2
  have key : ∃ S0, F11.E 0 (.agg n.cells) (.sl (intRows path) false) (.agg w.cells) [] = some (.bool true, S0) := by
    by_cases c1 : 10000 < n.size
    · refine ⟨?S1, ?h1⟩
      case h1 => simp only [go_sem, ↓reduceIte, Nat.reduceEqDiff, Nat.reduceBEq, Nat.reduceAdd, Nat.reduceMul, Nat.reduceSub, Nat.reduceLT, Nat.reduceLeDiff, reduceCtorEq, Int.reduceToNat, Int.reduceLE, Int.reduceLT, Int.reduceEq, s1, c1]; rfl
    by_cases c2 : 10000 < w.size
    · refine ⟨?S2, ?h2⟩
      case h2 => simp only [go_sem, ↓reduceIte, Nat.reduceEqDiff, Nat.reduceBEq, Nat.reduceAdd, Nat.reduceMul, Nat.reduceSub, Nat.reduceLT, Nat.reduceLeDiff, reduceCtorEq, Int.reduceToNat, Int.reduceLE, Int.reduceLT, Int.reduceEq, s1, s2, c1, c2]; rfl
    refine ⟨?S3, ?h3⟩
    case h3 =>
      simp only [go_sem, ↓reduceIte, Nat.reduceEqDiff, Nat.reduceBEq, Nat.reduceAdd, Nat.reduceMul, Nat.reduceSub, Nat.reduceLT, Nat.reduceLeDiff, reduceCtorEq, Int.reduceToNat, Int.reduceLE, Int.reduceLT, Int.reduceEq, s1, s2, c1, c2, a1, a2, b1, b2, e1, e2]
      rfl
  obtain ⟨S0, hE⟩ := key
  exact F11.call hE rfl
theorem law11 (pvs : List PV) (h : Args Try.prog [54, 22, 54] pvs) (hb : pvsB pvs ≤ 1048576) : callL Try.prog hints 11 pvs = some (.bool true) := by
  obtain ⟨pv, r, k, rfl, h1, h⟩ := h.cons_inv
  obtain ⟨pv2, r, k2, rfl, h2, h⟩ := h.cons_inv
  obtain ⟨pv3, r, k3, rfl, h3, h⟩ := h.cons_inv
  obtain rfl := h.nil_inv
  obtain ⟨n, hn, rfl⟩ := h1.node
  obtain ⟨l, hl, hl', rfl⟩ := h2.ints
  obtain ⟨w, hw, rfl⟩ := h3.node
  have c1 := count_bulk n
  have c2 := count_bulk w
  simp only [pvsB, pvB] at hb
  exact call11 l hl n w hn (brief_bulk n (by omega)) (by omega) hw (brief_bulk w (by omega)) (by omega)
end Go.Vs
end
