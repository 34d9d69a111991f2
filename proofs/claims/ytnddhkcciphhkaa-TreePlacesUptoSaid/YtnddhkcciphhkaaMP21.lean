/- tree.Replace: what it returns. -/

import Derived.Test.YtnddhkcciphhkaaMP14
import Derived.Test.YtnddhkcciphhkaaMP20
section
set_option linter.unusedVariables false
set_option linter.unusedSimpArgs false
namespace Go.Vs
open Go Go.Proofs
theorem within_small (n : Node) : (n.within 4000 60).1 = n.small := by
  have hw := within_iff n 4000 60 (by omega) (by omega)
  cases h : (n.within 4000 60).1
  · have := hw.1
    rw [h] at this
    cases h2 : n.small
    · rfl
    · exfalso
      simp only [Node.small, Bool.and_eq_true, decide_eq_true_eq] at h2
      have := this.2 (by omega)
      cases this
  · have := hw.1.1 h
    simp only [Node.small]
    rw [decide_eq_true (show n.count ≤ 4000 by omega), decide_eq_true (show n.depth ≤ 60 by omega)]
    rfl
/-- What Replace returns: the tree and the error. -/
def Node.replRes (n : Node) (path : List Int) (w : Node) : Node × Int :=
  if n.rootErr ≠ 0 then (default, n.rootErr) else match Node.at path n with
    | none => (default, 1)
    | some x => if sortOf x.op ≠ sortOf w.op ∨ sortOf w.op = 0 then (default, 80) else if w.small = false then (default, 2) else
      if (Node.put w path n).check (sortOf (Node.put w path n).op) ≠ 0 then (default, (Node.put w path n).check (sortOf (Node.put w path n).op)) else (Node.put w path n, 0)
theorem Node.put_ok {w : Node} (hw : w.ok) : ∀ (path : List Int) (n : Node), n.ok → (Node.put w path n).ok
  | [], n, hn => hw
  | p :: ps, n, hn => by
    have h1 : Node.oks (putKids w p ps n.kids) := Node.oks_iff.2 fun k hk => by
      simp only [putKids, List.mem_mapIdx] at hk
      obtain ⟨i, hi, rfl⟩ := hk
      split
      · exact Node.put_ok hw ps _ (hn.kids _ (List.getElem_mem _))
      · exact hn.kids _ (List.getElem_mem _)
    cases n
    exact ⟨hn.1, hn.2.1, hn.2.2.1, hn.2.2.2.1, hn.2.2.2.2.1, hn.2.2.2.2.2.1, (putKids_length w p ps _).symm ▸ hn.2.2.2.2.2.2.1, h1⟩
theorem call54 (path : List Int) (hp : path.length ≤ maxLen) (n w : Node) (hn : n.ok) (hb : n.brief) (hw : w.ok) (hwb : w.brief) : callL Try.prog hints 54 [.agg n.cells, .sl (intRows path) false, .agg w.cells] = some (.tup [.agg (n.replRes path w).1.cells, .int .i64 (n.replRes path w).2]) := by
  have h1 := fun S => callN S (call72 n hn)
  have h2 := fun S => callO_plain (S := S) (call78 path hp n hn) (by simp [Node.plain, Plain.sl])
  have key : ∃ S0 c, F54.E 0 (.agg n.cells) (.sl (intRows path) false) (.agg w.cells) [] = some (.tup [.agg c, .int .i64 (n.replRes path w).2], S0) ∧ ∀ S, fzPV1 S (.agg c) = some (.agg (n.replRes path w).1.cells) := by
    unfold Node.replRes
    by_cases h3 : n.rootErr = 0
    case neg =>
      rw [if_pos h3]
      refine ⟨?S1, zeroNode, ?h1, fun _ => rfl⟩
      case h1 =>
        simp only [go_sem, ↓reduceIte, Nat.reduceEqDiff, Nat.reduceBEq, Nat.reduceAdd, Nat.reduceMul, Nat.reduceSub, Nat.reduceLT, Nat.reduceLeDiff, reduceCtorEq, Int.reduceToNat, Int.reduceLE, Int.reduceLT, Int.reduceEq, h1, h3]
        rfl
    simp only [h3, ne_eq, not_true_eq_false, if_false]
    cases h4 : Node.at path n with
    | none =>
      rw [h4] at h2
      refine ⟨?S2, zeroNode, ?h2, fun _ => rfl⟩
      case h2 =>
        simp only [go_sem, ↓reduceIte, Nat.reduceEqDiff, Nat.reduceBEq, Nat.reduceAdd, Nat.reduceMul, Nat.reduceSub, Nat.reduceLT, Nat.reduceLeDiff, reduceCtorEq, Int.reduceToNat, Int.reduceLE, Int.reduceLT, Int.reduceEq, h1, h2, h3, Option.isSome]
        rfl
    | some x =>
      rw [h4] at h2
      simp only
      by_cases h5 : sortOf x.op = sortOf w.op
      case neg =>
        rw [if_pos (.inl h5)]
        refine ⟨?S3, zeroNode, ?h3, fun _ => rfl⟩
        case h3 =>
          simp only [go_sem, ↓reduceIte, Nat.reduceEqDiff, Nat.reduceBEq, Nat.reduceAdd, Nat.reduceMul, Nat.reduceSub, Nat.reduceLT, Nat.reduceLeDiff, reduceCtorEq, Int.reduceToNat, Int.reduceLE, Int.reduceLT, Int.reduceEq, h1, h2, h3, h5, Option.isSome, Option.getD]
          rfl
      by_cases h6 : sortOf w.op = 0
      case pos =>
        rw [if_pos (.inr h6)]
        refine ⟨?S4, zeroNode, ?h4, fun _ => rfl⟩
        case h4 =>
          simp only [go_sem, ↓reduceIte, Nat.reduceEqDiff, Nat.reduceBEq, Nat.reduceAdd, Nat.reduceMul, Nat.reduceSub, Nat.reduceLT, Nat.reduceLeDiff, reduceCtorEq, Int.reduceToNat, Int.reduceLE, Int.reduceLT, Int.reduceEq, h1, h2, h3, h5, h6, Option.isSome, Option.getD]
          rfl
      rw [if_neg (by simp [h5, h6])]
      obtain ⟨G, hG⟩ := call63A w hw 60 4000 (by omega) (by omega) [.arr [n.cells] none false, .arr [w.cells] none false, .arr [zeroNode] none false, .arr [x.cells] none false] []
        (.cons (by simp only [rowsRefs_cons, Node.refs]; rfl) (.cons (by simp only [rowsRefs_cons, Node.refs]; rfl) (.cons rfl (.cons (by simp only [rowsRefs_cons, Node.refs]; rfl) .nil)))) .nil
      have hc := (show callE (F54.C 0) _ 63 _ = _ from callE_eq (b := 0) (h := F54.hint) (by rfl) hG (by simp))
      rw [within_small] at hc
      simp only [leftObj, List.cons_append, List.nil_append, List.length_cons, List.length_nil, Nat.reduceAdd] at hc
      cases h7 : w.small with
      | false =>
        rw [h7] at hc
        rw [if_pos rfl]
        refine ⟨?S5, zeroNode, ?h5, fun _ => rfl⟩
        case h5 =>
          simp only [go_sem, ↓reduceIte, Nat.reduceEqDiff, Nat.reduceBEq, Nat.reduceAdd, Nat.reduceMul, Nat.reduceSub, Nat.reduceLT, Nat.reduceLeDiff, reduceCtorEq, Int.reduceToNat, Int.reduceLE, Int.reduceLT, Int.reduceEq, h1, h2, h3, h5, h6, hc, Option.isSome, Option.getD]
          rfl
      | true =>
        rw [h7] at hc
        rw [if_neg (by simp)]
        have h8 := fun S => callO_plain (S := S) (call81 w hw hwb path hp n hn hb) (by simp [Node.plain, Plain.sl])
        have h9 := fun S s => callO_plain (S := S) (call36 (Node.put w path n) (Node.put_ok hw path n hn) s) (by simp [Node.plain, Plain.int])
        generalize hr : Node.put w path n = r at *
        by_cases h10 : r.check (sortOf r.op) = 0
        · rw [if_neg (by simp [h10])]
          refine ⟨?S6, r.cells, ?h6, fun S => Node.fz S r⟩
          case h6 =>
            simp only [go_sem, ↓reduceIte, Nat.reduceEqDiff, Nat.reduceBEq, Nat.reduceAdd, Nat.reduceMul, Nat.reduceSub, Nat.reduceLT, Nat.reduceLeDiff, reduceCtorEq, Int.reduceToNat, Int.reduceLE, Int.reduceLT, Int.reduceEq, h1, h2, h3, h5, h6, hc, h8, h9, h10, Option.isSome, Option.getD]
            rfl
        · rw [if_pos h10]
          refine ⟨?S7, zeroNode, ?h7, fun _ => rfl⟩
          case h7 =>
            simp only [go_sem, ↓reduceIte, Nat.reduceEqDiff, Nat.reduceBEq, Nat.reduceAdd, Nat.reduceMul, Nat.reduceSub, Nat.reduceLT, Nat.reduceLeDiff, reduceCtorEq, Int.reduceToNat, Int.reduceLE, Int.reduceLT, Int.reduceEq, h1, h2, h3, h5, h6, hc, h8, h9, h10, Option.isSome, Option.getD]
            rfl
  obtain ⟨S0, c, hE, hz⟩ := key
  refine F54.call hE ?_
  show (mapO (fzPV1 S0) [.agg c, .int .i64 (n.replRes path w).2]).map PV.tup = _
  simp only [mapO, hz, Option.bind_some]
  rfl
end Go.Vs
end
/- The order of trees: antisymmetric, transitive. -/
section
set_option linter.unusedVariables false
set_option linter.unusedSimpArgs false
namespace Go.Vs
open Go Go.Proofs
/-- Three comparisons, of a with b, b with c, a with c, go together. -/
def Tri (x y z : Int) : Prop := (0 < x ∨ 0 < y ∨ (z ≤ 0 ∧ (z ≠ 0 ∨ (x = 0 ∧ y = 0)))) ∧ (x < 0 ∨ y < 0 ∨ (0 ≤ z ∧ (z ≠ 0 ∨ (x = 0 ∧ y = 0))))
theorem Tri.seq {x y z x' y' z' : Int} (h : Tri x y z) (k : x = 0 → y = 0 → z = 0 → Tri x' y' z') : Tri (seqI x x') (seqI y y') (seqI z z') := by
  unfold Tri at *
  have e : ∀ u v : Int, (u = 0 ∧ seqI u v = v) ∨ (u ≠ 0 ∧ seqI u v = u) := fun u v => by
    by_cases hu : u = 0
    · left; simp [seqI, hu]
    · right; simp [seqI, hu]
  rcases e x x' with ⟨h1, e1⟩ | ⟨h1, e1⟩ <;> rcases e y y' with ⟨h2, e2⟩ | ⟨h2, e2⟩ <;> rcases e z z' with ⟨h3, e3⟩ | ⟨h3, e3⟩ <;> rw [e1, e2, e3]
  · exact k h1 h2 h3
  all_goals (clear k; omega)
theorem anti_cmpI (a b : Int) : cmpI b a = - cmpI a b := by unfold cmpI; omega
theorem anti_seq {x y x' y' : Int} (h : y = -x) (k : x = 0 → y' = -x') : seqI y y' = - seqI x x' := by
  by_cases hx : x = 0
  · have := k hx
    subst h
    simp [seqI, hx, this]
  · have : y ≠ 0 := by omega
    simp [seqI, hx, this, h]
theorem bytesLess_total : ∀ a b, a ≠ b → (Op.bytesLess b a = !Op.bytesLess a b)
  | [], [], h => absurd rfl h
  | [], _ :: _, _ => rfl
  | _ :: _, [], _ => rfl
  | a :: x, b :: y, h => by
    simp only [Op.bytesLess]
    by_cases hab : a = b
    · subst hab
      have : x ≠ y := fun e => h (by rw [e])
      simp [bytesLess_total x y this]
    · have h1 : (a == b) = false := by simpa using hab
      have h2 : (b == a) = false := by simpa using fun e : b = a => hab e.symm
      have h3 : a.toNat ≠ b.toNat := fun e => hab (UInt8.toNat.inj e)
      simp only [h1, h2, Bool.false_and, Bool.or_false, UInt8.lt_iff_toNat_lt]
      by_cases h4 : a.toNat < b.toNat <;> simp [h4] <;> omega
theorem anti_cmpStr (a b : ByteArray) : cmpStr b a = - cmpStr a b := by
  unfold cmpStr
  by_cases h : a.toList = b.toList
  · simp [h]
  · have h' : ¬ b.toList = a.toList := fun e => h e.symm
    simp only [ne_eq, h, h', not_false_eq_true, if_true, bytesLess_total _ _ h]
    cases Op.bytesLess a.toList b.toList <;> rfl
theorem anti_cmpNeg (a b : Bool) : cmpNeg b a = - cmpNeg a b := by cases a <;> cases b <;> rfl
theorem anti_wordsTo (a b : List Int) : ∀ m, wordsTo b a m = - wordsTo a b m
  | 0 => rfl
  | m + 1 => anti_seq (anti_cmpI _ _) fun _ => anti_wordsTo a b m
theorem cmpI_zero {a b : Int} (h : cmpI a b = 0) : a = b := by unfold cmpI at h; omega
theorem anti_cmpWords (a b : List Int) : cmpWords b a = - cmpWords a b := anti_seq (anti_cmpI _ _) fun h => by
  have : a.length = b.length := by have := cmpI_zero h; omega
  rw [this]; exact anti_wordsTo a b _
theorem anti_cmps : ∀ (a b : List Node), (∀ n ∈ a, ∀ m, m.cmp n = - n.cmp m) → Node.cmps b a = - Node.cmps a b
  | [], [], _ => rfl
  | [], _ :: _, _ => rfl
  | _ :: _, [], _ => rfl
  | n :: r, m :: s, h => anti_seq (h n (by simp) m) fun _ => anti_cmps r s fun x hx => h x (by simp [hx])
theorem anti_cmp : ∀ a b : Node, b.cmp a = - a.cmp b := by
  refine Node.ind' fun a ih b => ?_
  rw [Node.cmp_eq b a, Node.cmp_eq a b]
  exact anti_seq (anti_cmpI _ _) fun _ => anti_seq (anti_cmpStr _ _) fun _ => anti_seq (anti_cmpNeg _ _) fun _ => anti_seq (anti_cmpWords _ _) fun _ => anti_seq (anti_cmpWords _ _) fun _ => anti_seq (anti_cmpI _ _) fun _ => anti_cmps _ _ ih
/-- The results are -1, 0, 1. -/
def Small (x : Int) : Prop := -1 ≤ x ∧ x ≤ 1
theorem Small.seq {x y : Int} (h : Small x) (k : Small y) : Small (seqI x y) := by unfold seqI; split <;> assumption
end Go.Vs
end
/- Places in trees: plain laws. -/
section
set_option linter.unusedVariables false
set_option linter.unusedSimpArgs false
namespace Go.Vs
open Go Go.Proofs
theorem cmp_self (n : Node) : n.cmp n = 0 := by have := anti_cmp n n; omega
theorem at_put : ∀ {path : List Int} {n x : Node} (w : Node), Node.at path n = some x → Node.at path (Node.put w path n) = some w
  | [], n, x, w, h => rfl
  | p :: ps, n, x, w, h => by
    simp only [Node.at] at h
    split at h
    · cases h
    · rename_i hp
      have ih := at_put w h
      have e : (Node.put w (p :: ps) n).kids = putKids w p ps n.kids := rfl
      simp only [Node.at, e, putKids_length]
      rw [if_neg hp, putKids_get _ _ _ _ (by omega), if_pos (by omega)]
      exact ih
theorem put_op {path : List Int} {n x w : Node} (h : Node.at path n = some x) (hs : sortOf x.op = sortOf w.op) : sortOf (Node.put w path n).op = sortOf n.op := by
  cases path with
  | nil => cases h; exact hs.symm
  | cons p ps => rfl
theorem counts_get : ∀ {l : List Node} {i : Nat}, i < l.length → (l.getD i default).count ≤ Node.counts l
  | x :: l, 0, h => by simp only [List.getD_cons_zero, Node.counts]; omega
  | x :: l, i + 1, h => by
    have := counts_get (l := l) (i := i) (by simpa using h)
    simp only [List.getD_cons_succ, Node.counts]; omega
theorem depths_get : ∀ {l : List Node} {i : Nat}, i < l.length → (l.getD i default).depth ≤ Node.depths l
  | x :: l, 0, h => by simp only [List.getD_cons_zero, Node.depths]; omega
  | x :: l, i + 1, h => by
    have := depths_get (l := l) (i := i) (by simpa using h)
    simp only [List.getD_cons_succ, Node.depths]; omega
theorem Node.count_eq (n : Node) : n.count = Node.counts n.kids + 1 := by cases n; rfl
theorem Node.depth_eq (n : Node) : n.depth = Node.depths n.kids + 1 := by cases n; rfl
theorem at_count : ∀ {path : List Int} {n x : Node}, Node.at path n = some x → x.count ≤ n.count ∧ x.depth ≤ n.depth
  | [], n, x, h => by cases h; exact ⟨Nat.le_refl _, Nat.le_refl _⟩
  | p :: ps, n, x, h => by
    simp only [Node.at] at h
    split at h
    · cases h
    · have h1 := at_count h
      have h2 := counts_get (l := n.kids) (i := p.toNat) (by omega)
      have h3 := depths_get (l := n.kids) (i := p.toNat) (by omega)
      rw [n.count_eq, n.depth_eq]
      omega
theorem counts_put (w : Node) (ps : List Int) : ∀ (l : List Node) (i : Nat) (o : Nat), i < l.length → Node.counts (l.mapIdx fun j k => if ((j + o : Nat) : Int) = ((i + o : Nat) : Int) then Node.put w ps k else k) + (l.getD i default).count = Node.counts l + (Node.put w ps (l.getD i default)).count
  | x :: l, 0, o, h => by
    have e : (l.mapIdx fun j k => if ((j + 1 + o : Nat) : Int) = ((0 + o : Nat) : Int) then Node.put w ps k else k) = l := by
      apply List.ext_getElem (by simp)
      intro j h1 h2
      simp only [List.getElem_mapIdx]
      rw [if_neg (by omega)]
    simp only [List.mapIdx_cons, Node.counts, List.getD_cons_zero, if_true]
    rw [e]; omega
  | x :: l, i + 1, o, h => by
    have ih := counts_put w ps l i (o + 1) (by simpa using h)
    simp only [List.mapIdx_cons, Node.counts, List.getD_cons_succ]
    rw [if_neg (by omega)]
    have e : (l.mapIdx fun j k => if ((j + 1 + o : Nat) : Int) = ((i + 1 + o : Nat) : Int) then Node.put w ps k else k) = l.mapIdx fun j k => if ((j + (o + 1) : Nat) : Int) = ((i + (o + 1) : Nat) : Int) then Node.put w ps k else k := by
      congr 1
      funext j k
      rw [show j + 1 + o = j + (o + 1) by omega, show i + 1 + o = i + (o + 1) by omega]
    rw [e]; omega
theorem put_count : ∀ {path : List Int} {n x : Node} (w : Node), Node.at path n = some x → (Node.put w path n).count + x.count = n.count + w.count
  | [], n, x, w, h => by cases h; simp only [Node.put]; omega
  | p :: ps, n, x, w, h => by
    simp only [Node.at] at h
    split at h
    · cases h
    · rename_i hp
      have ih := put_count w h
      have h1 := counts_put w ps n.kids p.toNat 0 (by omega)
      have e : (n.kids.mapIdx fun j k => if ((j + 0 : Nat) : Int) = ((p.toNat + 0 : Nat) : Int) then Node.put w ps k else k) = putKids w p ps n.kids := by
        unfold putKids
        congr 1
        funext j k
        rw [show ((p.toNat + 0 : Nat) : Int) = p by omega, Nat.add_zero]
      rw [e] at h1
      rw [Node.count_eq, n.count_eq]
      show Node.counts (putKids w p ps n.kids) + 1 + x.count = _
      omega
/-! ### A well formed tree's nodes have sorts -/
/-- What the root's check gives. -/
theorem rootErr_zero {n : Node} (h : n.rootErr = 0) : sortOf n.op ≠ 0 ∧ sortOf n.op ≠ 4 ∧ n.check (sortOf n.op) = 0 ∧ n.small = true ∧ n.formed false false false = true := by
  unfold Node.rootErr at h
  split at h
  · cases h
  · rename_i hs
    refine ⟨fun e => hs (.inl e), fun e => hs (.inr e), h, ?_⟩
    unfold Node.check at h
    split at h
    · cases h
    split at h
    · cases h
    rename_i h1
    split at h
    · cases h
    split at h
    · cases h
    rename_i h2
    exact ⟨by simpa using h1, by simpa using h2⟩
end Go.Vs
end
