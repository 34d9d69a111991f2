/- tree.Replace: what it returns. -/

import Derived.Test.YtnddhkcciphhkaaME9
import Derived.Test.YtnddhkcciphhkaaME10
import Derived.Test.YtnddhkcciphhkaaME14
import Derived.Test.YtnddhkcciphhkaaME20
section
set_option linter.unusedVariables false
set_option linter.unusedSimpArgs false
namespace Go.Vs
open Go Go.Proofs
theorem within_small (n : Node) : (n.within 4000 60).1 = n.small := by
  have hw := within_iff n 4000 60 (by omega) (by omega)
  cases h : (n.within 4000 60).1
  · have := hw.1
    rw [h] at this
    cases h2 : n.small
    · rfl
    · exfalso
      simp only [Node.small, Bool.and_eq_true, decide_eq_true_eq] at h2
      have := this.2 (by omega)
      cases this
  · have := hw.1.1 h
    simp only [Node.small]
    rw [decide_eq_true (show n.count ≤ 4000 by omega), decide_eq_true (show n.depth ≤ 60 by omega)]
    rfl
/-- What Replace returns: the tree and the error. -/
def Node.replRes (n : Node) (path : List Int) (w : Node) : Node × Int :=
  if n.rootErr ≠ 0 then (default, n.rootErr) else match Node.at path n with
    | none => (default, 1)
    | some x => if sortOf x.op ≠ sortOf w.op ∨ sortOf w.op = 0 then (default, 80) else if w.small = false then (default, 2) else
      if (Node.put w path n).check (sortOf (Node.put w path n).op) ≠ 0 then (default, (Node.put w path n).check (sortOf (Node.put w path n).op)) else (Node.put w path n, 0)
theorem Node.put_ok {w : Node} (hw : w.ok) : ∀ (path : List Int) (n : Node), n.ok → (Node.put w path n).ok
  | [], n, hn => hw
  | p :: ps, n, hn => by
    have h1 : Node.oks (putKids w p ps n.kids) := Node.oks_iff.2 fun k hk => by
      simp only [putKids, List.mem_mapIdx] at hk
      obtain ⟨i, hi, rfl⟩ := hk
      split
      · exact Node.put_ok hw ps _ (hn.kids _ (List.getElem_mem _))
      · exact hn.kids _ (List.getElem_mem _)
    cases n
    exact ⟨hn.1, hn.2.1, hn.2.2.1, hn.2.2.2.1, hn.2.2.2.2.1, hn.2.2.2.2.2.1, (putKids_length w p ps _).symm ▸ hn.2.2.2.2.2.2.1, h1⟩
theorem Node.put_brief {w : Node} (hw : w.brief) : ∀ (path : List Int) (n : Node), n.brief → (Node.put w path n).brief
  | [], n, hn => hw
  | p :: ps, n, hn => by
    rw [Node.brief_eq] at hn ⊢
    refine ⟨hn.1, hn.2.1, ?_, ?_⟩
    · show (putKids w p ps n.kids).length ≤ _
      rw [putKids_length]; exact hn.2.2.1
    · show Node.briefs (putKids w p ps n.kids)
      refine Node.briefs_of fun k hk => ?_
      simp only [putKids, List.mem_mapIdx] at hk
      obtain ⟨i, hi, rfl⟩ := hk
      split
      · exact Node.put_brief hw ps _ (Node.briefs_mem hn.2.2.2 _ (List.getElem_mem _))
      · exact Node.briefs_mem hn.2.2.2 _ (List.getElem_mem _)
theorem call54 (path : List Int) (hp : path.length ≤ maxLen) (n w : Node) (hn : n.ok) (hb : n.brief) (hw : w.ok) (hwb : w.brief) : callL Try.prog hints 54 [.agg n.cells, .sl (intRows path) false, .agg w.cells] = some (.tup [.agg (n.replRes path w).1.cells, .int .i64 (n.replRes path w).2]) := by
  have h1 := fun S => callN S (call72 n hn)
  have h2 := fun S => callO_plain (S := S) (call78 path hp n hn) (by simp [Node.plain, Plain.sl])
  have key : ∃ S0 c, F54.E 0 (.agg n.cells) (.sl (intRows path) false) (.agg w.cells) [] = some (.tup [.agg c, .int .i64 (n.replRes path w).2], S0) ∧ ∀ S, fzPV1 S (.agg c) = some (.agg (n.replRes path w).1.cells) := by
    unfold Node.replRes
    by_cases h3 : n.rootErr = 0
    case neg =>
      rw [if_pos h3]
      refine ⟨?S1, zeroNode, ?h1, fun _ => rfl⟩
      case h1 =>
        simp only [go_sem, ↓reduceIte, Nat.reduceEqDiff, Nat.reduceBEq, Nat.reduceAdd, Nat.reduceMul, Nat.reduceSub, Nat.reduceLT, Nat.reduceLeDiff, reduceCtorEq, Int.reduceToNat, Int.reduceLE, Int.reduceLT, Int.reduceEq, h1, h3]
        rfl
    simp only [h3, ne_eq, not_true_eq_false, if_false]
    cases h4 : Node.at path n with
    | none =>
      rw [h4] at h2
      refine ⟨?S2, zeroNode, ?h2, fun _ => rfl⟩
      case h2 =>
        simp only [go_sem, ↓reduceIte, Nat.reduceEqDiff, Nat.reduceBEq, Nat.reduceAdd, Nat.reduceMul, Nat.reduceSub, Nat.reduceLT, Nat.reduceLeDiff, reduceCtorEq, Int.reduceToNat, Int.reduceLE, Int.reduceLT, Int.reduceEq, h1, h2, h3, Option.isSome]
        rfl
    | some x =>
      rw [h4] at h2
      simp only
      by_cases h5 : sortOf x.op = sortOf w.op
      case neg =>
        rw [if_pos (.inl h5)]
        refine ⟨?S3, zeroNode, ?h3, fun _ => rfl⟩
        case h3 =>
          simp only [go_sem, ↓reduceIte, Nat.reduceEqDiff, Nat.reduceBEq, Nat.reduceAdd, Nat.reduceMul, Nat.reduceSub, Nat.reduceLT, Nat.reduceLeDiff, reduceCtorEq, Int.reduceToNat, Int.reduceLE, Int.reduceLT, Int.reduceEq, h1, h2, h3, h5, Option.isSome, Option.getD]
          rfl
      by_cases h6 : sortOf w.op = 0
      case pos =>
        rw [if_pos (.inr h6)]
        refine ⟨?S4, zeroNode, ?h4, fun _ => rfl⟩
        case h4 =>
          simp only [go_sem, ↓reduceIte, Nat.reduceEqDiff, Nat.reduceBEq, Nat.reduceAdd, Nat.reduceMul, Nat.reduceSub, Nat.reduceLT, Nat.reduceLeDiff, reduceCtorEq, Int.reduceToNat, Int.reduceLE, Int.reduceLT, Int.reduceEq, h1, h2, h3, h5, h6, Option.isSome, Option.getD]
          rfl
      rw [if_neg (by simp [h5, h6])]
      obtain ⟨G, hG⟩ := call63A w hw 60 4000 (by omega) (by omega) [.arr [n.cells] none false, .arr [w.cells] none false, .arr [zeroNode] none false, .arr [x.cells] none false] []
        (.cons (by simp only [rowsRefs_cons, Node.refs]; rfl) (.cons (by simp only [rowsRefs_cons, Node.refs]; rfl) (.cons rfl (.cons (by simp only [rowsRefs_cons, Node.refs]; rfl) .nil)))) .nil
      have hc := (show callE (F54.C 0) _ 63 _ = _ from callE_eq (b := 0) (h := F54.hint) (by rfl) hG (by simp))
      rw [within_small] at hc
      simp only [leftObj, List.cons_append, List.nil_append, List.length_cons, List.length_nil, Nat.reduceAdd] at hc
      cases h7 : w.small with
      | false =>
        rw [h7] at hc
        rw [if_pos rfl]
        refine ⟨?S5, zeroNode, ?h5, fun _ => rfl⟩
        case h5 =>
          simp only [go_sem, ↓reduceIte, Nat.reduceEqDiff, Nat.reduceBEq, Nat.reduceAdd, Nat.reduceMul, Nat.reduceSub, Nat.reduceLT, Nat.reduceLeDiff, reduceCtorEq, Int.reduceToNat, Int.reduceLE, Int.reduceLT, Int.reduceEq, h1, h2, h3, h5, h6, hc, Option.isSome, Option.getD]
          rfl
      | true =>
        rw [h7] at hc
        rw [if_neg (by simp)]
        have h8 := fun S => callO_plain (S := S) (call81 w hw hwb path hp n hn hb) (by simp [Node.plain, Plain.sl])
        have h9 := fun S s => callO_plain (S := S) (call36 (Node.put w path n) (Node.put_ok hw path n hn) s) (by simp [Node.plain, Plain.int])
        generalize hr : Node.put w path n = r at *
        by_cases h10 : r.check (sortOf r.op) = 0
        · rw [if_neg (by simp [h10])]
          refine ⟨?S6, r.cells, ?h6, fun S => Node.fz S r⟩
          case h6 =>
            simp only [go_sem, ↓reduceIte, Nat.reduceEqDiff, Nat.reduceBEq, Nat.reduceAdd, Nat.reduceMul, Nat.reduceSub, Nat.reduceLT, Nat.reduceLeDiff, reduceCtorEq, Int.reduceToNat, Int.reduceLE, Int.reduceLT, Int.reduceEq, h1, h2, h3, h5, h6, hc, h8, h9, h10, Option.isSome, Option.getD]
            rfl
        · rw [if_pos h10]
          refine ⟨?S7, zeroNode, ?h7, fun _ => rfl⟩
          case h7 =>
            simp only [go_sem, ↓reduceIte, Nat.reduceEqDiff, Nat.reduceBEq, Nat.reduceAdd, Nat.reduceMul, Nat.reduceSub, Nat.reduceLT, Nat.reduceLeDiff, reduceCtorEq, Int.reduceToNat, Int.reduceLE, Int.reduceLT, Int.reduceEq, h1, h2, h3, h5, h6, hc, h8, h9, h10, Option.isSome, Option.getD]
            rfl
  obtain ⟨S0, c, hE, hz⟩ := key
  refine F54.call hE ?_
  show (mapO (fzPV1 S0) [.agg c, .int .i64 (n.replRes path w).2]).map PV.tup = _
  simp only [mapO, hz, Option.bind_some]
  rfl
end Go.Vs
end
/- The order of trees: antisymmetric, transitive. -/
section
set_option linter.unusedVariables false
set_option linter.unusedSimpArgs false
namespace Go.Vs
open Go Go.Proofs
/-- Three comparisons, of a with b, b with c, a with c, go together. -/
def Tri (x y z : Int) : Prop := (0 < x ∨ 0 < y ∨ (z ≤ 0 ∧ (z ≠ 0 ∨ (x = 0 ∧ y = 0)))) ∧ (x < 0 ∨ y < 0 ∨ (0 ≤ z ∧ (z ≠ 0 ∨ (x = 0 ∧ y = 0))))
theorem Tri.seq {x y z x' y' z' : Int} (h : Tri x y z) (k : x = 0 → y = 0 → z = 0 → Tri x' y' z') : Tri (seqI x x') (seqI y y') (seqI z z') := by
  unfold Tri at *
  have e : ∀ u v : Int, (u = 0 ∧ seqI u v = v) ∨ (u ≠ 0 ∧ seqI u v = u) := fun u v => by
    by_cases hu : u = 0
    · left; simp [seqI, hu]
    · right; simp [seqI, hu]
  rcases e x x' with ⟨h1, e1⟩ | ⟨h1, e1⟩ <;> rcases e y y' with ⟨h2, e2⟩ | ⟨h2, e2⟩ <;> rcases e z z' with ⟨h3, e3⟩ | ⟨h3, e3⟩ <;> rw [e1, e2, e3]
  · exact k h1 h2 h3
  all_goals (clear k; omega)
theorem anti_cmpI (a b : Int) : cmpI b a = - cmpI a b := by unfold cmpI; omega
theorem anti_seq {x y x' y' : Int} (h : y = -x) (k : x = 0 → y' = -x') : seqI y y' = - seqI x x' := by
  by_cases hx : x = 0
  · have := k hx
    subst h
    simp [seqI, hx, this]
  · have : y ≠ 0 := by omega
    simp [seqI, hx, this, h]
theorem bytesLess_total : ∀ a b, a ≠ b → (Op.bytesLess b a = !Op.bytesLess a b)
  | [], [], h => absurd rfl h
  | [], _ :: _, _ => rfl
  | _ :: _, [], _ => rfl
  | a :: x, b :: y, h => by
    simp only [Op.bytesLess]
    by_cases hab : a = b
    · subst hab
      have : x ≠ y := fun e => h (by rw [e])
      simp [bytesLess_total x y this]
    · have h1 : (a == b) = false := by simpa using hab
      have h2 : (b == a) = false := by simpa using fun e : b = a => hab e.symm
      have h3 : a.toNat ≠ b.toNat := fun e => hab (UInt8.toNat.inj e)
      simp only [h1, h2, Bool.false_and, Bool.or_false, UInt8.lt_iff_toNat_lt]
      by_cases h4 : a.toNat < b.toNat <;> simp [h4] <;> omega
theorem anti_cmpStr (a b : ByteArray) : cmpStr b a = - cmpStr a b := by
  unfold cmpStr
  by_cases h : a.toList = b.toList
  · simp [h]
  · have h' : ¬ b.toList = a.toList := fun e => h e.symm
    simp only [ne_eq, h, h', not_false_eq_true, if_true, bytesLess_total _ _ h]
    cases Op.bytesLess a.toList b.toList <;> rfl
theorem anti_cmpNeg (a b : Bool) : cmpNeg b a = - cmpNeg a b := by cases a <;> cases b <;> rfl
theorem anti_wordsTo (a b : List Int) : ∀ m, wordsTo b a m = - wordsTo a b m
  | 0 => rfl
  | m + 1 => anti_seq (anti_cmpI _ _) fun _ => anti_wordsTo a b m
theorem cmpI_zero {a b : Int} (h : cmpI a b = 0) : a = b := by unfold cmpI at h; omega
theorem anti_cmpWords (a b : List Int) : cmpWords b a = - cmpWords a b := anti_seq (anti_cmpI _ _) fun h => by
  have : a.length = b.length := by have := cmpI_zero h; omega
  rw [this]; exact anti_wordsTo a b _
theorem anti_cmps : ∀ (a b : List Node), (∀ n ∈ a, ∀ m, m.cmp n = - n.cmp m) → Node.cmps b a = - Node.cmps a b
  | [], [], _ => rfl
  | [], _ :: _, _ => rfl
  | _ :: _, [], _ => rfl
  | n :: r, m :: s, h => anti_seq (h n (by simp) m) fun _ => anti_cmps r s fun x hx => h x (by simp [hx])
theorem anti_cmp : ∀ a b : Node, b.cmp a = - a.cmp b := by
  refine Node.ind' fun a ih b => ?_
  rw [Node.cmp_eq b a, Node.cmp_eq a b]
  exact anti_seq (anti_cmpI _ _) fun _ => anti_seq (anti_cmpStr _ _) fun _ => anti_seq (anti_cmpNeg _ _) fun _ => anti_seq (anti_cmpWords _ _) fun _ => anti_seq (anti_cmpWords _ _) fun _ => anti_seq (anti_cmpI _ _) fun _ => anti_cmps _ _ ih
/-- The results are -1, 0, 1. -/
def Small (x : Int) : Prop := -1 ≤ x ∧ x ≤ 1
theorem Small.seq {x y : Int} (h : Small x) (k : Small y) : Small (seqI x y) := by unfold seqI; split <;> assumption
end Go.Vs
end
/- Places in trees: plain laws. -/
section
set_option linter.unusedVariables false
set_option linter.unusedSimpArgs false
namespace Go.Vs
open Go Go.Proofs
theorem cmp_self (n : Node) : n.cmp n = 0 := by have := anti_cmp n n; omega
theorem putKids_self {w : Node} {p : Int} {ps : List Int} {l : List Node} (h : ∀ i : Nat, (i : Int) = p → i < l.length → Node.put w ps (l.getD i default) = l.getD i default) : putKids w p ps l = l := by
  apply List.ext_getElem (putKids_length w p ps l)
  intro i h1 h2
  simp only [putKids, List.getElem_mapIdx]
  split
  · rename_i hp
    have := h i hp h2
    simpa [List.getD_eq_getElem?_getD, h2] using this
  · rfl
theorem put_at : ∀ {path : List Int} {n x : Node}, Node.at path n = some x → Node.put x path n = n
  | [], n, x, h => by cases h; rfl
  | p :: ps, n, x, h => by
    simp only [Node.at] at h
    split at h
    · cases h
    · have ih := put_at h
      have : putKids x p ps n.kids = n.kids := putKids_self fun i hi hl => by
        subst hi
        simpa using ih
      show Node.mk n.op n.name n.neg n.num n.den (putKids x p ps n.kids) = n
      rw [this]
      cases n; rfl
theorem at_put : ∀ {path : List Int} {n x : Node} (w : Node), Node.at path n = some x → Node.at path (Node.put w path n) = some w
  | [], n, x, w, h => rfl
  | p :: ps, n, x, w, h => by
    simp only [Node.at] at h
    split at h
    · cases h
    · rename_i hp
      have ih := at_put w h
      have e : (Node.put w (p :: ps) n).kids = putKids w p ps n.kids := rfl
      simp only [Node.at, e, putKids_length]
      rw [if_neg hp, putKids_get _ _ _ _ (by omega), if_pos (by omega)]
      exact ih
theorem put_put : ∀ {path : List Int} {n x : Node} (v w : Node), Node.at path n = some x → Node.put v path (Node.put w path n) = Node.put v path n
  | [], n, x, v, w, h => rfl
  | p :: ps, n, x, v, w, h => by
    simp only [Node.at] at h
    split at h
    · cases h
    · rename_i hp
      have ih := put_put v w h
      show Node.mk n.op n.name n.neg n.num n.den (putKids v p ps (putKids w p ps n.kids)) = Node.mk n.op n.name n.neg n.num n.den (putKids v p ps n.kids)
      congr 1
      apply List.ext_getElem (by simp only [putKids_length])
      intro i h1 h2
      simp only [putKids, List.getElem_mapIdx]
      split
      · rename_i hi
        subst hi
        have hi : i < n.kids.length := by simpa only [putKids_length] using h1
        have e : n.kids.getD i default = n.kids[i] := by simp [List.getD_eq_getElem?_getD, hi]
        rw [Int.toNat_natCast, e] at ih
        exact ih
      · rfl
theorem put_op {path : List Int} {n x w : Node} (h : Node.at path n = some x) (hs : sortOf x.op = sortOf w.op) : sortOf (Node.put w path n).op = sortOf n.op := by
  cases path with
  | nil => cases h; exact hs.symm
  | cons p ps => rfl
theorem counts_get : ∀ {l : List Node} {i : Nat}, i < l.length → (l.getD i default).count ≤ Node.counts l
  | x :: l, 0, h => by simp only [List.getD_cons_zero, Node.counts]; omega
  | x :: l, i + 1, h => by
    have := counts_get (l := l) (i := i) (by simpa using h)
    simp only [List.getD_cons_succ, Node.counts]; omega
theorem depths_get : ∀ {l : List Node} {i : Nat}, i < l.length → (l.getD i default).depth ≤ Node.depths l
  | x :: l, 0, h => by simp only [List.getD_cons_zero, Node.depths]; omega
  | x :: l, i + 1, h => by
    have := depths_get (l := l) (i := i) (by simpa using h)
    simp only [List.getD_cons_succ, Node.depths]; omega
theorem Node.count_eq (n : Node) : n.count = Node.counts n.kids + 1 := by cases n; rfl
theorem Node.depth_eq (n : Node) : n.depth = Node.depths n.kids + 1 := by cases n; rfl
theorem at_count : ∀ {path : List Int} {n x : Node}, Node.at path n = some x → x.count ≤ n.count ∧ x.depth ≤ n.depth
  | [], n, x, h => by cases h; exact ⟨Nat.le_refl _, Nat.le_refl _⟩
  | p :: ps, n, x, h => by
    simp only [Node.at] at h
    split at h
    · cases h
    · have h1 := at_count h
      have h2 := counts_get (l := n.kids) (i := p.toNat) (by omega)
      have h3 := depths_get (l := n.kids) (i := p.toNat) (by omega)
      rw [n.count_eq, n.depth_eq]
      omega
theorem at_small {path : List Int} {n x : Node} (h : Node.at path n = some x) (hs : n.small = true) : x.small = true := by
  have := at_count h
  simp only [Node.small, Bool.and_eq_true, decide_eq_true_eq] at hs ⊢
  omega
theorem counts_put (w : Node) (ps : List Int) : ∀ (l : List Node) (i : Nat) (o : Nat), i < l.length → Node.counts (l.mapIdx fun j k => if ((j + o : Nat) : Int) = ((i + o : Nat) : Int) then Node.put w ps k else k) + (l.getD i default).count = Node.counts l + (Node.put w ps (l.getD i default)).count
  | x :: l, 0, o, h => by
    have e : (l.mapIdx fun j k => if ((j + 1 + o : Nat) : Int) = ((0 + o : Nat) : Int) then Node.put w ps k else k) = l := by
      apply List.ext_getElem (by simp)
      intro j h1 h2
      simp only [List.getElem_mapIdx]
      rw [if_neg (by omega)]
    simp only [List.mapIdx_cons, Node.counts, List.getD_cons_zero, if_true]
    rw [e]; omega
  | x :: l, i + 1, o, h => by
    have ih := counts_put w ps l i (o + 1) (by simpa using h)
    simp only [List.mapIdx_cons, Node.counts, List.getD_cons_succ]
    rw [if_neg (by omega)]
    have e : (l.mapIdx fun j k => if ((j + 1 + o : Nat) : Int) = ((i + 1 + o : Nat) : Int) then Node.put w ps k else k) = l.mapIdx fun j k => if ((j + (o + 1) : Nat) : Int) = ((i + (o + 1) : Nat) : Int) then Node.put w ps k else k := by
      congr 1
      funext j k
      rw [show j + 1 + o = j + (o + 1) by omega, show i + 1 + o = i + (o + 1) by omega]
    rw [e]; omega
theorem put_count : ∀ {path : List Int} {n x : Node} (w : Node), Node.at path n = some x → (Node.put w path n).count + x.count = n.count + w.count
  | [], n, x, w, h => by cases h; simp only [Node.put]; omega
  | p :: ps, n, x, w, h => by
    simp only [Node.at] at h
    split at h
    · cases h
    · rename_i hp
      have ih := put_count w h
      have h1 := counts_put w ps n.kids p.toNat 0 (by omega)
      have e : (n.kids.mapIdx fun j k => if ((j + 0 : Nat) : Int) = ((p.toNat + 0 : Nat) : Int) then Node.put w ps k else k) = putKids w p ps n.kids := by
        unfold putKids
        congr 1
        funext j k
        rw [show ((p.toNat + 0 : Nat) : Int) = p by omega, Nat.add_zero]
      rw [e] at h1
      rw [Node.count_eq, n.count_eq]
      show Node.counts (putKids w p ps n.kids) + 1 + x.count = _
      omega
/-! ### A well formed tree's nodes have sorts -/
theorem kidSorts_pos (o : Int) : ∀ s ∈ kidSorts o, s ≠ 0 := by
  unfold kidSorts
  repeat' split
  all_goals simp
theorem sortsFor_pos (o : Int) (m : Nat) : ∀ s ∈ sortsFor o m, s ≠ 0 := by
  unfold sortsFor
  split
  · intro s hs; rw [(List.mem_replicate.1 hs).2]; decide
  split
  · intro s hs
    rcases List.mem_append.1 hs with hs | hs
    · rw [(List.mem_replicate.1 hs).2]; decide
    · simp at hs; omega
  · exact kidSorts_pos o
theorem formeds_get : ∀ {l : List Node} {s : List Int} {a b c : Bool} {i : Nat}, Node.formeds l s a b c = true → i < l.length → sortOf (l.getD i default).op = s.getD i 0 ∧ (l.getD i default).formed a b c = true
  | x :: l, s, a, b, c, 0, h, hi => by
    simp only [Node.formeds, Bool.and_eq_true, decide_eq_true_eq] at h
    exact ⟨h.1, h.2.1⟩
  | x :: l, s, a, b, c, i + 1, h, hi => by
    simp only [Node.formeds, Bool.and_eq_true, decide_eq_true_eq] at h
    have := formeds_get (i := i) h.2.2 (by simpa using hi)
    rw [List.getD_cons_succ]
    have e : s.getD (i + 1) 0 = s.tail.getD i 0 := by cases s <;> simp
    rw [e]; exact this
theorem at_sort : ∀ {path : List Int} {n x : Node} {a b c : Bool}, Node.at path n = some x → n.formed a b c = true → sortOf n.op ≠ 0 → sortOf x.op ≠ 0
  | [], n, x, a, b, c, h, hf, hs => by cases h; exact hs
  | p :: ps, n, x, a, b, c, h, hf, hs => by
    simp only [Node.at] at h
    split at h
    · cases h
    · rw [Node.formed_eq] at hf
      simp only [Bool.and_eq_true, decide_eq_true_eq] at hf
      have h1 := formeds_get (i := p.toNat) hf.2.2.2.1 (by omega)
      refine at_sort h h1.2 ?_
      rw [h1.1, List.getD_eq_getElem?_getD, List.getElem?_eq_getElem (by have := hf.2.2.1; omega)]
      exact sortsFor_pos _ _ _ (List.getElem_mem _)
/-- What the root's check gives. -/
theorem rootErr_zero {n : Node} (h : n.rootErr = 0) : sortOf n.op ≠ 0 ∧ sortOf n.op ≠ 4 ∧ n.check (sortOf n.op) = 0 ∧ n.small = true ∧ n.formed false false false = true := by
  unfold Node.rootErr at h
  split at h
  · cases h
  · rename_i hs
    refine ⟨fun e => hs (.inl e), fun e => hs (.inr e), h, ?_⟩
    unfold Node.check at h
    split at h
    · cases h
    split at h
    · cases h
    rename_i h1
    split at h
    · cases h
    split at h
    · cases h
    rename_i h2
    exact ⟨by simpa using h1, by simpa using h2⟩
theorem rootErr_of {n : Node} (h0 : sortOf n.op ≠ 0) (h4 : sortOf n.op ≠ 4) (h : n.check (sortOf n.op) = 0) : n.rootErr = 0 := by
  unfold Node.rootErr
  rw [if_neg (by simp [h0, h4]), h]
theorem check_small {n : Node} {s : Int} (h : n.check s = 0) : n.small = true := by
  unfold Node.check at h
  split at h
  · cases h
  split at h
  · cases h
  rename_i h1
  simpa using h1
theorem atRes_zero {n : Node} {path : List Int} (h : (n.atRes path).2 = 0) : n.rootErr = 0 ∧ ∃ x, Node.at path n = some x ∧ n.atRes path = (x, 0) := by
  unfold Node.atRes at h ⊢
  by_cases h1 : n.rootErr = 0
  · rw [if_neg (by simpa using h1)] at h ⊢
    refine ⟨h1, ?_⟩
    cases h2 : Node.at path n with
    | none => rw [h2] at h; cases h
    | some x => exact ⟨x, rfl, rfl⟩
  · rw [if_pos h1] at h
    exact absurd h h1
theorem replRes_zero {n w : Node} {path : List Int} (h : (n.replRes path w).2 = 0) : n.rootErr = 0 ∧ ∃ x, Node.at path n = some x ∧ sortOf x.op = sortOf w.op ∧ sortOf w.op ≠ 0 ∧ w.small = true ∧ (Node.put w path n).check (sortOf (Node.put w path n).op) = 0 ∧ n.replRes path w = (Node.put w path n, 0) := by
  unfold Node.replRes at h ⊢
  by_cases h1 : n.rootErr = 0
  case neg => rw [if_pos h1] at h; exact absurd h h1
  rw [if_neg (by simpa using h1)] at h ⊢
  refine ⟨h1, ?_⟩
  cases h2 : Node.at path n with
  | none => rw [h2] at h; cases h
  | some x =>
    rw [h2] at h
    simp only at h ⊢
    split at h
    · cases h
    rename_i h3
    split at h
    · cases h
    rename_i h4
    split at h
    · rename_i h5; exact absurd h h5
    rename_i h5
    rw [if_neg h3, if_neg h4, if_neg h5]
    exact ⟨x, rfl, by simpa using fun e => h3 (.inl e), fun e => h3 (.inr e), by simpa using h4, by simpa using h5, rfl⟩
theorem replRes_of {n w x : Node} {path : List Int} (h1 : n.rootErr = 0) (h2 : Node.at path n = some x) (h3 : sortOf x.op = sortOf w.op) (h4 : sortOf w.op ≠ 0) (h5 : w.small = true) (h6 : (Node.put w path n).check (sortOf (Node.put w path n).op) = 0) : n.replRes path w = (Node.put w path n, 0) := by
  unfold Node.replRes
  rw [if_neg (by simpa using h1), h2]
  simp only
  rw [if_neg (by simp [h3, h4]), if_neg (by simp [h5]), if_neg (by simpa using h6)]
theorem replRes_fst {n w : Node} {path : List Int} (h : (n.replRes path w).2 ≠ 0) : (n.replRes path w).1 = default := by
  unfold Node.replRes at h ⊢
  split
  · rfl
  rename_i h1
  rw [if_neg h1] at h
  cases h2 : Node.at path n with
  | none => rfl
  | some x =>
    rw [h2] at h
    simp only at h ⊢
    repeat' split
    all_goals first | rfl | skip
    rename_i h3 h4 h5
    rw [if_neg h3, if_neg h4, if_neg h5] at h
    exact absurd rfl h
end Go.Vs
end
/- Printed by a program of mine (stage1.py): the functions 87, 88, 90, 91, 92, 95, piece by piece. -/
section
set_option linter.unusedVariables false
set_option linter.unusedSimpArgs false
namespace Go.Vs
open Go Go.Proofs
noncomputable section

/-! ### isochroneref08.named -/
namespace F87
end F87
/-! ### isochroneref08.natural -/
namespace F88
end F88
/-! ### isochroneref08.kids -/
namespace F90
end F90
/-! ### isochroneref08.Natural -/
namespace F91
end F91
/-! ### isochroneref08.differential -/
namespace F92
end F92
/-! ### isochroneref08.primed -/
namespace F95
end F95
end
end Go.Vs
end
/- The reference's small functions: what they return. -/
section
set_option linter.unusedVariables false
set_option linter.unusedSimpArgs false
namespace Go.Vs
open Go Go.Proofs
def hasName' (o : Int) : Bool := hasName o || (decide (o = 10) || decide (o = 37))
/-- The sorts as digits. -/
def digits (l : List Int) : ByteArray := ⟨(l.map fun d => UInt8.ofNat (48 + d.toNat)).toArray⟩
/-- The value of a natural number, -1 if it is greater than a bound. -/
def natVal (num : List Int) (most : Int) : Int := if num.length = 0 then 0 else if 1 < num.length ∨ most < num.getD 0 0 then -1 else num.getD 0 0
mutual
/-- Does a differential occur? -/
def Node.primed : Node → Bool
  | .mk o _ _ _ _ f => (decide (o = 3) || (decide (o = 12) || decide (o = 39))) || Node.primeds f
def Node.primeds : List Node → Bool
  | [] => false
  | n :: r => n.primed || Node.primeds r
end
end Go.Vs
end
/- Printed by a program of mine (stage1.py): the functions 89, 65, 37, 7, piece by piece. -/
section
set_option linter.unusedVariables false
set_option linter.unusedSimpArgs false
namespace Go.Vs
open Go Go.Proofs
noncomputable section

/-! ### isochroneref08.flow -/
namespace F89
end F89
/-! ### isochroneref08.well -/
namespace F65
end F65
/-! ### isochroneref08.Check -/
namespace F37
end F37
/-! ### isochronelaw08.TreeChecks -/
namespace F7
end F7
end
end Go.Vs
end
/- The reference's flow, over well: what it returns. -/
section
set_option linter.unusedVariables false
set_option linter.unusedSimpArgs false
namespace Go.Vs
open Go Go.Proofs
/-- The sorts of a node's kids, by the reference. -/
def sortsRef (o : Int) (m : Nat) : List Int := if (o = 10 ∨ o = 37) ∧ m = 1 then [1] else kidSorts o
def tailRef (o : Int) (f : List Node) : Bool :=
  if o = 8 then decide ((f.getD 1 default).op = 1) && decide (0 < (f.getD 1 default).num.length)
  else if o = 9 then decide ((f.getD 1 default).op = 1) && decide (0 ≤ natVal (f.getD 1 default).num 20)
  else if o = 39 then (f.getD 0 default).diff
  else true
mutual
def Node.well : Node → Int → Bool → Bool → Bool
  | .mk o nm ng nu de fs, s, t, f =>
    (decide (sortOf o = s) && (decide (hasName' o = nameOK nm) && (hasName' o || noName nm))) &&
    ((if o = 1 then natOK ng nu de else (!ng && (decide (nu.length = 0) && decide (de.length = 0)))) &&
    (!((t && decide (o = 12)) || ((t || f) && decide (o = 3))) &&
    (if o = 54 then decide (2 ≤ fs.length) && (!((decide (o = 3) || (decide (o = 12) || decide (o = 39))) || Node.primeds fs) && (Node.wells fs (List.replicate (fs.length - 1) 4 ++ [2]) t f && flowOK fs))
     else decide ((sortsRef o fs.length).length = fs.length) && (Node.wells fs (sortsRef o fs.length) (t || decide (o = 12)) (f || decide (o = 39)) && tailRef o fs))))
def Node.wells : List Node → List Int → Bool → Bool → Bool
  | [], _, _, _ => true
  | n :: r, s, t, f => n.well (s.getD 0 0) t f && Node.wells r s.tail t f
end
end Go.Vs
end
/- The reference's well: what it returns. -/
section
set_option linter.unusedVariables false
set_option linter.unusedSimpArgs false
namespace Go.Vs
open Go Go.Proofs
end Go.Vs
end
/- The reference's well and Check: what they return. -/
section
set_option linter.unusedVariables false
set_option linter.unusedSimpArgs false
namespace Go.Vs
open Go Go.Proofs
end Go.Vs
end
/- The reference's Check; both agree where nothing wraps. -/
section
set_option linter.unusedVariables false
set_option linter.unusedSimpArgs false
namespace Go.Vs
open Go Go.Proofs
/-! ### Sizes and levels that don't wrap are the true ones -/
mutual
theorem size_count : ∀ n : Node, n.count ≤ 1000000000 → n.size = n.count
  | .mk a b c d e f, h => by
    simp only [Node.count] at h ⊢
    simp only [Node.size]
    rw [sizes_counts f 1 (by omega) (by omega)]
    omega
theorem sizes_counts : ∀ (l : List Node) (a : Int), 0 ≤ a → a + Node.counts l ≤ 1000000000 → Node.sizes a l = a + Node.counts l
  | [], a, h0, h => by simp only [Node.sizes, Node.counts]; omega
  | n :: r, a, h0, h => by
    simp only [Node.counts] at h ⊢
    simp only [Node.sizes]
    have hs := size_count n (by omega)
    have hw : IntKind.i64.wrap (a + n.size) = a + n.count := by rw [hs, IntKind.wrap_i64]; omega
    rw [hw, sizes_counts r (a + n.count) (by omega) (by omega)]
    omega
end
/-! ### Well formed, by both -/
end Go.Vs
end
/- The check of the statements' own package comes to true. -/
section
set_option linter.unusedVariables false
namespace Go.Vs
open Go Go.Proofs
def isTrue (x : Option PV) : Bool := match x with | some (.bool b) => b | _ => false
theorem isTrue_eq {x : Option PV} (h : isTrue x = true) : x = some (.bool true) := by
  unfold isTrue at h
  split at h
  · subst h; rfl
  · cases h
theorem call34 : callL Try.prog hints 34 [] = some (.bool true) := callL_run (n := 60) (isTrue_eq (by kernel_rfl))
@[go_sem] theorem callO34 (S : Store) : callO (callL Try.prog hints) S 34 [] = some { v := .bool true } := callO_plain call34 (by simp)
end Go.Vs
end
/- Printed by a program of mine (stage1.py): the functions 12, piece by piece. -/
section
set_option linter.unusedVariables false
set_option linter.unusedSimpArgs false
namespace Go.Vs
open Go Go.Proofs
noncomputable section

/-! ### isochronelaw08.TreeReplaces -/
namespace F12
noncomputable def hint : Hint := { keep := [], loops := [], regs := [(0, [1, 3, 5]), (1, [1, 3, 5, 18]), (2, [6]), (3, [1, 3, 5, 26]), (4, [6]), (5, [1, 3, 5, 7, 8]), (6, [1, 3, 5, 7, 34]), (7, [6]), (8, [1, 3, 5, 7, 9, 10]), (9, [1, 3, 5, 7, 49]), (10, [6]), (11, [1, 3, 5, 7, 11, 12]), (12, [1, 3, 5, 7, 11, 58]), (13, [6]), (14, [1, 3, 5, 7, 11, 13, 14]), (15, [3, 5, 7, 11, 13, 14, 15, 16]), (16, [6])] }
noncomputable def C (b : Nat) : Ctx := ctxL Try.prog hints b hint
noncomputable def code : Code := Try.f12.body.get rfl
noncomputable def k0 (b : Nat) : KT := endC Try.prog Try.f12
def ee0 (x1 x3 x5 : PV) : Env := [(1, x1), (3, x3), (5, x5)]
def ee1 (x1 x3 x5 x7 x8 : PV) : Env := [(1, x1), (3, x3), (5, x5), (7, x7), (8, x8)]
def ee2 (x1 x3 x5 x7 x9 x10 : PV) : Env := [(1, x1), (3, x3), (5, x5), (7, x7), (9, x9), (10, x10)]
def ee3 (x1 x3 x5 x7 x11 x12 : PV) : Env := [(1, x1), (3, x3), (5, x5), (7, x7), (11, x11), (12, x12)]
def ee4 (x1 x3 x5 x7 x11 x13 x14 : PV) : Env := [(1, x1), (3, x3), (5, x5), (7, x7), (11, x11), (13, x13), (14, x14)]
def ee5 (x1 x3 x5 x7 x11 x58 : PV) : Env := [(1, x1), (3, x3), (5, x5), (7, x7), (11, x11), (58, x58)]
def ee6 (x1 x3 x5 x7 x34 : PV) : Env := [(1, x1), (3, x3), (5, x5), (7, x7), (34, x34)]
def ee7 (x1 x3 x5 x7 x49 : PV) : Env := [(1, x1), (3, x3), (5, x5), (7, x7), (49, x49)]
def ee8 (x1 x3 x5 x18 : PV) : Env := [(1, x1), (3, x3), (5, x5), (18, x18)]
def ee9 (x1 x3 x5 x26 : PV) : Env := [(1, x1), (3, x3), (5, x5), (26, x26)]
def ee10 (x3 x5 x7 x11 x13 x14 x15 x16 : PV) : Env := [(3, x3), (5, x5), (7, x7), (11, x11), (13, x13), (14, x14), (15, x15), (16, x16)]
def ee11 (x6 : PV) : Env := [(6, x6)]
def c1 : Code := at0 code
def c2 : Code := at1 code
def c3 : Code := at0 c2
def c4 : Code := at1 c2
def c5 : Code := at0 c4
def c6 : Code := at1 c4
def c7 : Code := at0 c6
def c8 : Code := at1 c6
def c9 : Code := at0 c8
def c10 : Code := at1 c8
def c11 : Code := at0 c10
def c12 : Code := at1 c10
def c13 : Code := at0 c12
def c14 : Code := at1 c12
def c15 : Code := at0 c14
def c16 : Code := at1 c14
def c17 : Code := at0 c16
def c18 : Code := at1 c16
def c19 : Code := at0 c18
def c20 : Code := at1 c18
def c21 : Code := at0 c20
def c22 : Code := at1 c20
def c23 : Code := at0 c22
def c24 : Code := at1 c22
def k25 (b : Nat) : KT := seqC (fun e S => execL (C b) 0 c24 (k0 b) e S) (k0 b)
@[go_sem] theorem k25_n (b : Nat) (x6 : PV) (S : Store) : k25 b .normal (ee11 x6) S =
  (k0 b) .ret (ee11 x6) S := nr (seqN (execL_ret (by kernel_rfl)))
def k26 (b : Nat) : KT := seqC (fun e S => execL (C b) 0 c22 (k0 b) e S) (k0 b)
@[go_sem] theorem g27 (b : Nat) (K : KT) (x3 x5 x7 x11 x13 x14 x15 x16 : PV) (S : Store) : execL (C b) 0 c23 K (ee10 x3 x5 x7 x11 x13 x14 x15 x16) S =
  withV (some x14) fun x80 =>
    withV (evBin .eql (tyi Try.prog 29) x80 (.int .i64 0)) fun x81 =>
    withV (some x81) fun x82 =>
    withV (gval x82 true (some x16)) fun x83 =>
    withV (gval x82 true (evBin .eql (tyi Try.prog 29) x83 (.int .i64 0))) fun x84 =>
    withV (pickO x82 x84 (.bool false)) fun x85 =>
    withV (some x85) fun x86 =>
    withV (gval x86 true (evLoad (tyi Try.prog 54) S x13)) fun x87 =>
    withV (gval x86 true (evLoad (tyi Try.prog 54) S x5)) fun x88 =>
    withN (gout x86 true (callO (callL Try.prog hints) S 47 [x87, x88])) S fun x89 S =>
    withV (pickO x86 x89 (.bool false)) fun x90 =>
    withV (some x90) fun x91 =>
    withV (gval x91 true (evLoad (tyi Try.prog 54) S x15)) fun x92 =>
    withV (gval x91 true (evLoad (tyi Try.prog 54) S x3)) fun x93 =>
    withN (gout x91 true (callO (callL Try.prog hints) S 47 [x92, x93])) S fun x94 S =>
    withV (pickO x91 x94 (.bool false)) fun x95 =>
    withV (some x95) fun x96 =>
    withV (gval x96 true (evLoad (tyi Try.prog 54) S x11)) fun x97 =>
    withN (gout x96 true (callO (callL Try.prog hints) S 43 [x97])) S fun x98 S =>
    withV (gval x96 true (evLoad (tyi Try.prog 54) S x3)) fun x99 =>
    withN (gout x96 true (callO (callL Try.prog hints) S 43 [x99])) S fun x100 S =>
    withV (gval x96 true (evLoad (tyi Try.prog 54) S x7)) fun x101 =>
    withN (gout x96 true (callO (callL Try.prog hints) S 43 [x101])) S fun x102 S =>
    withV (gval x96 true (evBin .sub (tyi Try.prog 3) x100 x102)) fun x103 =>
    withV (gval x96 true (evLoad (tyi Try.prog 54) S x5)) fun x104 =>
    withN (gout x96 true (callO (callL Try.prog hints) S 43 [x104])) S fun x105 S =>
    withV (gval x96 true (evBin .add (tyi Try.prog 3) x103 x105)) fun x106 =>
    withV (gval x96 true (evBin .eql (tyi Try.prog 3) x98 x106)) fun x107 =>
    withV (pickO x96 x107 (.bool false)) fun x108 =>
    withV (some x108) fun x6 =>
    K .normal (ee11 x6) S := nr (by kernel_rfl)
@[go_sem] theorem k26_n (b : Nat) (e : Env) (S : Store) : k26 b .normal e S = execL (C b) 0 c23 (k25 b) e S := nr (seqN (enterS (by kernel_rfl)))
def k28 (b : Nat) : KT := seqC (fun e S => execL (C b) 0 c20 (k0 b) e S) (k0 b)
@[go_sem] theorem g29 (b : Nat) (K : KT) (x1 x3 x5 x7 x11 x13 x14 : PV) (S : Store) : execL (C b) 0 c21 K (ee4 x1 x3 x5 x7 x11 x13 x14) S =
  withV (evLoad (tyi Try.prog 54) S x11) fun x74 =>
    withV (some x1) fun x75 =>
    withV (evLoad (tyi Try.prog 54) S x7) fun x76 =>
    withN (callO (callL Try.prog hints) S 54 [x74, x75, x76]) S fun x77 S =>
    withV (some x77) fun x73 =>
    withV (extractO x73 0) fun x78 =>
    withV (extractO x73 1) fun x79 =>
    withN (allocO (tyi Try.prog 54) (List.length S)) S fun x15 S =>
    withS (storeE (tyi Try.prog 54) S x15 x78) fun _u S =>
    withV (some x79) fun x16 =>
    K .normal (ee10 x3 x5 x7 x11 x13 x14 x15 x16) S := nr (by kernel_rfl)
@[go_sem] theorem k28_n (b : Nat) (e : Env) (S : Store) : k28 b .normal e S = execL (C b) 0 c21 (k26 b) e S := nr (seqN (enterS (by kernel_rfl)))
def k30 (b : Nat) : KT := seqC (fun e S => execL (C b) 0 c18 (k0 b) e S) (k0 b)
@[go_sem] theorem g31 (b : Nat) (K : KT) (x1 x3 x5 x7 x11 x58 : PV) (S : Store) : execL (C b) 0 c19 K (ee5 x1 x3 x5 x7 x11 x58) S =
  withV (evLoad (tyi Try.prog 54) S x11) fun x68 =>
    withV (some x1) fun x69 =>
    withN (callO (callL Try.prog hints) S 52 [x68, x69]) S fun x70 S =>
    withV (some x70) fun x67 =>
    withV (extractO x67 0) fun x71 =>
    withV (extractO x67 1) fun x72 =>
    withN (allocO (tyi Try.prog 54) (List.length S)) S fun x13 S =>
    withS (storeE (tyi Try.prog 54) S x13 x71) fun _u S =>
    withV (some x72) fun x14 =>
    K .normal (ee4 x1 x3 x5 x7 x11 x13 x14) S := nr (by kernel_rfl)
@[go_sem] theorem k30_n (b : Nat) (e : Env) (S : Store) : k30 b .normal e S = execL (C b) 0 c19 (k28 b) e S := nr (seqN (enterS (by kernel_rfl)))
@[go_sem] theorem k30_ret (b : Nat) (e : Env) (S : Store) : k30 b .ret e S = (k0 b) .ret e S := nr (seqC_r _ _ _ _)
def k32 (b : Nat) : KT := seqC (fun e S => execL (C b) 0 c16 (k0 b) e S) (k0 b)
def c33 : Code := at0 c17
def c34 : Code := at1 c17
def k35 (b : Nat) : KT := seqC (fun e S => execL (C b) 0 c34 (k30 b) e S) (k30 b)
def c36 : Code := atT c34
def c39 : Code := at0 c36
def c40 : Code := at1 c36
def k41 (b : Nat) : KT := seqC (fun e S => execL (C b) 0 c40 (k30 b) e S) (k30 b)
@[go_sem] theorem k41_n (b : Nat) (x6 : PV) (S : Store) : k41 b .normal (ee11 x6) S =
  (k30 b) .ret (ee11 x6) S := nr (seqN (execL_ret (by kernel_rfl)))
@[go_sem] theorem g42 (b : Nat) (K : KT) (x1 x3 x5 x7 x11 x58 : PV) (S : Store) : execL (C b) 0 c39 K (ee5 x1 x3 x5 x7 x11 x58) S =
  withV (evLoad (tyi Try.prog 54) S x11) fun x59 =>
    withN (callO (callL Try.prog hints) S 35 [x59]) S fun x60 S =>
    withV (evBin .eql (tyi Try.prog 3) x60 (.int .i64 1)) fun x61 =>
    withV (some x61) fun x62 =>
    withV (gval x62 true (evFieldAddr (tyi Try.prog 54) 0 x11)) fun x63 =>
    withV (gval x62 true (evLoad (tyi Try.prog 3) S x63)) fun x64 =>
    withV (gval x62 true (evBin .eql (tyi Try.prog 3) x64 (.int .i64 0))) fun x65 =>
    withV (pickO x62 x65 (.bool false)) fun x66 =>
    withV (some x66) fun x6 =>
    K .normal (ee11 x6) S := nr (by kernel_rfl)
@[go_sem] theorem k35_n (b : Nat) (x1 x3 x5 x7 x11 x58 : PV) (S : Store) : k35 b .normal (ee5 x1 x3 x5 x7 x11 x58) S =
  condC x58 (execL (C b) 0 c39 (k41 b) (ee5 x1 x3 x5 x7 x11 x58) S)
    ((k30 b) .normal (ee5 x1 x3 x5 x7 x11 x58) S) := nr (seqN (condE (t := 58) (by kernel_rfl) (enterS (by kernel_rfl)) (execL_skip (by kernel_rfl)) rfl))
@[go_sem] theorem g43 (b : Nat) (K : KT) (x1 x3 x5 x7 x11 x12 : PV) (S : Store) : execL (C b) 0 c33 K (ee3 x1 x3 x5 x7 x11 x12) S =
  withV (some x12) fun x57 =>
    withV (evBin .neq (tyi Try.prog 29) x57 (.int .i64 0)) fun x58 =>
    K .normal (ee5 x1 x3 x5 x7 x11 x58) S := nr (by kernel_rfl)
@[go_sem] theorem k32_n (b : Nat) (x1 x3 x5 x7 x11 x12 : PV) (S : Store) : k32 b .normal (ee3 x1 x3 x5 x7 x11 x12) S =
  execL (C b) 0 c33 (k35 b) (ee3 x1 x3 x5 x7 x11 x12) S := nr (seqN ((enterS (by kernel_rfl)).trans (enterS (by kernel_rfl))))
def k44 (b : Nat) : KT := seqC (fun e S => execL (C b) 0 c14 (k0 b) e S) (k0 b)
@[go_sem] theorem g45 (b : Nat) (K : KT) (x1 x3 x5 x7 x49 : PV) (S : Store) : execL (C b) 0 c15 K (ee7 x1 x3 x5 x7 x49) S =
  withV (evLoad (tyi Try.prog 54) S x3) fun x51 =>
    withV (some x1) fun x52 =>
    withV (evLoad (tyi Try.prog 54) S x5) fun x53 =>
    withN (callO (callL Try.prog hints) S 54 [x51, x52, x53]) S fun x54 S =>
    withV (some x54) fun x50 =>
    withV (extractO x50 0) fun x55 =>
    withV (extractO x50 1) fun x56 =>
    withN (allocO (tyi Try.prog 54) (List.length S)) S fun x11 S =>
    withS (storeE (tyi Try.prog 54) S x11 x55) fun _u S =>
    withV (some x56) fun x12 =>
    K .normal (ee3 x1 x3 x5 x7 x11 x12) S := nr (by kernel_rfl)
@[go_sem] theorem k44_n (b : Nat) (e : Env) (S : Store) : k44 b .normal e S = execL (C b) 0 c15 (k32 b) e S := nr (seqN (enterS (by kernel_rfl)))
def k46 (b : Nat) : KT := seqC (fun e S => execL (C b) 0 c12 (k0 b) e S) (k0 b)
def c47 : Code := at0 c13
def c48 : Code := at1 c13
def k49 (b : Nat) : KT := seqC (fun e S => execL (C b) 0 c48 (k44 b) e S) (k44 b)
def c50 : Code := atT c48
def c53 : Code := at0 c50
def c54 : Code := at1 c50
def k55 (b : Nat) : KT := seqC (fun e S => execL (C b) 0 c54 (k44 b) e S) (k44 b)
@[go_sem] theorem k49_n (b : Nat) (x1 x3 x5 x7 x49 : PV) (S : Store) : k49 b .normal (ee7 x1 x3 x5 x7 x49) S =
  condC x49 (execL (C b) 0 c53 (k55 b) (ee7 x1 x3 x5 x7 x49) S)
    ((k44 b) .normal (ee7 x1 x3 x5 x7 x49) S) := nr (seqN (condE (t := 49) (by kernel_rfl) (enterS (by kernel_rfl)) (execL_skip (by kernel_rfl)) rfl))
@[go_sem] theorem g57 (b : Nat) (K : KT) (x1 x3 x5 x7 x9 x10 : PV) (S : Store) : execL (C b) 0 c47 K (ee2 x1 x3 x5 x7 x9 x10) S =
  withV (some x10) fun x42 =>
    withV (evBin .neq (tyi Try.prog 29) x42 (.int .i64 0)) fun x43 =>
    withV (some x43) fun x44 =>
    withV (gval x44 false (evLoad (tyi Try.prog 54) S x9)) fun x45 =>
    withV (gval x44 false (evLoad (tyi Try.prog 54) S x3)) fun x46 =>
    withN (gout x44 false (callO (callL Try.prog hints) S 47 [x45, x46])) S fun x47 S =>
    withV (gval x44 false (evUn .not x47)) fun x48 =>
    withV (pickO x44 (.bool true) x48) fun x49 =>
    K .normal (ee7 x1 x3 x5 x7 x49) S := nr (by kernel_rfl)
@[go_sem] theorem k46_n (b : Nat) (x1 x3 x5 x7 x9 x10 : PV) (S : Store) : k46 b .normal (ee2 x1 x3 x5 x7 x9 x10) S =
  execL (C b) 0 c47 (k49 b) (ee2 x1 x3 x5 x7 x9 x10) S := nr (seqN ((enterS (by kernel_rfl)).trans (enterS (by kernel_rfl))))
def k58 (b : Nat) : KT := seqC (fun e S => execL (C b) 0 c10 (k0 b) e S) (k0 b)
@[go_sem] theorem g59 (b : Nat) (K : KT) (x1 x3 x5 x7 x34 : PV) (S : Store) : execL (C b) 0 c11 K (ee6 x1 x3 x5 x7 x34) S =
  withV (evLoad (tyi Try.prog 54) S x3) fun x36 =>
    withV (some x1) fun x37 =>
    withV (evLoad (tyi Try.prog 54) S x7) fun x38 =>
    withN (callO (callL Try.prog hints) S 54 [x36, x37, x38]) S fun x39 S =>
    withV (some x39) fun x35 =>
    withV (extractO x35 0) fun x40 =>
    withV (extractO x35 1) fun x41 =>
    withN (allocO (tyi Try.prog 54) (List.length S)) S fun x9 S =>
    withS (storeE (tyi Try.prog 54) S x9 x40) fun _u S =>
    withV (some x41) fun x10 =>
    K .normal (ee2 x1 x3 x5 x7 x9 x10) S := nr (by kernel_rfl)
@[go_sem] theorem k58_n (b : Nat) (e : Env) (S : Store) : k58 b .normal e S = execL (C b) 0 c11 (k46 b) e S := nr (seqN (enterS (by kernel_rfl)))
@[go_sem] theorem k58_ret (b : Nat) (e : Env) (S : Store) : k58 b .ret e S = (k0 b) .ret e S := nr (seqC_r _ _ _ _)
def k60 (b : Nat) : KT := seqC (fun e S => execL (C b) 0 c8 (k0 b) e S) (k0 b)
def c61 : Code := at0 c9
def c62 : Code := at1 c9
def k63 (b : Nat) : KT := seqC (fun e S => execL (C b) 0 c62 (k58 b) e S) (k58 b)
def c64 : Code := atT c62
def c67 : Code := at0 c64
def c68 : Code := at1 c64
def k69 (b : Nat) : KT := seqC (fun e S => execL (C b) 0 c68 (k58 b) e S) (k58 b)
@[go_sem] theorem k69_n (b : Nat) (x6 : PV) (S : Store) : k69 b .normal (ee11 x6) S =
  (k58 b) .ret (ee11 x6) S := nr (seqN (execL_ret (by kernel_rfl)))
@[go_sem] theorem g70 (b : Nat) (K : KT) (x1 x3 x5 x7 x34 : PV) (S : Store) : execL (C b) 0 c67 K (ee6 x1 x3 x5 x7 x34) S =
  withV (some (.bool true)) fun x6 =>
    K .normal (ee11 x6) S := nr (by kernel_rfl)
@[go_sem] theorem k63_n (b : Nat) (x1 x3 x5 x7 x34 : PV) (S : Store) : k63 b .normal (ee6 x1 x3 x5 x7 x34) S =
  condC x34 (execL (C b) 0 c67 (k69 b) (ee6 x1 x3 x5 x7 x34) S)
    ((k58 b) .normal (ee6 x1 x3 x5 x7 x34) S) := nr (seqN (condE (t := 34) (by kernel_rfl) (enterS (by kernel_rfl)) (execL_skip (by kernel_rfl)) rfl))
@[go_sem] theorem g71 (b : Nat) (K : KT) (x1 x3 x5 x7 x8 : PV) (S : Store) : execL (C b) 0 c61 K (ee1 x1 x3 x5 x7 x8) S =
  withV (some x8) fun x33 =>
    withV (evBin .neq (tyi Try.prog 29) x33 (.int .i64 0)) fun x34 =>
    K .normal (ee6 x1 x3 x5 x7 x34) S := nr (by kernel_rfl)
@[go_sem] theorem k60_n (b : Nat) (x1 x3 x5 x7 x8 : PV) (S : Store) : k60 b .normal (ee1 x1 x3 x5 x7 x8) S =
  execL (C b) 0 c61 (k63 b) (ee1 x1 x3 x5 x7 x8) S := nr (seqN ((enterS (by kernel_rfl)).trans (enterS (by kernel_rfl))))
def k72 (b : Nat) : KT := seqC (fun e S => execL (C b) 0 c6 (k0 b) e S) (k0 b)
@[go_sem] theorem g73 (b : Nat) (K : KT) (x1 x3 x5 x26 : PV) (S : Store) : execL (C b) 0 c7 K (ee9 x1 x3 x5 x26) S =
  withV (evLoad (tyi Try.prog 54) S x3) fun x28 =>
    withV (some x1) fun x29 =>
    withN (callO (callL Try.prog hints) S 52 [x28, x29]) S fun x30 S =>
    withV (some x30) fun x27 =>
    withV (extractO x27 0) fun x31 =>
    withV (extractO x27 1) fun x32 =>
    withN (allocO (tyi Try.prog 54) (List.length S)) S fun x7 S =>
    withS (storeE (tyi Try.prog 54) S x7 x31) fun _u S =>
    withV (some x32) fun x8 =>
    K .normal (ee1 x1 x3 x5 x7 x8) S := nr (by kernel_rfl)
@[go_sem] theorem k72_n (b : Nat) (e : Env) (S : Store) : k72 b .normal e S = execL (C b) 0 c7 (k60 b) e S := nr (seqN (enterS (by kernel_rfl)))
@[go_sem] theorem k72_ret (b : Nat) (e : Env) (S : Store) : k72 b .ret e S = (k0 b) .ret e S := nr (seqC_r _ _ _ _)
def k74 (b : Nat) : KT := seqC (fun e S => execL (C b) 0 c4 (k0 b) e S) (k0 b)
def c75 : Code := at0 c5
def c76 : Code := at1 c5
def k77 (b : Nat) : KT := seqC (fun e S => execL (C b) 0 c76 (k72 b) e S) (k72 b)
def c78 : Code := atT c76
def c81 : Code := at0 c78
def c82 : Code := at1 c78
def k83 (b : Nat) : KT := seqC (fun e S => execL (C b) 0 c82 (k72 b) e S) (k72 b)
@[go_sem] theorem k83_n (b : Nat) (x6 : PV) (S : Store) : k83 b .normal (ee11 x6) S =
  (k72 b) .ret (ee11 x6) S := nr (seqN (execL_ret (by kernel_rfl)))
@[go_sem] theorem g84 (b : Nat) (K : KT) (x1 x3 x5 x26 : PV) (S : Store) : execL (C b) 0 c81 K (ee9 x1 x3 x5 x26) S =
  withV (some (.bool true)) fun x6 =>
    K .normal (ee11 x6) S := nr (by kernel_rfl)
@[go_sem] theorem k77_n (b : Nat) (x1 x3 x5 x26 : PV) (S : Store) : k77 b .normal (ee9 x1 x3 x5 x26) S =
  condC x26 (execL (C b) 0 c81 (k83 b) (ee9 x1 x3 x5 x26) S)
    ((k72 b) .normal (ee9 x1 x3 x5 x26) S) := nr (seqN (condE (t := 26) (by kernel_rfl) (enterS (by kernel_rfl)) (execL_skip (by kernel_rfl)) rfl))
@[go_sem] theorem g85 (b : Nat) (K : KT) (x1 x3 x5 x18 : PV) (S : Store) : execL (C b) 0 c75 K (ee8 x1 x3 x5 x18) S =
  withV (evLoad (tyi Try.prog 54) S x3) fun x19 =>
    withN (callO (callL Try.prog hints) S 35 [x19]) S fun x20 S =>
    withV (evBin .gtr (tyi Try.prog 3) x20 (.int .i64 4000)) fun x21 =>
    withV (some x21) fun x22 =>
    withV (gval x22 false (evLoad (tyi Try.prog 54) S x5)) fun x23 =>
    withN (gout x22 false (callO (callL Try.prog hints) S 35 [x23])) S fun x24 S =>
    withV (gval x22 false (evBin .gtr (tyi Try.prog 3) x24 (.int .i64 4000))) fun x25 =>
    withV (pickO x22 (.bool true) x25) fun x26 =>
    K .normal (ee9 x1 x3 x5 x26) S := nr (by kernel_rfl)
@[go_sem] theorem k74_n (b : Nat) (x1 x3 x5 x18 : PV) (S : Store) : k74 b .normal (ee8 x1 x3 x5 x18) S =
  execL (C b) 0 c75 (k77 b) (ee8 x1 x3 x5 x18) S := nr (seqN ((enterS (by kernel_rfl)).trans (enterS (by kernel_rfl))))
def k86 (b : Nat) : KT := seqC (fun e S => execL (C b) 0 c2 (k0 b) e S) (k0 b)
def c87 : Code := at0 c3
def c88 : Code := at1 c3
def k89 (b : Nat) : KT := seqC (fun e S => execL (C b) 0 c88 (k74 b) e S) (k74 b)
def c90 : Code := atT c88
def c93 : Code := at0 c90
def c94 : Code := at1 c90
def k95 (b : Nat) : KT := seqC (fun e S => execL (C b) 0 c94 (k74 b) e S) (k74 b)
@[go_sem] theorem k89_n (b : Nat) (x1 x3 x5 x18 : PV) (S : Store) : k89 b .normal (ee8 x1 x3 x5 x18) S =
  condC x18 (execL (C b) 0 c93 (k95 b) (ee8 x1 x3 x5 x18) S)
    ((k74 b) .normal (ee8 x1 x3 x5 x18) S) := nr (seqN (condE (t := 18) (by kernel_rfl) (enterS (by kernel_rfl)) (execL_skip (by kernel_rfl)) rfl))
@[go_sem] theorem g97 (b : Nat) (K : KT) (x1 x3 x5 : PV) (S : Store) : execL (C b) 0 c87 K (ee0 x1 x3 x5) S =
  withN (callO (callL Try.prog hints) S 34 []) S fun x17 S =>
    withV (evUn .not x17) fun x18 =>
    K .normal (ee8 x1 x3 x5 x18) S := nr (by kernel_rfl)
@[go_sem] theorem k86_n (b : Nat) (x1 x3 x5 : PV) (S : Store) : k86 b .normal (ee0 x1 x3 x5) S =
  execL (C b) 0 c87 (k89 b) (ee0 x1 x3 x5) S := nr (seqN ((enterS (by kernel_rfl)).trans (enterS (by kernel_rfl))))
@[go_sem] theorem g98 (b : Nat) (K : KT) (x0 x1 x2 : PV) (S : Store) : execL (C b) 0 c1 K [(0, x0), (1, x1), (2, x2)] S =
  withN (boxed S (List.length S) (TI.size (tyi Try.prog 54)) x0) S fun x3 S =>
    withN (boxed S (List.length S) (TI.size (tyi Try.prog 54)) x2) S fun x5 S =>
    withV (some (.bool false)) fun x6 =>
    K .normal (ee0 x1 x3 x5) S := nr (by kernel_rfl)
def E (b : Nat) (x0 x1 x2 : PV) (S : Store) : RT := execL (C b) 0 code (k0 b) [(0, x0), (1, x1), (2, x2)] S
@[go_sem] theorem E_eq (b : Nat) (x0 x1 x2 : PV) (S : Store) : E b x0 x1 x2 S =
  execL (C b) 0 c1 (k86 b) [(0, x0), (1, x1), (2, x2)] S := nr (enterS (by kernel_rfl))
@[go_sem] theorem k0_ret11 (b : Nat) (x6 : PV) (S : Store) : k0 b .ret (ee11 x6) S = some (x6, S) := nr (by kernel_rfl)
theorem call {x0 x1 x2 : PV} {r : PV × Store} {v : PV} (h : E 0 x0 x1 x2 [] = some r) (hv : fzPV r.2 r.1 = some v) : callL Try.prog hints 12 [x0, x1, x2] = some v := callL_of (fn := Try.f12) (c := code) (by kernel_rfl) (by kernel_rfl) (by decide) (by kernel_rfl) (Nat.le_of_ble_eq_true (by kernel_rfl)) h hv
end F12
end
end Go.Vs
end
/- TreeReplaces gives true. -/
section
set_option linter.unusedVariables false
set_option linter.unusedSimpArgs false
namespace Go.Vs
open Go Go.Proofs
theorem size_default : (default : Node).size = 1 := rfl
theorem call12 (path : List Int) (hp : path.length ≤ maxLen) (n w : Node) (hn : n.ok) (hb : n.brief) (hw : w.ok) (hwb : w.brief) : callL Try.prog hints 12 [.agg n.cells, .sl (intRows path) false, .agg w.cells] = some (.bool true) := by
  have s1 := fun S => callN S (call35 n hn)
  have s2 := fun S => callN S (call35 w hw)
  have a1 := fun S => callO_plain (S := S) (call52 path hp n hn hb) (by simp [Node.plain, Plain.sl])
  have key : ∃ S0, F12.E 0 (.agg n.cells) (.sl (intRows path) false) (.agg w.cells) [] = some (.bool true, S0) := by
    by_cases c1 : 4000 < n.size
    · refine ⟨?S1, ?h1⟩
      case h1 => simp only [go_sem, ↓reduceIte, Nat.reduceEqDiff, Nat.reduceBEq, Nat.reduceAdd, Nat.reduceMul, Nat.reduceSub, Nat.reduceLT, Nat.reduceLeDiff, reduceCtorEq, Int.reduceToNat, Int.reduceLE, Int.reduceLT, Int.reduceEq, s1, c1]; rfl
    by_cases c2 : 4000 < w.size
    · refine ⟨?S2, ?h2⟩
      case h2 => simp only [go_sem, ↓reduceIte, Nat.reduceEqDiff, Nat.reduceBEq, Nat.reduceAdd, Nat.reduceMul, Nat.reduceSub, Nat.reduceLT, Nat.reduceLeDiff, reduceCtorEq, Int.reduceToNat, Int.reduceLE, Int.reduceLT, Int.reduceEq, s1, s2, c1, c2]; rfl
    by_cases c3 : (n.atRes path).2 = 0
    case neg =>
      refine ⟨?S3, ?h3⟩
      case h3 => simp only [go_sem, ↓reduceIte, Nat.reduceEqDiff, Nat.reduceBEq, Nat.reduceAdd, Nat.reduceMul, Nat.reduceSub, Nat.reduceLT, Nat.reduceLeDiff, reduceCtorEq, Int.reduceToNat, Int.reduceLE, Int.reduceLT, Int.reduceEq, s1, s2, c1, c2, a1, c3]; rfl
    obtain ⟨r0, x, hx, ha⟩ := atRes_zero c3
    rw [ha] at a1
    obtain ⟨p1, p4, pc, ps, pf⟩ := rootErr_zero r0
    have hxo := Node.at_ok hx hn
    have hxb := Node.at_brief hx hb
    have hxs := at_small hx ps
    have hx0 := at_sort hx pf p1
    have b1 := fun S => callO_plain (S := S) (call54 path hp n x hn hb hxo hxb) (by simp [Node.plain, Plain.sl])
    rw [replRes_of r0 hx rfl hx0 hxs (by rw [put_at hx]; exact pc), put_at hx] at b1
    have e1 := fun S => callN2 S (call47 n n hn hn)
    simp only [cmp_self, decide_true] at e1
    have b2 := fun S => callO_plain (S := S) (call54 path hp n w hn hb hw hwb) (by simp [Node.plain, Plain.sl])
    by_cases c4 : (n.replRes path w).2 = 0
    case neg =>
      rw [replRes_fst c4] at b2
      have s3 := fun S => callN S (call35 default ⟨by decide, Nat.zero_le _, Nat.zero_le _, Nat.zero_le _, by simp, by simp, Nat.zero_le _, trivial⟩)
      have o3 : (default : Node).op = 0 := rfl
      rw [size_default] at s3
      refine ⟨?S4, ?h4⟩
      case h4 => simp only [go_sem, ↓reduceIte, Nat.reduceEqDiff, Nat.reduceBEq, Nat.reduceAdd, Nat.reduceMul, Nat.reduceSub, Nat.reduceLT, Nat.reduceLeDiff, reduceCtorEq, Int.reduceToNat, Int.reduceLE, Int.reduceLT, Int.reduceEq, s1, s2, c1, c2, a1, b1, e1, b2, s3, o3, c4]; rfl
    obtain ⟨_, x', hx', hs, hs0, hws, hrc, hr⟩ := replRes_zero c4
    rw [hx] at hx'
    cases hx'
    rw [hr] at b2
    have hro := Node.put_ok hw path n hn
    have hrb := Node.put_brief hwb path n hb
    have hop := put_op (w := w) hx hs
    have hcount := put_count w hx
    have hat := at_put w hx
    have hback := put_put x w hx
    rw [put_at hx] at hback
    have hr0 : (Node.put w path n).rootErr = 0 := rootErr_of (by rw [hop]; exact p1) (by rw [hop]; exact p4) hrc
    have hrs := check_small hrc
    generalize Node.put w path n = r at *
    have a2 := fun S => callO_plain (S := S) (call52 path hp r hro hrb) (by simp [Node.plain, Plain.sl])
    have har : r.atRes path = (w, 0) := by
      unfold Node.atRes
      rw [if_neg (by simpa using hr0), hat]
    rw [har] at a2
    have b3 := fun S => callO_plain (S := S) (call54 path hp r x hro hrb hxo hxb) (by simp [Node.plain, Plain.sl])
    rw [replRes_of hr0 hat hs.symm hx0 hxs (by rw [hback]; exact pc), hback] at b3
    have e2 := fun S => callN2 S (call47 w w hw hw)
    simp only [cmp_self, decide_true] at e2
    have t1 := fun S => callN S (call43 n hn)
    have t2 := fun S => callN S (call43 x hxo)
    have t3 := fun S => callN S (call43 w hw)
    have t4 := fun S => callN S (call43 r hro)
    simp only [Node.small, Bool.and_eq_true, decide_eq_true_eq] at ps hxs hws hrs
    rw [size_count n (by omega)] at t1
    rw [size_count x (by omega)] at t2
    rw [size_count w (by omega)] at t3
    rw [size_count r (by omega)] at t4
    have q1 : IntKind.i64.wrap ((n.count : Int) - x.count) = (n.count : Int) - x.count := by rw [IntKind.wrap_i64]; omega
    have q2 : IntKind.i64.wrap ((n.count : Int) - x.count + w.count) = r.count := by rw [IntKind.wrap_i64]; omega
    refine ⟨?S5, ?h5⟩
    case h5 =>
      simp only [go_sem, ↓reduceIte, Nat.reduceEqDiff, Nat.reduceBEq, Nat.reduceAdd, Nat.reduceMul, Nat.reduceSub, Nat.reduceLT, Nat.reduceLeDiff, reduceCtorEq, Int.reduceToNat, Int.reduceLE, Int.reduceLT, Int.reduceEq, s1, s2, c1, c2, a1, b1, e1, b2, a2, b3, e2, t1, t2, t3, t4, q1, q2]
      rfl
  obtain ⟨S0, hE⟩ := key
  exact F12.call hE rfl
end Go.Vs
end
/- TreeReplaces gives true for all arguments of bulk at most 1048576. -/
section
set_option linter.unusedVariables false
namespace Go.Vs
open Go Go.Proofs
theorem words_bulk : ∀ l : List Int, l.length ≤ rowsB (wordRows l)
  | [] => Nat.zero_le _
  | a :: r => by
    have := words_bulk r
    simp only [wordRows, List.map_cons, rowsB, pvsB, pvB, List.length_cons] at this ⊢
    omega
theorem nodes_bulk : ∀ l : List Node, l.length ≤ rowsB (Node.rows l)
  | [] => Nat.zero_le _
  | a :: r => by
    have := nodes_bulk r
    have e : 1 ≤ pvsB a.cells := by cases a; simp only [Node.cells, pvsB, pvB]; omega
    simp only [Node.rows, rowsB, List.length_cons]
    omega
mutual
theorem brief_bulk : ∀ n : Node, pvsB n.cells ≤ 1048576 → n.brief
  | .mk a b c d e f, h => by
    have h1 := words_bulk d
    have h2 := words_bulk e
    have h3 := nodes_bulk f
    simp only [Node.cells, pvsB, pvB] at h
    exact ⟨by omega, by omega, by omega, briefs_bulk f (by omega)⟩
theorem briefs_bulk : ∀ l : List Node, rowsB (Node.rows l) ≤ 1048576 → Node.briefs l
  | [], _ => trivial
  | x :: l, h => by
    simp only [Node.rows, rowsB] at h
    exact ⟨brief_bulk x (by omega), briefs_bulk l (by omega)⟩
end
theorem law12 (pvs : List PV) (h : Args Try.prog [54, 22, 54] pvs) (hb : pvsB pvs ≤ 1048576) : callL Try.prog hints 12 pvs = some (.bool true) := by
  obtain ⟨pv, r, k, rfl, h1, h⟩ := h.cons_inv
  obtain ⟨pv2, r, k2, rfl, h2, h⟩ := h.cons_inv
  obtain ⟨pv3, r, k3, rfl, h3, h⟩ := h.cons_inv
  obtain rfl := h.nil_inv
  obtain ⟨n, hn, rfl⟩ := h1.node
  obtain ⟨l, hl, hl', rfl⟩ := h2.ints
  obtain ⟨w, hw, rfl⟩ := h3.node
  simp only [pvsB, pvB] at hb
  exact call12 l hl n w hn (brief_bulk n (by omega)) hw (brief_bulk w (by omega))
end Go.Vs
end
