/- tree.formed on a flow. -/

import Derived.Test.YtnddhkcciphhkaaMP9
import Derived.Test.YtnddhkcciphhkaaMP17
import Derived.Test.YtnddhkcciphhkaaMP19
section
set_option linter.unusedVariables false
set_option linter.unusedSimpArgs false
namespace Go.Vs
open Go Go.Proofs
def fours (i : Nat) : List (List PV) := intRows (List.replicate i 4)
@[go_sem] theorem fours_length (i : Nat) : (fours i).length = i := by simp [fours, intRows]
@[go_sem] theorem fours_refs (i : Nat) : rowsRefs (fours i) = [] := intRows_refs _
@[go_sem] theorem fours_ok (i : Nat) : rowsOK 1 (fours i) = true := intRows_ok _
theorem fours_succ (i : Nat) : fours i ++ [[.int .i64 4]] = fours (i + 1) := by
  simp [fours, intRows, List.replicate_succ']
theorem take_drop_cons {l : List Node} {i j : Nat} (hj : j < i) (hi : i ≤ l.length) : (l.take i).drop j = l.getD j default :: (l.take i).drop (j + 1) := by
  have h : j < (l.take i).length := by simp; omega
  rw [kids_drop h]
  congr 1
  simp [List.getD_eq_getElem?_getD, List.getElem?_take, hj]
theorem getD_take {l : List Node} {i j : Nat} (hj : j < i) : (l.take i).getD j default = l.getD j default := by
  simp [List.getD_eq_getElem?_getD, List.getElem?_take, hj]
theorem loop5 (n : Node) (hn : n.ok) (hlen : n.kids.length ≤ 100000) (a b c : Bool) (last i : Nat) (hi : i < n.kids.length) (g : Option Nat) (hg : g = none ∨ g = some 1) (B : Bool) (Sn : Store)
    (hnext : F64.L3 0 3 (.mp 0 0 0) (.mp 1 0 0) (.msl 2 0 (i + 1) false) (.int .i64 last) (.int .i64 ((i + 1 : Nat) : Int)) [.arr [n.cells] none false, .arr [placeCells a b c] none false, .arr (fours (i + 1)) (some (some 1)) false] = some (.bool B, Sn)) :
    ∀ (m j : Nat), j + m = i → ∃ S2, F64.L5 0 3 4 (.mp 0 0 0) (.mp 1 0 0) (.msl 2 0 i false) (.int .i64 last) (.int .i64 i) (.mp 3 0 0) (.sl (Node.rows (n.kids.take i)) false) (.int .i64 i) (.int .i64 j)
      [.arr [n.cells] none false, .arr [placeCells a b c] none false, .arr (fours i) (some g) false, .arr [(n.kids.getD i default).cells] none false] =
      some (.bool ((((n.kids.take i).drop j).all (otherVar (n.kids.getD i default))) && B), S2) := by
  have hw := wrap_succ (i := i) (n := n.kids.length) hi hn.len
  intro m
  induction m with
  | zero =>
    intro j hj
    have h1 : ¬ (j : Int) < (i : Int) := by omega
    have happ := append_known (b := 0) (bytes := 8) (esz := 1) (S := [.arr [n.cells] none false, .arr [placeCells a b c] none false, .arr (fours i) (some g) false, .arr [(n.kids.getD i default).cells] none false, .arr [[.int .i64 4]] (some (some 1)) false]) (id := 2) (len := i) (rows := fours i) (new := [[.int .i64 4]]) (g := g) (ex := false) (y := .msl 4 0 1 true) rfl rfl (by decide) (fours_length i).symm hg (fours_ok i) rfl (by rw [fours_length]; simp; omega) (by rw [fours_length]; simp; omega) (by rw [fours_refs]; rfl)
    refine ⟨Sn, F64.L5_step ?_⟩
    rw [List.drop_of_length_le (by simp; omega)]
    simp only [go_sem, ↓reduceIte, Nat.reduceEqDiff, Nat.reduceBEq, Nat.reduceAdd, Nat.reduceMul, Nat.reduceSub, Nat.reduceLT, Nat.reduceLeDiff, reduceCtorEq, Int.reduceToNat, Int.reduceLE, Int.reduceLT, Int.reduceEq, h1, happ, hw, fours_succ, hnext]
  | succ m hm =>
    intro j hj
    have h1 : (j : Int) < (i : Int) := by omega
    have h2 := wrap_succ (i := j) (n := n.kids.length) (by omega) hn.len
    have h3 : (0 : Int) ≤ (j : Int) := by omega
    have h4 : (j : Int) < ((n.kids.take i).length : Int) := by simp; omega
    obtain ⟨S2, h5⟩ := hm (j + 1) (by omega)
    rw [take_drop_cons (l := n.kids) (i := i) (j := j) (by omega) (by omega), List.all_cons]
    by_cases hop : (n.kids.getD i default).op = 55
    · by_cases hnm : (n.kids.getD j default).name.toList = (n.kids.getD i default).name.toList
      · have e1 : otherVar (n.kids.getD i default) (n.kids.getD j default) = false := by simp only [otherVar, hop, hnm]; simp
        rw [e1]
        refine ⟨[.arr [n.cells] none false, .arr [placeCells a b c] none false, .arr (fours i) (some g) false, .arr [(n.kids.getD i default).cells] none false, .arr [(n.kids.getD j default).cells] none false], F64.L5_step ?_⟩
        simp only [go_sem, ↓reduceIte, Nat.reduceEqDiff, Nat.reduceBEq, Nat.reduceAdd, Nat.reduceMul, Nat.reduceSub, Nat.reduceLT, Nat.reduceLeDiff, reduceCtorEq, Int.reduceToNat, Int.reduceLE, Int.reduceLT, Int.reduceEq, h1, h2, h3, h4, getD_take (l := n.kids) (i := i) (j := j) (by omega), hop, hnm]
      · have e1 : otherVar (n.kids.getD i default) (n.kids.getD j default) = true := by
          have : ((n.kids.getD j default).name.toList == (n.kids.getD i default).name.toList) = false := by simpa using hnm
          simp only [otherVar, this]; simp
        rw [e1, Bool.true_and]
        refine ⟨S2, F64.L5_step ?_⟩
        simp only [go_sem, ↓reduceIte, Nat.reduceEqDiff, Nat.reduceBEq, Nat.reduceAdd, Nat.reduceMul, Nat.reduceSub, Nat.reduceLT, Nat.reduceLeDiff, reduceCtorEq, Int.reduceToNat, Int.reduceLE, Int.reduceLT, Int.reduceEq, h1, h2, h3, h4, getD_take (l := n.kids) (i := i) (j := j) (by omega), hop, hnm, h5]
    · have e1 : otherVar (n.kids.getD i default) (n.kids.getD j default) = true := by simp only [otherVar, hop]; simp
      rw [e1, Bool.true_and]
      refine ⟨S2, F64.L5_step ?_⟩
      simp only [go_sem, ↓reduceIte, Nat.reduceEqDiff, Nat.reduceBEq, Nat.reduceAdd, Nat.reduceMul, Nat.reduceSub, Nat.reduceLT, Nat.reduceLeDiff, reduceCtorEq, Int.reduceToNat, Int.reduceLE, Int.reduceLT, Int.reduceEq, h1, h2, h3, h4, getD_take (l := n.kids) (i := i) (j := j) (by omega), hop, h5]
theorem loop3 (n : Node) (hn : n.ok) (hlen : n.kids.length ≤ 100000) (a b c : Bool) (last : Nat) (hlast : last + 1 = n.kids.length) (R : Bool) (Sr : Store)
    (h7 : ∀ (x88 x89 x90 x172 x182 : PV), F64.k93 0 .normal (F64.ee21 (.mp 0 0 0) (.mp 1 0 0) (.msl 2 0 (last + 1) false) x88 x89 x90 x172 x182) [.arr [n.cells] none false, .arr [placeCells a b true] none false, .arr (fours last ++ [[.int .i64 2]]) (some (some 1)) false, .arr [[.int .i64 2]] (some (some 1)) false] = some (.bool R, Sr)) :
    ∀ (m i : Nat), i + m = last → ∀ (g : Option Nat), (g = none ∨ g = some 1) →
      ∃ S2, F64.L3 0 3 (.mp 0 0 0) (.mp 1 0 0) (.msl 2 0 i false) (.int .i64 last) (.int .i64 i) [.arr [n.cells] none false, .arr [placeCells a b c] none false, .arr (fours i) (some g) false] = some (.bool (flowFrom n.kids last m i && R), S2) := by
  intro m
  induction m with
  | zero =>
    intro i hi g hg
    obtain rfl : i = last := by omega
    have h1 : ¬ (i : Int) < (i : Int) := by omega
    have happ := append_known (b := 0) (bytes := 8) (esz := 1) (S := [.arr [n.cells] none false, .arr [placeCells a b c] none false, .arr (fours i) (some g) false, .arr [[.int .i64 2]] (some (some 1)) false]) (id := 2) (len := i) (rows := fours i) (new := [[.int .i64 2]]) (g := g) (ex := false) (y := .msl 3 0 1 true) rfl rfl (by decide) (fours_length i).symm hg (fours_ok i) rfl (by rw [fours_length]; simp; omega) (by rw [fours_length]; simp; omega) (by rw [fours_refs]; rfl)
    refine ⟨Sr, F64.L3_step ?_⟩
    simp only [go_sem, ↓reduceIte, Nat.reduceEqDiff, Nat.reduceBEq, Nat.reduceAdd, Nat.reduceMul, Nat.reduceSub, Nat.reduceLT, Nat.reduceLeDiff, reduceCtorEq, Int.reduceToNat, Int.reduceLE, Int.reduceLT, Int.reduceEq, h1, happ, ↓h7]
    rfl
  | succ m hm =>
    intro i hi g hg
    have h1 : (i : Int) < (last : Int) := by omega
    have h2 : (i : Int) < (n.kids.length : Int) := by omega
    have h3 : (0 : Int) ≤ (i : Int) := by omega
    have h4 : IntKind.i64.wrap ((last : Int) - 1) = ((last - 1 : Nat) : Int) := by
      have := maxLen_le
      have := hn.len
      rw [IntKind.wrap_i64]; omega
    have hsl := fun S => slice52 S n.kids false i (by omega)
    have hlt : (n.kids.take i).length = i := by simp; omega
    obtain ⟨Sn, hnext⟩ := hm (i + 1) (by omega) (some 1) (.inr rfl)
    obtain ⟨S2, h5⟩ := loop5 n hn hlen a b c last i (by omega) g hg _ Sn hnext i 0 (by omega)
    simp only [List.drop_zero, Int.natCast_zero] at h5
    have e0 : flowFrom n.kids last (m + 1) i = (flowAt n.kids last i && flowFrom n.kids last m (i + 1)) := rfl
    rw [e0]
    have bad : ∀ (hbad : flowAt n.kids last i = false), (flowAt n.kids last i && flowFrom n.kids last m (i + 1) && R) = false := fun h => by rw [h]; rfl
    by_cases c1 : (n.kids.getD i default).op = 55
    · have e1 : flowAt n.kids last i = (n.kids.take i).all (otherVar (n.kids.getD i default)) := by
        simp only [flowAt, c1, decide_true, Bool.true_or, Bool.true_and]
      rw [e1, Bool.and_assoc]
      refine ⟨S2, F64.L3_step ?_⟩
      simp only [go_sem, ↓reduceIte, Nat.reduceEqDiff, Nat.reduceBEq, Nat.reduceAdd, Nat.reduceMul, Nat.reduceSub, Nat.reduceLT, Nat.reduceLeDiff, reduceCtorEq, Int.reduceToNat, Int.reduceLE, Int.reduceLT, Int.reduceEq, h1, h2, h3, h4, c1, hsl, hlt, h5]
    · by_cases c2 : (n.kids.getD i default).op = 56
      · by_cases c3 : i = last - 1
        · have c3' : ((last - 1 : Nat) : Int) = (i : Int) := by omega
          have e1 : flowAt n.kids last i = (n.kids.take i).all (otherVar (n.kids.getD i default)) := by
            have : decide (i = last - 1) = true := by simp [c3]
            simp only [flowAt, c2, this, decide_true, Bool.and_true, Bool.or_true, Bool.true_and]
          rw [e1, Bool.and_assoc]
          refine ⟨S2, F64.L3_step ?_⟩
          simp only [go_sem, ↓reduceIte, Nat.reduceEqDiff, Nat.reduceBEq, Nat.reduceAdd, Nat.reduceMul, Nat.reduceSub, Nat.reduceLT, Nat.reduceLeDiff, reduceCtorEq, Int.reduceToNat, Int.reduceLE, Int.reduceLT, Int.reduceEq, h1, h2, h3, h4, c1, c2, c3', hsl, hlt, h5]
        · have c3' : ¬ (i : Int) = ((last - 1 : Nat) : Int) := by omega
          have e1 : flowAt n.kids last i = false := by simp only [flowAt, c1, c3, decide_false, Bool.and_false, Bool.or_self, Bool.false_and]
          rw [bad e1]
          refine ⟨[.arr [n.cells] none false, .arr [placeCells a b c] none false, .arr (fours i) (some g) false, .arr [(n.kids.getD i default).cells] none false], F64.L3_step ?_⟩
          simp only [go_sem, ↓reduceIte, Nat.reduceEqDiff, Nat.reduceBEq, Nat.reduceAdd, Nat.reduceMul, Nat.reduceSub, Nat.reduceLT, Nat.reduceLeDiff, reduceCtorEq, Int.reduceToNat, Int.reduceLE, Int.reduceLT, Int.reduceEq, h1, h2, h3, h4, c1, c2, c3']
      · have e1 : flowAt n.kids last i = false := by simp only [flowAt, c1, c2, decide_false, Bool.false_and, Bool.or_self]
        rw [bad e1]
        refine ⟨[.arr [n.cells] none false, .arr [placeCells a b c] none false, .arr (fours i) (some g) false, .arr [(n.kids.getD i default).cells] none false], F64.L3_step ?_⟩
        simp only [go_sem, ↓reduceIte, Nat.reduceEqDiff, Nat.reduceBEq, Nat.reduceAdd, Nat.reduceMul, Nat.reduceSub, Nat.reduceLT, Nat.reduceLeDiff, reduceCtorEq, Int.reduceToNat, Int.reduceLE, Int.reduceLT, Int.reduceEq, h1, h2, h3, h4, c1, c2]
theorem switch_flow (n : Node) (hn : n.ok) (hlen : n.kids.length ≤ 100000) (a b c : Bool) (ih : Kids64 n) (h : n.op = 54) :
    ∃ S', F64.k108 0 .normal (F64.ee14 (.mp 0 0 0) (.mp 1 0 0) (kidsV (kidSorts n.op)) (.int .i64 n.op)) [.arr [n.cells] none false, .arr [placeCells a b c] none false] = some (.bool (n.rest a b c), S') := by
  have e2 : n.rest a b c = (noName n.name && (decide (2 ≤ n.kids.length) && flowOK n.kids) && (decide (n.kids.length = (List.replicate (n.kids.length - 1) (4 : Int) ++ [2]).length) && (Node.formeds n.kids (List.replicate (n.kids.length - 1) 4 ++ [2]) a b true && tailOK n.op n.kids))) := by
    simp [Node.rest, switchOK, sortsFor, h]
  rw [e2, h]
  cases hnm : noName n.name
  · have hnm' : ¬ n.name.toList = (⟨#[]⟩ : ByteArray).toList := by simpa [noName] using hnm
    refine ⟨[.arr [n.cells] none false, .arr [placeCells a b c] none false], ?_⟩
    simp only [go_sem, ↓reduceIte, Nat.reduceEqDiff, Nat.reduceBEq, Nat.reduceAdd, Nat.reduceMul, Nat.reduceSub, Nat.reduceLT, Nat.reduceLeDiff, reduceCtorEq, Int.reduceToNat, Int.reduceLE, Int.reduceLT, Int.reduceEq, hnm']
  have hnm' : n.name.toList = (⟨#[]⟩ : ByteArray).toList := by simpa [noName] using hnm
  by_cases hl : 2 ≤ n.kids.length
  case neg =>
    have hl' : (n.kids.length : Int) < 2 := by omega
    refine ⟨[.arr [n.cells] none false, .arr [placeCells a b c] none false], ?_⟩
    simp only [go_sem, ↓reduceIte, Nat.reduceEqDiff, Nat.reduceBEq, Nat.reduceAdd, Nat.reduceMul, Nat.reduceSub, Nat.reduceLT, Nat.reduceLeDiff, reduceCtorEq, Int.reduceToNat, Int.reduceLE, Int.reduceLT, Int.reduceEq, hnm', hl', hl, decide_false, Bool.and_false, Bool.false_and]
  · have hl' : ¬ (n.kids.length : Int) < 2 := by omega
    obtain ⟨last, hlast⟩ : ∃ last, last + 1 = n.kids.length := ⟨n.kids.length - 1, by omega⟩
    have hlast' : n.kids.length - 1 = last := by omega
    have hw : IntKind.i64.wrap ((n.kids.length : Int) - 1) = (last : Int) := by
      have := maxLen_le
      have := hn.len
      rw [IntKind.wrap_i64]; omega
    obtain ⟨Sr, h7⟩ := after64B n hn a b true (List.replicate last 4 ++ [2]) (some (some 1)) (fun _ ho => by omega) (fun k hk => ih k hk a b true) [.arr [[.int .i64 2]] (some (some 1)) false] rfl
    have e3 : (List.replicate last (4 : Int) ++ [2]).length = last + 1 := by simp
    have e4 : intRows (List.replicate last 4 ++ [2]) = fours last ++ [[.int .i64 2]] := by rw [intRows_append]; rfl
    rw [e3, e4] at h7
    obtain ⟨S2, h8⟩ := loop3 n hn hlen a b c last hlast _ Sr h7 last 0 (by omega) none (.inl rfl)
    have e5 : fours 0 = [] := rfl
    simp only [Int.natCast_zero, e5] at h8
    refine ⟨S2, ?_⟩
    have e6 : flowOK n.kids = flowFrom n.kids last last 0 := by unfold flowOK; rw [hlast']
    rw [hlast', e3, e6]
    simp only [kidsV, show kidSorts 54 = [] from rfl, List.isEmpty_nil, go_sem, ↓reduceIte, Nat.reduceEqDiff, Nat.reduceBEq, Nat.reduceAdd, Nat.reduceMul, Nat.reduceSub, Nat.reduceLT, Nat.reduceLeDiff, reduceCtorEq, Int.reduceToNat, Int.reduceLE, Int.reduceLT, Int.reduceEq, hnm', hl', hl, hw, h8, decide_true]
    rw [h]
theorem switch64 (n : Node) (hn : n.ok) (hlen : n.kids.length ≤ 100000) (a b c : Bool) (ih : Kids64 n) :
    ∃ S', F64.k108 0 .normal (F64.ee14 (.mp 0 0 0) (.mp 1 0 0) (kidsV (kidSorts n.op)) (.int .i64 n.op)) [.arr [n.cells] none false, .arr [placeCells a b c] none false] = some (.bool (n.rest a b c), S') := by
  by_cases h1 : n.op = 10 ∨ n.op = 37
  · exact switch_fun n hn a b c ih h1
  by_cases h2 : n.op = 54
  · exact switch_flow n hn hlen a b c ih h2
  by_cases h3 : n.op = 3
  · exact switch_prime n hn a b c ih h3
  by_cases h4 : n.op = 12
  · exact switch_diff n hn a b c ih h4
  by_cases h5 : n.op = 39
  · exact switch_fdiff n hn a b c ih h5
  · exact switch_else n hn a b c ih ⟨fun h => h1 (.inl h), fun h => h1 (.inr h), h2, h3, h4, h5⟩
theorem counts_le : ∀ (l : List Node), ∀ k ∈ l, k.count ≤ Node.counts l
  | [], k, h => by cases h
  | n :: r, k, h => by
    simp only [Node.counts]
    rcases List.mem_cons.1 h with rfl | h
    · omega
    · have := counts_le r k h; omega
theorem count_pos (n : Node) : 1 ≤ n.count := by cases n; simp [Node.count]
theorem counts_len : ∀ (l : List Node), l.length ≤ Node.counts l
  | [] => by simp
  | n :: r => by
    have := counts_len r
    have := count_pos n
    simp only [Node.counts, List.length_cons]; omega
theorem count_kids (n : Node) : n.count = Node.counts n.kids + 1 := by cases n; rfl
@[go_sem] theorem callO84x (S : Store) (neg : Bool) (num den : List Int) : callO (callL Try.prog hints) S 84 [.agg [.bool neg, .sl (wordRows num) false, .sl (wordRows den) false]] = some { v := .bool (natOK neg num den) } := callO84 S neg num den
/-- Behind the head: the name. -/
theorem name64 (n : Node) (hn : n.ok) (hlen : n.kids.length ≤ 100000) (a b c : Bool) (ih : Kids64 n) :
    ∃ S', ∀ (x21 x38 : PV), F64.k364 0 .normal (F64.ee30 (.mp 0 0 0) (.mp 1 0 0) x21 x38) [.arr [n.cells] none false, .arr [placeCells a b c] none false] = some (.bool (!((hasName n.op && !nameOK n.name) || (!hasName n.op && (!noName n.name && (decide (n.op ≠ 10) && decide (n.op ≠ 37))))) && n.rest a b c), S') := by
  obtain ⟨S', h⟩ := switch64 n hn hlen a b c ih
  cases hh : hasName n.op
  · cases hm : noName n.name
    · have hm' : ¬ n.name.toList = (⟨#[]⟩ : ByteArray).toList := by simpa [noName] using hm
      by_cases h10 : n.op = 10
      · refine ⟨S', fun x21 x38 => ?_⟩
        rw [h10] at h hh ⊢
        simp only [go_sem, ↓reduceIte, Nat.reduceEqDiff, Nat.reduceBEq, Nat.reduceAdd, Nat.reduceMul, Nat.reduceSub, Nat.reduceLT, Nat.reduceLeDiff, reduceCtorEq, Int.reduceToNat, Int.reduceLE, Int.reduceLT, Int.reduceEq, h10, hh, hm', ↓h] <;> rfl
      by_cases h37 : n.op = 37
      · refine ⟨S', fun x21 x38 => ?_⟩
        rw [h37] at h hh ⊢
        simp only [go_sem, ↓reduceIte, Nat.reduceEqDiff, Nat.reduceBEq, Nat.reduceAdd, Nat.reduceMul, Nat.reduceSub, Nat.reduceLT, Nat.reduceLeDiff, reduceCtorEq, Int.reduceToNat, Int.reduceLE, Int.reduceLT, Int.reduceEq, h37, hh, hm', ↓h] <;> rfl
      · refine ⟨[.arr [n.cells] none false, .arr [placeCells a b c] none false], fun x21 x38 => ?_⟩
        simp only [go_sem, ↓reduceIte, Nat.reduceEqDiff, Nat.reduceBEq, Nat.reduceAdd, Nat.reduceMul, Nat.reduceSub, Nat.reduceLT, Nat.reduceLeDiff, reduceCtorEq, Int.reduceToNat, Int.reduceLE, Int.reduceLT, Int.reduceEq, hh, hm', h10, h37]
        simp [h10, h37]
    · have hm' : n.name.toList = (⟨#[]⟩ : ByteArray).toList := by simpa [noName] using hm
      refine ⟨S', fun x21 x38 => ?_⟩
      simp only [go_sem, ↓reduceIte, Nat.reduceEqDiff, Nat.reduceBEq, Nat.reduceAdd, Nat.reduceMul, Nat.reduceSub, Nat.reduceLT, Nat.reduceLeDiff, reduceCtorEq, Int.reduceToNat, Int.reduceLE, Int.reduceLT, Int.reduceEq, hh, hm', ↓h] <;> rfl
  · cases hm : nameOK n.name
    · refine ⟨[.arr [n.cells] none false, .arr [placeCells a b c] none false], fun x21 x38 => ?_⟩
      simp only [go_sem, ↓reduceIte, Nat.reduceEqDiff, Nat.reduceBEq, Nat.reduceAdd, Nat.reduceMul, Nat.reduceSub, Nat.reduceLT, Nat.reduceLeDiff, reduceCtorEq, Int.reduceToNat, Int.reduceLE, Int.reduceLT, Int.reduceEq, hh, hm] <;> rfl
    · refine ⟨S', fun x21 x38 => ?_⟩
      simp only [go_sem, ↓reduceIte, Nat.reduceEqDiff, Nat.reduceBEq, Nat.reduceAdd, Nat.reduceMul, Nat.reduceSub, Nat.reduceLT, Nat.reduceLeDiff, reduceCtorEq, Int.reduceToNat, Int.reduceLE, Int.reduceLT, Int.reduceEq, hh, hm, ↓h] <;> rfl
theorem call64 : ∀ n : Node, n.ok → n.count ≤ 100000 → ∀ a b c, callL Try.prog hints 64 [.agg n.cells, .agg (placeCells a b c)] = some (.bool (n.formed a b c)) := by
  refine Node.ind' fun n ih0 hn hc a b c => ?_
  have hck := count_kids n
  have ih : Kids64 n := fun k hk => ih0 k hk (hn.kids k hk) (by have := counts_le _ k hk; omega)
  have hlen : n.kids.length ≤ 100000 := by have := counts_len n.kids; omega
  obtain ⟨S', h⟩ := name64 n hn hlen a b c ih
  have e : n.formed a b c = ((if n.op = 1 then natOK n.neg n.num n.den else (!n.neg && (decide (n.num.length = 0) && decide (n.den.length = 0)))) && (!((hasName n.op && !nameOK n.name) || (!hasName n.op && (!noName n.name && (decide (n.op ≠ 10) && decide (n.op ≠ 37))))) && n.rest a b c)) := by
    rw [Node.formed_eq]
    simp only [headOK, Node.rest, Bool.and_assoc]
  have key : ∃ S0, F64.E 0 (.agg n.cells) (.agg (placeCells a b c)) [] = some (.bool (n.formed a b c), S0) := by
    rw [e]
    by_cases h1 : n.op = 1
    · rw [if_pos h1]
      cases hnat : natOK n.neg n.num n.den
      · refine ⟨[.arr [n.cells] none false, .arr [placeCells a b c] none false], ?_⟩
        simp only [go_sem, ↓reduceIte, Nat.reduceEqDiff, Nat.reduceBEq, Nat.reduceAdd, Nat.reduceMul, Nat.reduceSub, Nat.reduceLT, Nat.reduceLeDiff, reduceCtorEq, Int.reduceToNat, Int.reduceLE, Int.reduceLT, Int.reduceEq, h1, hnat] <;> rfl
      · refine ⟨S', ?_⟩
        rw [h1] at h ⊢
        simp only [go_sem, ↓reduceIte, Nat.reduceEqDiff, Nat.reduceBEq, Nat.reduceAdd, Nat.reduceMul, Nat.reduceSub, Nat.reduceLT, Nat.reduceLeDiff, reduceCtorEq, Int.reduceToNat, Int.reduceLE, Int.reduceLT, Int.reduceEq, h1, hnat, ↓h] <;> rfl
    · rw [if_neg h1]
      cases hneg : n.neg
      · by_cases hnum : n.num.length = 0
        · have hnum' : ¬ 0 < (n.num.length : Int) := by omega
          by_cases hden : n.den.length = 0
          · have hden' : ¬ 0 < (n.den.length : Int) := by omega
            refine ⟨S', ?_⟩
            simp only [go_sem, ↓reduceIte, Nat.reduceEqDiff, Nat.reduceBEq, Nat.reduceAdd, Nat.reduceMul, Nat.reduceSub, Nat.reduceLT, Nat.reduceLeDiff, reduceCtorEq, Int.reduceToNat, Int.reduceLE, Int.reduceLT, Int.reduceEq, h1, hneg, hnum', hden', ↓h]
            simp [hnum, hden]
          · have hden' : 0 < (n.den.length : Int) := by omega
            refine ⟨[.arr [n.cells] none false, .arr [placeCells a b c] none false], ?_⟩
            simp only [go_sem, ↓reduceIte, Nat.reduceEqDiff, Nat.reduceBEq, Nat.reduceAdd, Nat.reduceMul, Nat.reduceSub, Nat.reduceLT, Nat.reduceLeDiff, reduceCtorEq, Int.reduceToNat, Int.reduceLE, Int.reduceLT, Int.reduceEq, h1, hneg, hnum', hden']
            simp [hden]
        · have hnum' : 0 < (n.num.length : Int) := by omega
          refine ⟨[.arr [n.cells] none false, .arr [placeCells a b c] none false], ?_⟩
          simp only [go_sem, ↓reduceIte, Nat.reduceEqDiff, Nat.reduceBEq, Nat.reduceAdd, Nat.reduceMul, Nat.reduceSub, Nat.reduceLT, Nat.reduceLeDiff, reduceCtorEq, Int.reduceToNat, Int.reduceLE, Int.reduceLT, Int.reduceEq, h1, hneg, hnum']
          simp [hnum]
      · refine ⟨[.arr [n.cells] none false, .arr [placeCells a b c] none false], ?_⟩
        simp only [go_sem, ↓reduceIte, Nat.reduceEqDiff, Nat.reduceBEq, Nat.reduceAdd, Nat.reduceMul, Nat.reduceSub, Nat.reduceLT, Nat.reduceLeDiff, reduceCtorEq, Int.reduceToNat, Int.reduceLE, Int.reduceLT, Int.reduceEq, h1, hneg] <;> rfl
  obtain ⟨S0, hE⟩ := key
  exact F64.call hE rfl
end Go.Vs
end
/- tree.Check: what it returns. -/
section
set_option linter.unusedVariables false
set_option linter.unusedSimpArgs false
namespace Go.Vs
open Go Go.Proofs
def Node.small (n : Node) : Bool := decide (n.count ≤ 4000) && decide (n.depth ≤ 60)
def Node.check (n : Node) (sort : Int) : Int :=
  if sort < 1 ∨ 3 < sort then 1 else if n.small = false then 2 else if sortOf n.op ≠ sort then 80 else if n.formed false false false = false then 3 else 0
theorem call36 (n : Node) (hn : n.ok) (sort : Int) : callL Try.prog hints 36 [.agg n.cells, .int .i64 sort] = some (.int .i64 (n.check sort)) := by
  obtain ⟨G, hG⟩ := call63 n hn 60 4000 (by omega) (by omega) [n.cells] [] ⟨by simp [rowsRefs, Node.refs], rfl⟩
  have hw := within_iff n 4000 60 (by omega) (by omega)
  have hs : (n.within 4000 60).1 = n.small := by
    cases h : (n.within 4000 60).1
    · have := hw.1
      rw [h] at this
      cases h2 : n.small
      · rfl
      · exfalso
        simp only [Node.small, Bool.and_eq_true, decide_eq_true_eq] at h2
        have := this.2 (by omega)
        cases this
    · have := hw.1.1 h
      simp only [Node.small]
      rw [decide_eq_true (show n.count ≤ 4000 by omega), decide_eq_true (show n.depth ≤ 60 by omega)]
      rfl
  have hc := (show callE (F36.C 0) _ 63 _ = _ from callE_eq (b := 0) (h := F36.hint) (by rfl) hG (by simp))
  rw [hs] at hc
  have key : ∃ S0, F36.E 0 (.agg n.cells) (.int .i64 sort) [] = some (.int .i64 (n.check sort), S0) := by
    unfold Node.check
    by_cases h1 : sort < 1
    · refine ⟨[.arr [n.cells] none false], ?_⟩
      rw [if_pos (.inl h1)]
      simp only [go_sem, ↓reduceIte, Nat.reduceEqDiff, Nat.reduceBEq, Nat.reduceAdd, Nat.reduceMul, Nat.reduceSub, Nat.reduceLT, Nat.reduceLeDiff, reduceCtorEq, Int.reduceToNat, Int.reduceLE, Int.reduceLT, Int.reduceEq, h1]
    by_cases h2 : 3 < sort
    · refine ⟨[.arr [n.cells] none false], ?_⟩
      rw [if_pos (.inr h2)]
      simp only [go_sem, ↓reduceIte, Nat.reduceEqDiff, Nat.reduceBEq, Nat.reduceAdd, Nat.reduceMul, Nat.reduceSub, Nat.reduceLT, Nat.reduceLeDiff, reduceCtorEq, Int.reduceToNat, Int.reduceLE, Int.reduceLT, Int.reduceEq, h1, h2]
    rw [if_neg (by omega)]
    cases hsm : n.small
    · rw [hsm] at hc
      refine ⟨.arr [n.cells] none false :: .arr [[.int .i64 (n.within 4000 60).2]] none false :: ([] ++ G), ?_⟩
      rw [if_pos rfl]
      simp only [go_sem, ↓reduceIte, Nat.reduceEqDiff, Nat.reduceBEq, Nat.reduceAdd, Nat.reduceMul, Nat.reduceSub, Nat.reduceLT, Nat.reduceLeDiff, reduceCtorEq, Int.reduceToNat, Int.reduceLE, Int.reduceLT, Int.reduceEq, h1, h2, hc]
    · rw [hsm] at hc
      have hcount : n.count ≤ 4000 := by
        simp only [Node.small, Bool.and_eq_true, decide_eq_true_eq] at hsm
        exact hsm.1
      have hf := fun S => callFormed S (call64 n hn (by omega) false false false)
      refine ⟨.arr [n.cells] none false :: .arr [[.int .i64 (n.within 4000 60).2]] none false :: ([] ++ G), ?_⟩
      rw [if_neg (by simp)]
      by_cases h3 : sortOf n.op = sort
      · rw [if_neg (by simpa using h3)]
        cases hfm : n.formed false false false
        · rw [hfm] at hf
          rw [if_pos rfl]
          simp only [go_sem, ↓reduceIte, Nat.reduceEqDiff, Nat.reduceBEq, Nat.reduceAdd, Nat.reduceMul, Nat.reduceSub, Nat.reduceLT, Nat.reduceLeDiff, reduceCtorEq, Int.reduceToNat, Int.reduceLE, Int.reduceLT, Int.reduceEq, h1, h2, hc, h3, hf]
        · rw [hfm] at hf
          rw [if_neg (by simp)]
          simp only [go_sem, ↓reduceIte, Nat.reduceEqDiff, Nat.reduceBEq, Nat.reduceAdd, Nat.reduceMul, Nat.reduceSub, Nat.reduceLT, Nat.reduceLeDiff, reduceCtorEq, Int.reduceToNat, Int.reduceLE, Int.reduceLT, Int.reduceEq, h1, h2, hc, h3, hf]
      · rw [if_pos h3]
        simp only [go_sem, ↓reduceIte, Nat.reduceEqDiff, Nat.reduceBEq, Nat.reduceAdd, Nat.reduceMul, Nat.reduceSub, Nat.reduceLT, Nat.reduceLeDiff, reduceCtorEq, Int.reduceToNat, Int.reduceLE, Int.reduceLT, Int.reduceEq, h1, h2, hc, h3]
  obtain ⟨S0, hE⟩ := key
  exact F36.call hE rfl
end Go.Vs
end
/- Printed by a program of mine (stage1.py): the functions 52, 54, piece by piece. -/
section
set_option linter.unusedVariables false
set_option linter.unusedSimpArgs false
namespace Go.Vs
open Go Go.Proofs
noncomputable section

/-! ### tree.At -/
namespace F52
section
variable (b : Nat) (K : KT) (x0 x1 x2 x4 x5 x6 x7 x8 x12 x22 : PV) (e : Env) (S : Store)
noncomputable def hint : Hint := { keep := [], loops := [], regs := [(0, [1, 2, 4]), (1, [1, 2, 4, 6]), (2, [1, 2, 4, 6, 12]), (3, [4, 5]), (4, [4, 7, 8]), (5, [4, 7, 22]), (6, [4, 5]), (7, [4, 5])] }
noncomputable def C (b : Nat) : Ctx := ctxL Try.prog hints b hint
noncomputable def code : Code := Try.f52.body.get rfl
noncomputable def k0 (b : Nat) : KT := endC Try.prog Try.f52
def ee0 (x1 x2 x4 : PV) : Env := [(1, x1), (2, x2), (4, x4)]
def ee1 (x1 x2 x4 x6 : PV) : Env := [(1, x1), (2, x2), (4, x4), (6, x6)]
def ee2 (x1 x2 x4 x6 x12 : PV) : Env := [(1, x1), (2, x2), (4, x4), (6, x6), (12, x12)]
def ee3 (x4 x5 : PV) : Env := [(4, x4), (5, x5)]
def ee4 (x4 x7 x8 : PV) : Env := [(4, x4), (7, x7), (8, x8)]
def ee5 (x4 x7 x22 : PV) : Env := [(4, x4), (7, x7), (22, x22)]
def c1 : Code := at0 code
def c2 : Code := at1 code
def c3 : Code := at0 c2
def c4 : Code := at1 c2
def c5 : Code := at0 c4
def c6 : Code := at1 c4
def c7 : Code := at0 c6
def c8 : Code := at1 c6
def c9 : Code := at0 c8
def c10 : Code := at1 c8
def k11 (b : Nat) : KT := seqC (fun e S => execL (C b) 0 c10 (k0 b) e S) (k0 b)
@[go_sem] theorem k11_n : k11 b .normal (ee3 x4 x5) S =
  (k0 b) .ret (ee3 x4 x5) S := nr (seqN (execL_ret (by kernel_rfl)))
def k12 (b : Nat) : KT := seqC (fun e S => execL (C b) 0 c8 (k0 b) e S) (k0 b)
@[go_sem] theorem g13 : execL (C b) 0 c9 K (ee5 x4 x7 x22) S =
  withV (evLoad (tyi Try.prog 54) S x7) fun x24 =>
    withN (callO (callL Try.prog hints) S 79 [x24]) S fun x25 S =>
    withS (storeE (tyi Try.prog 54) S x4 x25) fun _u S =>
    withV (some (.int .i64 0)) fun x5 =>
    K .normal (ee3 x4 x5) S := nr (by kernel_rfl)
@[go_sem] theorem k12_n : k12 b .normal e S = execL (C b) 0 c9 (k11 b) e S := nr (seqN (enterS (by kernel_rfl)))
@[go_sem] theorem k12_ret : k12 b .ret e S = (k0 b) .ret e S := nr (seqC_r _ _ _ _)
def k14 (b : Nat) : KT := seqC (fun e S => execL (C b) 0 c6 (k0 b) e S) (k0 b)
def c15 : Code := at0 c7
def c16 : Code := at1 c7
def k17 (b : Nat) : KT := seqC (fun e S => execL (C b) 0 c16 (k12 b) e S) (k12 b)
def c18 : Code := atT c16
def c21 : Code := at0 c18
def c22 : Code := at1 c18
def k23 (b : Nat) : KT := seqC (fun e S => execL (C b) 0 c22 (k12 b) e S) (k12 b)
@[go_sem] theorem k23_n : k23 b .normal (ee3 x4 x5) S =
  (k12 b) .ret (ee3 x4 x5) S := nr (seqN (execL_ret (by kernel_rfl)))
@[go_sem] theorem g24 : execL (C b) 0 c21 K (ee5 x4 x7 x22) S =
  withV (buildO (tyi Try.prog 54) []) fun x23 =>
    withS (storeE (tyi Try.prog 54) S x4 x23) fun _u S =>
    withV (some (.int .i64 1)) fun x5 =>
    K .normal (ee3 x4 x5) S := nr (by kernel_rfl)
@[go_sem] theorem k17_n : k17 b .normal (ee5 x4 x7 x22) S =
  condC x22 (execL (C b) 0 c21 (k23 b) (ee5 x4 x7 x22) S)
    ((k12 b) .normal (ee5 x4 x7 x22) S) := nr (seqN (condE (t := 22) (by kernel_rfl) (enterS (by kernel_rfl)) (execL_skip (by kernel_rfl)) rfl))
@[go_sem] theorem g25 : execL (C b) 0 c15 K (ee4 x4 x7 x8) S =
  withV (some x8) fun x21 =>
    withV (evUn .not x21) fun x22 =>
    K .normal (ee5 x4 x7 x22) S := nr (by kernel_rfl)
@[go_sem] theorem k14_n : k14 b .normal (ee4 x4 x7 x8) S =
  execL (C b) 0 c15 (k17 b) (ee4 x4 x7 x8) S := nr (seqN ((enterS (by kernel_rfl)).trans (enterS (by kernel_rfl))))
def k26 (b : Nat) : KT := seqC (fun e S => execL (C b) 0 c4 (k0 b) e S) (k0 b)
@[go_sem] theorem g27 : execL (C b) 0 c5 K (ee2 x1 x2 x4 x6 x12) S =
  withV (evLoad (tyi Try.prog 54) S x2) fun x16 =>
    withV (some x1) fun x17 =>
    withN (callO (callL Try.prog hints) S 78 [x16, x17]) S fun x18 S =>
    withV (some x18) fun x15 =>
    withV (extractO x15 0) fun x19 =>
    withV (extractO x15 1) fun x20 =>
    withN (allocO (tyi Try.prog 54) (List.length S)) S fun x7 S =>
    withS (storeE (tyi Try.prog 54) S x7 x19) fun _u S =>
    withV (some x20) fun x8 =>
    K .normal (ee4 x4 x7 x8) S := nr (by kernel_rfl)
@[go_sem] theorem k26_n : k26 b .normal e S = execL (C b) 0 c5 (k14 b) e S := nr (seqN (enterS (by kernel_rfl)))
@[go_sem] theorem k26_ret : k26 b .ret e S = (k0 b) .ret e S := nr (seqC_r _ _ _ _)
def k28 (b : Nat) : KT := seqC (fun e S => execL (C b) 0 c2 (k0 b) e S) (k0 b)
def c29 : Code := at0 c3
def c30 : Code := at1 c3
def c31 : Code := at0 c30
def c32 : Code := at1 c30
def k33 (b : Nat) : KT := seqC (fun e S => execL (C b) 0 c32 (k26 b) e S) (k26 b)
def c34 : Code := atT c32
def c37 : Code := at0 c34
def c38 : Code := at1 c34
def k39 (b : Nat) : KT := seqC (fun e S => execL (C b) 0 c38 (k26 b) e S) (k26 b)
@[go_sem] theorem k39_n : k39 b .normal (ee3 x4 x5) S =
  (k26 b) .ret (ee3 x4 x5) S := nr (seqN (execL_ret (by kernel_rfl)))
@[go_sem] theorem g40 : execL (C b) 0 c37 K (ee2 x1 x2 x4 x6 x12) S =
  withV (buildO (tyi Try.prog 54) []) fun x13 =>
    withV (some x6) fun x14 =>
    withS (storeE (tyi Try.prog 54) S x4 x13) fun _u S =>
    withV (some x14) fun x5 =>
    K .normal (ee3 x4 x5) S := nr (by kernel_rfl)
@[go_sem] theorem k33_n : k33 b .normal (ee2 x1 x2 x4 x6 x12) S =
  condC x12 (execL (C b) 0 c37 (k39 b) (ee2 x1 x2 x4 x6 x12) S)
    ((k26 b) .normal (ee2 x1 x2 x4 x6 x12) S) := nr (seqN (condE (t := 12) (by kernel_rfl) (enterS (by kernel_rfl)) (execL_skip (by kernel_rfl)) rfl))
def k41 (b : Nat) : KT := seqC (fun e S => execL (C b) 0 c30 (k26 b) e S) (k26 b)
@[go_sem] theorem g42 : execL (C b) 0 c31 K (ee1 x1 x2 x4 x6) S =
  withV (some x6) fun x11 =>
    withV (evBin .neq (tyi Try.prog 29) x11 (.int .i64 0)) fun x12 =>
    K .normal (ee2 x1 x2 x4 x6 x12) S := nr (by kernel_rfl)
@[go_sem] theorem k41_n : k41 b .normal e S = execL (C b) 0 c31 (k33 b) e S := nr (seqN (enterS (by kernel_rfl)))
@[go_sem] theorem g43 : execL (C b) 0 c29 K (ee0 x1 x2 x4) S =
  withV (evLoad (tyi Try.prog 54) S x2) fun x9 =>
    withN (callO (callL Try.prog hints) S 72 [x9]) S fun x10 S =>
    withV (some x10) fun x6 =>
    K .normal (ee1 x1 x2 x4 x6) S := nr (by kernel_rfl)
@[go_sem] theorem k28_n : k28 b .normal (ee0 x1 x2 x4) S =
  execL (C b) 0 c29 (k41 b) (ee0 x1 x2 x4) S := nr (seqN ((enterS (by kernel_rfl)).trans (enterS (by kernel_rfl))))
@[go_sem] theorem g44 : execL (C b) 0 c1 K [(0, x0), (1, x1)] S =
  withN (boxed S (List.length S) (TI.size (tyi Try.prog 54)) x0) S fun x2 S =>
    withN (allocO (tyi Try.prog 54) (List.length S)) S fun x4 S =>
    withV (some (.int .i64 0)) fun x5 =>
    K .normal (ee0 x1 x2 x4) S := nr (by kernel_rfl)
def E (b : Nat) (x0 x1 : PV) (S : Store) : RT := execL (C b) 0 code (k0 b) [(0, x0), (1, x1)] S
@[go_sem] theorem E_eq : E b x0 x1 S =
  execL (C b) 0 c1 (k28 b) [(0, x0), (1, x1)] S := nr (enterS (by kernel_rfl))
@[go_sem] theorem k0_ret3 : k0 b .ret (ee3 x4 x5) S = withV (evLoad (tyi Try.prog 54) S x4) fun v0 => some ((.tup [v0, x5]), S) := nr ((show k0 b .ret (ee3 x4 x5) S = (evResults Try.prog Try.f52 [(4, x4), (5, x5)] S).map (fun v => (v, S)) from by kernel_rfl).trans ((evRes _ _ _ _).trans (by kernel_rfl)))
theorem call {x0 x1 : PV} {r : PV × Store} {v : PV} (h : E 0 x0 x1 [] = some r) (hv : fzPV r.2 r.1 = some v) : callL Try.prog hints 52 [x0, x1] = some v := callL_of (fn := Try.f52) (c := code) (by kernel_rfl) (by kernel_rfl) (by decide) (by kernel_rfl) (Nat.le_of_ble_eq_true (by kernel_rfl)) h hv
end
end F52
/-! ### tree.Replace -/
namespace F54
section
variable (b : Nat) (K : KT) (x0 x1 x2 x3 x5 x6 x7 x8 x9 x10 x11 x12 x13 x17 x27 x41 x45 x57 : PV) (e : Env) (S : Store)
noncomputable def hint : Hint := { keep := [], loops := [], regs := [(0, [1, 3, 5, 6]), (1, [1, 3, 5, 6, 8]), (2, [1, 3, 5, 6, 8, 17]), (3, [6, 7]), (4, [1, 3, 5, 6, 9, 10]), (5, [1, 3, 5, 6, 9, 27]), (6, [6, 7]), (7, [1, 3, 5, 6, 41]), (8, [6, 7]), (9, [1, 3, 5, 6, 11]), (10, [1, 3, 5, 6, 45]), (11, [6, 7]), (12, [6, 12]), (13, [6, 12, 13]), (14, [6, 12, 13, 57]), (15, [6, 7]), (16, [6, 7])] }
noncomputable def C (b : Nat) : Ctx := ctxL Try.prog hints b hint
noncomputable def code : Code := Try.f54.body.get rfl
noncomputable def k0 (b : Nat) : KT := endC Try.prog Try.f54
def ee0 (x1 x3 x5 x6 : PV) : Env := [(1, x1), (3, x3), (5, x5), (6, x6)]
def ee1 (x1 x3 x5 x6 x8 : PV) : Env := [(1, x1), (3, x3), (5, x5), (6, x6), (8, x8)]
def ee2 (x1 x3 x5 x6 x8 x17 : PV) : Env := [(1, x1), (3, x3), (5, x5), (6, x6), (8, x8), (17, x17)]
def ee3 (x1 x3 x5 x6 x9 x10 : PV) : Env := [(1, x1), (3, x3), (5, x5), (6, x6), (9, x9), (10, x10)]
def ee4 (x1 x3 x5 x6 x9 x27 : PV) : Env := [(1, x1), (3, x3), (5, x5), (6, x6), (9, x9), (27, x27)]
def ee5 (x1 x3 x5 x6 x11 : PV) : Env := [(1, x1), (3, x3), (5, x5), (6, x6), (11, x11)]
def ee6 (x1 x3 x5 x6 x41 : PV) : Env := [(1, x1), (3, x3), (5, x5), (6, x6), (41, x41)]
def ee7 (x1 x3 x5 x6 x45 : PV) : Env := [(1, x1), (3, x3), (5, x5), (6, x6), (45, x45)]
def ee8 (x6 x7 : PV) : Env := [(6, x6), (7, x7)]
def ee9 (x6 x12 : PV) : Env := [(6, x6), (12, x12)]
def ee10 (x6 x12 x13 : PV) : Env := [(6, x6), (12, x12), (13, x13)]
def ee11 (x6 x12 x13 x57 : PV) : Env := [(6, x6), (12, x12), (13, x13), (57, x57)]
def c1 : Code := at0 code
def c2 : Code := at1 code
def c3 : Code := at0 c2
def c4 : Code := at1 c2
def c5 : Code := at0 c4
def c6 : Code := at1 c4
def c7 : Code := at0 c6
def c8 : Code := at1 c6
def c9 : Code := at0 c8
def c10 : Code := at1 c8
def c11 : Code := at0 c10
def c12 : Code := at1 c10
def c13 : Code := at0 c12
def c14 : Code := at1 c12
def c15 : Code := at0 c14
def c16 : Code := at1 c14
def c17 : Code := at0 c16
def c18 : Code := at1 c16
def c19 : Code := at0 c18
def c20 : Code := at1 c18
def k21 (b : Nat) : KT := seqC (fun e S => execL (C b) 0 c20 (k0 b) e S) (k0 b)
@[go_sem] theorem k21_n : k21 b .normal (ee8 x6 x7) S =
  (k0 b) .ret (ee8 x6 x7) S := nr (seqN (execL_ret (by kernel_rfl)))
def k22 (b : Nat) : KT := seqC (fun e S => execL (C b) 0 c18 (k0 b) e S) (k0 b)
@[go_sem] theorem g23 : execL (C b) 0 c19 K (ee11 x6 x12 x13 x57) S =
  withV (evLoad (tyi Try.prog 54) S x12) fun x60 =>
    withS (storeE (tyi Try.prog 54) S x6 x60) fun _u S =>
    withV (some (.int .i64 0)) fun x7 =>
    K .normal (ee8 x6 x7) S := nr (by kernel_rfl)
@[go_sem] theorem k22_n : k22 b .normal e S = execL (C b) 0 c19 (k21 b) e S := nr (seqN (enterS (by kernel_rfl)))
@[go_sem] theorem k22_ret : k22 b .ret e S = (k0 b) .ret e S := nr (seqC_r _ _ _ _)
def k24 (b : Nat) : KT := seqC (fun e S => execL (C b) 0 c16 (k0 b) e S) (k0 b)
def c25 : Code := at0 c17
def c26 : Code := at1 c17
def c27 : Code := at0 c26
def c28 : Code := at1 c26
def k29 (b : Nat) : KT := seqC (fun e S => execL (C b) 0 c28 (k22 b) e S) (k22 b)
def c30 : Code := atT c28
def c33 : Code := at0 c30
def c34 : Code := at1 c30
def k35 (b : Nat) : KT := seqC (fun e S => execL (C b) 0 c34 (k22 b) e S) (k22 b)
@[go_sem] theorem k35_n : k35 b .normal (ee8 x6 x7) S =
  (k22 b) .ret (ee8 x6 x7) S := nr (seqN (execL_ret (by kernel_rfl)))
@[go_sem] theorem g36 : execL (C b) 0 c33 K (ee11 x6 x12 x13 x57) S =
  withV (buildO (tyi Try.prog 54) []) fun x58 =>
    withV (some x13) fun x59 =>
    withS (storeE (tyi Try.prog 54) S x6 x58) fun _u S =>
    withV (some x59) fun x7 =>
    K .normal (ee8 x6 x7) S := nr (by kernel_rfl)
@[go_sem] theorem k29_n : k29 b .normal (ee11 x6 x12 x13 x57) S =
  condC x57 (execL (C b) 0 c33 (k35 b) (ee11 x6 x12 x13 x57) S)
    ((k22 b) .normal (ee11 x6 x12 x13 x57) S) := nr (seqN (condE (t := 57) (by kernel_rfl) (enterS (by kernel_rfl)) (execL_skip (by kernel_rfl)) rfl))
def k37 (b : Nat) : KT := seqC (fun e S => execL (C b) 0 c26 (k22 b) e S) (k22 b)
@[go_sem] theorem g38 : execL (C b) 0 c27 K (ee10 x6 x12 x13) S =
  withV (some x13) fun x56 =>
    withV (evBin .neq (tyi Try.prog 29) x56 (.int .i64 0)) fun x57 =>
    K .normal (ee11 x6 x12 x13 x57) S := nr (by kernel_rfl)
@[go_sem] theorem k37_n : k37 b .normal e S = execL (C b) 0 c27 (k29 b) e S := nr (seqN (enterS (by kernel_rfl)))
@[go_sem] theorem g39 : execL (C b) 0 c25 K (ee9 x6 x12) S =
  withV (evLoad (tyi Try.prog 54) S x12) fun x51 =>
    withV (evFieldAddr (tyi Try.prog 54) 0 x12) fun x52 =>
    withV (evLoad (tyi Try.prog 3) S x52) fun x53 =>
    withN (callO (callL Try.prog hints) S 40 [x53]) S fun x54 S =>
    withN (callO (callL Try.prog hints) S 36 [x51, x54]) S fun x55 S =>
    withV (some x55) fun x13 =>
    K .normal (ee10 x6 x12 x13) S := nr (by kernel_rfl)
@[go_sem] theorem k24_n : k24 b .normal (ee9 x6 x12) S =
  execL (C b) 0 c25 (k37 b) (ee9 x6 x12) S := nr (seqN ((enterS (by kernel_rfl)).trans (enterS (by kernel_rfl))))
def k40 (b : Nat) : KT := seqC (fun e S => execL (C b) 0 c14 (k0 b) e S) (k0 b)
@[go_sem] theorem g41 : execL (C b) 0 c15 K (ee7 x1 x3 x5 x6 x45) S =
  withV (evLoad (tyi Try.prog 54) S x3) fun x47 =>
    withV (some x1) fun x48 =>
    withV (evLoad (tyi Try.prog 54) S x5) fun x49 =>
    withN (callO (callL Try.prog hints) S 81 [x47, x48, x49]) S fun x50 S =>
    withN (allocO (tyi Try.prog 54) (List.length S)) S fun x12 S =>
    withS (storeE (tyi Try.prog 54) S x12 x50) fun _u S =>
    K .normal (ee9 x6 x12) S := nr (by kernel_rfl)
@[go_sem] theorem k40_n : k40 b .normal e S = execL (C b) 0 c15 (k24 b) e S := nr (seqN (enterS (by kernel_rfl)))
@[go_sem] theorem k40_ret : k40 b .ret e S = (k0 b) .ret e S := nr (seqC_r _ _ _ _)
def k42 (b : Nat) : KT := seqC (fun e S => execL (C b) 0 c12 (k0 b) e S) (k0 b)
def c43 : Code := at0 c13
def c44 : Code := at1 c13
def k45 (b : Nat) : KT := seqC (fun e S => execL (C b) 0 c44 (k40 b) e S) (k40 b)
def c46 : Code := atT c44
def c49 : Code := at0 c46
def c50 : Code := at1 c46
def k51 (b : Nat) : KT := seqC (fun e S => execL (C b) 0 c50 (k40 b) e S) (k40 b)
@[go_sem] theorem k51_n : k51 b .normal (ee8 x6 x7) S =
  (k40 b) .ret (ee8 x6 x7) S := nr (seqN (execL_ret (by kernel_rfl)))
@[go_sem] theorem g52 : execL (C b) 0 c49 K (ee7 x1 x3 x5 x6 x45) S =
  withV (buildO (tyi Try.prog 54) []) fun x46 =>
    withS (storeE (tyi Try.prog 54) S x6 x46) fun _u S =>
    withV (some (.int .i64 2)) fun x7 =>
    K .normal (ee8 x6 x7) S := nr (by kernel_rfl)
@[go_sem] theorem k45_n : k45 b .normal (ee7 x1 x3 x5 x6 x45) S =
  condC x45 (execL (C b) 0 c49 (k51 b) (ee7 x1 x3 x5 x6 x45) S)
    ((k40 b) .normal (ee7 x1 x3 x5 x6 x45) S) := nr (seqN (condE (t := 45) (by kernel_rfl) (enterS (by kernel_rfl)) (execL_skip (by kernel_rfl)) rfl))
@[go_sem] theorem g53 : execL (C b) 0 c43 K (ee5 x1 x3 x5 x6 x11) S =
  withV (evLoad (tyi Try.prog 54) S x5) fun x43 =>
    withS (callE (C b) S 63 [x43, x11, (.int .i64 60)]) fun x44 S =>
    withV (evUn .not x44) fun x45 =>
    K .normal (ee7 x1 x3 x5 x6 x45) S := nr (by kernel_rfl)
@[go_sem] theorem k42_n : k42 b .normal (ee5 x1 x3 x5 x6 x11) S =
  execL (C b) 0 c43 (k45 b) (ee5 x1 x3 x5 x6 x11) S := nr (seqN ((enterS (by kernel_rfl)).trans (enterS (by kernel_rfl))))
def k54 (b : Nat) : KT := seqC (fun e S => execL (C b) 0 c10 (k0 b) e S) (k0 b)
@[go_sem] theorem g55 : execL (C b) 0 c11 K (ee6 x1 x3 x5 x6 x41) S =
  withN (allocO (tyi Try.prog 3) (List.length S)) S fun x11 S =>
    withS (storeE (tyi Try.prog 3) S x11 (.int .i64 4000)) fun _u S =>
    K .normal (ee5 x1 x3 x5 x6 x11) S := nr (by kernel_rfl)
@[go_sem] theorem k54_n : k54 b .normal e S = execL (C b) 0 c11 (k42 b) e S := nr (seqN (enterS (by kernel_rfl)))
@[go_sem] theorem k54_ret : k54 b .ret e S = (k0 b) .ret e S := nr (seqC_r _ _ _ _)
def k56 (b : Nat) : KT := seqC (fun e S => execL (C b) 0 c8 (k0 b) e S) (k0 b)
def c57 : Code := at0 c9
def c58 : Code := at1 c9
def k59 (b : Nat) : KT := seqC (fun e S => execL (C b) 0 c58 (k54 b) e S) (k54 b)
def c60 : Code := atT c58
def c63 : Code := at0 c60
def c64 : Code := at1 c60
def k65 (b : Nat) : KT := seqC (fun e S => execL (C b) 0 c64 (k54 b) e S) (k54 b)
@[go_sem] theorem k65_n : k65 b .normal (ee8 x6 x7) S =
  (k54 b) .ret (ee8 x6 x7) S := nr (seqN (execL_ret (by kernel_rfl)))
@[go_sem] theorem g66 : execL (C b) 0 c63 K (ee6 x1 x3 x5 x6 x41) S =
  withV (buildO (tyi Try.prog 54) []) fun x42 =>
    withS (storeE (tyi Try.prog 54) S x6 x42) fun _u S =>
    withV (some (.int .i64 80)) fun x7 =>
    K .normal (ee8 x6 x7) S := nr (by kernel_rfl)
@[go_sem] theorem k59_n : k59 b .normal (ee6 x1 x3 x5 x6 x41) S =
  condC x41 (execL (C b) 0 c63 (k65 b) (ee6 x1 x3 x5 x6 x41) S)
    ((k54 b) .normal (ee6 x1 x3 x5 x6 x41) S) := nr (seqN (condE (t := 41) (by kernel_rfl) (enterS (by kernel_rfl)) (execL_skip (by kernel_rfl)) rfl))
@[go_sem] theorem g67 : execL (C b) 0 c57 K (ee4 x1 x3 x5 x6 x9 x27) S =
  withV (evFieldAddr (tyi Try.prog 54) 0 x9) fun x29 =>
    withV (evLoad (tyi Try.prog 3) S x29) fun x30 =>
    withN (callO (callL Try.prog hints) S 40 [x30]) S fun x31 S =>
    withV (evFieldAddr (tyi Try.prog 54) 0 x5) fun x32 =>
    withV (evLoad (tyi Try.prog 3) S x32) fun x33 =>
    withN (callO (callL Try.prog hints) S 40 [x33]) S fun x34 S =>
    withV (evBin .neq (tyi Try.prog 3) x31 x34) fun x35 =>
    withV (some x35) fun x36 =>
    withV (gval x36 false (evFieldAddr (tyi Try.prog 54) 0 x5)) fun x37 =>
    withV (gval x36 false (evLoad (tyi Try.prog 3) S x37)) fun x38 =>
    withN (gout x36 false (callO (callL Try.prog hints) S 40 [x38])) S fun x39 S =>
    withV (gval x36 false (evBin .eql (tyi Try.prog 3) x39 (.int .i64 0))) fun x40 =>
    withV (pickO x36 (.bool true) x40) fun x41 =>
    K .normal (ee6 x1 x3 x5 x6 x41) S := nr (by kernel_rfl)
@[go_sem] theorem k56_n : k56 b .normal (ee4 x1 x3 x5 x6 x9 x27) S =
  execL (C b) 0 c57 (k59 b) (ee4 x1 x3 x5 x6 x9 x27) S := nr (seqN ((enterS (by kernel_rfl)).trans (enterS (by kernel_rfl))))
@[go_sem] theorem k56_ret : k56 b .ret e S = (k0 b) .ret e S := nr (seqC_r _ _ _ _)
def k68 (b : Nat) : KT := seqC (fun e S => execL (C b) 0 c6 (k0 b) e S) (k0 b)
def c69 : Code := at0 c7
def c70 : Code := at1 c7
def k71 (b : Nat) : KT := seqC (fun e S => execL (C b) 0 c70 (k56 b) e S) (k56 b)
def c72 : Code := atT c70
def c75 : Code := at0 c72
def c76 : Code := at1 c72
def k77 (b : Nat) : KT := seqC (fun e S => execL (C b) 0 c76 (k56 b) e S) (k56 b)
@[go_sem] theorem k77_n : k77 b .normal (ee8 x6 x7) S =
  (k56 b) .ret (ee8 x6 x7) S := nr (seqN (execL_ret (by kernel_rfl)))
@[go_sem] theorem g78 : execL (C b) 0 c75 K (ee4 x1 x3 x5 x6 x9 x27) S =
  withV (buildO (tyi Try.prog 54) []) fun x28 =>
    withS (storeE (tyi Try.prog 54) S x6 x28) fun _u S =>
    withV (some (.int .i64 1)) fun x7 =>
    K .normal (ee8 x6 x7) S := nr (by kernel_rfl)
@[go_sem] theorem k71_n : k71 b .normal (ee4 x1 x3 x5 x6 x9 x27) S =
  condC x27 (execL (C b) 0 c75 (k77 b) (ee4 x1 x3 x5 x6 x9 x27) S)
    ((k56 b) .normal (ee4 x1 x3 x5 x6 x9 x27) S) := nr (seqN (condE (t := 27) (by kernel_rfl) (enterS (by kernel_rfl)) (execL_skip (by kernel_rfl)) rfl))
@[go_sem] theorem g79 : execL (C b) 0 c69 K (ee3 x1 x3 x5 x6 x9 x10) S =
  withV (some x10) fun x26 =>
    withV (evUn .not x26) fun x27 =>
    K .normal (ee4 x1 x3 x5 x6 x9 x27) S := nr (by kernel_rfl)
@[go_sem] theorem k68_n : k68 b .normal (ee3 x1 x3 x5 x6 x9 x10) S =
  execL (C b) 0 c69 (k71 b) (ee3 x1 x3 x5 x6 x9 x10) S := nr (seqN ((enterS (by kernel_rfl)).trans (enterS (by kernel_rfl))))
def k80 (b : Nat) : KT := seqC (fun e S => execL (C b) 0 c4 (k0 b) e S) (k0 b)
@[go_sem] theorem g81 : execL (C b) 0 c5 K (ee2 x1 x3 x5 x6 x8 x17) S =
  withV (evLoad (tyi Try.prog 54) S x3) fun x21 =>
    withV (some x1) fun x22 =>
    withN (callO (callL Try.prog hints) S 78 [x21, x22]) S fun x23 S =>
    withV (some x23) fun x20 =>
    withV (extractO x20 0) fun x24 =>
    withV (extractO x20 1) fun x25 =>
    withN (allocO (tyi Try.prog 54) (List.length S)) S fun x9 S =>
    withS (storeE (tyi Try.prog 54) S x9 x24) fun _u S =>
    withV (some x25) fun x10 =>
    K .normal (ee3 x1 x3 x5 x6 x9 x10) S := nr (by kernel_rfl)
@[go_sem] theorem k80_n : k80 b .normal e S = execL (C b) 0 c5 (k68 b) e S := nr (seqN (enterS (by kernel_rfl)))
@[go_sem] theorem k80_ret : k80 b .ret e S = (k0 b) .ret e S := nr (seqC_r _ _ _ _)
def k82 (b : Nat) : KT := seqC (fun e S => execL (C b) 0 c2 (k0 b) e S) (k0 b)
def c83 : Code := at0 c3
def c84 : Code := at1 c3
def c85 : Code := at0 c84
def c86 : Code := at1 c84
def k87 (b : Nat) : KT := seqC (fun e S => execL (C b) 0 c86 (k80 b) e S) (k80 b)
def c88 : Code := atT c86
def c91 : Code := at0 c88
def c92 : Code := at1 c88
def k93 (b : Nat) : KT := seqC (fun e S => execL (C b) 0 c92 (k80 b) e S) (k80 b)
@[go_sem] theorem k93_n : k93 b .normal (ee8 x6 x7) S =
  (k80 b) .ret (ee8 x6 x7) S := nr (seqN (execL_ret (by kernel_rfl)))
@[go_sem] theorem g94 : execL (C b) 0 c91 K (ee2 x1 x3 x5 x6 x8 x17) S =
  withV (buildO (tyi Try.prog 54) []) fun x18 =>
    withV (some x8) fun x19 =>
    withS (storeE (tyi Try.prog 54) S x6 x18) fun _u S =>
    withV (some x19) fun x7 =>
    K .normal (ee8 x6 x7) S := nr (by kernel_rfl)
@[go_sem] theorem k87_n : k87 b .normal (ee2 x1 x3 x5 x6 x8 x17) S =
  condC x17 (execL (C b) 0 c91 (k93 b) (ee2 x1 x3 x5 x6 x8 x17) S)
    ((k80 b) .normal (ee2 x1 x3 x5 x6 x8 x17) S) := nr (seqN (condE (t := 17) (by kernel_rfl) (enterS (by kernel_rfl)) (execL_skip (by kernel_rfl)) rfl))
def k95 (b : Nat) : KT := seqC (fun e S => execL (C b) 0 c84 (k80 b) e S) (k80 b)
@[go_sem] theorem g96 : execL (C b) 0 c85 K (ee1 x1 x3 x5 x6 x8) S =
  withV (some x8) fun x16 =>
    withV (evBin .neq (tyi Try.prog 29) x16 (.int .i64 0)) fun x17 =>
    K .normal (ee2 x1 x3 x5 x6 x8 x17) S := nr (by kernel_rfl)
@[go_sem] theorem k95_n : k95 b .normal e S = execL (C b) 0 c85 (k87 b) e S := nr (seqN (enterS (by kernel_rfl)))
@[go_sem] theorem g97 : execL (C b) 0 c83 K (ee0 x1 x3 x5 x6) S =
  withV (evLoad (tyi Try.prog 54) S x3) fun x14 =>
    withN (callO (callL Try.prog hints) S 72 [x14]) S fun x15 S =>
    withV (some x15) fun x8 =>
    K .normal (ee1 x1 x3 x5 x6 x8) S := nr (by kernel_rfl)
@[go_sem] theorem k82_n : k82 b .normal (ee0 x1 x3 x5 x6) S =
  execL (C b) 0 c83 (k95 b) (ee0 x1 x3 x5 x6) S := nr (seqN ((enterS (by kernel_rfl)).trans (enterS (by kernel_rfl))))
@[go_sem] theorem g98 : execL (C b) 0 c1 K [(0, x0), (1, x1), (2, x2)] S =
  withN (boxed S (List.length S) (TI.size (tyi Try.prog 54)) x0) S fun x3 S =>
    withN (boxed S (List.length S) (TI.size (tyi Try.prog 54)) x2) S fun x5 S =>
    withN (allocO (tyi Try.prog 54) (List.length S)) S fun x6 S =>
    withV (some (.int .i64 0)) fun x7 =>
    K .normal (ee0 x1 x3 x5 x6) S := nr (by kernel_rfl)
def E (b : Nat) (x0 x1 x2 : PV) (S : Store) : RT := execL (C b) 0 code (k0 b) [(0, x0), (1, x1), (2, x2)] S
@[go_sem] theorem E_eq : E b x0 x1 x2 S =
  execL (C b) 0 c1 (k82 b) [(0, x0), (1, x1), (2, x2)] S := nr (enterS (by kernel_rfl))
@[go_sem] theorem k0_ret8 : k0 b .ret (ee8 x6 x7) S = withV (evLoad (tyi Try.prog 54) S x6) fun v0 => some ((.tup [v0, x7]), S) := nr ((show k0 b .ret (ee8 x6 x7) S = (evResults Try.prog Try.f54 [(6, x6), (7, x7)] S).map (fun v => (v, S)) from by kernel_rfl).trans ((evRes _ _ _ _).trans (by kernel_rfl)))
theorem call {x0 x1 x2 : PV} {r : PV × Store} {v : PV} (h : E 0 x0 x1 x2 [] = some r) (hv : fzPV r.2 r.1 = some v) : callL Try.prog hints 54 [x0, x1, x2] = some v := callL_of (fn := Try.f54) (c := code) (by kernel_rfl) (by kernel_rfl) (by decide) (by kernel_rfl) (Nat.le_of_ble_eq_true (by kernel_rfl)) h hv
end
end F54
end
end Go.Vs
end
/- tree.root, step, At: what they return. -/
section
set_option linter.unusedVariables false
set_option linter.unusedSimpArgs false
namespace Go.Vs
open Go Go.Proofs
/-- The first error of the functions over whole trees. -/
def Node.rootErr (n : Node) : Int := if sortOf n.op = 0 ∨ sortOf n.op = 4 then 80 else n.check (sortOf n.op)
theorem call72 (n : Node) (hn : n.ok) : callL Try.prog hints 72 [.agg n.cells] = some (.int .i64 n.rootErr) := by
  refine F72.call (r := (.int .i64 n.rootErr, [.arr [n.cells] none false])) ?_ rfl
  have h1 := fun S s => callO_plain (S := S) (call36 n hn s) (by simp [Node.plain, Plain.int])
  unfold Node.rootErr
  by_cases h0 : sortOf n.op = 0
  · simp only [go_sem, ↓reduceIte, Nat.reduceEqDiff, Nat.reduceBEq, Nat.reduceAdd, Nat.reduceMul, Nat.reduceSub, Nat.reduceLT, Nat.reduceLeDiff, reduceCtorEq, Int.reduceToNat, Int.reduceLE, Int.reduceLT, Int.reduceEq, h0, true_or]
  by_cases h4 : sortOf n.op = 4
  · simp only [go_sem, ↓reduceIte, Nat.reduceEqDiff, Nat.reduceBEq, Nat.reduceAdd, Nat.reduceMul, Nat.reduceSub, Nat.reduceLT, Nat.reduceLeDiff, reduceCtorEq, Int.reduceToNat, Int.reduceLE, Int.reduceLT, Int.reduceEq, h4, or_true]
  · simp only [go_sem, ↓reduceIte, Nat.reduceEqDiff, Nat.reduceBEq, Nat.reduceAdd, Nat.reduceMul, Nat.reduceSub, Nat.reduceLT, Nat.reduceLeDiff, reduceCtorEq, Int.reduceToNat, Int.reduceLE, Int.reduceLT, Int.reduceEq, h0, h4, h1, or_self]
/-- The node at a place. -/
def Node.at : List Int → Node → Option Node
  | [], n => some n
  | p :: ps, n => if p < 0 ∨ (n.kids.length : Int) ≤ p then none else Node.at ps (n.kids.getD p.toNat default)
def atCells : Option Node → List PV
  | some x => x.cells
  | none => zeroNode
theorem loop78 (path : List Int) (hp : path.length ≤ maxLen) : ∀ (m i : Nat), i + m = path.length → ∀ n : Node, n.ok →
    ∃ S', F78.L0 0 2 (.mp 0 0 0) (.mp 1 0 0) (.sl (intRows path) false) (.int .i64 path.length) (.int .i64 i) [.arr [n.cells] none false, .arr [zeroNode] none false] =
      some (.tup [.agg (atCells (Node.at (path.drop i) n)), .bool (Node.at (path.drop i) n).isSome], S') := by
  intro m
  induction m with
  | zero =>
    intro i hi n hn
    have h1 : ¬ (i : Int) < (path.length : Int) := by omega
    refine ⟨[.arr [n.cells] none false, .arr [n.cells] none false], F78.L0_step ?_⟩
    rw [List.drop_of_length_le (by omega)]
    simp only [go_sem, ↓reduceIte, Nat.reduceEqDiff, Nat.reduceBEq, Nat.reduceAdd, Nat.reduceMul, Nat.reduceSub, Nat.reduceLT, Nat.reduceLeDiff, reduceCtorEq, Int.reduceToNat, Int.reduceLE, Int.reduceLT, Int.reduceEq, h1]
    rfl
  | succ m hm =>
    intro i hi n hn
    have h1 : (i : Int) < (path.length : Int) := by omega
    have h2 := wrap_succ (i := i) (n := path.length) (by omega) hp
    have h4 : 0 ≤ (i : Int) ∧ (i : Int) < (path.length : Int) := ⟨by omega, h1⟩
    have e1 : path.drop i = path.getD i 0 :: path.drop (i + 1) := by
      rw [List.drop_eq_getElem_cons (by omega)]
      simp [List.getD_eq_getElem?_getD, show i < path.length by omega]
    have e3 : Int.toNat (i : Int) = i := by omega
    rw [e1]
    generalize hq : path.getD i 0 = q
    simp only [Node.at]
    by_cases h5 : q < 0
    · refine ⟨[.arr [n.cells] none false, .arr [zeroNode] none false], F78.L0_step ?_⟩
      simp only [go_sem, ↓reduceIte, Nat.reduceEqDiff, Nat.reduceBEq, Nat.reduceAdd, Nat.reduceMul, Nat.reduceSub, Nat.reduceLT, Nat.reduceLeDiff, reduceCtorEq, Int.reduceToNat, Int.reduceLE, Int.reduceLT, Int.reduceEq, h1, h4, hq, h5, e3, true_or]
      rfl
    by_cases h6 : (n.kids.length : Int) ≤ q
    · refine ⟨[.arr [n.cells] none false, .arr [zeroNode] none false], F78.L0_step ?_⟩
      simp only [go_sem, ↓reduceIte, Nat.reduceEqDiff, Nat.reduceBEq, Nat.reduceAdd, Nat.reduceMul, Nat.reduceSub, Nat.reduceLT, Nat.reduceLeDiff, reduceCtorEq, Int.reduceToNat, Int.reduceLE, Int.reduceLT, Int.reduceEq, h1, h4, hq, h5, h6, e3, or_true]
      rfl
    · obtain ⟨S', h7⟩ := hm (i + 1) (by omega) (n.kids.getD q.toNat default) (hn.kids _ (kids_mem (by omega)))
      refine ⟨S', F78.L0_step ?_⟩
      have h8 : 0 ≤ q ∧ q < (n.kids.length : Int) := by omega
      simp only [go_sem, ↓reduceIte, Nat.reduceEqDiff, Nat.reduceBEq, Nat.reduceAdd, Nat.reduceMul, Nat.reduceSub, Nat.reduceLT, Nat.reduceLeDiff, reduceCtorEq, Int.reduceToNat, Int.reduceLE, Int.reduceLT, Int.reduceEq, h1, h2, h4, hq, h5, h6, h8, e3, or_self, ↓h7]
theorem call78 (path : List Int) (hp : path.length ≤ maxLen) (n : Node) (hn : n.ok) : callL Try.prog hints 78 [.agg n.cells, .sl (intRows path) false] = some (.tup [.agg ((Node.at path n).getD default).cells, .bool (Node.at path n).isSome]) := by
  obtain ⟨S', h⟩ := loop78 path hp path.length 0 (by omega) n hn
  simp only [Int.natCast_zero, List.drop_zero] at h
  refine F78.call (r := (.tup [.agg (atCells (Node.at path n)), .bool (Node.at path n).isSome], S')) ?_ ?_
  · simp only [go_sem, ↓reduceIte, Nat.reduceEqDiff, Nat.reduceBEq, Nat.reduceAdd, Nat.reduceMul, Nat.reduceSub, Nat.reduceLT, Nat.reduceLeDiff, reduceCtorEq, Int.reduceToNat, Int.reduceLE, Int.reduceLT, Int.reduceEq, h]
  · cases Node.at path n with
    | none => rfl
    | some x =>
      show (mapO (fzPV1 S') [.agg x.cells, .bool true]).map PV.tup = _
      have e : fzPV1 S' (.agg x.cells) = some (.agg x.cells) := Node.fz S' x
      simp only [mapO, e, Option.bind_some]
      rfl
theorem Node.at_ok : ∀ {path : List Int} {n x : Node}, Node.at path n = some x → n.ok → x.ok
  | [], n, x, h, hn => by cases h; exact hn
  | p :: ps, n, x, h, hn => by
    simp only [Node.at] at h
    split at h
    · cases h
    · exact Node.at_ok h (hn.kids _ (kids_mem (by omega)))
theorem Node.at_brief : ∀ {path : List Int} {n x : Node}, Node.at path n = some x → n.brief → x.brief
  | [], n, x, h, hn => by cases h; exact hn
  | p :: ps, n, x, h, hn => by
    simp only [Node.at] at h
    split at h
    · cases h
    · rw [Node.brief_eq] at hn
      exact Node.at_brief h (Node.briefs_mem hn.2.2.2 _ (kids_mem (by omega)))
/-- What At returns: the node and the error. -/
def Node.atRes (n : Node) (path : List Int) : Node × Int :=
  if n.rootErr ≠ 0 then (default, n.rootErr) else match Node.at path n with
    | none => (default, 1)
    | some x => (x, 0)
theorem call52 (path : List Int) (hp : path.length ≤ maxLen) (n : Node) (hn : n.ok) (hb : n.brief) : callL Try.prog hints 52 [.agg n.cells, .sl (intRows path) false] = some (.tup [.agg (n.atRes path).1.cells, .int .i64 (n.atRes path).2]) := by
  have h1 := fun S => callN S (call72 n hn)
  have h2 := fun S => callO_plain (S := S) (call78 path hp n hn) (by simp [Node.plain, Plain.sl])
  have key : ∃ S0 c, F52.E 0 (.agg n.cells) (.sl (intRows path) false) [] = some (.tup [.agg c, .int .i64 (n.atRes path).2], S0) ∧ ∀ S, fzPV1 S (.agg c) = some (.agg (n.atRes path).1.cells) := by
    unfold Node.atRes
    by_cases h3 : n.rootErr = 0
    · simp only [h3, ne_eq, not_true_eq_false, if_false]
      cases h4 : Node.at path n with
      | none =>
        rw [h4] at h2
        refine ⟨?S1, zeroNode, ?h1, fun _ => rfl⟩
        case h1 =>
          simp only [go_sem, ↓reduceIte, Nat.reduceEqDiff, Nat.reduceBEq, Nat.reduceAdd, Nat.reduceMul, Nat.reduceSub, Nat.reduceLT, Nat.reduceLeDiff, reduceCtorEq, Int.reduceToNat, Int.reduceLE, Int.reduceLT, Int.reduceEq, h1, h2, h3, Option.isSome]
          rfl
      | some x =>
        rw [h4] at h2
        have h5 := fun S => callN S (call79 x (Node.at_ok h4 hn) (Node.at_brief h4 hb))
        refine ⟨?S2, x.cells, ?h2, fun S => Node.fz S x⟩
        case h2 =>
          simp only [go_sem, ↓reduceIte, Nat.reduceEqDiff, Nat.reduceBEq, Nat.reduceAdd, Nat.reduceMul, Nat.reduceSub, Nat.reduceLT, Nat.reduceLeDiff, reduceCtorEq, Int.reduceToNat, Int.reduceLE, Int.reduceLT, Int.reduceEq, h1, h2, h3, h5, Option.isSome, Option.getD]
          rfl
    · rw [if_pos h3]
      refine ⟨?S3, zeroNode, ?h3, fun _ => rfl⟩
      case h3 =>
        simp only [go_sem, ↓reduceIte, Nat.reduceEqDiff, Nat.reduceBEq, Nat.reduceAdd, Nat.reduceMul, Nat.reduceSub, Nat.reduceLT, Nat.reduceLeDiff, reduceCtorEq, Int.reduceToNat, Int.reduceLE, Int.reduceLT, Int.reduceEq, h1, h3]
        rfl
  obtain ⟨S0, c, hE, hz⟩ := key
  refine F52.call hE ?_
  show (mapO (fzPV1 S0) [.agg c, .int .i64 (n.atRes path).2]).map PV.tup = _
  simp only [mapO, hz, Option.bind_some]
  rfl
end Go.Vs
end
/- tree.within, with the number anywhere in the store. -/
section
set_option linter.unusedVariables false
set_option linter.unusedSimpArgs false
namespace Go.Vs
open Go Go.Proofs
def leftObj (left : Int) : Obj := .arr [[.int .i64 left]] none false
theorem gcA {A T G : Store} (hA : Quiet A) (hT : Quiet T) (left : Int) {n : Nat} (hn : n = A.length + (T.length + 1)) {e : Env} (he : seenBelow n e = true) : gc n e (A ++ leftObj left :: (T ++ G)) = A ++ leftObj left :: T := by
  have e1 : A ++ leftObj left :: (T ++ G) = (A ++ leftObj left :: T) ++ G := by simp
  have hq : Quiet (A ++ leftObj left :: T) := hA.append (.cons rfl hT)
  rw [e1, gc_back (by simp [hn]) he (hq.held _ _)]
theorem loop63A (n : Node) (hn : n.ok) (lv : Int) (hlv : 0 ≤ lv ∧ lv ≤ 1000) (b : Nat) (A T : Store) (hA : Quiet A) (hT : Quiet T)
    (ih : ∀ k ∈ n.kids, ∀ (left : Int), (0 ≤ left ∧ left ≤ 100000) → ∀ T : Store, Quiet T → ∃ G, callRL Try.prog hints 63 [.agg k.cells, .mp A.length 0 0, .int .i64 lv] (A ++ leftObj left :: T) = some (.bool (k.within left lv).1, A ++ leftObj (k.within left lv).2 :: (T ++ G))) :
    ∀ (m i : Nat), i + m = n.kids.length → ∀ (left : Int), (0 ≤ left ∧ left ≤ 100000) →
      ∃ G, F63.L0 b (A.length + (T.length + 1)) (.mp A.length 0 0) (.int .i64 (lv + 1)) (.sl (Node.rows n.kids) false) (.int .i64 n.kids.length) (.int .i64 i) (A ++ leftObj left :: T) =
        some (.bool (Node.withins (n.kids.drop i) left lv).1, A ++ leftObj (Node.withins (n.kids.drop i) left lv).2 :: (T ++ G)) := by
  have d1 : A.length < A.length + (T.length + 1) := by omega
  intro m
  induction m with
  | zero =>
    intro i hi left hleft
    have h1 : ¬ (i : Int) < (n.kids.length : Int) := by omega
    refine ⟨[], F63.L0_step ?_⟩
    have e0 := fun e he => gcA (G := []) hA hT left rfl (e := e) he
    simp only [List.append_nil] at e0
    simp only [go_sem, ↓reduceIte, Nat.reduceEqDiff, Nat.reduceBEq, Nat.reduceAdd, Nat.reduceMul, Nat.reduceSub, Nat.reduceLT, Nat.reduceLeDiff, reduceCtorEq, Int.reduceToNat, Int.reduceLE, Int.reduceLT, Int.reduceEq, h1, e0]
    rw [List.drop_of_length_le (by omega)]
    rfl
  | succ m hm =>
    intro i hi left hleft
    have h1 : (i : Int) < (n.kids.length : Int) := by omega
    have h2 := wrap_succ (i := i) (n := n.kids.length) (by omega) hn.len
    have h3 : IntKind.i64.wrap (lv + 1 - 1) = lv := by rw [IntKind.wrap_i64]; omega
    have h4 : 0 ≤ (i : Int) ∧ (i : Int) < (n.kids.length : Int) := ⟨by omega, h1⟩
    obtain ⟨G, hG⟩ := ih _ (kids_mem (l := n.kids) (i := i) (by omega)) left hleft (T ++ [.arr [(n.kids.getD i default).cells] none false]) (hT.append (.cons (by simp only [rowsRefs_cons, Node.refs]; rfl) .nil))
    have hc := (show callE (F63.C b) _ 63 _ = _ from callE_eq (b := b) (h := F63.hint) (by rfl) hG (by simp))
    rw [List.append_assoc] at hc
    have hrange := within_range (n.kids.getD i default) left lv hleft.1
    rw [withins_drop (by omega)]
    have e0 := fun G e he left => gcA (G := G) hA hT left rfl (e := e) he
    cases hok : ((n.kids.getD i default).within left lv).1 with
    | true =>
      rw [hok] at hc
      obtain ⟨G', hG'⟩ := hm (i + 1) (by omega) ((n.kids.getD i default).within left lv).2 ⟨hrange.2.2 hok, by omega⟩
      refine ⟨G', F63.L0_step ?_⟩
      simp only [go_sem, ↓reduceIte, Nat.reduceEqDiff, Nat.reduceBEq, Nat.reduceAdd, Nat.reduceMul, Nat.reduceSub, Nat.reduceLT, Nat.reduceLeDiff, reduceCtorEq, Int.reduceToNat, Int.reduceLE, Int.reduceLT, Int.reduceEq, h1, h2, h3, h4, hc, d1, e0, ↓hG']
    | false =>
      rw [hok] at hc
      refine ⟨.arr [(n.kids.getD i default).cells] none false :: G, F63.L0_step ?_⟩
      simp only [go_sem, ↓reduceIte, Nat.reduceEqDiff, Nat.reduceBEq, Nat.reduceAdd, Nat.reduceMul, Nat.reduceSub, Nat.reduceLT, Nat.reduceLeDiff, reduceCtorEq, Int.reduceToNat, Int.reduceLE, Int.reduceLT, Int.reduceEq, h1, h2, h3, h4, hc]
@[go_sem] theorem leftObj_eq (left : Int) : leftObj left = .arr [[.int .i64 left]] none false := nr rfl
theorem call63A : ∀ n : Node, n.ok → ∀ (lv left : Int), (0 ≤ lv ∧ lv ≤ 1000) → (0 ≤ left ∧ left ≤ 100000) → ∀ (A T : Store), Quiet A → Quiet T →
    ∃ G, callRL Try.prog hints 63 [.agg n.cells, .mp A.length 0 0, .int .i64 lv] (A ++ leftObj left :: T) = some (.bool (n.within left lv).1, A ++ leftObj (n.within left lv).2 :: (T ++ G)) := by
  refine Node.ind' fun n ih hn lv left hlv hleft A T hA hT => ?_
  have hw : IntKind.i64.wrap (left - 1) = left - 1 := by rw [IntKind.wrap_i64]; omega
  rw [Node.within_eq]
  by_cases h1 : left - 1 < 0
  · refine ⟨[.arr [n.cells] none false], F63.callR ?_⟩
    simp only [go_sem, ↓reduceIte, Nat.reduceEqDiff, Nat.reduceBEq, Nat.reduceAdd, Nat.reduceMul, Nat.reduceSub, Nat.reduceLT, Nat.reduceLeDiff, reduceCtorEq, Int.reduceToNat, Int.reduceLE, Int.reduceLT, Int.reduceEq, leftObj, hw, h1, true_or]
  by_cases h2 : lv ≤ 0
  · refine ⟨[.arr [n.cells] none false], F63.callR ?_⟩
    simp only [go_sem, ↓reduceIte, Nat.reduceEqDiff, Nat.reduceBEq, Nat.reduceAdd, Nat.reduceMul, Nat.reduceSub, Nat.reduceLT, Nat.reduceLeDiff, reduceCtorEq, Int.reduceToNat, Int.reduceLE, Int.reduceLT, Int.reduceEq, leftObj, hw, h1, h2, or_true]
  · obtain ⟨G, hG⟩ := loop63A n hn (lv - 1) (by omega) (A.length + (T.length + 1)) A (T ++ [.arr [n.cells] none false]) hA (hT.append (.cons (by simp only [rowsRefs_cons, Node.refs]; rfl) .nil)) (fun k hk left hl T hT => ih k hk (hn.kids k hk) (lv - 1) left (by omega) hl A T hA hT) n.kids.length 0 (by omega) (left - 1) (by omega)
    have e1 : lv - 1 + 1 = lv := by omega
    have e2 : (T ++ [Obj.arr [n.cells] none false]).length = T.length + 1 := by simp
    rw [e1, e2] at hG
    simp only [Int.natCast_zero, List.drop_zero] at hG
    refine ⟨.arr [n.cells] none false :: G, F63.callR ?_⟩
    simp only [go_sem, ↓reduceIte, Nat.reduceEqDiff, Nat.reduceBEq, Nat.reduceAdd, Nat.reduceMul, Nat.reduceSub, Nat.reduceLT, Nat.reduceLeDiff, reduceCtorEq, Int.reduceToNat, Int.reduceLE, Int.reduceLT, Int.reduceEq, hw, h1, h2, or_self]
    rw [List.append_assoc] at hG
    exact hG
end Go.Vs
end
