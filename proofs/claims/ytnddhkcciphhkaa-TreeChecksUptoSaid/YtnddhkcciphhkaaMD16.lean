/- tree.formed on a flow. -/

import Derived.Test.YtnddhkcciphhkaaMD15
section
set_option linter.unusedVariables false
set_option linter.unusedSimpArgs false
namespace Go.Vs
open Go Go.Proofs
def fours (i : Nat) : List (List PV) := intRows (List.replicate i 4)
@[go_sem] theorem fours_length (i : Nat) : (fours i).length = i := by simp [fours, intRows]
@[go_sem] theorem fours_refs (i : Nat) : rowsRefs (fours i) = [] := intRows_refs _
@[go_sem] theorem fours_ok (i : Nat) : rowsOK 1 (fours i) = true := intRows_ok _
theorem fours_succ (i : Nat) : fours i ++ [[.int .i64 4]] = fours (i + 1) := by
  simp [fours, intRows, List.replicate_succ']
theorem take_drop_cons {l : List Node} {i j : Nat} (hj : j < i) (hi : i ≤ l.length) : (l.take i).drop j = l.getD j default :: (l.take i).drop (j + 1) := by
  have h : j < (l.take i).length := by simp; omega
  rw [kids_drop h]
  congr 1
  simp [List.getD_eq_getElem?_getD, List.getElem?_take, hj]
theorem getD_take {l : List Node} {i j : Nat} (hj : j < i) : (l.take i).getD j default = l.getD j default := by
  simp [List.getD_eq_getElem?_getD, List.getElem?_take, hj]
theorem loop5 (n : Node) (hn : n.ok) (hlen : n.kids.length ≤ 100000) (a b c : Bool) (last i : Nat) (hi : i < n.kids.length) (g : Option Nat) (hg : g = none ∨ g = some 1) (B : Bool) (Sn : Store)
    (hnext : F64.L3 0 3 (.mp 0 0 0) (.mp 1 0 0) (.msl 2 0 (i + 1) false) (.int .i64 last) (.int .i64 ((i + 1 : Nat) : Int)) [.arr [n.cells] none false, .arr [placeCells a b c] none false, .arr (fours (i + 1)) (some (some 1)) false] = some (.bool B, Sn)) :
    ∀ (m j : Nat), j + m = i → ∃ S2, F64.L5 0 3 4 (.mp 0 0 0) (.mp 1 0 0) (.msl 2 0 i false) (.int .i64 last) (.int .i64 i) (.mp 3 0 0) (.sl (Node.rows (n.kids.take i)) false) (.int .i64 i) (.int .i64 j)
      [.arr [n.cells] none false, .arr [placeCells a b c] none false, .arr (fours i) (some g) false, .arr [(n.kids.getD i default).cells] none false] =
      some (.bool ((((n.kids.take i).drop j).all (otherVar (n.kids.getD i default))) && B), S2) := by
  have hw := wrap_succ (i := i) (n := n.kids.length) hi hn.len
  intro m
  induction m with
  | zero =>
    intro j hj
    have h1 : ¬ (j : Int) < (i : Int) := by omega
    have happ := append_known (b := 0) (bytes := 8) (esz := 1) (S := [.arr [n.cells] none false, .arr [placeCells a b c] none false, .arr (fours i) (some g) false, .arr [(n.kids.getD i default).cells] none false, .arr [[.int .i64 4]] (some (some 1)) false]) (id := 2) (len := i) (rows := fours i) (new := [[.int .i64 4]]) (g := g) (ex := false) (y := .msl 4 0 1 true) rfl rfl (by decide) (fours_length i).symm hg (fours_ok i) rfl (by rw [fours_length]; simp; omega) (by rw [fours_length]; simp; omega) (by rw [fours_refs]; rfl)
    refine ⟨Sn, F64.L5_step ?_⟩
    rw [List.drop_of_length_le (by simp; omega)]
    simp only [go_sem, ↓reduceIte, Nat.reduceEqDiff, Nat.reduceBEq, Nat.reduceAdd, Nat.reduceMul, Nat.reduceSub, Nat.reduceLT, Nat.reduceLeDiff, reduceCtorEq, Int.reduceToNat, Int.reduceLE, Int.reduceLT, Int.reduceEq, h1, happ, hw, fours_succ, hnext]
  | succ m hm =>
    intro j hj
    have h1 : (j : Int) < (i : Int) := by omega
    have h2 := wrap_succ (i := j) (n := n.kids.length) (by omega) hn.len
    have h3 : (0 : Int) ≤ (j : Int) := by omega
    have h4 : (j : Int) < ((n.kids.take i).length : Int) := by simp; omega
    obtain ⟨S2, h5⟩ := hm (j + 1) (by omega)
    rw [take_drop_cons (l := n.kids) (i := i) (j := j) (by omega) (by omega), List.all_cons]
    by_cases hop : (n.kids.getD i default).op = 55
    · by_cases hnm : (n.kids.getD j default).name.toList = (n.kids.getD i default).name.toList
      · have e1 : otherVar (n.kids.getD i default) (n.kids.getD j default) = false := by simp only [otherVar, hop, hnm]; simp
        rw [e1]
        refine ⟨[.arr [n.cells] none false, .arr [placeCells a b c] none false, .arr (fours i) (some g) false, .arr [(n.kids.getD i default).cells] none false, .arr [(n.kids.getD j default).cells] none false], F64.L5_step ?_⟩
        simp only [go_sem, ↓reduceIte, Nat.reduceEqDiff, Nat.reduceBEq, Nat.reduceAdd, Nat.reduceMul, Nat.reduceSub, Nat.reduceLT, Nat.reduceLeDiff, reduceCtorEq, Int.reduceToNat, Int.reduceLE, Int.reduceLT, Int.reduceEq, h1, h2, h3, h4, getD_take (l := n.kids) (i := i) (j := j) (by omega), hop, hnm]
      · have e1 : otherVar (n.kids.getD i default) (n.kids.getD j default) = true := by
          have : ((n.kids.getD j default).name.toList == (n.kids.getD i default).name.toList) = false := by simpa using hnm
          simp only [otherVar, this]; simp
        rw [e1, Bool.true_and]
        refine ⟨S2, F64.L5_step ?_⟩
        simp only [go_sem, ↓reduceIte, Nat.reduceEqDiff, Nat.reduceBEq, Nat.reduceAdd, Nat.reduceMul, Nat.reduceSub, Nat.reduceLT, Nat.reduceLeDiff, reduceCtorEq, Int.reduceToNat, Int.reduceLE, Int.reduceLT, Int.reduceEq, h1, h2, h3, h4, getD_take (l := n.kids) (i := i) (j := j) (by omega), hop, hnm, h5]
    · have e1 : otherVar (n.kids.getD i default) (n.kids.getD j default) = true := by simp only [otherVar, hop]; simp
      rw [e1, Bool.true_and]
      refine ⟨S2, F64.L5_step ?_⟩
      simp only [go_sem, ↓reduceIte, Nat.reduceEqDiff, Nat.reduceBEq, Nat.reduceAdd, Nat.reduceMul, Nat.reduceSub, Nat.reduceLT, Nat.reduceLeDiff, reduceCtorEq, Int.reduceToNat, Int.reduceLE, Int.reduceLT, Int.reduceEq, h1, h2, h3, h4, getD_take (l := n.kids) (i := i) (j := j) (by omega), hop, h5]
theorem loop3 (n : Node) (hn : n.ok) (hlen : n.kids.length ≤ 100000) (a b c : Bool) (last : Nat) (hlast : last + 1 = n.kids.length) (R : Bool) (Sr : Store)
    (h7 : ∀ (x88 x89 x90 x172 x182 : PV), F64.k93 0 .normal (F64.ee21 (.mp 0 0 0) (.mp 1 0 0) (.msl 2 0 (last + 1) false) x88 x89 x90 x172 x182) [.arr [n.cells] none false, .arr [placeCells a b true] none false, .arr (fours last ++ [[.int .i64 2]]) (some (some 1)) false, .arr [[.int .i64 2]] (some (some 1)) false] = some (.bool R, Sr)) :
    ∀ (m i : Nat), i + m = last → ∀ (g : Option Nat), (g = none ∨ g = some 1) →
      ∃ S2, F64.L3 0 3 (.mp 0 0 0) (.mp 1 0 0) (.msl 2 0 i false) (.int .i64 last) (.int .i64 i) [.arr [n.cells] none false, .arr [placeCells a b c] none false, .arr (fours i) (some g) false] = some (.bool (flowFrom n.kids last m i && R), S2) := by
  intro m
  induction m with
  | zero =>
    intro i hi g hg
    obtain rfl : i = last := by omega
    have h1 : ¬ (i : Int) < (i : Int) := by omega
    have happ := append_known (b := 0) (bytes := 8) (esz := 1) (S := [.arr [n.cells] none false, .arr [placeCells a b c] none false, .arr (fours i) (some g) false, .arr [[.int .i64 2]] (some (some 1)) false]) (id := 2) (len := i) (rows := fours i) (new := [[.int .i64 2]]) (g := g) (ex := false) (y := .msl 3 0 1 true) rfl rfl (by decide) (fours_length i).symm hg (fours_ok i) rfl (by rw [fours_length]; simp; omega) (by rw [fours_length]; simp; omega) (by rw [fours_refs]; rfl)
    refine ⟨Sr, F64.L3_step ?_⟩
    simp only [go_sem, ↓reduceIte, Nat.reduceEqDiff, Nat.reduceBEq, Nat.reduceAdd, Nat.reduceMul, Nat.reduceSub, Nat.reduceLT, Nat.reduceLeDiff, reduceCtorEq, Int.reduceToNat, Int.reduceLE, Int.reduceLT, Int.reduceEq, h1, happ, ↓h7]
    rfl
  | succ m hm =>
    intro i hi g hg
    have h1 : (i : Int) < (last : Int) := by omega
    have h2 : (i : Int) < (n.kids.length : Int) := by omega
    have h3 : (0 : Int) ≤ (i : Int) := by omega
    have h4 : IntKind.i64.wrap ((last : Int) - 1) = ((last - 1 : Nat) : Int) := by
      have := maxLen_le
      have := hn.len
      rw [IntKind.wrap_i64]; omega
    have hsl := fun S => slice52 S n.kids false i (by omega)
    have hlt : (n.kids.take i).length = i := by simp; omega
    obtain ⟨Sn, hnext⟩ := hm (i + 1) (by omega) (some 1) (.inr rfl)
    obtain ⟨S2, h5⟩ := loop5 n hn hlen a b c last i (by omega) g hg _ Sn hnext i 0 (by omega)
    simp only [List.drop_zero, Int.natCast_zero] at h5
    have e0 : flowFrom n.kids last (m + 1) i = (flowAt n.kids last i && flowFrom n.kids last m (i + 1)) := rfl
    rw [e0]
    have bad : ∀ (hbad : flowAt n.kids last i = false), (flowAt n.kids last i && flowFrom n.kids last m (i + 1) && R) = false := fun h => by rw [h]; rfl
    by_cases c1 : (n.kids.getD i default).op = 55
    · have e1 : flowAt n.kids last i = (n.kids.take i).all (otherVar (n.kids.getD i default)) := by
        simp only [flowAt, c1, decide_true, Bool.true_or, Bool.true_and]
      rw [e1, Bool.and_assoc]
      refine ⟨S2, F64.L3_step ?_⟩
      simp only [go_sem, ↓reduceIte, Nat.reduceEqDiff, Nat.reduceBEq, Nat.reduceAdd, Nat.reduceMul, Nat.reduceSub, Nat.reduceLT, Nat.reduceLeDiff, reduceCtorEq, Int.reduceToNat, Int.reduceLE, Int.reduceLT, Int.reduceEq, h1, h2, h3, h4, c1, hsl, hlt, h5]
    · by_cases c2 : (n.kids.getD i default).op = 56
      · by_cases c3 : i = last - 1
        · have c3' : ((last - 1 : Nat) : Int) = (i : Int) := by omega
          have e1 : flowAt n.kids last i = (n.kids.take i).all (otherVar (n.kids.getD i default)) := by
            have : decide (i = last - 1) = true := by simp [c3]
            simp only [flowAt, c2, this, decide_true, Bool.and_true, Bool.or_true, Bool.true_and]
          rw [e1, Bool.and_assoc]
          refine ⟨S2, F64.L3_step ?_⟩
          simp only [go_sem, ↓reduceIte, Nat.reduceEqDiff, Nat.reduceBEq, Nat.reduceAdd, Nat.reduceMul, Nat.reduceSub, Nat.reduceLT, Nat.reduceLeDiff, reduceCtorEq, Int.reduceToNat, Int.reduceLE, Int.reduceLT, Int.reduceEq, h1, h2, h3, h4, c1, c2, c3', hsl, hlt, h5]
        · have c3' : ¬ (i : Int) = ((last - 1 : Nat) : Int) := by omega
          have e1 : flowAt n.kids last i = false := by simp only [flowAt, c1, c3, decide_false, Bool.and_false, Bool.or_self, Bool.false_and]
          rw [bad e1]
          refine ⟨[.arr [n.cells] none false, .arr [placeCells a b c] none false, .arr (fours i) (some g) false, .arr [(n.kids.getD i default).cells] none false], F64.L3_step ?_⟩
          simp only [go_sem, ↓reduceIte, Nat.reduceEqDiff, Nat.reduceBEq, Nat.reduceAdd, Nat.reduceMul, Nat.reduceSub, Nat.reduceLT, Nat.reduceLeDiff, reduceCtorEq, Int.reduceToNat, Int.reduceLE, Int.reduceLT, Int.reduceEq, h1, h2, h3, h4, c1, c2, c3']
      · have e1 : flowAt n.kids last i = false := by simp only [flowAt, c1, c2, decide_false, Bool.false_and, Bool.or_self]
        rw [bad e1]
        refine ⟨[.arr [n.cells] none false, .arr [placeCells a b c] none false, .arr (fours i) (some g) false, .arr [(n.kids.getD i default).cells] none false], F64.L3_step ?_⟩
        simp only [go_sem, ↓reduceIte, Nat.reduceEqDiff, Nat.reduceBEq, Nat.reduceAdd, Nat.reduceMul, Nat.reduceSub, Nat.reduceLT, Nat.reduceLeDiff, reduceCtorEq, Int.reduceToNat, Int.reduceLE, Int.reduceLT, Int.reduceEq, h1, h2, h3, h4, c1, c2]
theorem switch_flow (n : Node) (hn : n.ok) (hlen : n.kids.length ≤ 100000) (a b c : Bool) (ih : Kids64 n) (h : n.op = 54) :
    ∃ S', F64.k108 0 .normal (F64.ee14 (.mp 0 0 0) (.mp 1 0 0) (kidsV (kidSorts n.op)) (.int .i64 n.op)) [.arr [n.cells] none false, .arr [placeCells a b c] none false] = some (.bool (n.rest a b c), S') := by
  have e2 : n.rest a b c = (noName n.name && (decide (2 ≤ n.kids.length) && flowOK n.kids) && (decide (n.kids.length = (List.replicate (n.kids.length - 1) (4 : Int) ++ [2]).length) && (Node.formeds n.kids (List.replicate (n.kids.length - 1) 4 ++ [2]) a b true && tailOK n.op n.kids))) := by
    simp [Node.rest, switchOK, sortsFor, h]
  rw [e2, h]
  cases hnm : noName n.name
  · have hnm' : ¬ n.name.toList = (⟨#[]⟩ : ByteArray).toList := by simpa [noName] using hnm
    refine ⟨[.arr [n.cells] none false, .arr [placeCells a b c] none false], ?_⟩
    simp only [go_sem, ↓reduceIte, Nat.reduceEqDiff, Nat.reduceBEq, Nat.reduceAdd, Nat.reduceMul, Nat.reduceSub, Nat.reduceLT, Nat.reduceLeDiff, reduceCtorEq, Int.reduceToNat, Int.reduceLE, Int.reduceLT, Int.reduceEq, hnm']
  have hnm' : n.name.toList = (⟨#[]⟩ : ByteArray).toList := by simpa [noName] using hnm
  by_cases hl : 2 ≤ n.kids.length
  case neg =>
    have hl' : (n.kids.length : Int) < 2 := by omega
    refine ⟨[.arr [n.cells] none false, .arr [placeCells a b c] none false], ?_⟩
    simp only [go_sem, ↓reduceIte, Nat.reduceEqDiff, Nat.reduceBEq, Nat.reduceAdd, Nat.reduceMul, Nat.reduceSub, Nat.reduceLT, Nat.reduceLeDiff, reduceCtorEq, Int.reduceToNat, Int.reduceLE, Int.reduceLT, Int.reduceEq, hnm', hl', hl, decide_false, Bool.and_false, Bool.false_and]
  · have hl' : ¬ (n.kids.length : Int) < 2 := by omega
    obtain ⟨last, hlast⟩ : ∃ last, last + 1 = n.kids.length := ⟨n.kids.length - 1, by omega⟩
    have hlast' : n.kids.length - 1 = last := by omega
    have hw : IntKind.i64.wrap ((n.kids.length : Int) - 1) = (last : Int) := by
      have := maxLen_le
      have := hn.len
      rw [IntKind.wrap_i64]; omega
    obtain ⟨Sr, h7⟩ := after64B n hn a b true (List.replicate last 4 ++ [2]) (some (some 1)) (fun _ ho => by omega) (fun k hk => ih k hk a b true) [.arr [[.int .i64 2]] (some (some 1)) false] rfl
    have e3 : (List.replicate last (4 : Int) ++ [2]).length = last + 1 := by simp
    have e4 : intRows (List.replicate last 4 ++ [2]) = fours last ++ [[.int .i64 2]] := by rw [intRows_append]; rfl
    rw [e3, e4] at h7
    obtain ⟨S2, h8⟩ := loop3 n hn hlen a b c last hlast _ Sr h7 last 0 (by omega) none (.inl rfl)
    have e5 : fours 0 = [] := rfl
    simp only [Int.natCast_zero, e5] at h8
    refine ⟨S2, ?_⟩
    have e6 : flowOK n.kids = flowFrom n.kids last last 0 := by unfold flowOK; rw [hlast']
    rw [hlast', e3, e6]
    simp only [kidsV, show kidSorts 54 = [] from rfl, List.isEmpty_nil, go_sem, ↓reduceIte, Nat.reduceEqDiff, Nat.reduceBEq, Nat.reduceAdd, Nat.reduceMul, Nat.reduceSub, Nat.reduceLT, Nat.reduceLeDiff, reduceCtorEq, Int.reduceToNat, Int.reduceLE, Int.reduceLT, Int.reduceEq, hnm', hl', hl, hw, h8, decide_true]
    rw [h]
theorem switch64 (n : Node) (hn : n.ok) (hlen : n.kids.length ≤ 100000) (a b c : Bool) (ih : Kids64 n) :
    ∃ S', F64.k108 0 .normal (F64.ee14 (.mp 0 0 0) (.mp 1 0 0) (kidsV (kidSorts n.op)) (.int .i64 n.op)) [.arr [n.cells] none false, .arr [placeCells a b c] none false] = some (.bool (n.rest a b c), S') := by
  by_cases h1 : n.op = 10 ∨ n.op = 37
  · exact switch_fun n hn a b c ih h1
  by_cases h2 : n.op = 54
  · exact switch_flow n hn hlen a b c ih h2
  by_cases h3 : n.op = 3
  · exact switch_prime n hn a b c ih h3
  by_cases h4 : n.op = 12
  · exact switch_diff n hn a b c ih h4
  by_cases h5 : n.op = 39
  · exact switch_fdiff n hn a b c ih h5
  · exact switch_else n hn a b c ih ⟨fun h => h1 (.inl h), fun h => h1 (.inr h), h2, h3, h4, h5⟩
theorem counts_le : ∀ (l : List Node), ∀ k ∈ l, k.count ≤ Node.counts l
  | [], k, h => by cases h
  | n :: r, k, h => by
    simp only [Node.counts]
    rcases List.mem_cons.1 h with rfl | h
    · omega
    · have := counts_le r k h; omega
theorem count_pos (n : Node) : 1 ≤ n.count := by cases n; simp [Node.count]
theorem counts_len : ∀ (l : List Node), l.length ≤ Node.counts l
  | [] => by simp
  | n :: r => by
    have := counts_len r
    have := count_pos n
    simp only [Node.counts, List.length_cons]; omega
theorem count_kids (n : Node) : n.count = Node.counts n.kids + 1 := by cases n; rfl
@[go_sem] theorem callO84x (S : Store) (neg : Bool) (num den : List Int) : callO (callL Try.prog hints) S 84 [.agg [.bool neg, .sl (wordRows num) false, .sl (wordRows den) false]] = some { v := .bool (natOK neg num den) } := callO84 S neg num den
/-- Behind the head: the name. -/
theorem name64 (n : Node) (hn : n.ok) (hlen : n.kids.length ≤ 100000) (a b c : Bool) (ih : Kids64 n) :
    ∃ S', ∀ (x21 x38 : PV), F64.k364 0 .normal (F64.ee30 (.mp 0 0 0) (.mp 1 0 0) x21 x38) [.arr [n.cells] none false, .arr [placeCells a b c] none false] = some (.bool (!((hasName n.op && !nameOK n.name) || (!hasName n.op && (!noName n.name && (decide (n.op ≠ 10) && decide (n.op ≠ 37))))) && n.rest a b c), S') := by
  obtain ⟨S', h⟩ := switch64 n hn hlen a b c ih
  cases hh : hasName n.op
  · cases hm : noName n.name
    · have hm' : ¬ n.name.toList = (⟨#[]⟩ : ByteArray).toList := by simpa [noName] using hm
      by_cases h10 : n.op = 10
      · refine ⟨S', fun x21 x38 => ?_⟩
        rw [h10] at h hh ⊢
        simp only [go_sem, ↓reduceIte, Nat.reduceEqDiff, Nat.reduceBEq, Nat.reduceAdd, Nat.reduceMul, Nat.reduceSub, Nat.reduceLT, Nat.reduceLeDiff, reduceCtorEq, Int.reduceToNat, Int.reduceLE, Int.reduceLT, Int.reduceEq, h10, hh, hm', ↓h] <;> rfl
      by_cases h37 : n.op = 37
      · refine ⟨S', fun x21 x38 => ?_⟩
        rw [h37] at h hh ⊢
        simp only [go_sem, ↓reduceIte, Nat.reduceEqDiff, Nat.reduceBEq, Nat.reduceAdd, Nat.reduceMul, Nat.reduceSub, Nat.reduceLT, Nat.reduceLeDiff, reduceCtorEq, Int.reduceToNat, Int.reduceLE, Int.reduceLT, Int.reduceEq, h37, hh, hm', ↓h] <;> rfl
      · refine ⟨[.arr [n.cells] none false, .arr [placeCells a b c] none false], fun x21 x38 => ?_⟩
        simp only [go_sem, ↓reduceIte, Nat.reduceEqDiff, Nat.reduceBEq, Nat.reduceAdd, Nat.reduceMul, Nat.reduceSub, Nat.reduceLT, Nat.reduceLeDiff, reduceCtorEq, Int.reduceToNat, Int.reduceLE, Int.reduceLT, Int.reduceEq, hh, hm', h10, h37]
        simp [h10, h37]
    · have hm' : n.name.toList = (⟨#[]⟩ : ByteArray).toList := by simpa [noName] using hm
      refine ⟨S', fun x21 x38 => ?_⟩
      simp only [go_sem, ↓reduceIte, Nat.reduceEqDiff, Nat.reduceBEq, Nat.reduceAdd, Nat.reduceMul, Nat.reduceSub, Nat.reduceLT, Nat.reduceLeDiff, reduceCtorEq, Int.reduceToNat, Int.reduceLE, Int.reduceLT, Int.reduceEq, hh, hm', ↓h] <;> rfl
  · cases hm : nameOK n.name
    · refine ⟨[.arr [n.cells] none false, .arr [placeCells a b c] none false], fun x21 x38 => ?_⟩
      simp only [go_sem, ↓reduceIte, Nat.reduceEqDiff, Nat.reduceBEq, Nat.reduceAdd, Nat.reduceMul, Nat.reduceSub, Nat.reduceLT, Nat.reduceLeDiff, reduceCtorEq, Int.reduceToNat, Int.reduceLE, Int.reduceLT, Int.reduceEq, hh, hm] <;> rfl
    · refine ⟨S', fun x21 x38 => ?_⟩
      simp only [go_sem, ↓reduceIte, Nat.reduceEqDiff, Nat.reduceBEq, Nat.reduceAdd, Nat.reduceMul, Nat.reduceSub, Nat.reduceLT, Nat.reduceLeDiff, reduceCtorEq, Int.reduceToNat, Int.reduceLE, Int.reduceLT, Int.reduceEq, hh, hm, ↓h] <;> rfl
theorem call64 : ∀ n : Node, n.ok → n.count ≤ 100000 → ∀ a b c, callL Try.prog hints 64 [.agg n.cells, .agg (placeCells a b c)] = some (.bool (n.formed a b c)) := by
  refine Node.ind' fun n ih0 hn hc a b c => ?_
  have hck := count_kids n
  have ih : Kids64 n := fun k hk => ih0 k hk (hn.kids k hk) (by have := counts_le _ k hk; omega)
  have hlen : n.kids.length ≤ 100000 := by have := counts_len n.kids; omega
  obtain ⟨S', h⟩ := name64 n hn hlen a b c ih
  have e : n.formed a b c = ((if n.op = 1 then natOK n.neg n.num n.den else (!n.neg && (decide (n.num.length = 0) && decide (n.den.length = 0)))) && (!((hasName n.op && !nameOK n.name) || (!hasName n.op && (!noName n.name && (decide (n.op ≠ 10) && decide (n.op ≠ 37))))) && n.rest a b c)) := by
    rw [Node.formed_eq]
    simp only [headOK, Node.rest, Bool.and_assoc]
  have key : ∃ S0, F64.E 0 (.agg n.cells) (.agg (placeCells a b c)) [] = some (.bool (n.formed a b c), S0) := by
    rw [e]
    by_cases h1 : n.op = 1
    · rw [if_pos h1]
      cases hnat : natOK n.neg n.num n.den
      · refine ⟨[.arr [n.cells] none false, .arr [placeCells a b c] none false], ?_⟩
        simp only [go_sem, ↓reduceIte, Nat.reduceEqDiff, Nat.reduceBEq, Nat.reduceAdd, Nat.reduceMul, Nat.reduceSub, Nat.reduceLT, Nat.reduceLeDiff, reduceCtorEq, Int.reduceToNat, Int.reduceLE, Int.reduceLT, Int.reduceEq, h1, hnat] <;> rfl
      · refine ⟨S', ?_⟩
        rw [h1] at h ⊢
        simp only [go_sem, ↓reduceIte, Nat.reduceEqDiff, Nat.reduceBEq, Nat.reduceAdd, Nat.reduceMul, Nat.reduceSub, Nat.reduceLT, Nat.reduceLeDiff, reduceCtorEq, Int.reduceToNat, Int.reduceLE, Int.reduceLT, Int.reduceEq, h1, hnat, ↓h] <;> rfl
    · rw [if_neg h1]
      cases hneg : n.neg
      · by_cases hnum : n.num.length = 0
        · have hnum' : ¬ 0 < (n.num.length : Int) := by omega
          by_cases hden : n.den.length = 0
          · have hden' : ¬ 0 < (n.den.length : Int) := by omega
            refine ⟨S', ?_⟩
            simp only [go_sem, ↓reduceIte, Nat.reduceEqDiff, Nat.reduceBEq, Nat.reduceAdd, Nat.reduceMul, Nat.reduceSub, Nat.reduceLT, Nat.reduceLeDiff, reduceCtorEq, Int.reduceToNat, Int.reduceLE, Int.reduceLT, Int.reduceEq, h1, hneg, hnum', hden', ↓h]
            simp [hnum, hden]
          · have hden' : 0 < (n.den.length : Int) := by omega
            refine ⟨[.arr [n.cells] none false, .arr [placeCells a b c] none false], ?_⟩
            simp only [go_sem, ↓reduceIte, Nat.reduceEqDiff, Nat.reduceBEq, Nat.reduceAdd, Nat.reduceMul, Nat.reduceSub, Nat.reduceLT, Nat.reduceLeDiff, reduceCtorEq, Int.reduceToNat, Int.reduceLE, Int.reduceLT, Int.reduceEq, h1, hneg, hnum', hden']
            simp [hden]
        · have hnum' : 0 < (n.num.length : Int) := by omega
          refine ⟨[.arr [n.cells] none false, .arr [placeCells a b c] none false], ?_⟩
          simp only [go_sem, ↓reduceIte, Nat.reduceEqDiff, Nat.reduceBEq, Nat.reduceAdd, Nat.reduceMul, Nat.reduceSub, Nat.reduceLT, Nat.reduceLeDiff, reduceCtorEq, Int.reduceToNat, Int.reduceLE, Int.reduceLT, Int.reduceEq, h1, hneg, hnum']
          simp [hnum]
      · refine ⟨[.arr [n.cells] none false, .arr [placeCells a b c] none false], ?_⟩
        simp only [go_sem, ↓reduceIte, Nat.reduceEqDiff, Nat.reduceBEq, Nat.reduceAdd, Nat.reduceMul, Nat.reduceSub, Nat.reduceLT, Nat.reduceLeDiff, reduceCtorEq, Int.reduceToNat, Int.reduceLE, Int.reduceLT, Int.reduceEq, h1, hneg] <;> rfl
  obtain ⟨S0, hE⟩ := key
  exact F64.call hE rfl
end Go.Vs
end
/- tree.Check: what it returns. -/
section
set_option linter.unusedVariables false
set_option linter.unusedSimpArgs false
namespace Go.Vs
open Go Go.Proofs
def Node.small (n : Node) : Bool := decide (n.count ≤ 4000) && decide (n.depth ≤ 60)
def Node.check (n : Node) (sort : Int) : Int :=
  if sort < 1 ∨ 3 < sort then 1 else if n.small = false then 2 else if sortOf n.op ≠ sort then 80 else if n.formed false false false = false then 3 else 0
theorem call36 (n : Node) (hn : n.ok) (sort : Int) : callL Try.prog hints 36 [.agg n.cells, .int .i64 sort] = some (.int .i64 (n.check sort)) := by
  obtain ⟨G, hG⟩ := call63 n hn 60 4000 (by omega) (by omega) [n.cells] [] ⟨by simp [rowsRefs, Node.refs], rfl⟩
  have hw := within_iff n 4000 60 (by omega) (by omega)
  have hs : (n.within 4000 60).1 = n.small := by
    cases h : (n.within 4000 60).1
    · have := hw.1
      rw [h] at this
      cases h2 : n.small
      · rfl
      · exfalso
        simp only [Node.small, Bool.and_eq_true, decide_eq_true_eq] at h2
        have := this.2 (by omega)
        cases this
    · have := hw.1.1 h
      simp only [Node.small]
      rw [decide_eq_true (show n.count ≤ 4000 by omega), decide_eq_true (show n.depth ≤ 60 by omega)]
      rfl
  have hc := (show callE (F36.C 0) _ 63 _ = _ from callE_eq (b := 0) (h := F36.hint) (by rfl) hG (by simp))
  rw [hs] at hc
  have key : ∃ S0, F36.E 0 (.agg n.cells) (.int .i64 sort) [] = some (.int .i64 (n.check sort), S0) := by
    unfold Node.check
    by_cases h1 : sort < 1
    · refine ⟨[.arr [n.cells] none false], ?_⟩
      rw [if_pos (.inl h1)]
      simp only [go_sem, ↓reduceIte, Nat.reduceEqDiff, Nat.reduceBEq, Nat.reduceAdd, Nat.reduceMul, Nat.reduceSub, Nat.reduceLT, Nat.reduceLeDiff, reduceCtorEq, Int.reduceToNat, Int.reduceLE, Int.reduceLT, Int.reduceEq, h1]
    by_cases h2 : 3 < sort
    · refine ⟨[.arr [n.cells] none false], ?_⟩
      rw [if_pos (.inr h2)]
      simp only [go_sem, ↓reduceIte, Nat.reduceEqDiff, Nat.reduceBEq, Nat.reduceAdd, Nat.reduceMul, Nat.reduceSub, Nat.reduceLT, Nat.reduceLeDiff, reduceCtorEq, Int.reduceToNat, Int.reduceLE, Int.reduceLT, Int.reduceEq, h1, h2]
    rw [if_neg (by omega)]
    cases hsm : n.small
    · rw [hsm] at hc
      refine ⟨.arr [n.cells] none false :: .arr [[.int .i64 (n.within 4000 60).2]] none false :: ([] ++ G), ?_⟩
      rw [if_pos rfl]
      simp only [go_sem, ↓reduceIte, Nat.reduceEqDiff, Nat.reduceBEq, Nat.reduceAdd, Nat.reduceMul, Nat.reduceSub, Nat.reduceLT, Nat.reduceLeDiff, reduceCtorEq, Int.reduceToNat, Int.reduceLE, Int.reduceLT, Int.reduceEq, h1, h2, hc]
    · rw [hsm] at hc
      have hcount : n.count ≤ 4000 := by
        simp only [Node.small, Bool.and_eq_true, decide_eq_true_eq] at hsm
        exact hsm.1
      have hf := fun S => callFormed S (call64 n hn (by omega) false false false)
      refine ⟨.arr [n.cells] none false :: .arr [[.int .i64 (n.within 4000 60).2]] none false :: ([] ++ G), ?_⟩
      rw [if_neg (by simp)]
      by_cases h3 : sortOf n.op = sort
      · rw [if_neg (by simpa using h3)]
        cases hfm : n.formed false false false
        · rw [hfm] at hf
          rw [if_pos rfl]
          simp only [go_sem, ↓reduceIte, Nat.reduceEqDiff, Nat.reduceBEq, Nat.reduceAdd, Nat.reduceMul, Nat.reduceSub, Nat.reduceLT, Nat.reduceLeDiff, reduceCtorEq, Int.reduceToNat, Int.reduceLE, Int.reduceLT, Int.reduceEq, h1, h2, hc, h3, hf]
        · rw [hfm] at hf
          rw [if_neg (by simp)]
          simp only [go_sem, ↓reduceIte, Nat.reduceEqDiff, Nat.reduceBEq, Nat.reduceAdd, Nat.reduceMul, Nat.reduceSub, Nat.reduceLT, Nat.reduceLeDiff, reduceCtorEq, Int.reduceToNat, Int.reduceLE, Int.reduceLT, Int.reduceEq, h1, h2, hc, h3, hf]
      · rw [if_pos h3]
        simp only [go_sem, ↓reduceIte, Nat.reduceEqDiff, Nat.reduceBEq, Nat.reduceAdd, Nat.reduceMul, Nat.reduceSub, Nat.reduceLT, Nat.reduceLeDiff, reduceCtorEq, Int.reduceToNat, Int.reduceLE, Int.reduceLT, Int.reduceEq, h1, h2, hc, h3]
  obtain ⟨S0, hE⟩ := key
  exact F36.call hE rfl
end Go.Vs
end
