/- The reference's Check: it returns what game.Check returns. -/

import Derived.Test.YtnddhkcciphhkaaMB9
import Derived.Test.YtnddhkcciphhkaaMB11
import Derived.Test.YtnddhkcciphhkaaMB12
import Derived.Test.YtnddhkcciphhkaaMB20
section
set_option linter.unusedVariables false
set_option linter.unusedSimpArgs false
namespace Go.Vs
open Go Go.Proofs
theorem loop18_4 (g : Game) (hg : g.ok) (i : Nat) (hi : i < g.moves.length) (hl : (g.moves.getD i []).length ≤ maxLen) {z : PV × Store} : ∀ (m k : Nat), k + m = (g.moves.getD i []).length →
    (movesFrom g.owner.length (g.moves.getD i []) m k = true → F18.k37 0 1 .normal (F18.ee8 (.mp 0 0 0) (.int .i64 g.owner.length) (.int .i64 i) .undef .undef) [.arr [g.cells] none false] = some z) → (movesFrom g.owner.length (g.moves.getD i []) m k = false → z = (.int .i64 3, [.arr [g.cells] none false])) →
    F18.L4 0 1 1 (.mp 0 0 0) (.int .i64 g.owner.length) (.int .i64 i) (.int .i64 k) [.arr [g.cells] none false] = some z := by
  have h4 : 0 ≤ (i : Int) ∧ (i : Int) < (g.moves.length : Int) := ⟨by omega, by omega⟩
  intro m
  induction m with
  | zero =>
    intro k hk h1 h2
    have c1 : ¬ (k : Int) < ((g.moves.getD i []).length : Int) := by omega
    refine F18.L4_step ?_
    have s1 : ∀ (K : KT), execL (F18.C 0) 4 F18.c72 K (F18.ee6 (.mp 0 0 0) (.int .i64 g.owner.length) (.int .i64 i) (.int .i64 k)) [.arr [g.cells] none false] = K .normal (F18.ee8 (.mp 0 0 0) (.int .i64 g.owner.length) (.int .i64 i) (.int .i64 k) (.bool false)) [.arr [g.cells] none false] := fun K => by
      simp only [go_sem, ↓reduceIte, Nat.reduceEqDiff, Nat.reduceBEq, Nat.reduceAdd, Nat.reduceMul, Nat.reduceSub, Nat.reduceLT, Nat.reduceLeDiff, reduceCtorEq, Int.reduceToNat, Int.reduceLE, Int.reduceLT, Int.reduceEq, withV_any, Game.drop1, Vs.part23, h4, Int.toNat_natCast, c1]
    simp only [F18.B4_eq, s1, F18.k74_n, condC_false, F18.k54_exit, F18.k47_x1, F18.k44_exit, if_true, gc_one]
    exact h1 rfl
  | succ m hm =>
    intro k hk h1 h2
    have c1 : (k : Int) < ((g.moves.getD i []).length : Int) := by omega
    have w1 := wrap_succ (i := k) (n := (g.moves.getD i []).length) (by omega) hl
    have h5 : 0 ≤ (k : Int) ∧ (k : Int) < ((g.moves.getD i []).length : Int) := ⟨by omega, c1⟩
    have s1 : ∀ (K : KT), execL (F18.C 0) 4 F18.c72 K (F18.ee6 (.mp 0 0 0) (.int .i64 g.owner.length) (.int .i64 i) (.int .i64 k)) [.arr [g.cells] none false] = K .normal (F18.ee8 (.mp 0 0 0) (.int .i64 g.owner.length) (.int .i64 i) (.int .i64 k) (.bool true)) [.arr [g.cells] none false] := fun K => by
      simp only [go_sem, ↓reduceIte, Nat.reduceEqDiff, Nat.reduceBEq, Nat.reduceAdd, Nat.reduceMul, Nat.reduceSub, Nat.reduceLT, Nat.reduceLeDiff, reduceCtorEq, Int.reduceToNat, Int.reduceLE, Int.reduceLT, Int.reduceEq, withV_any, Game.drop1, Vs.part23, h4, Int.toNat_natCast, c1]
    have s2 : ∀ (K : KT), execL (F18.C 0) 5 F18.c57 K (F18.ee8 (.mp 0 0 0) (.int .i64 g.owner.length) (.int .i64 i) (.int .i64 k) (.bool true)) [.arr [g.cells] none false] = K .normal (F18.ee7 (.mp 0 0 0) (.int .i64 g.owner.length) (.int .i64 i) (.int .i64 k) (.int .i64 ((g.moves.getD i []).getD k 0))) [.arr [g.cells] none false] := fun K => by
      simp only [go_sem, ↓reduceIte, Nat.reduceEqDiff, Nat.reduceBEq, Nat.reduceAdd, Nat.reduceMul, Nat.reduceSub, Nat.reduceLT, Nat.reduceLeDiff, reduceCtorEq, Int.reduceToNat, Int.reduceLE, Int.reduceLT, Int.reduceEq, withV_any, Game.drop1, Vs.part23, h4, h5, Int.toNat_natCast]
    have s3 : ∀ (K : KT), execL (F18.C 0) 5 F18.c59 K (F18.ee7 (.mp 0 0 0) (.int .i64 g.owner.length) (.int .i64 i) (.int .i64 k) (.int .i64 ((g.moves.getD i []).getD k 0))) [.arr [g.cells] none false] = K .normal (F18.ee9 (.mp 0 0 0) (.int .i64 g.owner.length) (.int .i64 i) (.int .i64 k) (.bool (moveBad g.owner.length (g.moves.getD i []) k))) [.arr [g.cells] none false] := fun K => by
      by_cases b1 : (g.moves.getD i []).getD k 0 < 0
      · have e : moveBad g.owner.length (g.moves.getD i []) k = true := by simp only [moveBad, b1, decide_true, Bool.true_or]
        rw [e]
        simp only [go_sem, ↓reduceIte, Nat.reduceEqDiff, Nat.reduceBEq, Nat.reduceAdd, Nat.reduceMul, Nat.reduceSub, Nat.reduceLT, Nat.reduceLeDiff, reduceCtorEq, Int.reduceToNat, Int.reduceLE, Int.reduceLT, Int.reduceEq, withV_any, b1]
      · by_cases b2 : (g.owner.length : Int) ≤ (g.moves.getD i []).getD k 0
        · have e : moveBad g.owner.length (g.moves.getD i []) k = true := by simp only [moveBad, b2, decide_true, Bool.true_or, Bool.or_true]
          rw [e]
          simp only [go_sem, ↓reduceIte, Nat.reduceEqDiff, Nat.reduceBEq, Nat.reduceAdd, Nat.reduceMul, Nat.reduceSub, Nat.reduceLT, Nat.reduceLeDiff, reduceCtorEq, Int.reduceToNat, Int.reduceLE, Int.reduceLT, Int.reduceEq, withV_any, b1, b2]
        · by_cases b3 : 0 < k
          · have b3' : 0 < (k : Int) := by omega
            have w2 := wrap_down b3 (by omega)
            have h6 : 0 ≤ ((k - 1 : Nat) : Int) ∧ ((k - 1 : Nat) : Int) < ((g.moves.getD i []).length : Int) := ⟨by omega, by omega⟩
            by_cases b4 : (g.moves.getD i []).getD k 0 ≤ (g.moves.getD i []).getD (k - 1) 0
            · have e : moveBad g.owner.length (g.moves.getD i []) k = true := by simp only [moveBad, b3, b4, decide_true, Bool.and_self, Bool.or_true]
              rw [e]
              simp only [go_sem, ↓reduceIte, Nat.reduceEqDiff, Nat.reduceBEq, Nat.reduceAdd, Nat.reduceMul, Nat.reduceSub, Nat.reduceLT, Nat.reduceLeDiff, reduceCtorEq, Int.reduceToNat, Int.reduceLE, Int.reduceLT, Int.reduceEq, withV_any, b1, b2, b3', w2, h4, h6, Int.toNat_natCast, b4]
            · have e : moveBad g.owner.length (g.moves.getD i []) k = false := by simp only [moveBad, b1, b2, b4, decide_false, Bool.and_false, Bool.or_self]
              rw [e]
              simp only [go_sem, ↓reduceIte, Nat.reduceEqDiff, Nat.reduceBEq, Nat.reduceAdd, Nat.reduceMul, Nat.reduceSub, Nat.reduceLT, Nat.reduceLeDiff, reduceCtorEq, Int.reduceToNat, Int.reduceLE, Int.reduceLT, Int.reduceEq, withV_any, b1, b2, b3', w2, h4, h6, Int.toNat_natCast, b4]
          · have b3' : ¬ 0 < (k : Int) := by omega
            have e : moveBad g.owner.length (g.moves.getD i []) k = false := by simp only [moveBad, b1, b2, b3, decide_false, Bool.false_and, Bool.or_self]
            rw [e]
            simp only [go_sem, ↓reduceIte, Nat.reduceEqDiff, Nat.reduceBEq, Nat.reduceAdd, Nat.reduceMul, Nat.reduceSub, Nat.reduceLT, Nat.reduceLeDiff, reduceCtorEq, Int.reduceToNat, Int.reduceLE, Int.reduceLT, Int.reduceEq, withV_any, b1, b2, b3']
    have s9 : ∀ (K : KT) (S : Store) (x : PV), execL (F18.C 0) 4 F18.c51 K (F18.ee9 (.mp 0 0 0) (.int .i64 g.owner.length) (.int .i64 i) (.int .i64 k) x) S = K .normal (F18.ee6 (.mp 0 0 0) (.int .i64 g.owner.length) (.int .i64 i) (.int .i64 (k + 1 : Nat))) S := fun K S x => by
      simp only [go_sem, ↓reduceIte, Nat.reduceEqDiff, Nat.reduceBEq, Nat.reduceAdd, Nat.reduceMul, Nat.reduceSub, Nat.reduceLT, Nat.reduceLeDiff, reduceCtorEq, Int.reduceToNat, Int.reduceLE, Int.reduceLT, Int.reduceEq, withV_any, w1]
    refine F18.L4_step ?_
    cases hb : moveBad g.owner.length (g.moves.getD i []) k with
    | true =>
      rw [hb] at s3
      have hz := h2 (by simp only [movesFrom, hb]; rfl)
      rw [hz]
      simp only [F18.B4_eq, s1, F18.k74_n, condC_true, F18.k54_n, s2, F18.k69_n, s3, F18.k61_n, F18.g68, withV_any, F18.k67_n, F18.k56_ret, F18.k52_ret, F18.k47_ret, F18.k44_ret, F18.k37_ret, F18.k33_ret, F18.k28_ret, F18.k25_ret, F18.k18_ret, F18.k0_ret14]
    | false =>
      rw [hb] at s3
      have hmf : movesFrom g.owner.length (g.moves.getD i []) (m + 1) k = movesFrom g.owner.length (g.moves.getD i []) m (k + 1) := by simp only [movesFrom, hb, Bool.not_false, Bool.true_and]
      rw [hmf] at h1 h2
      have := hm (k + 1) (by omega) h1 h2
      simp only [F18.B4_eq, s1, F18.k74_n, condC_true, F18.k54_n, s2, F18.k69_n, s3, F18.k61_n, condC_false, F18.k56_n, F18.k52_n, s9, F18.k47_n, gc_one]
      exact this
theorem loop18_2 (g : Game) (hg : g.ok) (hm : g.moves.length = g.owner.length) (hN : g.owner.length ≤ 400) (hl : ∀ l ∈ g.moves, l.length ≤ maxLen) : ∀ (m i : Nat), i + m = g.owner.length →
    F18.L2 0 1 (.mp 0 0 0) (.int .i64 g.owner.length) (.int .i64 i) [.arr [g.cells] none false] = some (.int .i64 (if g.posFrom m i = true then 0 else 3), [.arr [g.cells] none false]) := by
  have hm4 : (4000 : Nat) ≤ maxLen := by decide
  intro m
  induction m with
  | zero =>
    intro i hi
    have c1 : ¬ (i : Int) < (g.owner.length : Int) := by omega
    refine F18.L2_step ?_
    have s1 : ∀ (K : KT) (S : Store), execL (F18.C 0) 2 F18.c92 K (F18.ee5 (.mp 0 0 0) (.int .i64 g.owner.length) (.int .i64 i)) S = K .normal (F18.ee10 (.mp 0 0 0) (.int .i64 g.owner.length) (.int .i64 i) (.bool false)) S := fun K S => by
      simp only [go_sem, ↓reduceIte, Nat.reduceEqDiff, Nat.reduceBEq, Nat.reduceAdd, Nat.reduceMul, Nat.reduceSub, Nat.reduceLT, Nat.reduceLeDiff, reduceCtorEq, Int.reduceToNat, Int.reduceLE, Int.reduceLT, Int.reduceEq, withV_any, c1]
    simp only [F18.B2_eq, s1, F18.k94_n, condC_false, F18.k35_exit, F18.k28_x1, gc_one, F18.k25_exit, if_true, F18.k18_n, F18.g19, withV_any, F18.k17_n, F18.k0_ret14, Game.posFrom]
  | succ m ih =>
    intro i hi
    have c1 : (i : Int) < (g.owner.length : Int) := by omega
    have w1 := wrap_succ (i := i) (n := g.owner.length) (by omega) (by omega)
    have h5 : 0 ≤ (i : Int) ∧ (i : Int) < (g.owner.length : Int) := ⟨by omega, c1⟩
    have s1 : ∀ (K : KT) (S : Store), execL (F18.C 0) 2 F18.c92 K (F18.ee5 (.mp 0 0 0) (.int .i64 g.owner.length) (.int .i64 i)) S = K .normal (F18.ee10 (.mp 0 0 0) (.int .i64 g.owner.length) (.int .i64 i) (.bool true)) S := fun K S => by
      simp only [go_sem, ↓reduceIte, Nat.reduceEqDiff, Nat.reduceBEq, Nat.reduceAdd, Nat.reduceMul, Nat.reduceSub, Nat.reduceLT, Nat.reduceLeDiff, reduceCtorEq, Int.reduceToNat, Int.reduceLE, Int.reduceLT, Int.reduceEq, withV_any, c1]
    have s3 : ∀ (K : KT), execL (F18.C 0) 3 F18.c81 K (F18.ee10 (.mp 0 0 0) (.int .i64 g.owner.length) (.int .i64 i) (.bool true)) [.arr [g.cells] none false] = K .normal (F18.ee11 (.mp 0 0 0) (.int .i64 g.owner.length) (.int .i64 i) (.bool (!(decide (g.owner.getD i 0 = 0) || decide (g.owner.getD i 0 = 1))))) [.arr [g.cells] none false] := fun K => by
      by_cases b1 : g.owner.getD i 0 = 0
      · simp only [go_sem, ↓reduceIte, Nat.reduceEqDiff, Nat.reduceBEq, Nat.reduceAdd, Nat.reduceMul, Nat.reduceSub, Nat.reduceLT, Nat.reduceLeDiff, reduceCtorEq, Int.reduceToNat, Int.reduceLE, Int.reduceLT, Int.reduceEq, withV_any, h5, Int.toNat_natCast, b1, decide_true, Bool.true_or, Bool.not_true]
      · by_cases b2 : g.owner.getD i 0 = 1
        · simp only [go_sem, ↓reduceIte, Nat.reduceEqDiff, Nat.reduceBEq, Nat.reduceAdd, Nat.reduceMul, Nat.reduceSub, Nat.reduceLT, Nat.reduceLeDiff, reduceCtorEq, Int.reduceToNat, Int.reduceLE, Int.reduceLT, Int.reduceEq, withV_any, h5, Int.toNat_natCast, b1, b2, decide_true, decide_false, Bool.or_true, Bool.not_true, Bool.not_false]
        · simp only [go_sem, ↓reduceIte, Nat.reduceEqDiff, Nat.reduceBEq, Nat.reduceAdd, Nat.reduceMul, Nat.reduceSub, Nat.reduceLT, Nat.reduceLeDiff, reduceCtorEq, Int.reduceToNat, Int.reduceLE, Int.reduceLT, Int.reduceEq, withV_any, h5, Int.toNat_natCast, b1, b2, decide_false, Bool.or_self, Bool.not_false]
    have hpos : g.posFrom (m + 1) i = (g.posOK i && g.posFrom m (i + 1)) := rfl
    refine F18.L2_step ?_
    cases hb : (decide (g.owner.getD i 0 = 0) || decide (g.owner.getD i 0 = 1)) with
    | false =>
      rw [hb] at s3
      have e : g.posFrom (m + 1) i = false := by rw [hpos, Game.posOK, hb]; rfl
      rw [e, if_neg (by simp)]
      simp only [F18.B2_eq, s1, F18.k94_n, condC_true, F18.k35_n, s3, Bool.not_false, F18.k83_n, condC_true, F18.g90, withV_any, F18.k89_n, F18.k79_ret, F18.k37_ret, F18.k33_ret, F18.k28_ret, F18.k25_ret, F18.k18_ret, F18.k0_ret14]
    | true =>
      rw [hb] at s3
      have e : g.posFrom (m + 1) i = (movesOK g.owner.length (g.moves.getD i []) && g.posFrom m (i + 1)) := by rw [hpos, Game.posOK, hb, Bool.true_and]
      rw [e]
      have s5 : ∀ (K : KT) (S : Store), execL (F18.C 0) 2 F18.c32 K (F18.ee8 (.mp 0 0 0) (.int .i64 g.owner.length) (.int .i64 i) .undef .undef) S = K .normal (F18.ee5 (.mp 0 0 0) (.int .i64 g.owner.length) (.int .i64 (i + 1 : Nat))) S := fun K S => by
        simp only [go_sem, ↓reduceIte, Nat.reduceEqDiff, Nat.reduceBEq, Nat.reduceAdd, Nat.reduceMul, Nat.reduceSub, Nat.reduceLT, Nat.reduceLeDiff, reduceCtorEq, Int.reduceToNat, Int.reduceLE, Int.reduceLT, Int.reduceEq, withV_any, w1]
      have key := loop18_4 g hg i (by omega) (hl _ (paths_mem (by omega))) (z := (.int .i64 (if (movesOK g.owner.length (g.moves.getD i []) && g.posFrom m (i + 1)) = true then 0 else 3), [.arr [g.cells] none false])) (g.moves.getD i []).length 0 (by omega) (fun ht => by
          have ht' : movesOK g.owner.length (g.moves.getD i []) = true := ht
          simp only [F18.k37_n, F18.k33_n, s5, F18.k28_n, gc_one, ht', Bool.true_and]
          exact ih (i + 1) (by omega)) (fun hf => by
          have hf' : movesOK g.owner.length (g.moves.getD i []) = false := hf
          rw [hf', Bool.false_and]; rfl)
      simp only [Int.natCast_zero] at key
      simp only [F18.B2_eq, s1, F18.k94_n, condC_true, F18.k35_n, s3, Bool.not_true, F18.k83_n, condC_false, F18.k79_n, F18.g80, withV_any, F18.k42_n, List.length_cons, List.length_nil, Nat.zero_add]
      exact key
theorem sum18 (g : Game) (hg : g.ok) {z : PV × Store} : ∀ (m i : Nat), i + m = g.moves.length → ∀ a : Int,
    F18.k112 0 .normal (F18.ee4 (.mp 0 0 0) (.int .i64 g.owner.length) (.int .i64 (sumLens a (g.moves.drop i))) .undef .undef) [.arr [g.cells] none false] = some z →
    F18.L0 0 1 (.mp 0 0 0) (.int .i64 g.owner.length) (.int .i64 a) (.int .i64 i) [.arr [g.cells] none false] = some z := by
  intro m
  induction m with
  | zero =>
    intro i hi a hz
    have h1 : ¬ (i : Int) < (g.moves.length : Int) := by omega
    rw [List.drop_of_length_le (by omega)] at hz
    refine F18.L0_step ?_
    have s1 : ∀ (K : KT), execL (F18.C 0) 0 F18.c143 K (F18.ee3 (.mp 0 0 0) (.int .i64 g.owner.length) (.int .i64 a) (.int .i64 i)) [.arr [g.cells] none false] = K .normal (F18.ee4 (.mp 0 0 0) (.int .i64 g.owner.length) (.int .i64 a) (.int .i64 i) (.bool false)) [.arr [g.cells] none false] := fun K => by
      simp only [go_sem, ↓reduceIte, Nat.reduceEqDiff, Nat.reduceBEq, Nat.reduceAdd, Nat.reduceMul, Nat.reduceSub, Nat.reduceLT, Nat.reduceLeDiff, reduceCtorEq, Int.reduceToNat, Int.reduceLE, Int.reduceLT, Int.reduceEq, withV_any, Game.drop1, Vs.part23, h1]
    simp only [F18.B0_eq, s1, F18.k145_n, condC_false, F18.k139_exit, F18.k132_x1, gc_one, F18.k129_exit, if_true]
    exact hz
  | succ m hm =>
    intro i hi a hz
    have h1 : (i : Int) < (g.moves.length : Int) := by omega
    have h2 := wrap_succ (i := i) (n := g.moves.length) (by omega) hg.moves
    have h4 : 0 ≤ (i : Int) ∧ (i : Int) < (g.moves.length : Int) := ⟨by omega, h1⟩
    rw [paths_drop (by omega), sumLens] at hz
    have h6 := hm (i + 1) (by omega) _ hz
    refine F18.L0_step ?_
    have s1 : ∀ (K : KT), execL (F18.C 0) 0 F18.c143 K (F18.ee3 (.mp 0 0 0) (.int .i64 g.owner.length) (.int .i64 a) (.int .i64 i)) [.arr [g.cells] none false] = K .normal (F18.ee4 (.mp 0 0 0) (.int .i64 g.owner.length) (.int .i64 a) (.int .i64 i) (.bool true)) [.arr [g.cells] none false] := fun K => by
      simp only [go_sem, ↓reduceIte, Nat.reduceEqDiff, Nat.reduceBEq, Nat.reduceAdd, Nat.reduceMul, Nat.reduceSub, Nat.reduceLT, Nat.reduceLeDiff, reduceCtorEq, Int.reduceToNat, Int.reduceLE, Int.reduceLT, Int.reduceEq, withV_any, Game.drop1, Vs.part23, h1]
    have s2 : ∀ (K : KT), execL (F18.C 0) 1 F18.c140 K (F18.ee4 (.mp 0 0 0) (.int .i64 g.owner.length) (.int .i64 a) (.int .i64 i) (.bool true)) [.arr [g.cells] none false] = K .normal (F18.ee3 (.mp 0 0 0) (.int .i64 g.owner.length) (.int .i64 (IntKind.i64.wrap (a + (g.moves.getD i []).length))) (.int .i64 i)) [.arr [g.cells] none false] := fun K => by
      simp only [go_sem, ↓reduceIte, Nat.reduceEqDiff, Nat.reduceBEq, Nat.reduceAdd, Nat.reduceMul, Nat.reduceSub, Nat.reduceLT, Nat.reduceLeDiff, reduceCtorEq, Int.reduceToNat, Int.reduceLE, Int.reduceLT, Int.reduceEq, withV_any, Game.drop1, Vs.part23, h4, Int.toNat_natCast]
    have s3 : ∀ (K : KT) (a : Int), execL (F18.C 0) 0 F18.c136 K (F18.ee3 (.mp 0 0 0) (.int .i64 g.owner.length) (.int .i64 a) (.int .i64 i)) [.arr [g.cells] none false] = K .normal (F18.ee3 (.mp 0 0 0) (.int .i64 g.owner.length) (.int .i64 a) (.int .i64 (i + 1 : Nat))) [.arr [g.cells] none false] := fun K a => by
      simp only [go_sem, ↓reduceIte, Nat.reduceEqDiff, Nat.reduceBEq, Nat.reduceAdd, Nat.reduceMul, Nat.reduceSub, Nat.reduceLT, Nat.reduceLeDiff, reduceCtorEq, Int.reduceToNat, Int.reduceLE, Int.reduceLT, Int.reduceEq, withV_any, h2]
    simp only [F18.B0_eq, s1, F18.k145_n, condC_true, F18.k139_n, s2, F18.k141_n, F18.k137_n, s3, F18.k132_n, gc_one]
    exact h6
theorem call18 (g : Game) (hg : g.ok) : callL Try.prog hints 18 [.agg g.cells] = some (.int .i64 g.check) := by
  refine F18.call (r := (.int .i64 g.check, [.arr [g.cells] none false])) ?_ rfl
  have s0 : ∀ K : KT, execL (F18.C 0) 0 F18.c1 K [(0, .agg g.cells)] [] = K .normal (F18.ee0 (.mp 0 0 0)) [.arr [g.cells] none false] := fun K => by
    simp only [go_sem, ↓reduceIte, Nat.reduceEqDiff, Nat.reduceBEq, Nat.reduceAdd, Nat.reduceMul, Nat.reduceSub, Nat.reduceLT, Nat.reduceLeDiff, reduceCtorEq, Int.reduceToNat, Int.reduceLE, Int.reduceLT, Int.reduceEq, withV_any]
  have s2 : ∀ K : KT, execL (F18.C 0) 0 F18.c3 K (F18.ee0 (.mp 0 0 0)) [.arr [g.cells] none false] = K .normal (F18.ee1 (.mp 0 0 0) (.int .i64 g.owner.length)) [.arr [g.cells] none false] := fun K => by
    simp only [go_sem, ↓reduceIte, Nat.reduceEqDiff, Nat.reduceBEq, Nat.reduceAdd, Nat.reduceMul, Nat.reduceSub, Nat.reduceLT, Nat.reduceLeDiff, reduceCtorEq, Int.reduceToNat, Int.reduceLE, Int.reduceLT, Int.reduceEq, withV_any]
  have key := sum18 g hg (z := (.int .i64 g.check, [.arr [g.cells] none false])) g.moves.length 0 (by omega) 0 (by
    rw [List.drop_zero]
    by_cases big : 400 < g.owner.length ∨ 400 < g.moves.length ∨ 400 < g.goal.length ∨ 4000 < sumLens 0 g.moves
    · have s3 : ∀ K : KT, execL (F18.C 0) 0 F18.c113 K (F18.ee4 (.mp 0 0 0) (.int .i64 g.owner.length) (.int .i64 (sumLens 0 g.moves)) .undef .undef) [.arr [g.cells] none false] = K .normal (F18.ee12 (.mp 0 0 0) (.int .i64 g.owner.length) (.bool true)) [.arr [g.cells] none false] := fun K => by
        by_cases b1 : (400 : Int) < (g.owner.length : Int)
        · simp only [go_sem, ↓reduceIte, Nat.reduceEqDiff, Nat.reduceBEq, Nat.reduceAdd, Nat.reduceMul, Nat.reduceSub, Nat.reduceLT, Nat.reduceLeDiff, reduceCtorEq, Int.reduceToNat, Int.reduceLE, Int.reduceLT, Int.reduceEq, withV_any, b1]
        · by_cases b2 : (400 : Int) < (g.moves.length : Int)
          · simp only [go_sem, ↓reduceIte, Nat.reduceEqDiff, Nat.reduceBEq, Nat.reduceAdd, Nat.reduceMul, Nat.reduceSub, Nat.reduceLT, Nat.reduceLeDiff, reduceCtorEq, Int.reduceToNat, Int.reduceLE, Int.reduceLT, Int.reduceEq, withV_any, b1, Game.drop1, Vs.part23, b2]
          · by_cases b3 : (400 : Int) < (g.goal.length : Int)
            · simp only [go_sem, ↓reduceIte, Nat.reduceEqDiff, Nat.reduceBEq, Nat.reduceAdd, Nat.reduceMul, Nat.reduceSub, Nat.reduceLT, Nat.reduceLeDiff, reduceCtorEq, Int.reduceToNat, Int.reduceLE, Int.reduceLT, Int.reduceEq, withV_any, b1, Game.drop1, Vs.part23, b2, Game.drop2, Vs.part24, b3]
            · have b4 : (4000 : Int) < sumLens 0 g.moves := by omega
              simp only [go_sem, ↓reduceIte, Nat.reduceEqDiff, Nat.reduceBEq, Nat.reduceAdd, Nat.reduceMul, Nat.reduceSub, Nat.reduceLT, Nat.reduceLeDiff, reduceCtorEq, Int.reduceToNat, Int.reduceLE, Int.reduceLT, Int.reduceEq, withV_any, b1, Game.drop1, Vs.part23, b2, Game.drop2, Vs.part24, b3, b4]
      have e : g.check = 2 := by unfold Game.check; rw [if_pos big]
      rw [e]
      simp only [F18.k112_n, s3, F18.k115_n, condC_true, F18.g122, withV_any, F18.k121_n, F18.k100_ret, F18.k0_ret14]
    · have n1 : ¬ (400 : Int) < (g.owner.length : Int) := by omega
      have n2 : ¬ (400 : Int) < (g.moves.length : Int) := by omega
      have n3 : ¬ (400 : Int) < (g.goal.length : Int) := by omega
      have n4 : ¬ (4000 : Int) < sumLens 0 g.moves := by omega
      have s3 : ∀ K : KT, execL (F18.C 0) 0 F18.c113 K (F18.ee4 (.mp 0 0 0) (.int .i64 g.owner.length) (.int .i64 (sumLens 0 g.moves)) .undef .undef) [.arr [g.cells] none false] = K .normal (F18.ee12 (.mp 0 0 0) (.int .i64 g.owner.length) (.bool false)) [.arr [g.cells] none false] := fun K => by
        simp only [go_sem, ↓reduceIte, Nat.reduceEqDiff, Nat.reduceBEq, Nat.reduceAdd, Nat.reduceMul, Nat.reduceSub, Nat.reduceLT, Nat.reduceLeDiff, reduceCtorEq, Int.reduceToNat, Int.reduceLE, Int.reduceLT, Int.reduceEq, withV_any, n1, Game.drop1, Vs.part23, n2, Game.drop2, Vs.part24, n3, n4]
      by_cases bad : g.moves.length ≠ g.owner.length ∨ g.goal.length ≠ g.owner.length
      · have s4 : ∀ K : KT, execL (F18.C 0) 0 F18.c101 K (F18.ee12 (.mp 0 0 0) (.int .i64 g.owner.length) (.bool false)) [.arr [g.cells] none false] = K .normal (F18.ee13 (.mp 0 0 0) (.int .i64 g.owner.length) (.bool true)) [.arr [g.cells] none false] := fun K => by
          by_cases b1 : (g.moves.length : Int) = (g.owner.length : Int)
          · have b2 : ¬ (g.goal.length : Int) = (g.owner.length : Int) := by omega
            simp only [go_sem, ↓reduceIte, Nat.reduceEqDiff, Nat.reduceBEq, Nat.reduceAdd, Nat.reduceMul, Nat.reduceSub, Nat.reduceLT, Nat.reduceLeDiff, reduceCtorEq, Int.reduceToNat, Int.reduceLE, Int.reduceLT, Int.reduceEq, withV_any, Game.drop1, Vs.part23, b1, Game.drop2, Vs.part24, b2, decide_true, decide_false, Bool.not_true, Bool.not_false]
          · simp only [go_sem, ↓reduceIte, Nat.reduceEqDiff, Nat.reduceBEq, Nat.reduceAdd, Nat.reduceMul, Nat.reduceSub, Nat.reduceLT, Nat.reduceLeDiff, reduceCtorEq, Int.reduceToNat, Int.reduceLE, Int.reduceLT, Int.reduceEq, withV_any, Game.drop1, Vs.part23, b1, decide_false, Bool.not_false]
        have e : g.check = 3 := by unfold Game.check; rw [if_neg big, if_pos bad]
        rw [e]
        simp only [F18.k112_n, s3, F18.k115_n, condC_false, F18.k100_n, s4, F18.k103_n, condC_true, F18.g110, withV_any, F18.k109_n, F18.k20_ret, F18.k0_ret14]
      · have b1 : (g.moves.length : Int) = (g.owner.length : Int) := by omega
        have b2 : (g.goal.length : Int) = (g.owner.length : Int) := by omega
        have s4 : ∀ K : KT, execL (F18.C 0) 0 F18.c101 K (F18.ee12 (.mp 0 0 0) (.int .i64 g.owner.length) (.bool false)) [.arr [g.cells] none false] = K .normal (F18.ee13 (.mp 0 0 0) (.int .i64 g.owner.length) (.bool false)) [.arr [g.cells] none false] := fun K => by
          simp only [go_sem, ↓reduceIte, Nat.reduceEqDiff, Nat.reduceBEq, Nat.reduceAdd, Nat.reduceMul, Nat.reduceSub, Nat.reduceLT, Nat.reduceLeDiff, reduceCtorEq, Int.reduceToNat, Int.reduceLE, Int.reduceLT, Int.reduceEq, withV_any, Game.drop1, Vs.part23, b1, Game.drop2, Vs.part24, b2, decide_true, Bool.not_true]
        have e : g.check = (if g.posFrom g.owner.length 0 = true then 0 else 3) := by unfold Game.check; rw [if_neg big, if_neg bad]
        rw [e]
        have l2 := loop18_2 g hg (by omega) (by omega) hg.each g.owner.length 0 (by omega)
        simp only [Int.natCast_zero] at l2
        simp only [F18.k112_n, s3, F18.k115_n, condC_false, F18.k100_n, s4, F18.k103_n, F18.k20_n, F18.g99, withV_any, F18.k23_n, List.length_cons, List.length_nil, Nat.zero_add]
        exact l2)
  simp only [Int.natCast_zero] at key
  simp only [F18.E_eq, s0, F18.k153_n, s2, F18.k151_n, F18.g152, withV_any, F18.k124_n, F18.g150, F18.k127_n, List.length_cons, List.length_nil, Nat.zero_add]
  exact key
end Go.Vs
end
/- What Check asks for, plain. -/
section
set_option linter.unusedVariables false
set_option linter.unusedSimpArgs false
namespace Go.Vs
open Go Go.Proofs
theorem movesFrom_at (n : Int) (l : List Int) : ∀ (m k : Nat), movesFrom n l m k = true → ∀ j, k ≤ j → j < k + m → moveBad n l j = false
  | 0, k, _, j, h1, h2 => by omega
  | m + 1, k, h, j, h1, h2 => by
    simp only [movesFrom, Bool.and_eq_true, Bool.not_eq_true'] at h
    by_cases e : j = k
    · rw [e]; exact h.1
    · exact movesFrom_at n l m (k + 1) h.2 j (by omega) (by omega)
theorem posFrom_at (g : Game) : ∀ (m i : Nat), g.posFrom m i = true → ∀ j, i ≤ j → j < i + m → g.posOK j = true
  | 0, i, _, j, h1, h2 => by omega
  | m + 1, i, h, j, h1, h2 => by
    simp only [Game.posFrom, Bool.and_eq_true] at h
    by_cases e : j = i
    · rw [e]; exact h.1
    · exact posFrom_at g m (i + 1) h.2 j (by omega) (by omega)
theorem movesOK_at {n : Int} {l : List Int} (h : movesOK n l = true) {j : Nat} (hj : j < l.length) : 0 ≤ l.getD j 0 ∧ l.getD j 0 < n ∧ (0 < j → l.getD (j - 1) 0 < l.getD j 0) := by
  have := movesFrom_at n l l.length 0 h j (by omega) (by omega)
  simp only [moveBad, Bool.or_eq_false_iff, Bool.and_eq_false_iff, decide_eq_false_iff_not] at this
  obtain ⟨h1, h2, h3⟩ := this
  refine ⟨by omega, by omega, fun h0 => ?_⟩
  rcases h3 with h3 | h3
  · exact absurd h0 h3
  · omega
theorem movesOK_lt {n : Int} {l : List Int} (h : movesOK n l = true) : ∀ (d i : Nat), i + d + 1 < l.length → l.getD i 0 < l.getD (i + d + 1) 0
  | 0, i, hi => by
    have := (movesOK_at h (j := i + 1) (by omega)).2.2 (by omega)
    simpa using this
  | d + 1, i, hi => by
    have h1 := movesOK_lt h d i (by omega)
    have h2 := (movesOK_at h (j := i + d + 2) (by omega)).2.2 (by omega)
    rw [show i + d + 2 - 1 = i + d + 1 by omega] at h2
    rw [show i + (d + 1) + 1 = i + d + 2 by omega]
    omega
theorem movesOK_inc {n : Int} {l : List Int} (h : movesOK n l = true) : l.Pairwise (· < ·) := by
  rw [List.pairwise_iff_getElem]
  intro i j hi hj hij
  have := movesOK_lt h (j - i - 1) i (by omega)
  rw [show i + (j - i - 1) + 1 = j by omega] at this
  simpa [List.getD_eq_getElem?_getD, hi, hj] using this
theorem movesOK_ge {n : Int} {l : List Int} (h : movesOK n l = true) : ∀ j : Nat, j < l.length → (j : Int) ≤ l.getD j 0
  | 0, hj => (movesOK_at h hj).1
  | j + 1, hj => by
    have h1 := movesOK_ge h j (by omega)
    have h2 := (movesOK_at h hj).2.2 (by omega)
    rw [Nat.add_sub_cancel] at h2
    omega
theorem good_of {g : Game} (h : g.check = 0) : g.good := by
  unfold Game.check at h
  split at h
  · exact absurd h (by decide)
  rename_i big
  split at h
  · exact absurd h (by decide)
  rename_i bad
  split at h
  case isFalse => exact absurd h (by decide)
  rename_i hp
  have hm : g.moves.length = g.owner.length := by omega
  have hat := posFrom_at g g.owner.length 0 hp
  have hmv : ∀ i, i < g.owner.length → movesOK g.owner.length (g.moves.getD i []) = true := fun i hi => by
    have := hat i (by omega) (by omega)
    simp only [Game.posOK, Bool.and_eq_true] at this
    exact this.2
  have hlen : ∀ i, (g.moves.getD i []).length ≤ 400 := fun i => by
    by_cases hi : i < g.owner.length
    · by_cases h0 : (g.moves.getD i []).length = 0
      · omega
      · have h1 := movesOK_ge (hmv i hi) ((g.moves.getD i []).length - 1) (by omega)
        have h2 := (movesOK_at (hmv i hi) (j := (g.moves.getD i []).length - 1) (by omega)).2.1
        omega
    · have : g.moves.getD i [] = [] := by simp only [List.getD_eq_getElem?_getD]; rw [List.getElem?_eq_none (by omega)]; rfl
      rw [this]; simp
  refine ⟨hm, by omega, by omega, fun i => by have := hlen i; omega, ⟨fun i hi => ?_, fun i hi x hx => ?_, fun i hi => movesOK_inc (hmv i hi)⟩⟩
  · have := hat i (by omega) (by simp only [Game.toG] at hi; omega)
    simp only [Game.posOK, Bool.and_eq_true, Bool.or_eq_true, decide_eq_true_eq] at this
    exact this.1
  · obtain ⟨j, hj, rfl⟩ := List.mem_iff_getElem.1 hx
    have hj' : j < (g.moves.getD i []).length := hj
    have := movesOK_at (hmv i hi) hj'
    have e : (g.moves.getD i []).getD j 0 = (g.moves.getD i [])[j] := by rw [List.getD_eq_getElem?_getD (l := g.moves.getD i []), List.getElem?_eq_getElem hj']; rfl
    rw [e] at this
    exact ⟨this.1, this.2.1⟩
end Go.Vs
end
/- Printed by a program of mine (stage1.py): the functions 15, 16, 20, 21, 23, piece by piece. -/
section
set_option linter.unusedVariables false
set_option linter.unusedSimpArgs false
namespace Go.Vs
open Go Go.Proofs
noncomputable section

/-! ### game.Ranks -/
namespace F15
section
variable (b : Nat) (K : KT) (x0 x1 x2 x3 x4 x8 : PV) (e : Env) (S : Store)
end
end F15
/-! ### isochroneref23.Ranks -/
namespace F16
section
variable (b : Nat) (K : KT) (x0 x1 x2 x3 x4 x8 : PV) (e : Env) (S : Store)
end
end F16
/-! ### game.Wins -/
namespace F20
section
variable (b i n n0 : Nat) (K : KT) (x0 x1 x2 x4 x5 x6 x7 x9 x13 x20 x22 x23 x24 x25 : PV) (e : Env) (S : Store)
noncomputable def hint : Hint := { keep := [], loops := [(0, { live := [1, 7, 22, 23, 24], after := [7], own := [], fz := [] })], regs := [(0, [1, 2]), (1, [1, 2, 6]), (2, [1, 2, 6, 13]), (3, [4, 5]), (4, [1, 2, 20]), (5, [4, 5]), (6, [1, 2, 7]), (7, [1, 7, 22, 23, 24]), (8, [1, 7, 22, 23, 24, 25]), (9, [1, 7, 9, 22, 23, 24]), (10, [1, 7, 22, 23, 24]), (11, [1, 7, 22, 23, 24]), (12, [4, 5])] }
noncomputable def C (b : Nat) : Ctx := ctxL Try.prog hints b hint
noncomputable def code : Code := Try.f20.body.get rfl
noncomputable def k0 (b : Nat) : KT := endC Try.prog Try.f20
def ee5 (x1 x7 x9 x22 x23 x24 : PV) : Env := [(1, x1), (7, x7), (9, x9), (22, x22), (23, x23), (24, x24)]
def ee6 (x1 x7 x22 x23 x24 : PV) : Env := [(1, x1), (7, x7), (22, x22), (23, x23), (24, x24)]
def ee7 (x1 x7 x22 x23 x24 x25 : PV) : Env := [(1, x1), (7, x7), (22, x22), (23, x23), (24, x24), (25, x25)]
def ee8 (x4 x5 : PV) : Env := [(4, x4), (5, x5)]
def c2 : Code := at1 code
def c4 : Code := at1 c2
def c6 : Code := at1 c4
def c8 : Code := at1 c6
def c9 : Code := at0 c8
def c10 : Code := at1 c8
def c11 : Code := at0 c10
def c12 : Code := at1 c10
def k13 (b : Nat) : KT := seqC (fun e S => execL (C b) 0 c12 (k0 b) e S) (k0 b)
@[go_sem] theorem k13_n : k13 b .normal (ee8 x4 x5) S =
  (k0 b) .ret (ee8 x4 x5) S := nr (seqN (execL_ret (by kernel_rfl)))
def k14 (b : Nat) : KT := seqC (fun e S => execL (C b) 0 c10 (k0 b) e S) (k0 b)
@[go_sem] theorem g15 : execL (C b) 0 c11 K (ee7 x1 x7 x22 x23 x24 x25) S =
  withV (some x7) fun x37 =>
    withV (some x37) fun x4 =>
    withV (some (.int .i64 0)) fun x5 =>
    K .normal (ee8 x4 x5) S := nr (by kernel_rfl)
@[go_sem] theorem k14_n : k14 b .normal e S = execL (C b) 0 c11 (k13 b) e S := nr (seqN (enterS (by kernel_rfl)))
def c18 : Code := at1 c9
def c20 : Code := atB c18
def k21 (b : Nat) : KT := blockC 0 (k14 b)
@[go_sem] theorem k21_exit : k21 b (.exit i) e S = if i = 0 then (k14 b) .normal e S else (k14 b) (.exit i) e S := nr (blockC_x _ _ _ _ _)
def c22 : Code := atL c20
def k23 (b n0 : Nat) : KT := afterC 0 n0 [7] (k21 b)
def L0g (b n0 : Nat) (e : Env) (S : Store) : RT := loopL (fun K e S => execL (C b) 0 c22 K e S) (normG [1, 7, 22, 23, 24] [] n0) (k23 b n0) e S
def L0 (b n0 : Nat) (x1 x7 x22 x23 x24 : PV) (S : Store) : RT := L0g b n0 (ee6 x1 x7 x22 x23 x24) S
def k24 (b n0 : Nat) : KT := stepC (normG [1, 7, 22, 23, 24] [] n0) (k23 b n0) (L0g b n0)
@[go_sem] theorem k24_n : k24 b n0 .normal (ee6 x1 x7 x22 x23 x24) S = L0 b n0 x1 x7 x22 x23 x24 (gc n0 (ee6 x1 x7 x22 x23 x24) S) := nr (by kernel_rfl)
@[go_sem] theorem k24_x1 : k24 b n0 (.exit 0) (ee7 x1 x7 x22 x23 x24 x25) S = (k21 b) (.exit 0) (ee7 .undef x7 .undef .undef .undef .undef) (gc n0 (ee7 .undef x7 .undef .undef .undef .undef) S) := nr ((show k24 b n0 (.exit 0) (ee7 x1 x7 x22 x23 x24 x25) S = (k23 b n0) (.exit 0) (ee7 x1 x7 x22 x23 x24 x25) S from stepC_x _ _ _ _ _ _).trans ((show (k23 b n0) (.exit 0) (ee7 x1 x7 x22 x23 x24 x25) S = _ from afterC_x _ _ _ _ _ _ _).trans (if_pos rfl)))
def c25 : Code := at0 c22
def c26 : Code := at1 c22
def c28 : Code := at1 c26
def c29 : Code := at0 c28
def c30 : Code := at1 c28
def k31 (b n0 : Nat) : KT := seqC (fun e S => execL (C b) 0 c30 (k24 b n0) e S) (k24 b n0)
@[go_sem] theorem k31_n : k31 b n0 .normal e S = execL (C b) 0 c30 (k24 b n0) e S := nr (seqN rfl)
def k33 (b n0 : Nat) : KT := seqC (fun e S => execL (C b) 0 c28 (k24 b n0) e S) (k24 b n0)
def c34 : Code := atB c29
def k35 (b n0 : Nat) : KT := blockC 1 (k31 b n0)
@[go_sem] theorem k35_n : k35 b n0 .normal e S = (k31 b n0) .normal e S := nr (blockC_n _ _ _ _)
def c36 : Code := at0 c34
def c37 : Code := at1 c34
def k38 (b n0 : Nat) : KT := seqC (fun e S => execL (C b) 1 c37 (k35 b n0) e S) (k35 b n0)
@[go_sem] theorem k38_n : k38 b n0 .normal e S = execL (C b) 1 c37 (k35 b n0) e S := nr (seqN rfl)
@[go_sem] theorem k33_n : k33 b n0 .normal (ee7 x1 x7 x22 x23 x24 x25) S =
  execL (C b) 1 c36 (k38 b n0) (ee7 x1 x7 x22 x23 x24 x25) S := nr (seqN ((enterS (by kernel_rfl)).trans ((blockE (by kernel_rfl)).trans (enterS (by kernel_rfl)))))
@[go_sem] theorem k33_exit : k33 b n0 (.exit i) e S = (k24 b n0) (.exit i) e S := nr (seqC_x _ _ _ _ _)
def k41 (b n0 : Nat) : KT := seqC (fun e S => execL (C b) 0 c26 (k24 b n0) e S) (k24 b n0)
@[go_sem] theorem k41_n : k41 b n0 .normal (ee7 x1 x7 x22 x23 x24 x25) S =
  condC x25 ((k33 b n0) .normal (ee7 x1 x7 x22 x23 x24 x25) S)
    ((k33 b n0) (.exit 0) (ee7 x1 x7 x22 x23 x24 x25) S) := nr (seqN ((enterS (by kernel_rfl)).trans (condE (t := 25) (by kernel_rfl) (execL_skip (by kernel_rfl)) (execL_exit (by kernel_rfl)) rfl)))
def B0 (b n0 : Nat) (x1 x7 x22 x23 x24 : PV) (S : Store) : RT := execL (C b) 0 c22 (k24 b n0) (ee6 x1 x7 x22 x23 x24) S
@[go_sem] theorem B0_eq : B0 b n0 x1 x7 x22 x23 x24 S =
  execL (C b) 0 c25 (k41 b n0) (ee6 x1 x7 x22 x23 x24) S := nr (enterS (by kernel_rfl))
theorem L0_step {b n0 : Nat} {x1 x7 x22 x23 x24 : PV} {S : Store} {z : PV × Store} (h : B0 b n0 x1 x7 x22 x23 x24 S = some z) : L0 b n0 x1 x7 x22 x23 x24 S = some z := loopL_step h
@[go_sem] theorem k0_ret8 : k0 b .ret (ee8 x4 x5) S = some ((.tup [x4, x5]), S) := nr (by kernel_rfl)
end
end F20
/-! ### isochroneref23.Wins -/
namespace F21
section
variable (b i n n0 : Nat) (K : KT) (x0 x1 x2 x4 x5 x6 x7 x8 x9 x13 x20 x29 : PV) (e : Env) (S : Store)
end
end F21
/-! ### game.Safe -/
namespace F23
section
variable (b : Nat) (K : KT) (x0 x1 x2 x3 : PV) (e : Env) (S : Store)
end
end F23
end
end Go.Vs
end
/- game.Ranks and the reference's: what they return. -/
section
set_option linter.unusedVariables false
set_option linter.unusedSimpArgs false
namespace Go.Vs
open Go Go.Proofs
/-- The ranks. -/
def Game.ranks (g : Game) : List Int := Rk.lvl g.toG (g.owner.length + 1)
end Go.Vs
end
/- game.Wins: what it returns. -/
section
set_option linter.unusedVariables false
set_option linter.unusedSimpArgs false
namespace Go.Vs
open Go Go.Proofs
theorem bytes4 : (tyi Try.prog 4).bytes = 1 := by kernel_rfl
theorem zeroOK4 : zeroOK (tyi Try.prog 4) = true := by kernel_rfl
theorem boolRows_ok (l : List Bool) : rowsOK 1 (boolRows l) = true := by simp [rowsOK, boolRows]
theorem boolRows_refs (l : List Bool) : rowsRefs (boolRows l) = [] := by
  induction l with
  | nil => rfl
  | cons a l ih => simp only [boolRows, List.map_cons, rowsRefs_cons] at ih ⊢; rw [ih]; rfl
theorem boolRows_append (a b : List Bool) : boolRows (a ++ b) = boolRows a ++ boolRows b := by simp [boolRows]
/-- A list of bools that is appended to. -/
inductive BoolO (S : Store) : PV → List Bool → Prop
  | nil : BoolO S (.sl [] true) []
  | arr (id : Nat) (L : List Bool) (g : Option Nat) (hg : g = none ∨ g = some 1) (h : S[id]? = some (.arr (boolRows L) (some g) false)) (h0 : L ≠ []) : BoolO S (.msl id 0 L.length false) L
theorem appendBool {S : Store} {v : PV} {L : List Bool} (x : Bool) (h : BoolO S v L) (hv : ∀ r ∈ v.refs, 1 ≤ r) (hS : 1 ≤ S.length) (hn : L.length ≤ 2000000) :
    ∃ v' S' ks, appendE Try.prog 0 24 24 (S ++ [.arr [[.bool x]] (some (some 1)) false]) v (.msl S.length 0 1 true) = some { v := v', S := S', kill := ks } ∧ BoolO S' v' (L ++ [x]) ∧ (∃ r, r ∈ v'.refs ∧ 1 ≤ r) ∧ (∀ r ∈ v'.refs, 1 ≤ r) ∧ 1 ≤ S'.length := by
  have hy : rowsIn (S ++ [Obj.arr [[.bool x]] (some (some 1)) false]) (.msl S.length 0 1 true) = some (boolRows [x]) := by
    rw [rowsIn_msl, rowsAt_of (S := S ++ [Obj.arr [[.bool x]] (some (some 1)) false]) (id := S.length) (rows := [[.bool x]]) (g := some (some 1)) (f := false) (by simp)]
    rfl
  cases h with
  | nil =>
    refine ⟨.msl (S.length + 1) 0 1 false, (S ++ [.arr [[.bool x]] (some (some 1)) false]) ++ [.arr (boolRows [x]) (some (some 1)) false], [], ?_, .arr (S.length + 1) [x] (some 1) (.inr rfl) (by rw [List.getElem?_append_right (by simp)]; simp) (by simp), ⟨S.length + 1, by simp [PV.refs], by omega⟩, by intro r hr; simp only [PV.refs, List.mem_singleton] at hr; omega, by simp⟩
    have e5 : evAppendNew 1 1 (S ++ [Obj.arr [[.bool x]] (some (some 1)) false]) (S ++ [Obj.arr [[.bool x]] (some (some 1)) false]).length (.sl [] true) (.msl S.length 0 1 true) = some { v := .msl (S.length + 1) 0 1 false, new := some (boolRows [x], some (some 1)) } := by
      have e6 : Vs.rowsIn (S ++ [Obj.arr [[.bool x]] (some (some 1)) false]) (.sl [] true) = some [] := rfl
      have e7 : exact (.sl [] true) = true := rfl
      simp only [evAppendNew, e7, if_true, e6, hy, Option.bind_some]
      rw [if_pos ⟨rfl, boolRows_ok [x], by simp [boolRows], by simp [boolRows]⟩, if_neg (by simp [boolRows])]
      simp [boolRows]
    simp only [appendE, exact, if_true, appendN, d24, zeroOK4, bytes4, size4, e5, Option.map_some, place]
  | arr id L g hg h h0 =>
    have hid := (List.getElem?_eq_some_iff.1 h).1
    have h1 := hv id (by simp [PV.refs])
    have h' : (S ++ [Obj.arr [[.bool x]] (some (some 1)) false])[id]? = some (.arr (boolRows L) (some g) false) := by rw [List.getElem?_append_left hid]; exact h
    have hk := append_known (ex := false) (esz := 1) (bytes := 1) h' hy (Nat.zero_le id) (boolRows_length L).symm hg (boolRows_ok L) (boolRows_ok [x]) (by simp only [boolRows_length, List.length_cons, List.length_nil]; omega) (by simp only [boolRows_length, List.length_cons, List.length_nil]; omega) (by rw [boolRows_refs, boolRows_refs]; rfl)
    have hl1 : (boolRows L).length + (boolRows [x]).length = (L ++ [x]).length := by simp [boolRows_length]
    rw [hl1, ← boolRows_append] at hk
    have e1 : ∀ y : PV, appendE Try.prog 0 24 24 (S ++ [Obj.arr [[.bool x]] (some (some 1)) false]) (.msl id 0 L.length false) y = evAppend 0 1 1 (S ++ [Obj.arr [[.bool x]] (some (some 1)) false]) (.msl id 0 L.length false) y := fun y => by
      simp only [appendE, exact, Bool.false_eq_true, if_false, d24, zeroOK4, if_true, bytes4, size4]
    exact ⟨_, _, [id], by rw [e1, hk], .arr id (L ++ [x]) (some 1) (.inr rfl) (by rw [List.getElem?_set_self (by simp; omega)]) (by simp), ⟨id, by simp [PV.refs], h1⟩, by intro r hr; simp only [PV.refs, List.mem_singleton] at hr; omega, by simp⟩
/-- Does the player win where the rank is this? -/
def winB (p r : Int) : Bool := decide (0 ≤ r) == decide (p = 0)
theorem loop20 (p : Int) (R : List Int) (hR : R.length ≤ 2000000) : ∀ (m i : Nat), i + m = R.length → ∀ (S : Store) (v : PV) (L : List Bool), BoolO S v L → (∀ r ∈ v.refs, 1 ≤ r) → 1 ≤ S.length → L.length + m ≤ 2000000 →
    ∃ v' S', F20.L0 0 1 (.int .i64 p) v (.sl (intRows R) false) (.int .i64 R.length) (.int .i64 i) S = some (.tup [v', .int .i64 0], S') ∧ BoolO S' v' (L ++ (R.drop i).map (winB p)) := by
  have hm4 : (2000000 : Nat) ≤ maxLen := by decide
  have gcO : ∀ (e : Env) (S : Store) (v : PV) (L : List Bool), (∃ t, (t, v) ∈ e) → BoolO S v L → (∀ r ∈ v.refs, 1 ≤ r) → BoolO (Vs.gc 1 e S) v L := fun e S v L he h hv => by
    cases h with
    | nil => exact .nil
    | arr id L g hg h h0 =>
      obtain ⟨t, ht⟩ := he
      rw [gc_no ht (r := id) (by simp [PV.refs]) (hv id (by simp [PV.refs]))]
      exact .arr id L g hg h h0
  intro m
  induction m with
  | zero =>
    intro i hi S v L h hv hS hL
    have c1 : ¬ (i : Int) < (R.length : Int) := by omega
    rw [List.drop_of_length_le (by omega), List.map_nil, List.append_nil]
    refine ⟨v, Vs.gc 1 (F20.ee7 .undef v .undef .undef .undef .undef) S, F20.L0_step ?_, gcO _ S v L ⟨7, by simp [F20.ee7]⟩ h hv⟩
    have s1 : ∀ (K : KT), execL (F20.C 0) 0 F20.c25 K (F20.ee6 (.int .i64 p) v (.sl (intRows R) false) (.int .i64 R.length) (.int .i64 i)) S = K .normal (F20.ee7 (.int .i64 p) v (.sl (intRows R) false) (.int .i64 R.length) (.int .i64 i) (.bool false)) S := fun K => by
      simp only [go_sem, ↓reduceIte, Nat.reduceEqDiff, Nat.reduceBEq, Nat.reduceAdd, Nat.reduceMul, Nat.reduceSub, Nat.reduceLT, Nat.reduceLeDiff, reduceCtorEq, Int.reduceToNat, Int.reduceLE, Int.reduceLT, Int.reduceEq, c1]
    simp only [F20.B0_eq, s1, F20.k41_n, condC_false, F20.k33_exit, F20.k24_x1, F20.k21_exit, if_true, F20.k14_n, F20.g15, withV_any, F20.k13_n, F20.k0_ret8]
  | succ m hm =>
    intro i hi S v L h hv hS hL
    have c1 : (i : Int) < (R.length : Int) := by omega
    have hiR : i < R.length := by omega
    have w1 := wrap_succ (i := i) (n := R.length) hiR (by omega)
    have h5 : 0 ≤ (i : Int) ∧ (i : Int) < (R.length : Int) := ⟨by omega, c1⟩
    have ed : R.drop i = R.getD i 0 :: R.drop (i + 1) := by
      rw [List.drop_eq_getElem_cons hiR]
      simp [List.getD_eq_getElem?_getD, hiR]
    obtain ⟨v1, S1, ks, p1, p2, ⟨r, p3, p4⟩, p5, p6⟩ := appendBool (winB p (R.getD i 0)) h hv hS (by omega)
    have e1 : Vs.gc 1 (F20.ee6 (.int .i64 p) v1 (.sl (intRows R) false) (.int .i64 R.length) (.int .i64 (i + 1 : Nat))) S1 = S1 := gc_no (t := 7) (v := v1) (by simp [F20.ee6]) p3 p4
    obtain ⟨v', S', q1, q2⟩ := hm (i + 1) (by omega) S1 v1 (L ++ [winB p (R.getD i 0)]) p2 p5 p6 (by simp; omega)
    refine ⟨v', S', F20.L0_step ?_, by rw [ed, List.map_cons]; simpa using q2⟩
    have s1 : ∀ (K : KT), execL (F20.C 0) 0 F20.c25 K (F20.ee6 (.int .i64 p) v (.sl (intRows R) false) (.int .i64 R.length) (.int .i64 i)) S = K .normal (F20.ee7 (.int .i64 p) v (.sl (intRows R) false) (.int .i64 R.length) (.int .i64 i) (.bool true)) S := fun K => by
      simp only [go_sem, ↓reduceIte, Nat.reduceEqDiff, Nat.reduceBEq, Nat.reduceAdd, Nat.reduceMul, Nat.reduceSub, Nat.reduceLT, Nat.reduceLeDiff, reduceCtorEq, Int.reduceToNat, Int.reduceLE, Int.reduceLT, Int.reduceEq, c1]
    have s2 : ∀ (K : KT), execL (F20.C 0) 1 F20.c36 K (F20.ee7 (.int .i64 p) v (.sl (intRows R) false) (.int .i64 R.length) (.int .i64 i) (.bool true)) S = K .normal (F20.ee5 (.int .i64 p) v (.int .i64 (R.getD i 0)) (.sl (intRows R) false) (.int .i64 R.length) (.int .i64 i)) S := fun K => by
      simp only [go_sem, ↓reduceIte, Nat.reduceEqDiff, Nat.reduceBEq, Nat.reduceAdd, Nat.reduceMul, Nat.reduceSub, Nat.reduceLT, Nat.reduceLeDiff, reduceCtorEq, Int.reduceToNat, Int.reduceLE, Int.reduceLT, Int.reduceEq, withV_any, h5, Int.toNat_natCast]
    have ki : ∀ z : Int, kill1 ks (.int .i64 z) = .int .i64 z := fun z => rfl
    have kl : kill1 ks (.sl (intRows R) false) = .sl (intRows R) false := rfl
    have s3 : ∀ (K : KT), execL (F20.C 0) 1 F20.c37 K (F20.ee5 (.int .i64 p) v (.int .i64 (R.getD i 0)) (.sl (intRows R) false) (.int .i64 R.length) (.int .i64 i)) S = K .normal (F20.ee6 (.int .i64 p) v1 (.sl (intRows R) false) (.int .i64 R.length) (.int .i64 i)) S1 := fun K => by
      by_cases a1 : 0 ≤ R.getD i 0 <;> by_cases a2 : p = 0 <;> simp only [winB, a1, a2, decide_true, decide_false, beq_self_eq_true] at p1 <;> simp only [go_sem, ↓reduceIte, Nat.reduceEqDiff, Nat.reduceBEq, Nat.reduceAdd, Nat.reduceMul, Nat.reduceSub, Nat.reduceLT, Nat.reduceLeDiff, reduceCtorEq, Int.reduceToNat, Int.reduceLE, Int.reduceLT, Int.reduceEq, withV_any, a1, a2, p1, get_put, get_killE, ki, kl]
    have s4 : ∀ (K : KT), execL (F20.C 0) 0 F20.c30 K (F20.ee6 (.int .i64 p) v1 (.sl (intRows R) false) (.int .i64 R.length) (.int .i64 i)) S1 = K .normal (F20.ee6 (.int .i64 p) v1 (.sl (intRows R) false) (.int .i64 R.length) (.int .i64 (i + 1 : Nat))) S1 := fun K => by
      simp only [go_sem, ↓reduceIte, Nat.reduceEqDiff, Nat.reduceBEq, Nat.reduceAdd, Nat.reduceMul, Nat.reduceSub, Nat.reduceLT, Nat.reduceLeDiff, reduceCtorEq, Int.reduceToNat, Int.reduceLE, Int.reduceLT, Int.reduceEq, withV_any, w1]
    simp only [F20.B0_eq, s1, F20.k41_n, condC_true, F20.k33_n, s2, F20.k38_n, s3, F20.k35_n, F20.k31_n, s4, F20.k24_n, e1]
    exact q1
end Go.Vs
end
/- game.Wins, game.Safe and the reference's Wins: what they return. -/
section
set_option linter.unusedVariables false
set_option linter.unusedSimpArgs false
namespace Go.Vs
open Go Go.Proofs
theorem bools_fz {S : Store} {id : Nat} {ex : Bool} {L : List Bool} {g : Option (Option Nat)} {f : Bool} (h : S[id]? = some (.arr (boolRows L) g f)) (d : Nat) : fzCell S (d + 2) (.msl id 0 L.length ex) = some (.sl (boolRows L) false) := by
  have e0 : rowsAt S id = some (boolRows L) := by simp only [rowsAt, h]
  have e1 : Vs.rowsIn S (.msl id 0 L.length false) = some (boolRows L) := by
    rw [rowsIn_msl, e0]
    simp only [Option.bind_some, Nat.zero_add, boolRows_length, Nat.le_refl, if_true, List.drop_zero]
    rw [← boolRows_length L, List.take_length]
  have e2 : mapO (mapO (fzCell S (d + 1))) (boolRows L) = some (boolRows L) := by
    have := mapO_all (f := mapO (fzCell S (d + 1))) (g := fun x => x) (l := boolRows L) (fun a ha => by
      obtain ⟨w, _, rfl⟩ := List.mem_map.1 ha
      rfl)
    simpa using this
  show ((Vs.rowsIn S (.msl id 0 L.length false)).bind fun rows => (mapO (mapO (fzCell S (d + 1))) rows).map fun rows => PV.sl rows false) = _
  rw [e1]
  simp only [Option.bind_some, e2, Option.map_some]
/-- A list of bools as a value; nil only if it is empty. -/
def IsBools (v : PV) (l : List Bool) : Prop := ∃ ex, v = .sl (boolRows l) ex ∧ (ex = true → l = [])
theorem IsBools.plain {v : PV} {l : List Bool} (h : IsBools v l) : Plain v := by
  obtain ⟨ex, rfl, h2⟩ := h
  cases ex with
  | false => exact .sl _
  | true => rw [h2 rfl]; exact .nil
theorem BoolO.fz {S : Store} {v : PV} {L : List Bool} (h : BoolO S v L) : ∃ w, IsBools w L ∧ fzPV1 S v = some w := by
  cases h with
  | nil => exact ⟨.sl [] true, ⟨true, rfl, fun _ => rfl⟩, rfl⟩
  | arr id L g hg h h0 => exact ⟨.sl (boolRows L) false, ⟨false, rfl, fun h => by cases h⟩, bools_fz (ex := false) h 6⟩
theorem ranks_len (g : Game) : g.ranks.length = g.owner.length := by rw [Game.ranks, Rk.lvl_length]; rfl
end Go.Vs
end
/- The reference's Wins: what it returns. -/
section
set_option linter.unusedVariables false
set_option linter.unusedSimpArgs false
namespace Go.Vs
open Go Go.Proofs
theorem known4' : (tyi Try.prog 4).known = true := by kernel_rfl
def zbool (n : Nat) : List Bool := List.replicate n false
theorem makeSlice24 (id n : Nat) (h : n ≤ 2000000) : makeSliceO Try.prog 24 id (.int .i64 n) (.int .i64 n) = some { v := .msl id 0 n true, new := some (boolRows (zbool n), some (some 1)) } := by
  have e3 : (tyi Try.prog 4).zero = some [.bool false] := by kernel_rfl
  simp only [makeSliceO, d24, e3, Option.bind_some, bytes4, size4]
  rw [if_pos ⟨by omega, by omega, by omega, by omega, rfl, rfl⟩]
  simp [zbool, boolRows]
theorem idx24m {S : Store} {id n : Nat} {ex : Bool} {rows : List (List PV)} (i : Nat) (hS : rowsAt S id = some rows) (hl : rows.length = n) (h2 : rowsOK 1 rows = true) (hi : i < n) : indexAddrO Try.prog 24 S (.msl id 0 n ex) (.int .i64 i) = some (.mp id i 0) := by
  have e1 : elemTy (tyi Try.prog 24) = 4 := by simp [elemTy, d24]
  have e2 : isSlice (tyi Try.prog 24) = true := by simp [isSlice, d24]
  simp only [indexAddrO, e1, e2, known4', size4, and_self, if_true, evIndexAddr, hS, Option.bind_some]
  rw [if_pos ⟨by omega, by omega⟩, if_pos ⟨h2, by omega⟩, Nat.zero_add, Int.toNat_natCast]
end Go.Vs
end
/- Printed by a program of mine (stage1.py): the functions 72, 78, 79, 81, piece by piece. -/
section
set_option linter.unusedVariables false
set_option linter.unusedSimpArgs false
namespace Go.Vs
open Go Go.Proofs
noncomputable section

/-! ### tree.root -/
namespace F72
section
variable (b : Nat) (K : KT) (x0 x1 x2 x3 x12 : PV) (e : Env) (S : Store)
end
end F72
/-! ### tree.step -/
namespace F78
section
variable (b i n n0 : Nat) (K : KT) (x0 x1 x2 x4 x5 x7 x8 x9 x10 x11 x22 : PV) (e : Env) (S : Store)
end
end F78
/-! ### tree.Copy -/
namespace F79
section
variable (b i n n0 : Nat) (K : KT) (x0 x1 x2 x3 x5 x6 x20 x31 x39 x40 x41 x42 : PV) (e : Env) (S : Store)
end
end F79
/-! ### tree.put -/
namespace F81
section
variable (b i n n0 : Nat) (K : KT) (x0 x1 x2 x3 x5 x6 x7 x8 x9 x10 x13 x19 x20 x21 x22 x30 : PV) (e : Env) (S : Store)
end
end F81
end
end Go.Vs
end
/- tree.Copy: it returns the same tree. -/
section
set_option linter.unusedVariables false
set_option linter.unusedSimpArgs false
namespace Go.Vs
open Go Go.Proofs
/- No list of a tree is too long to be appended to. -/
@[go_sem] theorem ownMem_mp (S : Store) (id i off j : Nat) : ownMem S (.mp id i off) j = ownCell S id i (off + j) := nr rfl
/-- A cell that freezes to a value, refers but below, and isn't hurt by what comes behind. -/
structure CellOK (A B R0 : Obj) (T : Store) (v w : PV) : Prop where
  cell : v.cell = true
  low : (v.refs.all fun i => decide (i < T.length + 3)) = true
  fz : ∀ A B R U d, fzCell (A :: B :: R :: (T ++ U)) (d + 2) v = some w
  ne : ∀ i, T.length + 3 ≤ i → (v.refs.any fun x => [i].contains x) = false
/-- A slice of words that lie in the store. -/
theorem fzCell_words {S : Store} {id : Nat} {l : List Int} {ex : Bool} (h : rowsAt S id = some (wordRows l)) (d : Nat) : fzCell S (d + 2) (.msl id 0 l.length ex) = some (.sl (wordRows l) false) := by
  have e1 : rowsIn S (.msl id 0 l.length false) = some (wordRows l) := by
    have : l.length = (wordRows l).length := (wordRows_length l).symm
    simp only [rowsIn, h, Option.bind_some, Nat.zero_add, List.drop_zero, wordRows_length, Nat.le_refl, if_true]
    rw [this, List.take_length]
  have e2 : mapO (mapO (fzCell S (d + 1))) (wordRows l) = some (wordRows l) := by
    have := mapO_all (f := mapO (fzCell S (d + 1))) (g := fun x => x) (l := wordRows l) (fun a ha => by
      obtain ⟨w, _, rfl⟩ := List.mem_map.1 ha
      rfl)
    simpa using this
  show ((rowsIn S (.msl id 0 l.length false)).bind fun rows => (mapO (mapO (fzCell S (d + 1))) rows).map fun rows => PV.sl rows false) = _
  rw [e1]
  simp only [Option.bind_some, e2, Option.map_some]
theorem CellOK.none {A B R0 : Obj} {T : Store} {l : List Int} (h : l.length = 0) : CellOK A B R0 T (.sl [] true) (.sl (wordRows l) false) := by
  obtain rfl := List.eq_nil_of_length_eq_zero h
  exact ⟨rfl, rfl, fun _ _ _ _ _ => rfl, fun _ _ => rfl⟩
theorem CellOK.some {A B R0 : Obj} {T : Store} {l : List Int} {j : Nat} (hj : j < T.length) (h : ∀ U, rowsAt (T ++ U) j = some (wordRows l)) : CellOK A B R0 T (.msl (j + 3) 0 l.length false) (.sl (wordRows l) false) := by
  refine ⟨rfl, ?_, fun A B R U d => fzCell_words ?_ d, fun i hi => ?_⟩
  · simp [PV.refs]; omega
  · rw [rowsAt_succ, rowsAt_succ, rowsAt_succ]; exact h U
  · simp [PV.refs]; omega
end Go.Vs
end
/- tree.put: the tree with another node at a place. -/
section
set_option linter.unusedVariables false
set_option linter.unusedSimpArgs false
namespace Go.Vs
open Go Go.Proofs
/-- The tree with w at a place. -/
def Node.put (w : Node) : List Int → Node → Node
  | [], _ => w
  | p :: ps, n => .mk n.op n.name n.neg n.num n.den (n.kids.mapIdx fun i k => if (i : Int) = p then Node.put w ps k else k)
end Go.Vs
end
/- tree.shape: what it returns. -/
section
set_option linter.unusedVariables false
set_option linter.unusedSimpArgs false
namespace Go.Vs
open Go Go.Proofs
/-- The sorts of an operator's kids; what differs by the node is not told here. -/
def kidSorts (o : Int) : List Int :=
  if o = 4 ∨ o = 12 then [1] else if o = 59 ∨ o = 60 then [3] else if o = 53 ∨ o = 28 ∨ o = 39 then [2] else
  if (5 ≤ o ∧ o ≤ 9) ∨ (22 ≤ o ∧ o ≤ 27) then [1, 1] else if 29 ≤ o ∧ o ≤ 32 then [2, 2] else if o = 33 ∨ o = 34 then [2] else
  if o = 35 ∨ o = 36 then [3, 2] else if o = 50 ∨ o = 51 ∨ o = 55 then [1] else if o = 57 ∨ o = 58 then [3, 3] else []
/-- Has a node of an operator a name? -/
def hasName (o : Int) : Bool := decide (o = 2 ∨ o = 3 ∨ o = 11 ∨ o = 33 ∨ o = 34 ∨ o = 38 ∨ o = 50 ∨ o = 51 ∨ o = 52 ∨ o = 55 ∨ o = 56 ∨ o = 61 ∨ o = 62)
end Go.Vs
end
