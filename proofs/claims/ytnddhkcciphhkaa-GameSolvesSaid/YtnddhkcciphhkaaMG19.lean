/- The reference's Check: it returns what game.Check returns. -/

import Derived.Test.YtnddhkcciphhkaaMG9
import Derived.Test.YtnddhkcciphhkaaMG18
section
set_option linter.unusedVariables false
set_option linter.unusedSimpArgs false
namespace Go.Vs
open Go Go.Proofs
theorem loop18_4 (g : Game) (hg : g.ok) (i : Nat) (hi : i < g.moves.length) (hl : (g.moves.getD i []).length ≤ maxLen) {z : PV × Store} : ∀ (m k : Nat), k + m = (g.moves.getD i []).length →
    (movesFrom g.owner.length (g.moves.getD i []) m k = true → F18.k37 0 1 .normal (F18.ee8 (.mp 0 0 0) (.int .i64 g.owner.length) (.int .i64 i) .undef .undef) [.arr [g.cells] none false] = some z) → (movesFrom g.owner.length (g.moves.getD i []) m k = false → z = (.int .i64 3, [.arr [g.cells] none false])) →
    F18.L4 0 1 1 (.mp 0 0 0) (.int .i64 g.owner.length) (.int .i64 i) (.int .i64 k) [.arr [g.cells] none false] = some z := by
  have h4 : 0 ≤ (i : Int) ∧ (i : Int) < (g.moves.length : Int) := ⟨by omega, by omega⟩
  intro m
  induction m with
  | zero =>
    intro k hk h1 h2
    have c1 : ¬ (k : Int) < ((g.moves.getD i []).length : Int) := by omega
    refine F18.L4_step ?_
    have s1 : ∀ (K : KT), execL (F18.C 0) 4 F18.c72 K (F18.ee6 (.mp 0 0 0) (.int .i64 g.owner.length) (.int .i64 i) (.int .i64 k)) [.arr [g.cells] none false] = K .normal (F18.ee8 (.mp 0 0 0) (.int .i64 g.owner.length) (.int .i64 i) (.int .i64 k) (.bool false)) [.arr [g.cells] none false] := fun K => by
      simp only [go_sem, ↓reduceIte, Nat.reduceEqDiff, Nat.reduceBEq, Nat.reduceAdd, Nat.reduceMul, Nat.reduceSub, Nat.reduceLT, Nat.reduceLeDiff, reduceCtorEq, Int.reduceToNat, Int.reduceLE, Int.reduceLT, Int.reduceEq, withV_any, Game.drop1, Vs.part23, h4, Int.toNat_natCast, c1]
    simp only [F18.B4_eq, s1, F18.k74_n, condC_false, F18.k54_exit, F18.k47_x1, F18.k44_exit, if_true, gc_one]
    exact h1 rfl
  | succ m hm =>
    intro k hk h1 h2
    have c1 : (k : Int) < ((g.moves.getD i []).length : Int) := by omega
    have w1 := wrap_succ (i := k) (n := (g.moves.getD i []).length) (by omega) hl
    have h5 : 0 ≤ (k : Int) ∧ (k : Int) < ((g.moves.getD i []).length : Int) := ⟨by omega, c1⟩
    have s1 : ∀ (K : KT), execL (F18.C 0) 4 F18.c72 K (F18.ee6 (.mp 0 0 0) (.int .i64 g.owner.length) (.int .i64 i) (.int .i64 k)) [.arr [g.cells] none false] = K .normal (F18.ee8 (.mp 0 0 0) (.int .i64 g.owner.length) (.int .i64 i) (.int .i64 k) (.bool true)) [.arr [g.cells] none false] := fun K => by
      simp only [go_sem, ↓reduceIte, Nat.reduceEqDiff, Nat.reduceBEq, Nat.reduceAdd, Nat.reduceMul, Nat.reduceSub, Nat.reduceLT, Nat.reduceLeDiff, reduceCtorEq, Int.reduceToNat, Int.reduceLE, Int.reduceLT, Int.reduceEq, withV_any, Game.drop1, Vs.part23, h4, Int.toNat_natCast, c1]
    have s2 : ∀ (K : KT), execL (F18.C 0) 5 F18.c57 K (F18.ee8 (.mp 0 0 0) (.int .i64 g.owner.length) (.int .i64 i) (.int .i64 k) (.bool true)) [.arr [g.cells] none false] = K .normal (F18.ee7 (.mp 0 0 0) (.int .i64 g.owner.length) (.int .i64 i) (.int .i64 k) (.int .i64 ((g.moves.getD i []).getD k 0))) [.arr [g.cells] none false] := fun K => by
      simp only [go_sem, ↓reduceIte, Nat.reduceEqDiff, Nat.reduceBEq, Nat.reduceAdd, Nat.reduceMul, Nat.reduceSub, Nat.reduceLT, Nat.reduceLeDiff, reduceCtorEq, Int.reduceToNat, Int.reduceLE, Int.reduceLT, Int.reduceEq, withV_any, Game.drop1, Vs.part23, h4, h5, Int.toNat_natCast]
    have s3 : ∀ (K : KT), execL (F18.C 0) 5 F18.c59 K (F18.ee7 (.mp 0 0 0) (.int .i64 g.owner.length) (.int .i64 i) (.int .i64 k) (.int .i64 ((g.moves.getD i []).getD k 0))) [.arr [g.cells] none false] = K .normal (F18.ee9 (.mp 0 0 0) (.int .i64 g.owner.length) (.int .i64 i) (.int .i64 k) (.bool (moveBad g.owner.length (g.moves.getD i []) k))) [.arr [g.cells] none false] := fun K => by
      by_cases b1 : (g.moves.getD i []).getD k 0 < 0
      · have e : moveBad g.owner.length (g.moves.getD i []) k = true := by simp only [moveBad, b1, decide_true, Bool.true_or]
        rw [e]
        simp only [go_sem, ↓reduceIte, Nat.reduceEqDiff, Nat.reduceBEq, Nat.reduceAdd, Nat.reduceMul, Nat.reduceSub, Nat.reduceLT, Nat.reduceLeDiff, reduceCtorEq, Int.reduceToNat, Int.reduceLE, Int.reduceLT, Int.reduceEq, withV_any, b1]
      · by_cases b2 : (g.owner.length : Int) ≤ (g.moves.getD i []).getD k 0
        · have e : moveBad g.owner.length (g.moves.getD i []) k = true := by simp only [moveBad, b2, decide_true, Bool.true_or, Bool.or_true]
          rw [e]
          simp only [go_sem, ↓reduceIte, Nat.reduceEqDiff, Nat.reduceBEq, Nat.reduceAdd, Nat.reduceMul, Nat.reduceSub, Nat.reduceLT, Nat.reduceLeDiff, reduceCtorEq, Int.reduceToNat, Int.reduceLE, Int.reduceLT, Int.reduceEq, withV_any, b1, b2]
        · by_cases b3 : 0 < k
          · have b3' : 0 < (k : Int) := by omega
            have w2 := wrap_down b3 (by omega)
            have h6 : 0 ≤ ((k - 1 : Nat) : Int) ∧ ((k - 1 : Nat) : Int) < ((g.moves.getD i []).length : Int) := ⟨by omega, by omega⟩
            by_cases b4 : (g.moves.getD i []).getD k 0 ≤ (g.moves.getD i []).getD (k - 1) 0
            · have e : moveBad g.owner.length (g.moves.getD i []) k = true := by simp only [moveBad, b3, b4, decide_true, Bool.and_self, Bool.or_true]
              rw [e]
              simp only [go_sem, ↓reduceIte, Nat.reduceEqDiff, Nat.reduceBEq, Nat.reduceAdd, Nat.reduceMul, Nat.reduceSub, Nat.reduceLT, Nat.reduceLeDiff, reduceCtorEq, Int.reduceToNat, Int.reduceLE, Int.reduceLT, Int.reduceEq, withV_any, b1, b2, b3', w2, h4, h6, Int.toNat_natCast, b4]
            · have e : moveBad g.owner.length (g.moves.getD i []) k = false := by simp only [moveBad, b1, b2, b4, decide_false, Bool.and_false, Bool.or_self]
              rw [e]
              simp only [go_sem, ↓reduceIte, Nat.reduceEqDiff, Nat.reduceBEq, Nat.reduceAdd, Nat.reduceMul, Nat.reduceSub, Nat.reduceLT, Nat.reduceLeDiff, reduceCtorEq, Int.reduceToNat, Int.reduceLE, Int.reduceLT, Int.reduceEq, withV_any, b1, b2, b3', w2, h4, h6, Int.toNat_natCast, b4]
          · have b3' : ¬ 0 < (k : Int) := by omega
            have e : moveBad g.owner.length (g.moves.getD i []) k = false := by simp only [moveBad, b1, b2, b3, decide_false, Bool.false_and, Bool.or_self]
            rw [e]
            simp only [go_sem, ↓reduceIte, Nat.reduceEqDiff, Nat.reduceBEq, Nat.reduceAdd, Nat.reduceMul, Nat.reduceSub, Nat.reduceLT, Nat.reduceLeDiff, reduceCtorEq, Int.reduceToNat, Int.reduceLE, Int.reduceLT, Int.reduceEq, withV_any, b1, b2, b3']
    have s9 : ∀ (K : KT) (S : Store) (x : PV), execL (F18.C 0) 4 F18.c51 K (F18.ee9 (.mp 0 0 0) (.int .i64 g.owner.length) (.int .i64 i) (.int .i64 k) x) S = K .normal (F18.ee6 (.mp 0 0 0) (.int .i64 g.owner.length) (.int .i64 i) (.int .i64 (k + 1 : Nat))) S := fun K S x => by
      simp only [go_sem, ↓reduceIte, Nat.reduceEqDiff, Nat.reduceBEq, Nat.reduceAdd, Nat.reduceMul, Nat.reduceSub, Nat.reduceLT, Nat.reduceLeDiff, reduceCtorEq, Int.reduceToNat, Int.reduceLE, Int.reduceLT, Int.reduceEq, withV_any, w1]
    refine F18.L4_step ?_
    cases hb : moveBad g.owner.length (g.moves.getD i []) k with
    | true =>
      rw [hb] at s3
      have hz := h2 (by simp only [movesFrom, hb]; rfl)
      rw [hz]
      simp only [F18.B4_eq, s1, F18.k74_n, condC_true, F18.k54_n, s2, F18.k69_n, s3, F18.k61_n, F18.g68, withV_any, F18.k67_n, F18.k56_ret, F18.k52_ret, F18.k47_ret, F18.k44_ret, F18.k37_ret, F18.k33_ret, F18.k28_ret, F18.k25_ret, F18.k18_ret, F18.k0_ret14]
    | false =>
      rw [hb] at s3
      have hmf : movesFrom g.owner.length (g.moves.getD i []) (m + 1) k = movesFrom g.owner.length (g.moves.getD i []) m (k + 1) := by simp only [movesFrom, hb, Bool.not_false, Bool.true_and]
      rw [hmf] at h1 h2
      have := hm (k + 1) (by omega) h1 h2
      simp only [F18.B4_eq, s1, F18.k74_n, condC_true, F18.k54_n, s2, F18.k69_n, s3, F18.k61_n, condC_false, F18.k56_n, F18.k52_n, s9, F18.k47_n, gc_one]
      exact this
theorem loop18_2 (g : Game) (hg : g.ok) (hm : g.moves.length = g.owner.length) (hN : g.owner.length ≤ 400) (hl : ∀ l ∈ g.moves, l.length ≤ maxLen) : ∀ (m i : Nat), i + m = g.owner.length →
    F18.L2 0 1 (.mp 0 0 0) (.int .i64 g.owner.length) (.int .i64 i) [.arr [g.cells] none false] = some (.int .i64 (if g.posFrom m i = true then 0 else 3), [.arr [g.cells] none false]) := by
  have hm4 : (4000 : Nat) ≤ maxLen := by decide
  intro m
  induction m with
  | zero =>
    intro i hi
    have c1 : ¬ (i : Int) < (g.owner.length : Int) := by omega
    refine F18.L2_step ?_
    have s1 : ∀ (K : KT) (S : Store), execL (F18.C 0) 2 F18.c92 K (F18.ee5 (.mp 0 0 0) (.int .i64 g.owner.length) (.int .i64 i)) S = K .normal (F18.ee10 (.mp 0 0 0) (.int .i64 g.owner.length) (.int .i64 i) (.bool false)) S := fun K S => by
      simp only [go_sem, ↓reduceIte, Nat.reduceEqDiff, Nat.reduceBEq, Nat.reduceAdd, Nat.reduceMul, Nat.reduceSub, Nat.reduceLT, Nat.reduceLeDiff, reduceCtorEq, Int.reduceToNat, Int.reduceLE, Int.reduceLT, Int.reduceEq, withV_any, c1]
    simp only [F18.B2_eq, s1, F18.k94_n, condC_false, F18.k35_exit, F18.k28_x1, gc_one, F18.k25_exit, if_true, F18.k18_n, F18.g19, withV_any, F18.k17_n, F18.k0_ret14, Game.posFrom]
  | succ m ih =>
    intro i hi
    have c1 : (i : Int) < (g.owner.length : Int) := by omega
    have w1 := wrap_succ (i := i) (n := g.owner.length) (by omega) (by omega)
    have h5 : 0 ≤ (i : Int) ∧ (i : Int) < (g.owner.length : Int) := ⟨by omega, c1⟩
    have s1 : ∀ (K : KT) (S : Store), execL (F18.C 0) 2 F18.c92 K (F18.ee5 (.mp 0 0 0) (.int .i64 g.owner.length) (.int .i64 i)) S = K .normal (F18.ee10 (.mp 0 0 0) (.int .i64 g.owner.length) (.int .i64 i) (.bool true)) S := fun K S => by
      simp only [go_sem, ↓reduceIte, Nat.reduceEqDiff, Nat.reduceBEq, Nat.reduceAdd, Nat.reduceMul, Nat.reduceSub, Nat.reduceLT, Nat.reduceLeDiff, reduceCtorEq, Int.reduceToNat, Int.reduceLE, Int.reduceLT, Int.reduceEq, withV_any, c1]
    have s3 : ∀ (K : KT), execL (F18.C 0) 3 F18.c81 K (F18.ee10 (.mp 0 0 0) (.int .i64 g.owner.length) (.int .i64 i) (.bool true)) [.arr [g.cells] none false] = K .normal (F18.ee11 (.mp 0 0 0) (.int .i64 g.owner.length) (.int .i64 i) (.bool (!(decide (g.owner.getD i 0 = 0) || decide (g.owner.getD i 0 = 1))))) [.arr [g.cells] none false] := fun K => by
      by_cases b1 : g.owner.getD i 0 = 0
      · simp only [go_sem, ↓reduceIte, Nat.reduceEqDiff, Nat.reduceBEq, Nat.reduceAdd, Nat.reduceMul, Nat.reduceSub, Nat.reduceLT, Nat.reduceLeDiff, reduceCtorEq, Int.reduceToNat, Int.reduceLE, Int.reduceLT, Int.reduceEq, withV_any, h5, Int.toNat_natCast, b1, decide_true, Bool.true_or, Bool.not_true]
      · by_cases b2 : g.owner.getD i 0 = 1
        · simp only [go_sem, ↓reduceIte, Nat.reduceEqDiff, Nat.reduceBEq, Nat.reduceAdd, Nat.reduceMul, Nat.reduceSub, Nat.reduceLT, Nat.reduceLeDiff, reduceCtorEq, Int.reduceToNat, Int.reduceLE, Int.reduceLT, Int.reduceEq, withV_any, h5, Int.toNat_natCast, b1, b2, decide_true, decide_false, Bool.or_true, Bool.not_true, Bool.not_false]
        · simp only [go_sem, ↓reduceIte, Nat.reduceEqDiff, Nat.reduceBEq, Nat.reduceAdd, Nat.reduceMul, Nat.reduceSub, Nat.reduceLT, Nat.reduceLeDiff, reduceCtorEq, Int.reduceToNat, Int.reduceLE, Int.reduceLT, Int.reduceEq, withV_any, h5, Int.toNat_natCast, b1, b2, decide_false, Bool.or_self, Bool.not_false]
    have hpos : g.posFrom (m + 1) i = (g.posOK i && g.posFrom m (i + 1)) := rfl
    refine F18.L2_step ?_
    cases hb : (decide (g.owner.getD i 0 = 0) || decide (g.owner.getD i 0 = 1)) with
    | false =>
      rw [hb] at s3
      have e : g.posFrom (m + 1) i = false := by rw [hpos, Game.posOK, hb]; rfl
      rw [e, if_neg (by simp)]
      simp only [F18.B2_eq, s1, F18.k94_n, condC_true, F18.k35_n, s3, Bool.not_false, F18.k83_n, condC_true, F18.g90, withV_any, F18.k89_n, F18.k79_ret, F18.k37_ret, F18.k33_ret, F18.k28_ret, F18.k25_ret, F18.k18_ret, F18.k0_ret14]
    | true =>
      rw [hb] at s3
      have e : g.posFrom (m + 1) i = (movesOK g.owner.length (g.moves.getD i []) && g.posFrom m (i + 1)) := by rw [hpos, Game.posOK, hb, Bool.true_and]
      rw [e]
      have s5 : ∀ (K : KT) (S : Store), execL (F18.C 0) 2 F18.c32 K (F18.ee8 (.mp 0 0 0) (.int .i64 g.owner.length) (.int .i64 i) .undef .undef) S = K .normal (F18.ee5 (.mp 0 0 0) (.int .i64 g.owner.length) (.int .i64 (i + 1 : Nat))) S := fun K S => by
        simp only [go_sem, ↓reduceIte, Nat.reduceEqDiff, Nat.reduceBEq, Nat.reduceAdd, Nat.reduceMul, Nat.reduceSub, Nat.reduceLT, Nat.reduceLeDiff, reduceCtorEq, Int.reduceToNat, Int.reduceLE, Int.reduceLT, Int.reduceEq, withV_any, w1]
      have key := loop18_4 g hg i (by omega) (hl _ (paths_mem (by omega))) (z := (.int .i64 (if (movesOK g.owner.length (g.moves.getD i []) && g.posFrom m (i + 1)) = true then 0 else 3), [.arr [g.cells] none false])) (g.moves.getD i []).length 0 (by omega) (fun ht => by
          have ht' : movesOK g.owner.length (g.moves.getD i []) = true := ht
          simp only [F18.k37_n, F18.k33_n, s5, F18.k28_n, gc_one, ht', Bool.true_and]
          exact ih (i + 1) (by omega)) (fun hf => by
          have hf' : movesOK g.owner.length (g.moves.getD i []) = false := hf
          rw [hf', Bool.false_and]; rfl)
      simp only [Int.natCast_zero] at key
      simp only [F18.B2_eq, s1, F18.k94_n, condC_true, F18.k35_n, s3, Bool.not_true, F18.k83_n, condC_false, F18.k79_n, F18.g80, withV_any, F18.k42_n, List.length_cons, List.length_nil, Nat.zero_add]
      exact key
theorem sum18 (g : Game) (hg : g.ok) {z : PV × Store} : ∀ (m i : Nat), i + m = g.moves.length → ∀ a : Int,
    F18.k112 0 .normal (F18.ee4 (.mp 0 0 0) (.int .i64 g.owner.length) (.int .i64 (sumLens a (g.moves.drop i))) .undef .undef) [.arr [g.cells] none false] = some z →
    F18.L0 0 1 (.mp 0 0 0) (.int .i64 g.owner.length) (.int .i64 a) (.int .i64 i) [.arr [g.cells] none false] = some z := by
  intro m
  induction m with
  | zero =>
    intro i hi a hz
    have h1 : ¬ (i : Int) < (g.moves.length : Int) := by omega
    rw [List.drop_of_length_le (by omega)] at hz
    refine F18.L0_step ?_
    have s1 : ∀ (K : KT), execL (F18.C 0) 0 F18.c143 K (F18.ee3 (.mp 0 0 0) (.int .i64 g.owner.length) (.int .i64 a) (.int .i64 i)) [.arr [g.cells] none false] = K .normal (F18.ee4 (.mp 0 0 0) (.int .i64 g.owner.length) (.int .i64 a) (.int .i64 i) (.bool false)) [.arr [g.cells] none false] := fun K => by
      simp only [go_sem, ↓reduceIte, Nat.reduceEqDiff, Nat.reduceBEq, Nat.reduceAdd, Nat.reduceMul, Nat.reduceSub, Nat.reduceLT, Nat.reduceLeDiff, reduceCtorEq, Int.reduceToNat, Int.reduceLE, Int.reduceLT, Int.reduceEq, withV_any, Game.drop1, Vs.part23, h1]
    simp only [F18.B0_eq, s1, F18.k145_n, condC_false, F18.k139_exit, F18.k132_x1, gc_one, F18.k129_exit, if_true]
    exact hz
  | succ m hm =>
    intro i hi a hz
    have h1 : (i : Int) < (g.moves.length : Int) := by omega
    have h2 := wrap_succ (i := i) (n := g.moves.length) (by omega) hg.moves
    have h4 : 0 ≤ (i : Int) ∧ (i : Int) < (g.moves.length : Int) := ⟨by omega, h1⟩
    rw [paths_drop (by omega), sumLens] at hz
    have h6 := hm (i + 1) (by omega) _ hz
    refine F18.L0_step ?_
    have s1 : ∀ (K : KT), execL (F18.C 0) 0 F18.c143 K (F18.ee3 (.mp 0 0 0) (.int .i64 g.owner.length) (.int .i64 a) (.int .i64 i)) [.arr [g.cells] none false] = K .normal (F18.ee4 (.mp 0 0 0) (.int .i64 g.owner.length) (.int .i64 a) (.int .i64 i) (.bool true)) [.arr [g.cells] none false] := fun K => by
      simp only [go_sem, ↓reduceIte, Nat.reduceEqDiff, Nat.reduceBEq, Nat.reduceAdd, Nat.reduceMul, Nat.reduceSub, Nat.reduceLT, Nat.reduceLeDiff, reduceCtorEq, Int.reduceToNat, Int.reduceLE, Int.reduceLT, Int.reduceEq, withV_any, Game.drop1, Vs.part23, h1]
    have s2 : ∀ (K : KT), execL (F18.C 0) 1 F18.c140 K (F18.ee4 (.mp 0 0 0) (.int .i64 g.owner.length) (.int .i64 a) (.int .i64 i) (.bool true)) [.arr [g.cells] none false] = K .normal (F18.ee3 (.mp 0 0 0) (.int .i64 g.owner.length) (.int .i64 (IntKind.i64.wrap (a + (g.moves.getD i []).length))) (.int .i64 i)) [.arr [g.cells] none false] := fun K => by
      simp only [go_sem, ↓reduceIte, Nat.reduceEqDiff, Nat.reduceBEq, Nat.reduceAdd, Nat.reduceMul, Nat.reduceSub, Nat.reduceLT, Nat.reduceLeDiff, reduceCtorEq, Int.reduceToNat, Int.reduceLE, Int.reduceLT, Int.reduceEq, withV_any, Game.drop1, Vs.part23, h4, Int.toNat_natCast]
    have s3 : ∀ (K : KT) (a : Int), execL (F18.C 0) 0 F18.c136 K (F18.ee3 (.mp 0 0 0) (.int .i64 g.owner.length) (.int .i64 a) (.int .i64 i)) [.arr [g.cells] none false] = K .normal (F18.ee3 (.mp 0 0 0) (.int .i64 g.owner.length) (.int .i64 a) (.int .i64 (i + 1 : Nat))) [.arr [g.cells] none false] := fun K a => by
      simp only [go_sem, ↓reduceIte, Nat.reduceEqDiff, Nat.reduceBEq, Nat.reduceAdd, Nat.reduceMul, Nat.reduceSub, Nat.reduceLT, Nat.reduceLeDiff, reduceCtorEq, Int.reduceToNat, Int.reduceLE, Int.reduceLT, Int.reduceEq, withV_any, h2]
    simp only [F18.B0_eq, s1, F18.k145_n, condC_true, F18.k139_n, s2, F18.k141_n, F18.k137_n, s3, F18.k132_n, gc_one]
    exact h6
theorem call18 (g : Game) (hg : g.ok) : callL Try.prog hints 18 [.agg g.cells] = some (.int .i64 g.check) := by
  refine F18.call (r := (.int .i64 g.check, [.arr [g.cells] none false])) ?_ rfl
  have s0 : ∀ K : KT, execL (F18.C 0) 0 F18.c1 K [(0, .agg g.cells)] [] = K .normal (F18.ee0 (.mp 0 0 0)) [.arr [g.cells] none false] := fun K => by
    simp only [go_sem, ↓reduceIte, Nat.reduceEqDiff, Nat.reduceBEq, Nat.reduceAdd, Nat.reduceMul, Nat.reduceSub, Nat.reduceLT, Nat.reduceLeDiff, reduceCtorEq, Int.reduceToNat, Int.reduceLE, Int.reduceLT, Int.reduceEq, withV_any]
  have s2 : ∀ K : KT, execL (F18.C 0) 0 F18.c3 K (F18.ee0 (.mp 0 0 0)) [.arr [g.cells] none false] = K .normal (F18.ee1 (.mp 0 0 0) (.int .i64 g.owner.length)) [.arr [g.cells] none false] := fun K => by
    simp only [go_sem, ↓reduceIte, Nat.reduceEqDiff, Nat.reduceBEq, Nat.reduceAdd, Nat.reduceMul, Nat.reduceSub, Nat.reduceLT, Nat.reduceLeDiff, reduceCtorEq, Int.reduceToNat, Int.reduceLE, Int.reduceLT, Int.reduceEq, withV_any]
  have key := sum18 g hg (z := (.int .i64 g.check, [.arr [g.cells] none false])) g.moves.length 0 (by omega) 0 (by
    rw [List.drop_zero]
    by_cases big : 400 < g.owner.length ∨ 400 < g.moves.length ∨ 400 < g.goal.length ∨ 4000 < sumLens 0 g.moves
    · have s3 : ∀ K : KT, execL (F18.C 0) 0 F18.c113 K (F18.ee4 (.mp 0 0 0) (.int .i64 g.owner.length) (.int .i64 (sumLens 0 g.moves)) .undef .undef) [.arr [g.cells] none false] = K .normal (F18.ee12 (.mp 0 0 0) (.int .i64 g.owner.length) (.bool true)) [.arr [g.cells] none false] := fun K => by
        by_cases b1 : (400 : Int) < (g.owner.length : Int)
        · simp only [go_sem, ↓reduceIte, Nat.reduceEqDiff, Nat.reduceBEq, Nat.reduceAdd, Nat.reduceMul, Nat.reduceSub, Nat.reduceLT, Nat.reduceLeDiff, reduceCtorEq, Int.reduceToNat, Int.reduceLE, Int.reduceLT, Int.reduceEq, withV_any, b1]
        · by_cases b2 : (400 : Int) < (g.moves.length : Int)
          · simp only [go_sem, ↓reduceIte, Nat.reduceEqDiff, Nat.reduceBEq, Nat.reduceAdd, Nat.reduceMul, Nat.reduceSub, Nat.reduceLT, Nat.reduceLeDiff, reduceCtorEq, Int.reduceToNat, Int.reduceLE, Int.reduceLT, Int.reduceEq, withV_any, b1, Game.drop1, Vs.part23, b2]
          · by_cases b3 : (400 : Int) < (g.goal.length : Int)
            · simp only [go_sem, ↓reduceIte, Nat.reduceEqDiff, Nat.reduceBEq, Nat.reduceAdd, Nat.reduceMul, Nat.reduceSub, Nat.reduceLT, Nat.reduceLeDiff, reduceCtorEq, Int.reduceToNat, Int.reduceLE, Int.reduceLT, Int.reduceEq, withV_any, b1, Game.drop1, Vs.part23, b2, Game.drop2, Vs.part24, b3]
            · have b4 : (4000 : Int) < sumLens 0 g.moves := by omega
              simp only [go_sem, ↓reduceIte, Nat.reduceEqDiff, Nat.reduceBEq, Nat.reduceAdd, Nat.reduceMul, Nat.reduceSub, Nat.reduceLT, Nat.reduceLeDiff, reduceCtorEq, Int.reduceToNat, Int.reduceLE, Int.reduceLT, Int.reduceEq, withV_any, b1, Game.drop1, Vs.part23, b2, Game.drop2, Vs.part24, b3, b4]
      have e : g.check = 2 := by unfold Game.check; rw [if_pos big]
      rw [e]
      simp only [F18.k112_n, s3, F18.k115_n, condC_true, F18.g122, withV_any, F18.k121_n, F18.k100_ret, F18.k0_ret14]
    · have n1 : ¬ (400 : Int) < (g.owner.length : Int) := by omega
      have n2 : ¬ (400 : Int) < (g.moves.length : Int) := by omega
      have n3 : ¬ (400 : Int) < (g.goal.length : Int) := by omega
      have n4 : ¬ (4000 : Int) < sumLens 0 g.moves := by omega
      have s3 : ∀ K : KT, execL (F18.C 0) 0 F18.c113 K (F18.ee4 (.mp 0 0 0) (.int .i64 g.owner.length) (.int .i64 (sumLens 0 g.moves)) .undef .undef) [.arr [g.cells] none false] = K .normal (F18.ee12 (.mp 0 0 0) (.int .i64 g.owner.length) (.bool false)) [.arr [g.cells] none false] := fun K => by
        simp only [go_sem, ↓reduceIte, Nat.reduceEqDiff, Nat.reduceBEq, Nat.reduceAdd, Nat.reduceMul, Nat.reduceSub, Nat.reduceLT, Nat.reduceLeDiff, reduceCtorEq, Int.reduceToNat, Int.reduceLE, Int.reduceLT, Int.reduceEq, withV_any, n1, Game.drop1, Vs.part23, n2, Game.drop2, Vs.part24, n3, n4]
      by_cases bad : g.moves.length ≠ g.owner.length ∨ g.goal.length ≠ g.owner.length
      · have s4 : ∀ K : KT, execL (F18.C 0) 0 F18.c101 K (F18.ee12 (.mp 0 0 0) (.int .i64 g.owner.length) (.bool false)) [.arr [g.cells] none false] = K .normal (F18.ee13 (.mp 0 0 0) (.int .i64 g.owner.length) (.bool true)) [.arr [g.cells] none false] := fun K => by
          by_cases b1 : (g.moves.length : Int) = (g.owner.length : Int)
          · have b2 : ¬ (g.goal.length : Int) = (g.owner.length : Int) := by omega
            simp only [go_sem, ↓reduceIte, Nat.reduceEqDiff, Nat.reduceBEq, Nat.reduceAdd, Nat.reduceMul, Nat.reduceSub, Nat.reduceLT, Nat.reduceLeDiff, reduceCtorEq, Int.reduceToNat, Int.reduceLE, Int.reduceLT, Int.reduceEq, withV_any, Game.drop1, Vs.part23, b1, Game.drop2, Vs.part24, b2, decide_true, decide_false, Bool.not_true, Bool.not_false]
          · simp only [go_sem, ↓reduceIte, Nat.reduceEqDiff, Nat.reduceBEq, Nat.reduceAdd, Nat.reduceMul, Nat.reduceSub, Nat.reduceLT, Nat.reduceLeDiff, reduceCtorEq, Int.reduceToNat, Int.reduceLE, Int.reduceLT, Int.reduceEq, withV_any, Game.drop1, Vs.part23, b1, decide_false, Bool.not_false]
        have e : g.check = 3 := by unfold Game.check; rw [if_neg big, if_pos bad]
        rw [e]
        simp only [F18.k112_n, s3, F18.k115_n, condC_false, F18.k100_n, s4, F18.k103_n, condC_true, F18.g110, withV_any, F18.k109_n, F18.k20_ret, F18.k0_ret14]
      · have b1 : (g.moves.length : Int) = (g.owner.length : Int) := by omega
        have b2 : (g.goal.length : Int) = (g.owner.length : Int) := by omega
        have s4 : ∀ K : KT, execL (F18.C 0) 0 F18.c101 K (F18.ee12 (.mp 0 0 0) (.int .i64 g.owner.length) (.bool false)) [.arr [g.cells] none false] = K .normal (F18.ee13 (.mp 0 0 0) (.int .i64 g.owner.length) (.bool false)) [.arr [g.cells] none false] := fun K => by
          simp only [go_sem, ↓reduceIte, Nat.reduceEqDiff, Nat.reduceBEq, Nat.reduceAdd, Nat.reduceMul, Nat.reduceSub, Nat.reduceLT, Nat.reduceLeDiff, reduceCtorEq, Int.reduceToNat, Int.reduceLE, Int.reduceLT, Int.reduceEq, withV_any, Game.drop1, Vs.part23, b1, Game.drop2, Vs.part24, b2, decide_true, Bool.not_true]
        have e : g.check = (if g.posFrom g.owner.length 0 = true then 0 else 3) := by unfold Game.check; rw [if_neg big, if_neg bad]
        rw [e]
        have l2 := loop18_2 g hg (by omega) (by omega) hg.each g.owner.length 0 (by omega)
        simp only [Int.natCast_zero] at l2
        simp only [F18.k112_n, s3, F18.k115_n, condC_false, F18.k100_n, s4, F18.k103_n, F18.k20_n, F18.g99, withV_any, F18.k23_n, List.length_cons, List.length_nil, Nat.zero_add]
        exact l2)
  simp only [Int.natCast_zero] at key
  simp only [F18.E_eq, s0, F18.k153_n, s2, F18.k151_n, F18.g152, withV_any, F18.k124_n, F18.g150, F18.k127_n, List.length_cons, List.length_nil, Nat.zero_add]
  exact key
end Go.Vs
end
/- What Check asks for, plain. -/
section
set_option linter.unusedVariables false
set_option linter.unusedSimpArgs false
namespace Go.Vs
open Go Go.Proofs
theorem movesFrom_at (n : Int) (l : List Int) : ∀ (m k : Nat), movesFrom n l m k = true → ∀ j, k ≤ j → j < k + m → moveBad n l j = false
  | 0, k, _, j, h1, h2 => by omega
  | m + 1, k, h, j, h1, h2 => by
    simp only [movesFrom, Bool.and_eq_true, Bool.not_eq_true'] at h
    by_cases e : j = k
    · rw [e]; exact h.1
    · exact movesFrom_at n l m (k + 1) h.2 j (by omega) (by omega)
theorem posFrom_at (g : Game) : ∀ (m i : Nat), g.posFrom m i = true → ∀ j, i ≤ j → j < i + m → g.posOK j = true
  | 0, i, _, j, h1, h2 => by omega
  | m + 1, i, h, j, h1, h2 => by
    simp only [Game.posFrom, Bool.and_eq_true] at h
    by_cases e : j = i
    · rw [e]; exact h.1
    · exact posFrom_at g m (i + 1) h.2 j (by omega) (by omega)
theorem movesOK_at {n : Int} {l : List Int} (h : movesOK n l = true) {j : Nat} (hj : j < l.length) : 0 ≤ l.getD j 0 ∧ l.getD j 0 < n ∧ (0 < j → l.getD (j - 1) 0 < l.getD j 0) := by
  have := movesFrom_at n l l.length 0 h j (by omega) (by omega)
  simp only [moveBad, Bool.or_eq_false_iff, Bool.and_eq_false_iff, decide_eq_false_iff_not] at this
  obtain ⟨h1, h2, h3⟩ := this
  refine ⟨by omega, by omega, fun h0 => ?_⟩
  rcases h3 with h3 | h3
  · exact absurd h0 h3
  · omega
theorem movesOK_lt {n : Int} {l : List Int} (h : movesOK n l = true) : ∀ (d i : Nat), i + d + 1 < l.length → l.getD i 0 < l.getD (i + d + 1) 0
  | 0, i, hi => by
    have := (movesOK_at h (j := i + 1) (by omega)).2.2 (by omega)
    simpa using this
  | d + 1, i, hi => by
    have h1 := movesOK_lt h d i (by omega)
    have h2 := (movesOK_at h (j := i + d + 2) (by omega)).2.2 (by omega)
    rw [show i + d + 2 - 1 = i + d + 1 by omega] at h2
    rw [show i + (d + 1) + 1 = i + d + 2 by omega]
    omega
theorem movesOK_inc {n : Int} {l : List Int} (h : movesOK n l = true) : l.Pairwise (· < ·) := by
  rw [List.pairwise_iff_getElem]
  intro i j hi hj hij
  have := movesOK_lt h (j - i - 1) i (by omega)
  rw [show i + (j - i - 1) + 1 = j by omega] at this
  simpa [List.getD_eq_getElem?_getD, hi, hj] using this
theorem movesOK_ge {n : Int} {l : List Int} (h : movesOK n l = true) : ∀ j : Nat, j < l.length → (j : Int) ≤ l.getD j 0
  | 0, hj => (movesOK_at h hj).1
  | j + 1, hj => by
    have h1 := movesOK_ge h j (by omega)
    have h2 := (movesOK_at h hj).2.2 (by omega)
    rw [Nat.add_sub_cancel] at h2
    omega
theorem good_of {g : Game} (h : g.check = 0) : g.good := by
  unfold Game.check at h
  split at h
  · exact absurd h (by decide)
  rename_i big
  split at h
  · exact absurd h (by decide)
  rename_i bad
  split at h
  case isFalse => exact absurd h (by decide)
  rename_i hp
  have hm : g.moves.length = g.owner.length := by omega
  have hat := posFrom_at g g.owner.length 0 hp
  have hmv : ∀ i, i < g.owner.length → movesOK g.owner.length (g.moves.getD i []) = true := fun i hi => by
    have := hat i (by omega) (by omega)
    simp only [Game.posOK, Bool.and_eq_true] at this
    exact this.2
  have hlen : ∀ i, (g.moves.getD i []).length ≤ 400 := fun i => by
    by_cases hi : i < g.owner.length
    · by_cases h0 : (g.moves.getD i []).length = 0
      · omega
      · have h1 := movesOK_ge (hmv i hi) ((g.moves.getD i []).length - 1) (by omega)
        have h2 := (movesOK_at (hmv i hi) (j := (g.moves.getD i []).length - 1) (by omega)).2.1
        omega
    · have : g.moves.getD i [] = [] := by simp only [List.getD_eq_getElem?_getD]; rw [List.getElem?_eq_none (by omega)]; rfl
      rw [this]; simp
  refine ⟨hm, by omega, by omega, fun i => by have := hlen i; omega, ⟨fun i hi => ?_, fun i hi x hx => ?_, fun i hi => movesOK_inc (hmv i hi)⟩⟩
  · have := hat i (by omega) (by simp only [Game.toG] at hi; omega)
    simp only [Game.posOK, Bool.and_eq_true, Bool.or_eq_true, decide_eq_true_eq] at this
    exact this.1
  · obtain ⟨j, hj, rfl⟩ := List.mem_iff_getElem.1 hx
    have hj' : j < (g.moves.getD i []).length := hj
    have := movesOK_at (hmv i hi) hj'
    have e : (g.moves.getD i []).getD j 0 = (g.moves.getD i [])[j] := by rw [List.getD_eq_getElem?_getD (l := g.moves.getD i []), List.getElem?_eq_getElem hj']; rfl
    rw [e] at this
    exact ⟨this.1, this.2.1⟩
end Go.Vs
end
/- Printed by a program of mine (stage1.py): the functions 15, 16, 20, 21, 23, piece by piece. -/
section
set_option linter.unusedVariables false
set_option linter.unusedSimpArgs false
namespace Go.Vs
open Go Go.Proofs
noncomputable section

/-! ### game.Ranks -/
namespace F15
section
variable (b : Nat) (K : KT) (x0 x1 x2 x3 x4 x8 : PV) (e : Env) (S : Store)
noncomputable def hint : Hint := { keep := [], loops := [], regs := [(0, [1]), (1, [1, 4]), (2, [1, 4, 8]), (3, [2, 3]), (4, [2, 3])] }
noncomputable def C (b : Nat) : Ctx := ctxL Try.prog hints b hint
noncomputable def code : Code := Try.f15.body.get rfl
noncomputable def k0 (b : Nat) : KT := endC Try.prog Try.f15
def ee0 (x1 : PV) : Env := [(1, x1)]
def ee1 (x1 x4 : PV) : Env := [(1, x1), (4, x4)]
def ee2 (x1 x4 x8 : PV) : Env := [(1, x1), (4, x4), (8, x8)]
def ee3 (x2 x3 : PV) : Env := [(2, x2), (3, x3)]
def c1 : Code := at0 code
def c2 : Code := at1 code
def c3 : Code := at0 c2
def c4 : Code := at1 c2
def c5 : Code := at0 c4
def c6 : Code := at1 c4
def k7 (b : Nat) : KT := seqC (fun e S => execL (C b) 0 c6 (k0 b) e S) (k0 b)
@[go_sem] theorem k7_n : k7 b .normal (ee3 x2 x3) S =
  (k0 b) .ret (ee3 x2 x3) S := nr (seqN (execL_ret (by kernel_rfl)))
def k8 (b : Nat) : KT := seqC (fun e S => execL (C b) 0 c4 (k0 b) e S) (k0 b)
@[go_sem] theorem g9 : execL (C b) 0 c5 K (ee2 x1 x4 x8) S =
  withV (evLoad (tyi Try.prog 26) S x1) fun x10 =>
    withN (callO (callL Try.prog hints) S 57 [x10]) S fun x11 S =>
    withV (some x11) fun x2 =>
    withV (some (.int .i64 0)) fun x3 =>
    K .normal (ee3 x2 x3) S := nr (by kernel_rfl)
@[go_sem] theorem k8_n : k8 b .normal e S = execL (C b) 0 c5 (k7 b) e S := nr (seqN (enterS (by kernel_rfl)))
@[go_sem] theorem k8_ret : k8 b .ret e S = (k0 b) .ret e S := nr (seqC_r _ _ _ _)
def k10 (b : Nat) : KT := seqC (fun e S => execL (C b) 0 c2 (k0 b) e S) (k0 b)
def c11 : Code := at0 c3
def c12 : Code := at1 c3
def c13 : Code := at0 c12
def c14 : Code := at1 c12
def k15 (b : Nat) : KT := seqC (fun e S => execL (C b) 0 c14 (k8 b) e S) (k8 b)
def c16 : Code := atT c14
def c19 : Code := at0 c16
def c20 : Code := at1 c16
def k21 (b : Nat) : KT := seqC (fun e S => execL (C b) 0 c20 (k8 b) e S) (k8 b)
@[go_sem] theorem k21_n : k21 b .normal (ee3 x2 x3) S =
  (k8 b) .ret (ee3 x2 x3) S := nr (seqN (execL_ret (by kernel_rfl)))
@[go_sem] theorem g22 : execL (C b) 0 c19 K (ee2 x1 x4 x8) S =
  withV (some x4) fun x9 =>
    withV (some (.sl [] true)) fun x2 =>
    withV (some x9) fun x3 =>
    K .normal (ee3 x2 x3) S := nr (by kernel_rfl)
@[go_sem] theorem k15_n : k15 b .normal (ee2 x1 x4 x8) S =
  condC x8 (execL (C b) 0 c19 (k21 b) (ee2 x1 x4 x8) S)
    ((k8 b) .normal (ee2 x1 x4 x8) S) := nr (seqN (condE (t := 8) (by kernel_rfl) (enterS (by kernel_rfl)) (execL_skip (by kernel_rfl)) rfl))
def k23 (b : Nat) : KT := seqC (fun e S => execL (C b) 0 c12 (k8 b) e S) (k8 b)
@[go_sem] theorem g24 : execL (C b) 0 c13 K (ee1 x1 x4) S =
  withV (some x4) fun x7 =>
    withV (evBin .neq (tyi Try.prog 29) x7 (.int .i64 0)) fun x8 =>
    K .normal (ee2 x1 x4 x8) S := nr (by kernel_rfl)
@[go_sem] theorem k23_n : k23 b .normal e S = execL (C b) 0 c13 (k15 b) e S := nr (seqN (enterS (by kernel_rfl)))
@[go_sem] theorem g25 : execL (C b) 0 c11 K (ee0 x1) S =
  withV (evLoad (tyi Try.prog 26) S x1) fun x5 =>
    withN (callO (callL Try.prog hints) S 17 [x5]) S fun x6 S =>
    withV (some x6) fun x4 =>
    K .normal (ee1 x1 x4) S := nr (by kernel_rfl)
@[go_sem] theorem k10_n : k10 b .normal (ee0 x1) S =
  execL (C b) 0 c11 (k23 b) (ee0 x1) S := nr (seqN ((enterS (by kernel_rfl)).trans (enterS (by kernel_rfl))))
@[go_sem] theorem g26 : execL (C b) 0 c1 K [(0, x0)] S =
  withN (boxed S (List.length S) (TI.size (tyi Try.prog 26)) x0) S fun x1 S =>
    withV (some (.sl [] true)) fun x2 =>
    withV (some (.int .i64 0)) fun x3 =>
    K .normal (ee0 x1) S := nr (by kernel_rfl)
def E (b : Nat) (x0 : PV) (S : Store) : RT := execL (C b) 0 code (k0 b) [(0, x0)] S
@[go_sem] theorem E_eq : E b x0 S =
  execL (C b) 0 c1 (k10 b) [(0, x0)] S := nr (enterS (by kernel_rfl))
@[go_sem] theorem k0_ret3 : k0 b .ret (ee3 x2 x3) S = some ((.tup [x2, x3]), S) := nr (by kernel_rfl)
theorem call {x0 : PV} {r : PV × Store} {v : PV} (h : E 0 x0 [] = some r) (hv : fzPV r.2 r.1 = some v) : callL Try.prog hints 15 [x0] = some v := callL_of (fn := Try.f15) (c := code) (by kernel_rfl) (by kernel_rfl) (by decide) (by kernel_rfl) (Nat.le_of_ble_eq_true (by kernel_rfl)) h hv
end
end F15
/-! ### isochroneref23.Ranks -/
namespace F16
section
variable (b : Nat) (K : KT) (x0 x1 x2 x3 x4 x8 : PV) (e : Env) (S : Store)
noncomputable def hint : Hint := { keep := [], loops := [], regs := [(0, [1]), (1, [1, 4]), (2, [1, 4, 8]), (3, [2, 3]), (4, [2, 3])] }
noncomputable def C (b : Nat) : Ctx := ctxL Try.prog hints b hint
noncomputable def code : Code := Try.f16.body.get rfl
noncomputable def k0 (b : Nat) : KT := endC Try.prog Try.f16
def ee0 (x1 : PV) : Env := [(1, x1)]
def ee1 (x1 x4 : PV) : Env := [(1, x1), (4, x4)]
def ee2 (x1 x4 x8 : PV) : Env := [(1, x1), (4, x4), (8, x8)]
def ee3 (x2 x3 : PV) : Env := [(2, x2), (3, x3)]
def c1 : Code := at0 code
def c2 : Code := at1 code
def c3 : Code := at0 c2
def c4 : Code := at1 c2
def c5 : Code := at0 c4
def c6 : Code := at1 c4
def k7 (b : Nat) : KT := seqC (fun e S => execL (C b) 0 c6 (k0 b) e S) (k0 b)
@[go_sem] theorem k7_n : k7 b .normal (ee3 x2 x3) S =
  (k0 b) .ret (ee3 x2 x3) S := nr (seqN (execL_ret (by kernel_rfl)))
def k8 (b : Nat) : KT := seqC (fun e S => execL (C b) 0 c4 (k0 b) e S) (k0 b)
@[go_sem] theorem g9 : execL (C b) 0 c5 K (ee2 x1 x4 x8) S =
  withV (evLoad (tyi Try.prog 26) S x1) fun x10 =>
    withN (callO (callL Try.prog hints) S 58 [x10]) S fun x11 S =>
    withV (some x11) fun x2 =>
    withV (some (.int .i64 0)) fun x3 =>
    K .normal (ee3 x2 x3) S := nr (by kernel_rfl)
@[go_sem] theorem k8_n : k8 b .normal e S = execL (C b) 0 c5 (k7 b) e S := nr (seqN (enterS (by kernel_rfl)))
@[go_sem] theorem k8_ret : k8 b .ret e S = (k0 b) .ret e S := nr (seqC_r _ _ _ _)
def k10 (b : Nat) : KT := seqC (fun e S => execL (C b) 0 c2 (k0 b) e S) (k0 b)
def c11 : Code := at0 c3
def c12 : Code := at1 c3
def c13 : Code := at0 c12
def c14 : Code := at1 c12
def k15 (b : Nat) : KT := seqC (fun e S => execL (C b) 0 c14 (k8 b) e S) (k8 b)
def c16 : Code := atT c14
def c19 : Code := at0 c16
def c20 : Code := at1 c16
def k21 (b : Nat) : KT := seqC (fun e S => execL (C b) 0 c20 (k8 b) e S) (k8 b)
@[go_sem] theorem k21_n : k21 b .normal (ee3 x2 x3) S =
  (k8 b) .ret (ee3 x2 x3) S := nr (seqN (execL_ret (by kernel_rfl)))
@[go_sem] theorem g22 : execL (C b) 0 c19 K (ee2 x1 x4 x8) S =
  withV (some x4) fun x9 =>
    withV (some (.sl [] true)) fun x2 =>
    withV (some x9) fun x3 =>
    K .normal (ee3 x2 x3) S := nr (by kernel_rfl)
@[go_sem] theorem k15_n : k15 b .normal (ee2 x1 x4 x8) S =
  condC x8 (execL (C b) 0 c19 (k21 b) (ee2 x1 x4 x8) S)
    ((k8 b) .normal (ee2 x1 x4 x8) S) := nr (seqN (condE (t := 8) (by kernel_rfl) (enterS (by kernel_rfl)) (execL_skip (by kernel_rfl)) rfl))
def k23 (b : Nat) : KT := seqC (fun e S => execL (C b) 0 c12 (k8 b) e S) (k8 b)
@[go_sem] theorem g24 : execL (C b) 0 c13 K (ee1 x1 x4) S =
  withV (some x4) fun x7 =>
    withV (evBin .neq (tyi Try.prog 29) x7 (.int .i64 0)) fun x8 =>
    K .normal (ee2 x1 x4 x8) S := nr (by kernel_rfl)
@[go_sem] theorem k23_n : k23 b .normal e S = execL (C b) 0 c13 (k15 b) e S := nr (seqN (enterS (by kernel_rfl)))
@[go_sem] theorem g25 : execL (C b) 0 c11 K (ee0 x1) S =
  withV (evLoad (tyi Try.prog 26) S x1) fun x5 =>
    withN (callO (callL Try.prog hints) S 18 [x5]) S fun x6 S =>
    withV (some x6) fun x4 =>
    K .normal (ee1 x1 x4) S := nr (by kernel_rfl)
@[go_sem] theorem k10_n : k10 b .normal (ee0 x1) S =
  execL (C b) 0 c11 (k23 b) (ee0 x1) S := nr (seqN ((enterS (by kernel_rfl)).trans (enterS (by kernel_rfl))))
@[go_sem] theorem g26 : execL (C b) 0 c1 K [(0, x0)] S =
  withN (boxed S (List.length S) (TI.size (tyi Try.prog 26)) x0) S fun x1 S =>
    withV (some (.sl [] true)) fun x2 =>
    withV (some (.int .i64 0)) fun x3 =>
    K .normal (ee0 x1) S := nr (by kernel_rfl)
def E (b : Nat) (x0 : PV) (S : Store) : RT := execL (C b) 0 code (k0 b) [(0, x0)] S
@[go_sem] theorem E_eq : E b x0 S =
  execL (C b) 0 c1 (k10 b) [(0, x0)] S := nr (enterS (by kernel_rfl))
@[go_sem] theorem k0_ret3 : k0 b .ret (ee3 x2 x3) S = some ((.tup [x2, x3]), S) := nr (by kernel_rfl)
theorem call {x0 : PV} {r : PV × Store} {v : PV} (h : E 0 x0 [] = some r) (hv : fzPV r.2 r.1 = some v) : callL Try.prog hints 16 [x0] = some v := callL_of (fn := Try.f16) (c := code) (by kernel_rfl) (by kernel_rfl) (by decide) (by kernel_rfl) (Nat.le_of_ble_eq_true (by kernel_rfl)) h hv
end
end F16
/-! ### game.Wins -/
namespace F20
section
variable (b i n n0 : Nat) (K : KT) (x0 x1 x2 x4 x5 x6 x7 x9 x13 x20 x22 x23 x24 x25 : PV) (e : Env) (S : Store)
noncomputable def hint : Hint := { keep := [], loops := [(0, { live := [1, 7, 22, 23, 24], after := [7], own := [], fz := [] })], regs := [(0, [1, 2]), (1, [1, 2, 6]), (2, [1, 2, 6, 13]), (3, [4, 5]), (4, [1, 2, 20]), (5, [4, 5]), (6, [1, 2, 7]), (7, [1, 7, 22, 23, 24]), (8, [1, 7, 22, 23, 24, 25]), (9, [1, 7, 9, 22, 23, 24]), (10, [1, 7, 22, 23, 24]), (11, [1, 7, 22, 23, 24]), (12, [4, 5])] }
noncomputable def C (b : Nat) : Ctx := ctxL Try.prog hints b hint
noncomputable def code : Code := Try.f20.body.get rfl
noncomputable def k0 (b : Nat) : KT := endC Try.prog Try.f20
def ee0 (x1 x2 : PV) : Env := [(1, x1), (2, x2)]
def ee1 (x1 x2 x6 : PV) : Env := [(1, x1), (2, x2), (6, x6)]
def ee2 (x1 x2 x6 x13 : PV) : Env := [(1, x1), (2, x2), (6, x6), (13, x13)]
def ee3 (x1 x2 x7 : PV) : Env := [(1, x1), (2, x2), (7, x7)]
def ee4 (x1 x2 x20 : PV) : Env := [(1, x1), (2, x2), (20, x20)]
def ee5 (x1 x7 x9 x22 x23 x24 : PV) : Env := [(1, x1), (7, x7), (9, x9), (22, x22), (23, x23), (24, x24)]
def ee6 (x1 x7 x22 x23 x24 : PV) : Env := [(1, x1), (7, x7), (22, x22), (23, x23), (24, x24)]
def ee7 (x1 x7 x22 x23 x24 x25 : PV) : Env := [(1, x1), (7, x7), (22, x22), (23, x23), (24, x24), (25, x25)]
def ee8 (x4 x5 : PV) : Env := [(4, x4), (5, x5)]
def c1 : Code := at0 code
def c2 : Code := at1 code
def c3 : Code := at0 c2
def c4 : Code := at1 c2
def c5 : Code := at0 c4
def c6 : Code := at1 c4
def c7 : Code := at0 c6
def c8 : Code := at1 c6
def c9 : Code := at0 c8
def c10 : Code := at1 c8
def c11 : Code := at0 c10
def c12 : Code := at1 c10
def k13 (b : Nat) : KT := seqC (fun e S => execL (C b) 0 c12 (k0 b) e S) (k0 b)
@[go_sem] theorem k13_n : k13 b .normal (ee8 x4 x5) S =
  (k0 b) .ret (ee8 x4 x5) S := nr (seqN (execL_ret (by kernel_rfl)))
def k14 (b : Nat) : KT := seqC (fun e S => execL (C b) 0 c10 (k0 b) e S) (k0 b)
@[go_sem] theorem g15 : execL (C b) 0 c11 K (ee7 x1 x7 x22 x23 x24 x25) S =
  withV (some x7) fun x37 =>
    withV (some x37) fun x4 =>
    withV (some (.int .i64 0)) fun x5 =>
    K .normal (ee8 x4 x5) S := nr (by kernel_rfl)
@[go_sem] theorem k14_n : k14 b .normal e S = execL (C b) 0 c11 (k13 b) e S := nr (seqN (enterS (by kernel_rfl)))
def k16 (b : Nat) : KT := seqC (fun e S => execL (C b) 0 c8 (k0 b) e S) (k0 b)
def c17 : Code := at0 c9
def c18 : Code := at1 c9
def k19 (b : Nat) : KT := seqC (fun e S => execL (C b) 0 c18 (k14 b) e S) (k14 b)
def c20 : Code := atB c18
def k21 (b : Nat) : KT := blockC 0 (k14 b)
@[go_sem] theorem k21_exit : k21 b (.exit i) e S = if i = 0 then (k14 b) .normal e S else (k14 b) (.exit i) e S := nr (blockC_x _ _ _ _ _)
def c22 : Code := atL c20
def k23 (b n0 : Nat) : KT := afterC 0 n0 [7] (k21 b)
def L0g (b n0 : Nat) (e : Env) (S : Store) : RT := loopL (fun K e S => execL (C b) 0 c22 K e S) (normG [1, 7, 22, 23, 24] [] n0) (k23 b n0) e S
def L0 (b n0 : Nat) (x1 x7 x22 x23 x24 : PV) (S : Store) : RT := L0g b n0 (ee6 x1 x7 x22 x23 x24) S
def k24 (b n0 : Nat) : KT := stepC (normG [1, 7, 22, 23, 24] [] n0) (k23 b n0) (L0g b n0)
@[go_sem] theorem k24_n : k24 b n0 .normal (ee6 x1 x7 x22 x23 x24) S = L0 b n0 x1 x7 x22 x23 x24 (gc n0 (ee6 x1 x7 x22 x23 x24) S) := nr (by kernel_rfl)
@[go_sem] theorem k24_x1 : k24 b n0 (.exit 0) (ee7 x1 x7 x22 x23 x24 x25) S = (k21 b) (.exit 0) (ee7 .undef x7 .undef .undef .undef .undef) (gc n0 (ee7 .undef x7 .undef .undef .undef .undef) S) := nr ((show k24 b n0 (.exit 0) (ee7 x1 x7 x22 x23 x24 x25) S = (k23 b n0) (.exit 0) (ee7 x1 x7 x22 x23 x24 x25) S from stepC_x _ _ _ _ _ _).trans ((show (k23 b n0) (.exit 0) (ee7 x1 x7 x22 x23 x24 x25) S = _ from afterC_x _ _ _ _ _ _ _).trans (if_pos rfl)))
def c25 : Code := at0 c22
def c26 : Code := at1 c22
def c28 : Code := at1 c26
def c29 : Code := at0 c28
def c30 : Code := at1 c28
def k31 (b n0 : Nat) : KT := seqC (fun e S => execL (C b) 0 c30 (k24 b n0) e S) (k24 b n0)
@[go_sem] theorem g32 : execL (C b) 0 c30 K (ee6 x1 x7 x22 x23 x24) S =
  withV (evBin .add (tyi Try.prog 3) x24 (.int .i64 1)) fun x36 =>
    withV (some x36) fun x24 =>
    K .normal (ee6 x1 x7 x22 x23 x24) S := nr (by kernel_rfl)
@[go_sem] theorem k31_n : k31 b n0 .normal e S = execL (C b) 0 c30 (k24 b n0) e S := nr (seqN rfl)
def k33 (b n0 : Nat) : KT := seqC (fun e S => execL (C b) 0 c28 (k24 b n0) e S) (k24 b n0)
def c34 : Code := atB c29
def k35 (b n0 : Nat) : KT := blockC 1 (k31 b n0)
@[go_sem] theorem k35_n : k35 b n0 .normal e S = (k31 b n0) .normal e S := nr (blockC_n _ _ _ _)
def c36 : Code := at0 c34
def c37 : Code := at1 c34
def k38 (b n0 : Nat) : KT := seqC (fun e S => execL (C b) 1 c37 (k35 b n0) e S) (k35 b n0)
@[go_sem] theorem g39 : execL (C b) 1 c37 K (ee5 x1 x7 x9 x22 x23 x24) S =
  withV (some x7) fun x28 =>
    withV (some x9) fun x29 =>
    withV (evBin .geq (tyi Try.prog 3) x29 (.int .i64 0)) fun x30 =>
    withV (some x1) fun x31 =>
    withV (evBin .eql (tyi Try.prog 3) x31 (.int .i64 0)) fun x32 =>
    withV (evBin .eql (tyi Try.prog 4) x30 x32) fun x33 =>
    withN (buildSliceO Try.prog 24 (List.length S) 1 [0] [PV.cells x33]) S fun x34 S =>
    withE (appendE Try.prog b 24 24 S x28 x34) [(1, x1), (7, x7), (9, x9), (22, x22), (23, x23), (24, x24), (28, x28), (29, x29), (30, x30), (31, x31), (32, x32), (33, x33), (34, x34)] fun x35 e1 S =>
    withV (some (Vs.get (put e1 35 x35) 35)) fun x7 =>
    K .normal (ee6 (Vs.get (put (put e1 35 x35) 7 x7) 1) (Vs.get (put (put e1 35 x35) 7 x7) 7) (Vs.get (put (put e1 35 x35) 7 x7) 22) (Vs.get (put (put e1 35 x35) 7 x7) 23) (Vs.get (put (put e1 35 x35) 7 x7) 24)) S := nr (by kernel_rfl)
@[go_sem] theorem k38_n : k38 b n0 .normal e S = execL (C b) 1 c37 (k35 b n0) e S := nr (seqN rfl)
@[go_sem] theorem g40 : execL (C b) 1 c36 K (ee7 x1 x7 x22 x23 x24 x25) S =
  withV (indexAddrO Try.prog 22 S x22 x24) fun x26 =>
    withV (evLoad (tyi Try.prog 3) S x26) fun x27 =>
    withV (some x27) fun x9 =>
    K .normal (ee5 x1 x7 x9 x22 x23 x24) S := nr (by kernel_rfl)
@[go_sem] theorem k33_n : k33 b n0 .normal (ee7 x1 x7 x22 x23 x24 x25) S =
  execL (C b) 1 c36 (k38 b n0) (ee7 x1 x7 x22 x23 x24 x25) S := nr (seqN ((enterS (by kernel_rfl)).trans ((blockE (by kernel_rfl)).trans (enterS (by kernel_rfl)))))
@[go_sem] theorem k33_exit : k33 b n0 (.exit i) e S = (k24 b n0) (.exit i) e S := nr (seqC_x _ _ _ _ _)
def k41 (b n0 : Nat) : KT := seqC (fun e S => execL (C b) 0 c26 (k24 b n0) e S) (k24 b n0)
@[go_sem] theorem k41_n : k41 b n0 .normal (ee7 x1 x7 x22 x23 x24 x25) S =
  condC x25 ((k33 b n0) .normal (ee7 x1 x7 x22 x23 x24 x25) S)
    ((k33 b n0) (.exit 0) (ee7 x1 x7 x22 x23 x24 x25) S) := nr (seqN ((enterS (by kernel_rfl)).trans (condE (t := 25) (by kernel_rfl) (execL_skip (by kernel_rfl)) (execL_exit (by kernel_rfl)) rfl)))
@[go_sem] theorem g44 : execL (C b) 0 c25 K (ee6 x1 x7 x22 x23 x24) S =
  withV (evBin .lss (tyi Try.prog 3) x24 x23) fun x25 =>
    K .normal (ee7 x1 x7 x22 x23 x24 x25) S := nr (by kernel_rfl)
def B0 (b n0 : Nat) (x1 x7 x22 x23 x24 : PV) (S : Store) : RT := execL (C b) 0 c22 (k24 b n0) (ee6 x1 x7 x22 x23 x24) S
@[go_sem] theorem B0_eq : B0 b n0 x1 x7 x22 x23 x24 S =
  execL (C b) 0 c25 (k41 b n0) (ee6 x1 x7 x22 x23 x24) S := nr (enterS (by kernel_rfl))
theorem L0_step {b n0 : Nat} {x1 x7 x22 x23 x24 : PV} {S : Store} {z : PV × Store} (h : B0 b n0 x1 x7 x22 x23 x24 S = some z) : L0 b n0 x1 x7 x22 x23 x24 S = some z := loopL_step h
theorem L0_in (b : Nat) (x1 x7 x22 x23 x24 : PV) (S : Store) : execL (C b) 0 c20 (k21 b) (ee6 x1 x7 x22 x23 x24) S = L0 b (List.length S) x1 x7 x22 x23 x24 S := by kernel_rfl
@[go_sem] theorem k19_n : k19 b .normal (ee6 x1 x7 x22 x23 x24) S =
  L0 b (List.length S) x1 x7 x22 x23 x24 S := nr (seqN ((blockE (by kernel_rfl)).trans (L0_in b x1 x7 x22 x23 x24 S)))
@[go_sem] theorem g46 : execL (C b) 0 c17 K (ee3 x1 x2 x7) S =
  withV (evLoad (tyi Try.prog 26) S x2) fun x21 =>
    withN (callO (callL Try.prog hints) S 57 [x21]) S fun x22 S =>
    withV (lenO (tyi Try.prog 22) x22) fun x23 =>
    withV (some (.int .i64 0)) fun x24 =>
    K .normal (ee6 x1 x7 x22 x23 x24) S := nr (by kernel_rfl)
@[go_sem] theorem k16_n : k16 b .normal (ee3 x1 x2 x7) S =
  execL (C b) 0 c17 (k19 b) (ee3 x1 x2 x7) S := nr (seqN ((enterS (by kernel_rfl)).trans (enterS (by kernel_rfl))))
def k47 (b : Nat) : KT := seqC (fun e S => execL (C b) 0 c6 (k0 b) e S) (k0 b)
@[go_sem] theorem g48 : execL (C b) 0 c7 K (ee4 x1 x2 x20) S =
  withV (some (.sl [] true)) fun x7 =>
    K .normal (ee3 x1 x2 x7) S := nr (by kernel_rfl)
@[go_sem] theorem k47_n : k47 b .normal e S = execL (C b) 0 c7 (k16 b) e S := nr (seqN (enterS (by kernel_rfl)))
@[go_sem] theorem k47_ret : k47 b .ret e S = (k0 b) .ret e S := nr (seqC_r _ _ _ _)
def k49 (b : Nat) : KT := seqC (fun e S => execL (C b) 0 c4 (k0 b) e S) (k0 b)
def c50 : Code := at0 c5
def c51 : Code := at1 c5
def k52 (b : Nat) : KT := seqC (fun e S => execL (C b) 0 c51 (k47 b) e S) (k47 b)
def c53 : Code := atT c51
def c56 : Code := at0 c53
def c57 : Code := at1 c53
def k58 (b : Nat) : KT := seqC (fun e S => execL (C b) 0 c57 (k47 b) e S) (k47 b)
@[go_sem] theorem k58_n : k58 b .normal (ee8 x4 x5) S =
  (k47 b) .ret (ee8 x4 x5) S := nr (seqN (execL_ret (by kernel_rfl)))
@[go_sem] theorem g59 : execL (C b) 0 c56 K (ee4 x1 x2 x20) S =
  withV (some (.sl [] true)) fun x4 =>
    withV (some (.int .i64 1)) fun x5 =>
    K .normal (ee8 x4 x5) S := nr (by kernel_rfl)
@[go_sem] theorem k52_n : k52 b .normal (ee4 x1 x2 x20) S =
  condC x20 (execL (C b) 0 c56 (k58 b) (ee4 x1 x2 x20) S)
    ((k47 b) .normal (ee4 x1 x2 x20) S) := nr (seqN (condE (t := 20) (by kernel_rfl) (enterS (by kernel_rfl)) (execL_skip (by kernel_rfl)) rfl))
@[go_sem] theorem g60 : execL (C b) 0 c50 K (ee2 x1 x2 x6 x13) S =
  withV (some x1) fun x15 =>
    withV (evBin .neq (tyi Try.prog 3) x15 (.int .i64 0)) fun x16 =>
    withV (some x16) fun x17 =>
    withV (gval x17 true (some x1)) fun x18 =>
    withV (gval x17 true (evBin .neq (tyi Try.prog 3) x18 (.int .i64 1))) fun x19 =>
    withV (pickO x17 x19 (.bool false)) fun x20 =>
    K .normal (ee4 x1 x2 x20) S := nr (by kernel_rfl)
@[go_sem] theorem k49_n : k49 b .normal (ee2 x1 x2 x6 x13) S =
  execL (C b) 0 c50 (k52 b) (ee2 x1 x2 x6 x13) S := nr (seqN ((enterS (by kernel_rfl)).trans (enterS (by kernel_rfl))))
@[go_sem] theorem k49_ret : k49 b .ret e S = (k0 b) .ret e S := nr (seqC_r _ _ _ _)
def k61 (b : Nat) : KT := seqC (fun e S => execL (C b) 0 c2 (k0 b) e S) (k0 b)
def c62 : Code := at0 c3
def c63 : Code := at1 c3
def c64 : Code := at0 c63
def c65 : Code := at1 c63
def k66 (b : Nat) : KT := seqC (fun e S => execL (C b) 0 c65 (k49 b) e S) (k49 b)
def c67 : Code := atT c65
def c70 : Code := at0 c67
def c71 : Code := at1 c67
def k72 (b : Nat) : KT := seqC (fun e S => execL (C b) 0 c71 (k49 b) e S) (k49 b)
@[go_sem] theorem k72_n : k72 b .normal (ee8 x4 x5) S =
  (k49 b) .ret (ee8 x4 x5) S := nr (seqN (execL_ret (by kernel_rfl)))
@[go_sem] theorem g73 : execL (C b) 0 c70 K (ee2 x1 x2 x6 x13) S =
  withV (some x6) fun x14 =>
    withV (some (.sl [] true)) fun x4 =>
    withV (some x14) fun x5 =>
    K .normal (ee8 x4 x5) S := nr (by kernel_rfl)
@[go_sem] theorem k66_n : k66 b .normal (ee2 x1 x2 x6 x13) S =
  condC x13 (execL (C b) 0 c70 (k72 b) (ee2 x1 x2 x6 x13) S)
    ((k49 b) .normal (ee2 x1 x2 x6 x13) S) := nr (seqN (condE (t := 13) (by kernel_rfl) (enterS (by kernel_rfl)) (execL_skip (by kernel_rfl)) rfl))
def k74 (b : Nat) : KT := seqC (fun e S => execL (C b) 0 c63 (k49 b) e S) (k49 b)
@[go_sem] theorem g75 : execL (C b) 0 c64 K (ee1 x1 x2 x6) S =
  withV (some x6) fun x12 =>
    withV (evBin .neq (tyi Try.prog 29) x12 (.int .i64 0)) fun x13 =>
    K .normal (ee2 x1 x2 x6 x13) S := nr (by kernel_rfl)
@[go_sem] theorem k74_n : k74 b .normal e S = execL (C b) 0 c64 (k66 b) e S := nr (seqN (enterS (by kernel_rfl)))
@[go_sem] theorem g76 : execL (C b) 0 c62 K (ee0 x1 x2) S =
  withV (evLoad (tyi Try.prog 26) S x2) fun x10 =>
    withN (callO (callL Try.prog hints) S 17 [x10]) S fun x11 S =>
    withV (some x11) fun x6 =>
    K .normal (ee1 x1 x2 x6) S := nr (by kernel_rfl)
@[go_sem] theorem k61_n : k61 b .normal (ee0 x1 x2) S =
  execL (C b) 0 c62 (k74 b) (ee0 x1 x2) S := nr (seqN ((enterS (by kernel_rfl)).trans (enterS (by kernel_rfl))))
@[go_sem] theorem g77 : execL (C b) 0 c1 K [(0, x0), (1, x1)] S =
  withN (boxed S (List.length S) (TI.size (tyi Try.prog 26)) x0) S fun x2 S =>
    withV (some (.sl [] true)) fun x4 =>
    withV (some (.int .i64 0)) fun x5 =>
    K .normal (ee0 x1 x2) S := nr (by kernel_rfl)
def E (b : Nat) (x0 x1 : PV) (S : Store) : RT := execL (C b) 0 code (k0 b) [(0, x0), (1, x1)] S
@[go_sem] theorem E_eq : E b x0 x1 S =
  execL (C b) 0 c1 (k61 b) [(0, x0), (1, x1)] S := nr (enterS (by kernel_rfl))
@[go_sem] theorem k0_ret8 : k0 b .ret (ee8 x4 x5) S = some ((.tup [x4, x5]), S) := nr (by kernel_rfl)
theorem call {x0 x1 : PV} {r : PV × Store} {v : PV} (h : E 0 x0 x1 [] = some r) (hv : fzPV r.2 r.1 = some v) : callL Try.prog hints 20 [x0, x1] = some v := callL_of (fn := Try.f20) (c := code) (by kernel_rfl) (by kernel_rfl) (by decide) (by kernel_rfl) (Nat.le_of_ble_eq_true (by kernel_rfl)) h hv
end
end F20
/-! ### isochroneref23.Wins -/
namespace F21
section
variable (b i n n0 : Nat) (K : KT) (x0 x1 x2 x4 x5 x6 x7 x8 x9 x13 x20 x29 : PV) (e : Env) (S : Store)
noncomputable def hint : Hint := { keep := [], loops := [(0, { live := [1, 7, 8, 9], after := [8], own := [], fz := [] })], regs := [(0, [1, 2]), (1, [1, 2, 6]), (2, [1, 2, 6, 13]), (3, [4, 5]), (4, [1, 2, 20]), (5, [4, 5]), (6, [1, 7]), (7, [1, 7, 8]), (8, [1, 7, 8, 9]), (9, [1, 7, 8, 9, 29]), (10, [1, 7, 8, 9]), (11, [1, 7, 8, 9]), (12, [4, 5])] }
noncomputable def C (b : Nat) : Ctx := ctxL Try.prog hints b hint
noncomputable def code : Code := Try.f21.body.get rfl
noncomputable def k0 (b : Nat) : KT := endC Try.prog Try.f21
def ee0 (x1 x2 : PV) : Env := [(1, x1), (2, x2)]
def ee1 (x1 x2 x6 : PV) : Env := [(1, x1), (2, x2), (6, x6)]
def ee2 (x1 x2 x6 x13 : PV) : Env := [(1, x1), (2, x2), (6, x6), (13, x13)]
def ee3 (x1 x2 x20 : PV) : Env := [(1, x1), (2, x2), (20, x20)]
def ee4 (x1 x7 : PV) : Env := [(1, x1), (7, x7)]
def ee5 (x1 x7 x8 : PV) : Env := [(1, x1), (7, x7), (8, x8)]
def ee6 (x1 x7 x8 x9 : PV) : Env := [(1, x1), (7, x7), (8, x8), (9, x9)]
def ee7 (x1 x7 x8 x9 x29 : PV) : Env := [(1, x1), (7, x7), (8, x8), (9, x9), (29, x29)]
def ee8 (x4 x5 : PV) : Env := [(4, x4), (5, x5)]
def c1 : Code := at0 code
def c2 : Code := at1 code
def c3 : Code := at0 c2
def c4 : Code := at1 c2
def c5 : Code := at0 c4
def c6 : Code := at1 c4
def c7 : Code := at0 c6
def c8 : Code := at1 c6
def c9 : Code := at0 c8
def c10 : Code := at1 c8
def c11 : Code := at0 c10
def c12 : Code := at1 c10
def c13 : Code := at0 c12
def c14 : Code := at1 c12
def k15 (b : Nat) : KT := seqC (fun e S => execL (C b) 0 c14 (k0 b) e S) (k0 b)
@[go_sem] theorem k15_n : k15 b .normal (ee8 x4 x5) S =
  (k0 b) .ret (ee8 x4 x5) S := nr (seqN (execL_ret (by kernel_rfl)))
def k16 (b : Nat) : KT := seqC (fun e S => execL (C b) 0 c12 (k0 b) e S) (k0 b)
@[go_sem] theorem g17 : execL (C b) 0 c13 K (ee7 x1 x7 x8 x9 x29) S =
  withV (some x8) fun x43 =>
    withV (some x43) fun x4 =>
    withV (some (.int .i64 0)) fun x5 =>
    K .normal (ee8 x4 x5) S := nr (by kernel_rfl)
@[go_sem] theorem k16_n : k16 b .normal e S = execL (C b) 0 c13 (k15 b) e S := nr (seqN (enterS (by kernel_rfl)))
def k18 (b : Nat) : KT := seqC (fun e S => execL (C b) 0 c10 (k0 b) e S) (k0 b)
def c19 : Code := at0 c11
def c20 : Code := at1 c11
def k21 (b : Nat) : KT := seqC (fun e S => execL (C b) 0 c20 (k16 b) e S) (k16 b)
def c22 : Code := atB c20
def k23 (b : Nat) : KT := blockC 0 (k16 b)
@[go_sem] theorem k23_exit : k23 b (.exit i) e S = if i = 0 then (k16 b) .normal e S else (k16 b) (.exit i) e S := nr (blockC_x _ _ _ _ _)
def c24 : Code := atL c22
def k25 (b n0 : Nat) : KT := afterC 0 n0 [8] (k23 b)
def L0g (b n0 : Nat) (e : Env) (S : Store) : RT := loopL (fun K e S => execL (C b) 0 c24 K e S) (normG [1, 7, 8, 9] [] n0) (k25 b n0) e S
def L0 (b n0 : Nat) (x1 x7 x8 x9 : PV) (S : Store) : RT := L0g b n0 (ee6 x1 x7 x8 x9) S
def k26 (b n0 : Nat) : KT := stepC (normG [1, 7, 8, 9] [] n0) (k25 b n0) (L0g b n0)
@[go_sem] theorem k26_n : k26 b n0 .normal (ee6 x1 x7 x8 x9) S = L0 b n0 x1 x7 x8 x9 (gc n0 (ee6 x1 x7 x8 x9) S) := nr (by kernel_rfl)
@[go_sem] theorem k26_x1 : k26 b n0 (.exit 0) (ee7 x1 x7 x8 x9 x29) S = (k23 b) (.exit 0) (ee7 .undef .undef x8 .undef .undef) (gc n0 (ee7 .undef .undef x8 .undef .undef) S) := nr ((show k26 b n0 (.exit 0) (ee7 x1 x7 x8 x9 x29) S = (k25 b n0) (.exit 0) (ee7 x1 x7 x8 x9 x29) S from stepC_x _ _ _ _ _ _).trans ((show (k25 b n0) (.exit 0) (ee7 x1 x7 x8 x9 x29) S = _ from afterC_x _ _ _ _ _ _ _).trans (if_pos rfl)))
def c27 : Code := at0 c24
def c28 : Code := at1 c24
def c29 : Code := at0 c28
def c30 : Code := at1 c28
def k31 (b n0 : Nat) : KT := seqC (fun e S => execL (C b) 0 c30 (k26 b n0) e S) (k26 b n0)
@[go_sem] theorem g32 : execL (C b) 0 c30 K (ee6 x1 x7 x8 x9) S =
  withV (some x9) fun x30 =>
    withV (evBin .add (tyi Try.prog 3) x30 (.int .i64 1)) fun x31 =>
    withV (some x31) fun x9 =>
    K .normal (ee6 x1 x7 x8 x9) S := nr (by kernel_rfl)
@[go_sem] theorem k31_n : k31 b n0 .normal e S = execL (C b) 0 c30 (k26 b n0) e S := nr (seqN rfl)
def k33 (b n0 : Nat) : KT := seqC (fun e S => execL (C b) 0 c28 (k26 b n0) e S) (k26 b n0)
def c34 : Code := atB c29
def k35 (b n0 : Nat) : KT := blockC 1 (k31 b n0)
@[go_sem] theorem k35_n : k35 b n0 .normal e S = (k31 b n0) .normal e S := nr (blockC_n _ _ _ _)
@[go_sem] theorem g36 : execL (C b) 1 c34 K (ee7 x1 x7 x8 x9 x29) S =
  withV (some x8) fun x32 =>
    withV (some x9) fun x33 =>
    withV (some x7) fun x34 =>
    withV (some x9) fun x35 =>
    withV (indexAddrO Try.prog 22 S x34 x35) fun x36 =>
    withV (evLoad (tyi Try.prog 3) S x36) fun x37 =>
    withV (evBin .geq (tyi Try.prog 3) x37 (.int .i64 0)) fun x38 =>
    withV (some x1) fun x39 =>
    withV (evBin .eql (tyi Try.prog 3) x39 (.int .i64 0)) fun x40 =>
    withV (evBin .eql (tyi Try.prog 4) x38 x40) fun x41 =>
    withV (indexAddrO Try.prog 24 S x32 x33) fun x42 =>
    withS (storeE (tyi Try.prog 4) S x42 x41) fun _u S =>
    K .normal (ee6 x1 x7 x8 x9) S := nr (by kernel_rfl)
@[go_sem] theorem k33_n : k33 b n0 .normal (ee7 x1 x7 x8 x9 x29) S =
  execL (C b) 1 c34 (k35 b n0) (ee7 x1 x7 x8 x9 x29) S := nr (seqN ((enterS (by kernel_rfl)).trans (blockE (by kernel_rfl))))
@[go_sem] theorem k33_exit : k33 b n0 (.exit i) e S = (k26 b n0) (.exit i) e S := nr (seqC_x _ _ _ _ _)
def c37 : Code := at0 c27
def c38 : Code := at1 c27
def k39 (b n0 : Nat) : KT := seqC (fun e S => execL (C b) 0 c38 (k33 b n0) e S) (k33 b n0)
@[go_sem] theorem k39_n : k39 b n0 .normal (ee7 x1 x7 x8 x9 x29) S =
  condC x29 ((k33 b n0) .normal (ee7 x1 x7 x8 x9 x29) S)
    ((k33 b n0) (.exit 0) (ee7 x1 x7 x8 x9 x29) S) := nr (seqN (condE (t := 29) (by kernel_rfl) (execL_skip (by kernel_rfl)) (execL_exit (by kernel_rfl)) rfl))
@[go_sem] theorem g42 : execL (C b) 0 c37 K (ee6 x1 x7 x8 x9) S =
  withV (some x9) fun x26 =>
    withV (some x7) fun x27 =>
    withV (lenO (tyi Try.prog 22) x27) fun x28 =>
    withV (evBin .lss (tyi Try.prog 3) x26 x28) fun x29 =>
    K .normal (ee7 x1 x7 x8 x9 x29) S := nr (by kernel_rfl)
def B0 (b n0 : Nat) (x1 x7 x8 x9 : PV) (S : Store) : RT := execL (C b) 0 c24 (k26 b n0) (ee6 x1 x7 x8 x9) S
@[go_sem] theorem B0_eq : B0 b n0 x1 x7 x8 x9 S =
  execL (C b) 0 c37 (k39 b n0) (ee6 x1 x7 x8 x9) S := nr ((enterS (by kernel_rfl)).trans (enterS (by kernel_rfl)))
theorem L0_step {b n0 : Nat} {x1 x7 x8 x9 : PV} {S : Store} {z : PV × Store} (h : B0 b n0 x1 x7 x8 x9 S = some z) : L0 b n0 x1 x7 x8 x9 S = some z := loopL_step h
theorem L0_in (b : Nat) (x1 x7 x8 x9 : PV) (S : Store) : execL (C b) 0 c22 (k23 b) (ee6 x1 x7 x8 x9) S = L0 b (List.length S) x1 x7 x8 x9 S := by kernel_rfl
@[go_sem] theorem k21_n : k21 b .normal (ee6 x1 x7 x8 x9) S =
  L0 b (List.length S) x1 x7 x8 x9 S := nr (seqN ((blockE (by kernel_rfl)).trans (L0_in b x1 x7 x8 x9 S)))
@[go_sem] theorem g44 : execL (C b) 0 c19 K (ee5 x1 x7 x8) S =
  withV (some (.int .i64 0)) fun x9 =>
    K .normal (ee6 x1 x7 x8 x9) S := nr (by kernel_rfl)
@[go_sem] theorem k18_n : k18 b .normal (ee5 x1 x7 x8) S =
  execL (C b) 0 c19 (k21 b) (ee5 x1 x7 x8) S := nr (seqN ((enterS (by kernel_rfl)).trans (enterS (by kernel_rfl))))
def k45 (b : Nat) : KT := seqC (fun e S => execL (C b) 0 c8 (k0 b) e S) (k0 b)
@[go_sem] theorem g46 : execL (C b) 0 c9 K (ee4 x1 x7) S =
  withV (some x7) fun x23 =>
    withV (lenO (tyi Try.prog 22) x23) fun x24 =>
    withN (makeSliceO Try.prog 24 (List.length S) x24 x24) S fun x25 S =>
    withV (some x25) fun x8 =>
    K .normal (ee5 x1 x7 x8) S := nr (by kernel_rfl)
@[go_sem] theorem k45_n : k45 b .normal e S = execL (C b) 0 c9 (k18 b) e S := nr (seqN (enterS (by kernel_rfl)))
def k47 (b : Nat) : KT := seqC (fun e S => execL (C b) 0 c6 (k0 b) e S) (k0 b)
@[go_sem] theorem g48 : execL (C b) 0 c7 K (ee3 x1 x2 x20) S =
  withV (evLoad (tyi Try.prog 26) S x2) fun x21 =>
    withN (callO (callL Try.prog hints) S 58 [x21]) S fun x22 S =>
    withV (some x22) fun x7 =>
    K .normal (ee4 x1 x7) S := nr (by kernel_rfl)
@[go_sem] theorem k47_n : k47 b .normal e S = execL (C b) 0 c7 (k45 b) e S := nr (seqN (enterS (by kernel_rfl)))
@[go_sem] theorem k47_ret : k47 b .ret e S = (k0 b) .ret e S := nr (seqC_r _ _ _ _)
def k49 (b : Nat) : KT := seqC (fun e S => execL (C b) 0 c4 (k0 b) e S) (k0 b)
def c50 : Code := at0 c5
def c51 : Code := at1 c5
def k52 (b : Nat) : KT := seqC (fun e S => execL (C b) 0 c51 (k47 b) e S) (k47 b)
def c53 : Code := atT c51
def c56 : Code := at0 c53
def c57 : Code := at1 c53
def k58 (b : Nat) : KT := seqC (fun e S => execL (C b) 0 c57 (k47 b) e S) (k47 b)
@[go_sem] theorem k58_n : k58 b .normal (ee8 x4 x5) S =
  (k47 b) .ret (ee8 x4 x5) S := nr (seqN (execL_ret (by kernel_rfl)))
@[go_sem] theorem g59 : execL (C b) 0 c56 K (ee3 x1 x2 x20) S =
  withV (some (.sl [] true)) fun x4 =>
    withV (some (.int .i64 1)) fun x5 =>
    K .normal (ee8 x4 x5) S := nr (by kernel_rfl)
@[go_sem] theorem k52_n : k52 b .normal (ee3 x1 x2 x20) S =
  condC x20 (execL (C b) 0 c56 (k58 b) (ee3 x1 x2 x20) S)
    ((k47 b) .normal (ee3 x1 x2 x20) S) := nr (seqN (condE (t := 20) (by kernel_rfl) (enterS (by kernel_rfl)) (execL_skip (by kernel_rfl)) rfl))
@[go_sem] theorem g60 : execL (C b) 0 c50 K (ee2 x1 x2 x6 x13) S =
  withV (some x1) fun x15 =>
    withV (evBin .neq (tyi Try.prog 3) x15 (.int .i64 0)) fun x16 =>
    withV (some x16) fun x17 =>
    withV (gval x17 true (some x1)) fun x18 =>
    withV (gval x17 true (evBin .neq (tyi Try.prog 3) x18 (.int .i64 1))) fun x19 =>
    withV (pickO x17 x19 (.bool false)) fun x20 =>
    K .normal (ee3 x1 x2 x20) S := nr (by kernel_rfl)
@[go_sem] theorem k49_n : k49 b .normal (ee2 x1 x2 x6 x13) S =
  execL (C b) 0 c50 (k52 b) (ee2 x1 x2 x6 x13) S := nr (seqN ((enterS (by kernel_rfl)).trans (enterS (by kernel_rfl))))
@[go_sem] theorem k49_ret : k49 b .ret e S = (k0 b) .ret e S := nr (seqC_r _ _ _ _)
def k61 (b : Nat) : KT := seqC (fun e S => execL (C b) 0 c2 (k0 b) e S) (k0 b)
def c62 : Code := at0 c3
def c63 : Code := at1 c3
def c64 : Code := at0 c63
def c65 : Code := at1 c63
def k66 (b : Nat) : KT := seqC (fun e S => execL (C b) 0 c65 (k49 b) e S) (k49 b)
def c67 : Code := atT c65
def c70 : Code := at0 c67
def c71 : Code := at1 c67
def k72 (b : Nat) : KT := seqC (fun e S => execL (C b) 0 c71 (k49 b) e S) (k49 b)
@[go_sem] theorem k72_n : k72 b .normal (ee8 x4 x5) S =
  (k49 b) .ret (ee8 x4 x5) S := nr (seqN (execL_ret (by kernel_rfl)))
@[go_sem] theorem g73 : execL (C b) 0 c70 K (ee2 x1 x2 x6 x13) S =
  withV (some x6) fun x14 =>
    withV (some (.sl [] true)) fun x4 =>
    withV (some x14) fun x5 =>
    K .normal (ee8 x4 x5) S := nr (by kernel_rfl)
@[go_sem] theorem k66_n : k66 b .normal (ee2 x1 x2 x6 x13) S =
  condC x13 (execL (C b) 0 c70 (k72 b) (ee2 x1 x2 x6 x13) S)
    ((k49 b) .normal (ee2 x1 x2 x6 x13) S) := nr (seqN (condE (t := 13) (by kernel_rfl) (enterS (by kernel_rfl)) (execL_skip (by kernel_rfl)) rfl))
def k74 (b : Nat) : KT := seqC (fun e S => execL (C b) 0 c63 (k49 b) e S) (k49 b)
@[go_sem] theorem g75 : execL (C b) 0 c64 K (ee1 x1 x2 x6) S =
  withV (some x6) fun x12 =>
    withV (evBin .neq (tyi Try.prog 29) x12 (.int .i64 0)) fun x13 =>
    K .normal (ee2 x1 x2 x6 x13) S := nr (by kernel_rfl)
@[go_sem] theorem k74_n : k74 b .normal e S = execL (C b) 0 c64 (k66 b) e S := nr (seqN (enterS (by kernel_rfl)))
@[go_sem] theorem g76 : execL (C b) 0 c62 K (ee0 x1 x2) S =
  withV (evLoad (tyi Try.prog 26) S x2) fun x10 =>
    withN (callO (callL Try.prog hints) S 18 [x10]) S fun x11 S =>
    withV (some x11) fun x6 =>
    K .normal (ee1 x1 x2 x6) S := nr (by kernel_rfl)
@[go_sem] theorem k61_n : k61 b .normal (ee0 x1 x2) S =
  execL (C b) 0 c62 (k74 b) (ee0 x1 x2) S := nr (seqN ((enterS (by kernel_rfl)).trans (enterS (by kernel_rfl))))
@[go_sem] theorem g77 : execL (C b) 0 c1 K [(0, x0), (1, x1)] S =
  withN (boxed S (List.length S) (TI.size (tyi Try.prog 26)) x0) S fun x2 S =>
    withV (some (.sl [] true)) fun x4 =>
    withV (some (.int .i64 0)) fun x5 =>
    K .normal (ee0 x1 x2) S := nr (by kernel_rfl)
def E (b : Nat) (x0 x1 : PV) (S : Store) : RT := execL (C b) 0 code (k0 b) [(0, x0), (1, x1)] S
@[go_sem] theorem E_eq : E b x0 x1 S =
  execL (C b) 0 c1 (k61 b) [(0, x0), (1, x1)] S := nr (enterS (by kernel_rfl))
@[go_sem] theorem k0_ret8 : k0 b .ret (ee8 x4 x5) S = some ((.tup [x4, x5]), S) := nr (by kernel_rfl)
theorem call {x0 x1 : PV} {r : PV × Store} {v : PV} (h : E 0 x0 x1 [] = some r) (hv : fzPV r.2 r.1 = some v) : callL Try.prog hints 21 [x0, x1] = some v := callL_of (fn := Try.f21) (c := code) (by kernel_rfl) (by kernel_rfl) (by decide) (by kernel_rfl) (Nat.le_of_ble_eq_true (by kernel_rfl)) h hv
end
end F21
/-! ### game.Safe -/
namespace F23
section
variable (b : Nat) (K : KT) (x0 x1 x2 x3 : PV) (e : Env) (S : Store)
noncomputable def hint : Hint := { keep := [], loops := [], regs := [(0, [1]), (1, [2, 3])] }
noncomputable def C (b : Nat) : Ctx := ctxL Try.prog hints b hint
noncomputable def code : Code := Try.f23.body.get rfl
noncomputable def k0 (b : Nat) : KT := endC Try.prog Try.f23
def ee0 (x1 : PV) : Env := [(1, x1)]
def ee1 (x2 x3 : PV) : Env := [(2, x2), (3, x3)]
def c1 : Code := at0 code
def c2 : Code := at1 code
def c3 : Code := at0 c2
def c4 : Code := at1 c2
def k5 (b : Nat) : KT := seqC (fun e S => execL (C b) 0 c4 (k0 b) e S) (k0 b)
@[go_sem] theorem k5_n : k5 b .normal (ee1 x2 x3) S =
  (k0 b) .ret (ee1 x2 x3) S := nr (seqN (execL_ret (by kernel_rfl)))
def k6 (b : Nat) : KT := seqC (fun e S => execL (C b) 0 c2 (k0 b) e S) (k0 b)
@[go_sem] theorem g7 : execL (C b) 0 c3 K (ee0 x1) S =
  withV (evLoad (tyi Try.prog 26) S x1) fun x4 =>
    withN (callO (callL Try.prog hints) S 20 [x4, (.int .i64 1)]) S fun x5 S =>
    withV (extractO x5 0) fun x6 =>
    withV (extractO x5 1) fun x7 =>
    withV (some x6) fun x2 =>
    withV (some x7) fun x3 =>
    K .normal (ee1 x2 x3) S := nr (by kernel_rfl)
@[go_sem] theorem k6_n : k6 b .normal e S = execL (C b) 0 c3 (k5 b) e S := nr (seqN (enterS (by kernel_rfl)))
@[go_sem] theorem g8 : execL (C b) 0 c1 K [(0, x0)] S =
  withN (boxed S (List.length S) (TI.size (tyi Try.prog 26)) x0) S fun x1 S =>
    withV (some (.sl [] true)) fun x2 =>
    withV (some (.int .i64 0)) fun x3 =>
    K .normal (ee0 x1) S := nr (by kernel_rfl)
def E (b : Nat) (x0 : PV) (S : Store) : RT := execL (C b) 0 code (k0 b) [(0, x0)] S
@[go_sem] theorem E_eq : E b x0 S =
  execL (C b) 0 c1 (k6 b) [(0, x0)] S := nr (enterS (by kernel_rfl))
@[go_sem] theorem k0_ret1 : k0 b .ret (ee1 x2 x3) S = some ((.tup [x2, x3]), S) := nr (by kernel_rfl)
theorem call {x0 : PV} {r : PV × Store} {v : PV} (h : E 0 x0 [] = some r) (hv : fzPV r.2 r.1 = some v) : callL Try.prog hints 23 [x0] = some v := callL_of (fn := Try.f23) (c := code) (by kernel_rfl) (by kernel_rfl) (by decide) (by kernel_rfl) (Nat.le_of_ble_eq_true (by kernel_rfl)) h hv
end
end F23
end
end Go.Vs
end
