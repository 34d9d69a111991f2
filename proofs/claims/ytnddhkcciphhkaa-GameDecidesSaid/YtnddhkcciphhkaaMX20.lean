/- game.Check: what it returns. -/

import Derived.Test.YtnddhkcciphhkaaMX17
import Derived.Test.YtnddhkcciphhkaaMX19
section
set_option linter.unusedVariables false
set_option linter.unusedSimpArgs false
namespace Go.Vs
open Go Go.Proofs
theorem gc_one (e : Env) (o : Obj) : Vs.gc 1 e [o] = [o] := by
  unfold Vs.gc
  split <;> rfl
theorem wrap_down {k : Nat} (h : 0 < k) (hn : k ≤ maxLen) : IntKind.i64.wrap ((k : Int) - 1) = ((k - 1 : Nat) : Int) := by
  have := maxLen_le
  rw [IntKind.wrap_i64]; omega
theorem loop17_4 (g : Game) (hg : g.ok) (i : Nat) (hi : i < g.moves.length) (hl : (g.moves.getD i []).length ≤ maxLen) {z : PV × Store} : ∀ (m k : Nat), k + m = (g.moves.getD i []).length →
    (movesFrom g.owner.length (g.moves.getD i []) m k = true → F17.k39 0 1 .normal (F17.ee10 (.mp 0 0 0) (.int .i64 g.owner.length) .undef (.int .i64 g.owner.length) (.int .i64 i) .undef .undef .undef .undef) [.arr [g.cells] none false] = some z) → (movesFrom g.owner.length (g.moves.getD i []) m k = false → z = (.int .i64 3, [.arr [g.cells] none false])) →
    F17.L4 0 1 1 (.mp 0 0 0) (.int .i64 g.owner.length) (.int .i64 i) (.int .i64 g.owner.length) (.int .i64 i) (.sl (intRows (g.moves.getD i [])) false) (.int .i64 (g.moves.getD i []).length) (.int .i64 k) [.arr [g.cells] none false] = some z := by
  have h4 : 0 ≤ (i : Int) ∧ (i : Int) < (g.moves.length : Int) := ⟨by omega, by omega⟩
  intro m
  induction m with
  | zero =>
    intro k hk h1 h2
    have c1 : ¬ (k : Int) < ((g.moves.getD i []).length : Int) := by omega
    refine F17.L4_step ?_
    have s1 : ∀ (K : KT) (S : Store), execL (F17.C 0) 4 F17.c52 K (F17.ee9 (.mp 0 0 0) (.int .i64 g.owner.length) (.int .i64 i) (.int .i64 g.owner.length) (.int .i64 i) (.sl (intRows (g.moves.getD i [])) false) (.int .i64 (g.moves.getD i []).length) (.int .i64 k)) S = K .normal (F17.ee10 (.mp 0 0 0) (.int .i64 g.owner.length) (.int .i64 i) (.int .i64 g.owner.length) (.int .i64 i) (.sl (intRows (g.moves.getD i [])) false) (.int .i64 (g.moves.getD i []).length) (.int .i64 k) (.bool false)) S := fun K S => by
      simp only [go_sem, ↓reduceIte, Nat.reduceEqDiff, Nat.reduceBEq, Nat.reduceAdd, Nat.reduceMul, Nat.reduceSub, Nat.reduceLT, Nat.reduceLeDiff, reduceCtorEq, Int.reduceToNat, Int.reduceLE, Int.reduceLT, Int.reduceEq, c1]
    simp only [F17.B4_eq, s1, F17.k78_n, condC_false, F17.k60_exit, F17.k51_x1, F17.k48_exit, if_true, gc_one]
    exact h1 rfl
  | succ m hm =>
    intro k hk h1 h2
    have c1 : (k : Int) < ((g.moves.getD i []).length : Int) := by omega
    have w1 := wrap_succ (i := k) (n := (g.moves.getD i []).length) (by omega) hl
    have h5 : 0 ≤ (k : Int) ∧ (k : Int) < ((g.moves.getD i []).length : Int) := ⟨by omega, c1⟩
    have s1 : ∀ (K : KT) (S : Store), execL (F17.C 0) 4 F17.c52 K (F17.ee9 (.mp 0 0 0) (.int .i64 g.owner.length) (.int .i64 i) (.int .i64 g.owner.length) (.int .i64 i) (.sl (intRows (g.moves.getD i [])) false) (.int .i64 (g.moves.getD i []).length) (.int .i64 k)) S = K .normal (F17.ee10 (.mp 0 0 0) (.int .i64 g.owner.length) (.int .i64 i) (.int .i64 g.owner.length) (.int .i64 i) (.sl (intRows (g.moves.getD i [])) false) (.int .i64 (g.moves.getD i []).length) (.int .i64 k) (.bool true)) S := fun K S => by
      simp only [go_sem, ↓reduceIte, Nat.reduceEqDiff, Nat.reduceBEq, Nat.reduceAdd, Nat.reduceMul, Nat.reduceSub, Nat.reduceLT, Nat.reduceLeDiff, reduceCtorEq, Int.reduceToNat, Int.reduceLE, Int.reduceLT, Int.reduceEq, c1]
    have s2 : ∀ (K : KT), execL (F17.C 0) 5 F17.c63 K (F17.ee10 (.mp 0 0 0) (.int .i64 g.owner.length) (.int .i64 i) (.int .i64 g.owner.length) (.int .i64 i) (.sl (intRows (g.moves.getD i [])) false) (.int .i64 (g.moves.getD i []).length) (.int .i64 k) (.bool true)) [.arr [g.cells] none false] = K .normal (F17.ee6 (.mp 0 0 0) (.int .i64 g.owner.length) (.int .i64 i) (.int .i64 k) (.int .i64 ((g.moves.getD i []).getD k 0)) (.int .i64 g.owner.length) (.int .i64 i) (.sl (intRows (g.moves.getD i [])) false) (.int .i64 (g.moves.getD i []).length) (.int .i64 k)) [.arr [g.cells] none false] := fun K => by
      simp only [go_sem, ↓reduceIte, Nat.reduceEqDiff, Nat.reduceBEq, Nat.reduceAdd, Nat.reduceMul, Nat.reduceSub, Nat.reduceLT, Nat.reduceLeDiff, reduceCtorEq, Int.reduceToNat, Int.reduceLE, Int.reduceLT, Int.reduceEq, withV_any, h5, Int.toNat_natCast]
    have s3 : ∀ (K : KT), execL (F17.C 0) 5 F17.c65 K (F17.ee6 (.mp 0 0 0) (.int .i64 g.owner.length) (.int .i64 i) (.int .i64 k) (.int .i64 ((g.moves.getD i []).getD k 0)) (.int .i64 g.owner.length) (.int .i64 i) (.sl (intRows (g.moves.getD i [])) false) (.int .i64 (g.moves.getD i []).length) (.int .i64 k)) [.arr [g.cells] none false] = K .normal (F17.ee11 (.mp 0 0 0) (.int .i64 g.owner.length) (.int .i64 i) (.int .i64 g.owner.length) (.int .i64 i) (.sl (intRows (g.moves.getD i [])) false) (.int .i64 (g.moves.getD i []).length) (.int .i64 k) (.bool (moveBad g.owner.length (g.moves.getD i []) k))) [.arr [g.cells] none false] := fun K => by
      by_cases b1 : (g.moves.getD i []).getD k 0 < 0
      · have e : moveBad g.owner.length (g.moves.getD i []) k = true := by simp only [moveBad, b1, decide_true, Bool.true_or]
        rw [e]
        simp only [go_sem, ↓reduceIte, Nat.reduceEqDiff, Nat.reduceBEq, Nat.reduceAdd, Nat.reduceMul, Nat.reduceSub, Nat.reduceLT, Nat.reduceLeDiff, reduceCtorEq, Int.reduceToNat, Int.reduceLE, Int.reduceLT, Int.reduceEq, withV_any, b1]
      · by_cases b2 : (g.owner.length : Int) ≤ (g.moves.getD i []).getD k 0
        · have e : moveBad g.owner.length (g.moves.getD i []) k = true := by simp only [moveBad, b2, decide_true, Bool.true_or, Bool.or_true]
          rw [e]
          simp only [go_sem, ↓reduceIte, Nat.reduceEqDiff, Nat.reduceBEq, Nat.reduceAdd, Nat.reduceMul, Nat.reduceSub, Nat.reduceLT, Nat.reduceLeDiff, reduceCtorEq, Int.reduceToNat, Int.reduceLE, Int.reduceLT, Int.reduceEq, withV_any, b1, b2]
        · by_cases b3 : 0 < k
          · have b3' : 0 < (k : Int) := by omega
            have w2 := wrap_down b3 (by omega)
            have h6 : 0 ≤ ((k - 1 : Nat) : Int) ∧ ((k - 1 : Nat) : Int) < ((g.moves.getD i []).length : Int) := ⟨by omega, by omega⟩
            by_cases b4 : (g.moves.getD i []).getD k 0 ≤ (g.moves.getD i []).getD (k - 1) 0
            · have e : moveBad g.owner.length (g.moves.getD i []) k = true := by simp only [moveBad, b3, b4, decide_true, Bool.and_self, Bool.or_true]
              rw [e]
              simp only [go_sem, ↓reduceIte, Nat.reduceEqDiff, Nat.reduceBEq, Nat.reduceAdd, Nat.reduceMul, Nat.reduceSub, Nat.reduceLT, Nat.reduceLeDiff, reduceCtorEq, Int.reduceToNat, Int.reduceLE, Int.reduceLT, Int.reduceEq, withV_any, b1, b2, b3', w2, h4, h6, Int.toNat_natCast, b4]
            · have e : moveBad g.owner.length (g.moves.getD i []) k = false := by simp only [moveBad, b1, b2, b4, decide_false, Bool.and_false, Bool.or_self]
              rw [e]
              simp only [go_sem, ↓reduceIte, Nat.reduceEqDiff, Nat.reduceBEq, Nat.reduceAdd, Nat.reduceMul, Nat.reduceSub, Nat.reduceLT, Nat.reduceLeDiff, reduceCtorEq, Int.reduceToNat, Int.reduceLE, Int.reduceLT, Int.reduceEq, withV_any, b1, b2, b3', w2, h4, h6, Int.toNat_natCast, b4]
          · have b3' : ¬ 0 < (k : Int) := by omega
            have e : moveBad g.owner.length (g.moves.getD i []) k = false := by simp only [moveBad, b1, b2, b3, decide_false, Bool.false_and, Bool.or_self]
            rw [e]
            simp only [go_sem, ↓reduceIte, Nat.reduceEqDiff, Nat.reduceBEq, Nat.reduceAdd, Nat.reduceMul, Nat.reduceSub, Nat.reduceLT, Nat.reduceLeDiff, reduceCtorEq, Int.reduceToNat, Int.reduceLE, Int.reduceLT, Int.reduceEq, withV_any, b1, b2, b3']
    have s9 : ∀ (K : KT) (S : Store) (x : PV), execL (F17.C 0) 4 F17.c57 K (F17.ee11 (.mp 0 0 0) (.int .i64 g.owner.length) (.int .i64 i) (.int .i64 g.owner.length) (.int .i64 i) (.sl (intRows (g.moves.getD i [])) false) (.int .i64 (g.moves.getD i []).length) (.int .i64 k) x) S = K .normal (F17.ee9 (.mp 0 0 0) (.int .i64 g.owner.length) (.int .i64 i) (.int .i64 g.owner.length) (.int .i64 i) (.sl (intRows (g.moves.getD i [])) false) (.int .i64 (g.moves.getD i []).length) (.int .i64 (k + 1 : Nat))) S := fun K S x => by
      simp only [go_sem, ↓reduceIte, Nat.reduceEqDiff, Nat.reduceBEq, Nat.reduceAdd, Nat.reduceMul, Nat.reduceSub, Nat.reduceLT, Nat.reduceLeDiff, reduceCtorEq, Int.reduceToNat, Int.reduceLE, Int.reduceLT, Int.reduceEq, withV_any, w1]
    refine F17.L4_step ?_
    cases hb : moveBad g.owner.length (g.moves.getD i []) k with
    | true =>
      rw [hb] at s3
      have hz := h2 (by simp only [movesFrom, hb]; rfl)
      rw [hz]
      simp only [F17.B4_eq, s1, F17.k78_n, condC_true, F17.k60_n, s2, F17.k75_n, s3, F17.k67_n, F17.g74, withV_any, F17.k73_n, F17.k62_ret, F17.k58_ret, F17.k51_ret, F17.k48_ret, F17.k39_ret, F17.k35_ret, F17.k28_ret, F17.k25_ret, F17.k18_ret, F17.k0_ret16]
    | false =>
      rw [hb] at s3
      have hmf : movesFrom g.owner.length (g.moves.getD i []) (m + 1) k = movesFrom g.owner.length (g.moves.getD i []) m (k + 1) := by simp only [movesFrom, hb, Bool.not_false, Bool.true_and]
      rw [hmf] at h1 h2
      have := hm (k + 1) (by omega) h1 h2
      simp only [F17.B4_eq, s1, F17.k78_n, condC_true, F17.k60_n, s2, F17.k75_n, s3, F17.k67_n, condC_false, F17.k62_n, F17.k58_n, s9, F17.k51_n, gc_one]
      exact this
theorem loop17_2 (g : Game) (hg : g.ok) (hm : g.moves.length = g.owner.length) (hN : g.owner.length ≤ 400) (hl : ∀ l ∈ g.moves, l.length ≤ maxLen) : ∀ (m i : Nat), i + m = g.owner.length →
    F17.L2 0 1 (.mp 0 0 0) (.int .i64 g.owner.length) (.int .i64 g.owner.length) (.int .i64 i) [.arr [g.cells] none false] = some (.int .i64 (if g.posFrom m i = true then 0 else 3), [.arr [g.cells] none false]) := by
  have hm4 : (4000 : Nat) ≤ maxLen := by decide
  intro m
  induction m with
  | zero =>
    intro i hi
    have c1 : ¬ (i : Int) < (g.owner.length : Int) := by omega
    refine F17.L2_step ?_
    have s1 : ∀ (K : KT) (S : Store), execL (F17.C 0) 2 F17.c29 K (F17.ee14 (.mp 0 0 0) (.int .i64 g.owner.length) (.int .i64 g.owner.length) (.int .i64 i)) S = K .normal (F17.ee15 (.mp 0 0 0) (.int .i64 g.owner.length) (.int .i64 g.owner.length) (.int .i64 i) (.bool false)) S := fun K S => by
      simp only [go_sem, ↓reduceIte, Nat.reduceEqDiff, Nat.reduceBEq, Nat.reduceAdd, Nat.reduceMul, Nat.reduceSub, Nat.reduceLT, Nat.reduceLeDiff, reduceCtorEq, Int.reduceToNat, Int.reduceLE, Int.reduceLT, Int.reduceEq, c1]
    simp only [F17.B2_eq, s1, F17.k98_n, condC_false, F17.k37_exit, F17.k28_x1, gc_one, F17.k25_exit, if_true, F17.k18_n, F17.g19, withV_any, F17.k17_n, F17.k0_ret16, Game.posFrom]
  | succ m ih =>
    intro i hi
    have c1 : (i : Int) < (g.owner.length : Int) := by omega
    have w1 := wrap_succ (i := i) (n := g.owner.length) (by omega) (by omega)
    have h4 : 0 ≤ (i : Int) ∧ (i : Int) < (g.moves.length : Int) := ⟨by omega, by omega⟩
    have h5 : 0 ≤ (i : Int) ∧ (i : Int) < (g.owner.length : Int) := ⟨by omega, c1⟩
    have s1 : ∀ (K : KT) (S : Store), execL (F17.C 0) 2 F17.c29 K (F17.ee14 (.mp 0 0 0) (.int .i64 g.owner.length) (.int .i64 g.owner.length) (.int .i64 i)) S = K .normal (F17.ee15 (.mp 0 0 0) (.int .i64 g.owner.length) (.int .i64 g.owner.length) (.int .i64 i) (.bool true)) S := fun K S => by
      simp only [go_sem, ↓reduceIte, Nat.reduceEqDiff, Nat.reduceBEq, Nat.reduceAdd, Nat.reduceMul, Nat.reduceSub, Nat.reduceLT, Nat.reduceLeDiff, reduceCtorEq, Int.reduceToNat, Int.reduceLE, Int.reduceLT, Int.reduceEq, c1]
    have s2 : ∀ (K : KT) (S : Store), execL (F17.C 0) 3 F17.c40 K (F17.ee15 (.mp 0 0 0) (.int .i64 g.owner.length) (.int .i64 g.owner.length) (.int .i64 i) (.bool true)) S = K .normal (F17.ee7 (.mp 0 0 0) (.int .i64 g.owner.length) (.int .i64 i) (.int .i64 g.owner.length) (.int .i64 i)) S := fun K S => by
      simp only [go_sem, ↓reduceIte, Nat.reduceEqDiff, Nat.reduceBEq, Nat.reduceAdd, Nat.reduceMul, Nat.reduceSub, Nat.reduceLT, Nat.reduceLeDiff, reduceCtorEq, Int.reduceToNat, Int.reduceLE, Int.reduceLT, Int.reduceEq, withV_any]
    have s3 : ∀ (K : KT), execL (F17.C 0) 3 F17.c86 K (F17.ee7 (.mp 0 0 0) (.int .i64 g.owner.length) (.int .i64 i) (.int .i64 g.owner.length) (.int .i64 i)) [.arr [g.cells] none false] = K .normal (F17.ee8 (.mp 0 0 0) (.int .i64 g.owner.length) (.int .i64 i) (.int .i64 g.owner.length) (.int .i64 i) (.bool (!(decide (g.owner.getD i 0 = 0) || decide (g.owner.getD i 0 = 1))))) [.arr [g.cells] none false] := fun K => by
      by_cases b1 : g.owner.getD i 0 = 0
      · simp only [go_sem, ↓reduceIte, Nat.reduceEqDiff, Nat.reduceBEq, Nat.reduceAdd, Nat.reduceMul, Nat.reduceSub, Nat.reduceLT, Nat.reduceLeDiff, reduceCtorEq, Int.reduceToNat, Int.reduceLE, Int.reduceLT, Int.reduceEq, withV_any, h5, Int.toNat_natCast, b1, decide_true, Bool.true_or, Bool.not_true]
      · by_cases b2 : g.owner.getD i 0 = 1
        · simp only [go_sem, ↓reduceIte, Nat.reduceEqDiff, Nat.reduceBEq, Nat.reduceAdd, Nat.reduceMul, Nat.reduceSub, Nat.reduceLT, Nat.reduceLeDiff, reduceCtorEq, Int.reduceToNat, Int.reduceLE, Int.reduceLT, Int.reduceEq, withV_any, h5, Int.toNat_natCast, b1, b2, decide_true, decide_false, Bool.or_true, Bool.not_true, Bool.not_false]
        · simp only [go_sem, ↓reduceIte, Nat.reduceEqDiff, Nat.reduceBEq, Nat.reduceAdd, Nat.reduceMul, Nat.reduceSub, Nat.reduceLT, Nat.reduceLeDiff, reduceCtorEq, Int.reduceToNat, Int.reduceLE, Int.reduceLT, Int.reduceEq, withV_any, h5, Int.toNat_natCast, b1, b2, decide_false, Bool.or_self, Bool.not_false]
    have hpos : g.posFrom (m + 1) i = (g.posOK i && g.posFrom m (i + 1)) := rfl
    refine F17.L2_step ?_
    cases hb : (decide (g.owner.getD i 0 = 0) || decide (g.owner.getD i 0 = 1)) with
    | false =>
      rw [hb] at s3
      have e : g.posFrom (m + 1) i = false := by rw [hpos, Game.posOK, hb]; rfl
      rw [e, if_neg (by simp)]
      simp only [F17.B2_eq, s1, F17.k98_n, condC_true, F17.k37_n, s2, F17.k85_n, s3, Bool.not_false, F17.k88_n, condC_true, F17.g95, withV_any, F17.k94_n, F17.k83_ret, F17.k39_ret, F17.k35_ret, F17.k28_ret, F17.k25_ret, F17.k18_ret, F17.k0_ret16]
    | true =>
      rw [hb] at s3
      have e : g.posFrom (m + 1) i = (movesOK g.owner.length (g.moves.getD i []) && g.posFrom m (i + 1)) := by rw [hpos, Game.posOK, hb, Bool.true_and]
      rw [e]
      have s4 : ∀ (K : KT), execL (F17.C 0) 3 F17.c44 K (F17.ee8 (.mp 0 0 0) (.int .i64 g.owner.length) (.int .i64 i) (.int .i64 g.owner.length) (.int .i64 i) (.bool false)) [.arr [g.cells] none false] = K .normal (F17.ee9 (.mp 0 0 0) (.int .i64 g.owner.length) (.int .i64 i) (.int .i64 g.owner.length) (.int .i64 i) (.sl (intRows (g.moves.getD i [])) false) (.int .i64 (g.moves.getD i []).length) (.int .i64 (0 : Nat))) [.arr [g.cells] none false] := fun K => by
        simp only [go_sem, ↓reduceIte, Nat.reduceEqDiff, Nat.reduceBEq, Nat.reduceAdd, Nat.reduceMul, Nat.reduceSub, Nat.reduceLT, Nat.reduceLeDiff, reduceCtorEq, Int.reduceToNat, Int.reduceLE, Int.reduceLT, Int.reduceEq, withV_any, h4, Int.toNat_natCast, Int.natCast_zero]
      have s5 : ∀ (K : KT) (S : Store), execL (F17.C 0) 2 F17.c34 K (F17.ee10 (.mp 0 0 0) (.int .i64 g.owner.length) .undef (.int .i64 g.owner.length) (.int .i64 i) .undef .undef .undef .undef) S = K .normal (F17.ee14 (.mp 0 0 0) (.int .i64 g.owner.length) (.int .i64 g.owner.length) (.int .i64 (i + 1 : Nat))) S := fun K S => by
        simp only [go_sem, ↓reduceIte, Nat.reduceEqDiff, Nat.reduceBEq, Nat.reduceAdd, Nat.reduceMul, Nat.reduceSub, Nat.reduceLT, Nat.reduceLeDiff, reduceCtorEq, Int.reduceToNat, Int.reduceLE, Int.reduceLT, Int.reduceEq, withV_any, w1]
      have key := loop17_4 g hg i (by omega) (hl _ (paths_mem (by omega))) (z := (.int .i64 (if (movesOK g.owner.length (g.moves.getD i []) && g.posFrom m (i + 1)) = true then 0 else 3), [.arr [g.cells] none false])) (g.moves.getD i []).length 0 (by omega) (fun ht => by
          have ht' : movesOK g.owner.length (g.moves.getD i []) = true := ht
          simp only [F17.k39_n, F17.k35_n, s5, F17.k28_n, gc_one, ht', Bool.true_and]
          exact ih (i + 1) (by omega)) (fun hf => by
          have hf' : movesOK g.owner.length (g.moves.getD i []) = false := hf
          rw [hf', Bool.false_and]; rfl)
      simp only [F17.B2_eq, s1, F17.k98_n, condC_true, F17.k37_n, s2, F17.k85_n, s3, Bool.not_true, F17.k88_n, condC_false, F17.k83_n, s4, F17.k46_n, List.length_cons, List.length_nil, Nat.zero_add]
      exact key
theorem call17 (g : Game) (hg : g.ok) : callL Try.prog hints 17 [.agg g.cells] = some (.int .i64 g.check) := by
  refine F17.call (r := (.int .i64 g.check, [.arr [g.cells] none false])) ?_ rfl
  have s0 : ∀ K : KT, execL (F17.C 0) 0 F17.c1 K [(0, .agg g.cells)] [] = K .normal (F17.ee0 (.mp 0 0 0)) [.arr [g.cells] none false] := fun K => by
    simp only [go_sem, ↓reduceIte, Nat.reduceEqDiff, Nat.reduceBEq, Nat.reduceAdd, Nat.reduceMul, Nat.reduceSub, Nat.reduceLT, Nat.reduceLeDiff, reduceCtorEq, Int.reduceToNat, Int.reduceLE, Int.reduceLT, Int.reduceEq, withV_any]
  have s1 : ∀ K : KT, execL (F17.C 0) 0 F17.c131 K (F17.ee1 (.mp 0 0 0) (.int .i64 0)) [.arr [g.cells] none false] = K .normal (F17.ee4 (.mp 0 0 0) (.int .i64 0) (.sl (pathRows g.moves) false) (.int .i64 g.moves.length) (.int .i64 (0 : Nat))) [.arr [g.cells] none false] := fun K => by
    simp only [go_sem, ↓reduceIte, Nat.reduceEqDiff, Nat.reduceBEq, Nat.reduceAdd, Nat.reduceMul, Nat.reduceSub, Nat.reduceLT, Nat.reduceLeDiff, reduceCtorEq, Int.reduceToNat, Int.reduceLE, Int.reduceLT, Int.reduceEq, withV_any, Game.drop1, Vs.part23, Int.natCast_zero]
  have key := sum17 g hg (z := (.int .i64 g.check, [.arr [g.cells] none false])) g.moves.length 0 (by omega) 0 (by
    rw [List.drop_zero]
    have s2 : ∀ K : KT, execL (F17.C 0) 0 F17.c7 K (F17.ee5 (.mp 0 0 0) (.int .i64 (sumLens 0 g.moves)) .undef .undef .undef .undef) [.arr [g.cells] none false] = K .normal (F17.ee3 (.mp 0 0 0) (.int .i64 (sumLens 0 g.moves)) (.int .i64 g.owner.length)) [.arr [g.cells] none false] := fun K => by
      simp only [go_sem, ↓reduceIte, Nat.reduceEqDiff, Nat.reduceBEq, Nat.reduceAdd, Nat.reduceMul, Nat.reduceSub, Nat.reduceLT, Nat.reduceLeDiff, reduceCtorEq, Int.reduceToNat, Int.reduceLE, Int.reduceLT, Int.reduceEq, withV_any]
    by_cases big : 400 < g.owner.length ∨ 400 < g.moves.length ∨ 400 < g.goal.length ∨ 4000 < sumLens 0 g.moves
    · have s3 : ∀ K : KT, execL (F17.C 0) 0 F17.c117 K (F17.ee3 (.mp 0 0 0) (.int .i64 (sumLens 0 g.moves)) (.int .i64 g.owner.length)) [.arr [g.cells] none false] = K .normal (F17.ee12 (.mp 0 0 0) (.int .i64 g.owner.length) (.bool true)) [.arr [g.cells] none false] := fun K => by
        by_cases b1 : (400 : Int) < (g.owner.length : Int)
        · simp only [go_sem, ↓reduceIte, Nat.reduceEqDiff, Nat.reduceBEq, Nat.reduceAdd, Nat.reduceMul, Nat.reduceSub, Nat.reduceLT, Nat.reduceLeDiff, reduceCtorEq, Int.reduceToNat, Int.reduceLE, Int.reduceLT, Int.reduceEq, withV_any, b1]
        · by_cases b2 : (400 : Int) < (g.moves.length : Int)
          · simp only [go_sem, ↓reduceIte, Nat.reduceEqDiff, Nat.reduceBEq, Nat.reduceAdd, Nat.reduceMul, Nat.reduceSub, Nat.reduceLT, Nat.reduceLeDiff, reduceCtorEq, Int.reduceToNat, Int.reduceLE, Int.reduceLT, Int.reduceEq, withV_any, b1, Game.drop1, Vs.part23, b2]
          · by_cases b3 : (400 : Int) < (g.goal.length : Int)
            · simp only [go_sem, ↓reduceIte, Nat.reduceEqDiff, Nat.reduceBEq, Nat.reduceAdd, Nat.reduceMul, Nat.reduceSub, Nat.reduceLT, Nat.reduceLeDiff, reduceCtorEq, Int.reduceToNat, Int.reduceLE, Int.reduceLT, Int.reduceEq, withV_any, b1, Game.drop1, Vs.part23, b2, Game.drop2, Vs.part24, b3]
            · have b4 : (4000 : Int) < sumLens 0 g.moves := by omega
              simp only [go_sem, ↓reduceIte, Nat.reduceEqDiff, Nat.reduceBEq, Nat.reduceAdd, Nat.reduceMul, Nat.reduceSub, Nat.reduceLT, Nat.reduceLeDiff, reduceCtorEq, Int.reduceToNat, Int.reduceLE, Int.reduceLT, Int.reduceEq, withV_any, b1, Game.drop1, Vs.part23, b2, Game.drop2, Vs.part24, b3, b4]
      have e : g.check = 2 := by unfold Game.check; rw [if_pos big]
      rw [e]
      simp only [F17.k128_n, s2, F17.k116_n, s3, F17.k119_n, condC_true, F17.g126, withV_any, F17.k125_n, F17.k104_ret, F17.k0_ret16]
    · have n1 : ¬ (400 : Int) < (g.owner.length : Int) := by omega
      have n2 : ¬ (400 : Int) < (g.moves.length : Int) := by omega
      have n3 : ¬ (400 : Int) < (g.goal.length : Int) := by omega
      have n4 : ¬ (4000 : Int) < sumLens 0 g.moves := by omega
      have s3 : ∀ K : KT, execL (F17.C 0) 0 F17.c117 K (F17.ee3 (.mp 0 0 0) (.int .i64 (sumLens 0 g.moves)) (.int .i64 g.owner.length)) [.arr [g.cells] none false] = K .normal (F17.ee12 (.mp 0 0 0) (.int .i64 g.owner.length) (.bool false)) [.arr [g.cells] none false] := fun K => by
        simp only [go_sem, ↓reduceIte, Nat.reduceEqDiff, Nat.reduceBEq, Nat.reduceAdd, Nat.reduceMul, Nat.reduceSub, Nat.reduceLT, Nat.reduceLeDiff, reduceCtorEq, Int.reduceToNat, Int.reduceLE, Int.reduceLT, Int.reduceEq, withV_any, n1, Game.drop1, Vs.part23, n2, Game.drop2, Vs.part24, n3, n4]
      by_cases bad : g.moves.length ≠ g.owner.length ∨ g.goal.length ≠ g.owner.length
      · have s4 : ∀ K : KT, execL (F17.C 0) 0 F17.c105 K (F17.ee12 (.mp 0 0 0) (.int .i64 g.owner.length) (.bool false)) [.arr [g.cells] none false] = K .normal (F17.ee13 (.mp 0 0 0) (.int .i64 g.owner.length) (.bool true)) [.arr [g.cells] none false] := fun K => by
          by_cases b1 : (g.moves.length : Int) = (g.owner.length : Int)
          · have b2 : ¬ (g.goal.length : Int) = (g.owner.length : Int) := by omega
            simp only [go_sem, ↓reduceIte, Nat.reduceEqDiff, Nat.reduceBEq, Nat.reduceAdd, Nat.reduceMul, Nat.reduceSub, Nat.reduceLT, Nat.reduceLeDiff, reduceCtorEq, Int.reduceToNat, Int.reduceLE, Int.reduceLT, Int.reduceEq, withV_any, Game.drop1, Vs.part23, b1, Game.drop2, Vs.part24, b2, decide_true, decide_false, Bool.not_true, Bool.not_false]
          · simp only [go_sem, ↓reduceIte, Nat.reduceEqDiff, Nat.reduceBEq, Nat.reduceAdd, Nat.reduceMul, Nat.reduceSub, Nat.reduceLT, Nat.reduceLeDiff, reduceCtorEq, Int.reduceToNat, Int.reduceLE, Int.reduceLT, Int.reduceEq, withV_any, Game.drop1, Vs.part23, b1, decide_false, Bool.not_false]
        have e : g.check = 3 := by unfold Game.check; rw [if_neg big, if_pos bad]
        rw [e]
        simp only [F17.k128_n, s2, F17.k116_n, s3, F17.k119_n, condC_false, F17.k104_n, s4, F17.k107_n, condC_true, F17.g114, withV_any, F17.k113_n, F17.k20_ret, F17.k0_ret16]
      · have b1 : (g.moves.length : Int) = (g.owner.length : Int) := by omega
        have b2 : (g.goal.length : Int) = (g.owner.length : Int) := by omega
        have s4 : ∀ K : KT, execL (F17.C 0) 0 F17.c105 K (F17.ee12 (.mp 0 0 0) (.int .i64 g.owner.length) (.bool false)) [.arr [g.cells] none false] = K .normal (F17.ee13 (.mp 0 0 0) (.int .i64 g.owner.length) (.bool false)) [.arr [g.cells] none false] := fun K => by
          simp only [go_sem, ↓reduceIte, Nat.reduceEqDiff, Nat.reduceBEq, Nat.reduceAdd, Nat.reduceMul, Nat.reduceSub, Nat.reduceLT, Nat.reduceLeDiff, reduceCtorEq, Int.reduceToNat, Int.reduceLE, Int.reduceLT, Int.reduceEq, withV_any, Game.drop1, Vs.part23, b1, Game.drop2, Vs.part24, b2, decide_true, Bool.not_true]
        have e : g.check = (if g.posFrom g.owner.length 0 = true then 0 else 3) := by unfold Game.check; rw [if_neg big, if_neg bad]
        rw [e]
        have l2 := loop17_2 g hg (by omega) (by omega) hg.each g.owner.length 0 (by omega)
        simp only [Int.natCast_zero] at l2
        simp only [F17.k128_n, s2, F17.k116_n, s3, F17.k119_n, condC_false, F17.k104_n, s4, F17.k107_n, F17.k20_n, F17.g103, withV_any, F17.k23_n, List.length_cons, List.length_nil, Nat.zero_add]
        exact l2)
  simp only [F17.E_eq, s0, F17.k161_n, F17.g162, withV_any, F17.k130_n, s1, F17.k133_n, List.length_cons, List.length_nil, Nat.zero_add]
  exact key
end Go.Vs
end
/- The reference's Check: it returns what game.Check returns. -/
section
set_option linter.unusedVariables false
set_option linter.unusedSimpArgs false
namespace Go.Vs
open Go Go.Proofs
theorem loop18_4 (g : Game) (hg : g.ok) (i : Nat) (hi : i < g.moves.length) (hl : (g.moves.getD i []).length ≤ maxLen) {z : PV × Store} : ∀ (m k : Nat), k + m = (g.moves.getD i []).length →
    (movesFrom g.owner.length (g.moves.getD i []) m k = true → F18.k37 0 1 .normal (F18.ee8 (.mp 0 0 0) (.int .i64 g.owner.length) (.int .i64 i) .undef .undef) [.arr [g.cells] none false] = some z) → (movesFrom g.owner.length (g.moves.getD i []) m k = false → z = (.int .i64 3, [.arr [g.cells] none false])) →
    F18.L4 0 1 1 (.mp 0 0 0) (.int .i64 g.owner.length) (.int .i64 i) (.int .i64 k) [.arr [g.cells] none false] = some z := by
  have h4 : 0 ≤ (i : Int) ∧ (i : Int) < (g.moves.length : Int) := ⟨by omega, by omega⟩
  intro m
  induction m with
  | zero =>
    intro k hk h1 h2
    have c1 : ¬ (k : Int) < ((g.moves.getD i []).length : Int) := by omega
    refine F18.L4_step ?_
    have s1 : ∀ (K : KT), execL (F18.C 0) 4 F18.c72 K (F18.ee6 (.mp 0 0 0) (.int .i64 g.owner.length) (.int .i64 i) (.int .i64 k)) [.arr [g.cells] none false] = K .normal (F18.ee8 (.mp 0 0 0) (.int .i64 g.owner.length) (.int .i64 i) (.int .i64 k) (.bool false)) [.arr [g.cells] none false] := fun K => by
      simp only [go_sem, ↓reduceIte, Nat.reduceEqDiff, Nat.reduceBEq, Nat.reduceAdd, Nat.reduceMul, Nat.reduceSub, Nat.reduceLT, Nat.reduceLeDiff, reduceCtorEq, Int.reduceToNat, Int.reduceLE, Int.reduceLT, Int.reduceEq, withV_any, Game.drop1, Vs.part23, h4, Int.toNat_natCast, c1]
    simp only [F18.B4_eq, s1, F18.k74_n, condC_false, F18.k54_exit, F18.k47_x1, F18.k44_exit, if_true, gc_one]
    exact h1 rfl
  | succ m hm =>
    intro k hk h1 h2
    have c1 : (k : Int) < ((g.moves.getD i []).length : Int) := by omega
    have w1 := wrap_succ (i := k) (n := (g.moves.getD i []).length) (by omega) hl
    have h5 : 0 ≤ (k : Int) ∧ (k : Int) < ((g.moves.getD i []).length : Int) := ⟨by omega, c1⟩
    have s1 : ∀ (K : KT), execL (F18.C 0) 4 F18.c72 K (F18.ee6 (.mp 0 0 0) (.int .i64 g.owner.length) (.int .i64 i) (.int .i64 k)) [.arr [g.cells] none false] = K .normal (F18.ee8 (.mp 0 0 0) (.int .i64 g.owner.length) (.int .i64 i) (.int .i64 k) (.bool true)) [.arr [g.cells] none false] := fun K => by
      simp only [go_sem, ↓reduceIte, Nat.reduceEqDiff, Nat.reduceBEq, Nat.reduceAdd, Nat.reduceMul, Nat.reduceSub, Nat.reduceLT, Nat.reduceLeDiff, reduceCtorEq, Int.reduceToNat, Int.reduceLE, Int.reduceLT, Int.reduceEq, withV_any, Game.drop1, Vs.part23, h4, Int.toNat_natCast, c1]
    have s2 : ∀ (K : KT), execL (F18.C 0) 5 F18.c57 K (F18.ee8 (.mp 0 0 0) (.int .i64 g.owner.length) (.int .i64 i) (.int .i64 k) (.bool true)) [.arr [g.cells] none false] = K .normal (F18.ee7 (.mp 0 0 0) (.int .i64 g.owner.length) (.int .i64 i) (.int .i64 k) (.int .i64 ((g.moves.getD i []).getD k 0))) [.arr [g.cells] none false] := fun K => by
      simp only [go_sem, ↓reduceIte, Nat.reduceEqDiff, Nat.reduceBEq, Nat.reduceAdd, Nat.reduceMul, Nat.reduceSub, Nat.reduceLT, Nat.reduceLeDiff, reduceCtorEq, Int.reduceToNat, Int.reduceLE, Int.reduceLT, Int.reduceEq, withV_any, Game.drop1, Vs.part23, h4, h5, Int.toNat_natCast]
    have s3 : ∀ (K : KT), execL (F18.C 0) 5 F18.c59 K (F18.ee7 (.mp 0 0 0) (.int .i64 g.owner.length) (.int .i64 i) (.int .i64 k) (.int .i64 ((g.moves.getD i []).getD k 0))) [.arr [g.cells] none false] = K .normal (F18.ee9 (.mp 0 0 0) (.int .i64 g.owner.length) (.int .i64 i) (.int .i64 k) (.bool (moveBad g.owner.length (g.moves.getD i []) k))) [.arr [g.cells] none false] := fun K => by
      by_cases b1 : (g.moves.getD i []).getD k 0 < 0
      · have e : moveBad g.owner.length (g.moves.getD i []) k = true := by simp only [moveBad, b1, decide_true, Bool.true_or]
        rw [e]
        simp only [go_sem, ↓reduceIte, Nat.reduceEqDiff, Nat.reduceBEq, Nat.reduceAdd, Nat.reduceMul, Nat.reduceSub, Nat.reduceLT, Nat.reduceLeDiff, reduceCtorEq, Int.reduceToNat, Int.reduceLE, Int.reduceLT, Int.reduceEq, withV_any, b1]
      · by_cases b2 : (g.owner.length : Int) ≤ (g.moves.getD i []).getD k 0
        · have e : moveBad g.owner.length (g.moves.getD i []) k = true := by simp only [moveBad, b2, decide_true, Bool.true_or, Bool.or_true]
          rw [e]
          simp only [go_sem, ↓reduceIte, Nat.reduceEqDiff, Nat.reduceBEq, Nat.reduceAdd, Nat.reduceMul, Nat.reduceSub, Nat.reduceLT, Nat.reduceLeDiff, reduceCtorEq, Int.reduceToNat, Int.reduceLE, Int.reduceLT, Int.reduceEq, withV_any, b1, b2]
        · by_cases b3 : 0 < k
          · have b3' : 0 < (k : Int) := by omega
            have w2 := wrap_down b3 (by omega)
            have h6 : 0 ≤ ((k - 1 : Nat) : Int) ∧ ((k - 1 : Nat) : Int) < ((g.moves.getD i []).length : Int) := ⟨by omega, by omega⟩
            by_cases b4 : (g.moves.getD i []).getD k 0 ≤ (g.moves.getD i []).getD (k - 1) 0
            · have e : moveBad g.owner.length (g.moves.getD i []) k = true := by simp only [moveBad, b3, b4, decide_true, Bool.and_self, Bool.or_true]
              rw [e]
              simp only [go_sem, ↓reduceIte, Nat.reduceEqDiff, Nat.reduceBEq, Nat.reduceAdd, Nat.reduceMul, Nat.reduceSub, Nat.reduceLT, Nat.reduceLeDiff, reduceCtorEq, Int.reduceToNat, Int.reduceLE, Int.reduceLT, Int.reduceEq, withV_any, b1, b2, b3', w2, h4, h6, Int.toNat_natCast, b4]
            · have e : moveBad g.owner.length (g.moves.getD i []) k = false := by simp only [moveBad, b1, b2, b4, decide_false, Bool.and_false, Bool.or_self]
              rw [e]
              simp only [go_sem, ↓reduceIte, Nat.reduceEqDiff, Nat.reduceBEq, Nat.reduceAdd, Nat.reduceMul, Nat.reduceSub, Nat.reduceLT, Nat.reduceLeDiff, reduceCtorEq, Int.reduceToNat, Int.reduceLE, Int.reduceLT, Int.reduceEq, withV_any, b1, b2, b3', w2, h4, h6, Int.toNat_natCast, b4]
          · have b3' : ¬ 0 < (k : Int) := by omega
            have e : moveBad g.owner.length (g.moves.getD i []) k = false := by simp only [moveBad, b1, b2, b3, decide_false, Bool.false_and, Bool.or_self]
            rw [e]
            simp only [go_sem, ↓reduceIte, Nat.reduceEqDiff, Nat.reduceBEq, Nat.reduceAdd, Nat.reduceMul, Nat.reduceSub, Nat.reduceLT, Nat.reduceLeDiff, reduceCtorEq, Int.reduceToNat, Int.reduceLE, Int.reduceLT, Int.reduceEq, withV_any, b1, b2, b3']
    have s9 : ∀ (K : KT) (S : Store) (x : PV), execL (F18.C 0) 4 F18.c51 K (F18.ee9 (.mp 0 0 0) (.int .i64 g.owner.length) (.int .i64 i) (.int .i64 k) x) S = K .normal (F18.ee6 (.mp 0 0 0) (.int .i64 g.owner.length) (.int .i64 i) (.int .i64 (k + 1 : Nat))) S := fun K S x => by
      simp only [go_sem, ↓reduceIte, Nat.reduceEqDiff, Nat.reduceBEq, Nat.reduceAdd, Nat.reduceMul, Nat.reduceSub, Nat.reduceLT, Nat.reduceLeDiff, reduceCtorEq, Int.reduceToNat, Int.reduceLE, Int.reduceLT, Int.reduceEq, withV_any, w1]
    refine F18.L4_step ?_
    cases hb : moveBad g.owner.length (g.moves.getD i []) k with
    | true =>
      rw [hb] at s3
      have hz := h2 (by simp only [movesFrom, hb]; rfl)
      rw [hz]
      simp only [F18.B4_eq, s1, F18.k74_n, condC_true, F18.k54_n, s2, F18.k69_n, s3, F18.k61_n, F18.g68, withV_any, F18.k67_n, F18.k56_ret, F18.k52_ret, F18.k47_ret, F18.k44_ret, F18.k37_ret, F18.k33_ret, F18.k28_ret, F18.k25_ret, F18.k18_ret, F18.k0_ret14]
    | false =>
      rw [hb] at s3
      have hmf : movesFrom g.owner.length (g.moves.getD i []) (m + 1) k = movesFrom g.owner.length (g.moves.getD i []) m (k + 1) := by simp only [movesFrom, hb, Bool.not_false, Bool.true_and]
      rw [hmf] at h1 h2
      have := hm (k + 1) (by omega) h1 h2
      simp only [F18.B4_eq, s1, F18.k74_n, condC_true, F18.k54_n, s2, F18.k69_n, s3, F18.k61_n, condC_false, F18.k56_n, F18.k52_n, s9, F18.k47_n, gc_one]
      exact this
theorem loop18_2 (g : Game) (hg : g.ok) (hm : g.moves.length = g.owner.length) (hN : g.owner.length ≤ 400) (hl : ∀ l ∈ g.moves, l.length ≤ maxLen) : ∀ (m i : Nat), i + m = g.owner.length →
    F18.L2 0 1 (.mp 0 0 0) (.int .i64 g.owner.length) (.int .i64 i) [.arr [g.cells] none false] = some (.int .i64 (if g.posFrom m i = true then 0 else 3), [.arr [g.cells] none false]) := by
  have hm4 : (4000 : Nat) ≤ maxLen := by decide
  intro m
  induction m with
  | zero =>
    intro i hi
    have c1 : ¬ (i : Int) < (g.owner.length : Int) := by omega
    refine F18.L2_step ?_
    have s1 : ∀ (K : KT) (S : Store), execL (F18.C 0) 2 F18.c92 K (F18.ee5 (.mp 0 0 0) (.int .i64 g.owner.length) (.int .i64 i)) S = K .normal (F18.ee10 (.mp 0 0 0) (.int .i64 g.owner.length) (.int .i64 i) (.bool false)) S := fun K S => by
      simp only [go_sem, ↓reduceIte, Nat.reduceEqDiff, Nat.reduceBEq, Nat.reduceAdd, Nat.reduceMul, Nat.reduceSub, Nat.reduceLT, Nat.reduceLeDiff, reduceCtorEq, Int.reduceToNat, Int.reduceLE, Int.reduceLT, Int.reduceEq, withV_any, c1]
    simp only [F18.B2_eq, s1, F18.k94_n, condC_false, F18.k35_exit, F18.k28_x1, gc_one, F18.k25_exit, if_true, F18.k18_n, F18.g19, withV_any, F18.k17_n, F18.k0_ret14, Game.posFrom]
  | succ m ih =>
    intro i hi
    have c1 : (i : Int) < (g.owner.length : Int) := by omega
    have w1 := wrap_succ (i := i) (n := g.owner.length) (by omega) (by omega)
    have h5 : 0 ≤ (i : Int) ∧ (i : Int) < (g.owner.length : Int) := ⟨by omega, c1⟩
    have s1 : ∀ (K : KT) (S : Store), execL (F18.C 0) 2 F18.c92 K (F18.ee5 (.mp 0 0 0) (.int .i64 g.owner.length) (.int .i64 i)) S = K .normal (F18.ee10 (.mp 0 0 0) (.int .i64 g.owner.length) (.int .i64 i) (.bool true)) S := fun K S => by
      simp only [go_sem, ↓reduceIte, Nat.reduceEqDiff, Nat.reduceBEq, Nat.reduceAdd, Nat.reduceMul, Nat.reduceSub, Nat.reduceLT, Nat.reduceLeDiff, reduceCtorEq, Int.reduceToNat, Int.reduceLE, Int.reduceLT, Int.reduceEq, withV_any, c1]
    have s3 : ∀ (K : KT), execL (F18.C 0) 3 F18.c81 K (F18.ee10 (.mp 0 0 0) (.int .i64 g.owner.length) (.int .i64 i) (.bool true)) [.arr [g.cells] none false] = K .normal (F18.ee11 (.mp 0 0 0) (.int .i64 g.owner.length) (.int .i64 i) (.bool (!(decide (g.owner.getD i 0 = 0) || decide (g.owner.getD i 0 = 1))))) [.arr [g.cells] none false] := fun K => by
      by_cases b1 : g.owner.getD i 0 = 0
      · simp only [go_sem, ↓reduceIte, Nat.reduceEqDiff, Nat.reduceBEq, Nat.reduceAdd, Nat.reduceMul, Nat.reduceSub, Nat.reduceLT, Nat.reduceLeDiff, reduceCtorEq, Int.reduceToNat, Int.reduceLE, Int.reduceLT, Int.reduceEq, withV_any, h5, Int.toNat_natCast, b1, decide_true, Bool.true_or, Bool.not_true]
      · by_cases b2 : g.owner.getD i 0 = 1
        · simp only [go_sem, ↓reduceIte, Nat.reduceEqDiff, Nat.reduceBEq, Nat.reduceAdd, Nat.reduceMul, Nat.reduceSub, Nat.reduceLT, Nat.reduceLeDiff, reduceCtorEq, Int.reduceToNat, Int.reduceLE, Int.reduceLT, Int.reduceEq, withV_any, h5, Int.toNat_natCast, b1, b2, decide_true, decide_false, Bool.or_true, Bool.not_true, Bool.not_false]
        · simp only [go_sem, ↓reduceIte, Nat.reduceEqDiff, Nat.reduceBEq, Nat.reduceAdd, Nat.reduceMul, Nat.reduceSub, Nat.reduceLT, Nat.reduceLeDiff, reduceCtorEq, Int.reduceToNat, Int.reduceLE, Int.reduceLT, Int.reduceEq, withV_any, h5, Int.toNat_natCast, b1, b2, decide_false, Bool.or_self, Bool.not_false]
    have hpos : g.posFrom (m + 1) i = (g.posOK i && g.posFrom m (i + 1)) := rfl
    refine F18.L2_step ?_
    cases hb : (decide (g.owner.getD i 0 = 0) || decide (g.owner.getD i 0 = 1)) with
    | false =>
      rw [hb] at s3
      have e : g.posFrom (m + 1) i = false := by rw [hpos, Game.posOK, hb]; rfl
      rw [e, if_neg (by simp)]
      simp only [F18.B2_eq, s1, F18.k94_n, condC_true, F18.k35_n, s3, Bool.not_false, F18.k83_n, condC_true, F18.g90, withV_any, F18.k89_n, F18.k79_ret, F18.k37_ret, F18.k33_ret, F18.k28_ret, F18.k25_ret, F18.k18_ret, F18.k0_ret14]
    | true =>
      rw [hb] at s3
      have e : g.posFrom (m + 1) i = (movesOK g.owner.length (g.moves.getD i []) && g.posFrom m (i + 1)) := by rw [hpos, Game.posOK, hb, Bool.true_and]
      rw [e]
      have s5 : ∀ (K : KT) (S : Store), execL (F18.C 0) 2 F18.c32 K (F18.ee8 (.mp 0 0 0) (.int .i64 g.owner.length) (.int .i64 i) .undef .undef) S = K .normal (F18.ee5 (.mp 0 0 0) (.int .i64 g.owner.length) (.int .i64 (i + 1 : Nat))) S := fun K S => by
        simp only [go_sem, ↓reduceIte, Nat.reduceEqDiff, Nat.reduceBEq, Nat.reduceAdd, Nat.reduceMul, Nat.reduceSub, Nat.reduceLT, Nat.reduceLeDiff, reduceCtorEq, Int.reduceToNat, Int.reduceLE, Int.reduceLT, Int.reduceEq, withV_any, w1]
      have key := loop18_4 g hg i (by omega) (hl _ (paths_mem (by omega))) (z := (.int .i64 (if (movesOK g.owner.length (g.moves.getD i []) && g.posFrom m (i + 1)) = true then 0 else 3), [.arr [g.cells] none false])) (g.moves.getD i []).length 0 (by omega) (fun ht => by
          have ht' : movesOK g.owner.length (g.moves.getD i []) = true := ht
          simp only [F18.k37_n, F18.k33_n, s5, F18.k28_n, gc_one, ht', Bool.true_and]
          exact ih (i + 1) (by omega)) (fun hf => by
          have hf' : movesOK g.owner.length (g.moves.getD i []) = false := hf
          rw [hf', Bool.false_and]; rfl)
      simp only [Int.natCast_zero] at key
      simp only [F18.B2_eq, s1, F18.k94_n, condC_true, F18.k35_n, s3, Bool.not_true, F18.k83_n, condC_false, F18.k79_n, F18.g80, withV_any, F18.k42_n, List.length_cons, List.length_nil, Nat.zero_add]
      exact key
theorem sum18 (g : Game) (hg : g.ok) {z : PV × Store} : ∀ (m i : Nat), i + m = g.moves.length → ∀ a : Int,
    F18.k112 0 .normal (F18.ee4 (.mp 0 0 0) (.int .i64 g.owner.length) (.int .i64 (sumLens a (g.moves.drop i))) .undef .undef) [.arr [g.cells] none false] = some z →
    F18.L0 0 1 (.mp 0 0 0) (.int .i64 g.owner.length) (.int .i64 a) (.int .i64 i) [.arr [g.cells] none false] = some z := by
  intro m
  induction m with
  | zero =>
    intro i hi a hz
    have h1 : ¬ (i : Int) < (g.moves.length : Int) := by omega
    rw [List.drop_of_length_le (by omega)] at hz
    refine F18.L0_step ?_
    have s1 : ∀ (K : KT), execL (F18.C 0) 0 F18.c143 K (F18.ee3 (.mp 0 0 0) (.int .i64 g.owner.length) (.int .i64 a) (.int .i64 i)) [.arr [g.cells] none false] = K .normal (F18.ee4 (.mp 0 0 0) (.int .i64 g.owner.length) (.int .i64 a) (.int .i64 i) (.bool false)) [.arr [g.cells] none false] := fun K => by
      simp only [go_sem, ↓reduceIte, Nat.reduceEqDiff, Nat.reduceBEq, Nat.reduceAdd, Nat.reduceMul, Nat.reduceSub, Nat.reduceLT, Nat.reduceLeDiff, reduceCtorEq, Int.reduceToNat, Int.reduceLE, Int.reduceLT, Int.reduceEq, withV_any, Game.drop1, Vs.part23, h1]
    simp only [F18.B0_eq, s1, F18.k145_n, condC_false, F18.k139_exit, F18.k132_x1, gc_one, F18.k129_exit, if_true]
    exact hz
  | succ m hm =>
    intro i hi a hz
    have h1 : (i : Int) < (g.moves.length : Int) := by omega
    have h2 := wrap_succ (i := i) (n := g.moves.length) (by omega) hg.moves
    have h4 : 0 ≤ (i : Int) ∧ (i : Int) < (g.moves.length : Int) := ⟨by omega, h1⟩
    rw [paths_drop (by omega), sumLens] at hz
    have h6 := hm (i + 1) (by omega) _ hz
    refine F18.L0_step ?_
    have s1 : ∀ (K : KT), execL (F18.C 0) 0 F18.c143 K (F18.ee3 (.mp 0 0 0) (.int .i64 g.owner.length) (.int .i64 a) (.int .i64 i)) [.arr [g.cells] none false] = K .normal (F18.ee4 (.mp 0 0 0) (.int .i64 g.owner.length) (.int .i64 a) (.int .i64 i) (.bool true)) [.arr [g.cells] none false] := fun K => by
      simp only [go_sem, ↓reduceIte, Nat.reduceEqDiff, Nat.reduceBEq, Nat.reduceAdd, Nat.reduceMul, Nat.reduceSub, Nat.reduceLT, Nat.reduceLeDiff, reduceCtorEq, Int.reduceToNat, Int.reduceLE, Int.reduceLT, Int.reduceEq, withV_any, Game.drop1, Vs.part23, h1]
    have s2 : ∀ (K : KT), execL (F18.C 0) 1 F18.c140 K (F18.ee4 (.mp 0 0 0) (.int .i64 g.owner.length) (.int .i64 a) (.int .i64 i) (.bool true)) [.arr [g.cells] none false] = K .normal (F18.ee3 (.mp 0 0 0) (.int .i64 g.owner.length) (.int .i64 (IntKind.i64.wrap (a + (g.moves.getD i []).length))) (.int .i64 i)) [.arr [g.cells] none false] := fun K => by
      simp only [go_sem, ↓reduceIte, Nat.reduceEqDiff, Nat.reduceBEq, Nat.reduceAdd, Nat.reduceMul, Nat.reduceSub, Nat.reduceLT, Nat.reduceLeDiff, reduceCtorEq, Int.reduceToNat, Int.reduceLE, Int.reduceLT, Int.reduceEq, withV_any, Game.drop1, Vs.part23, h4, Int.toNat_natCast]
    have s3 : ∀ (K : KT) (a : Int), execL (F18.C 0) 0 F18.c136 K (F18.ee3 (.mp 0 0 0) (.int .i64 g.owner.length) (.int .i64 a) (.int .i64 i)) [.arr [g.cells] none false] = K .normal (F18.ee3 (.mp 0 0 0) (.int .i64 g.owner.length) (.int .i64 a) (.int .i64 (i + 1 : Nat))) [.arr [g.cells] none false] := fun K a => by
      simp only [go_sem, ↓reduceIte, Nat.reduceEqDiff, Nat.reduceBEq, Nat.reduceAdd, Nat.reduceMul, Nat.reduceSub, Nat.reduceLT, Nat.reduceLeDiff, reduceCtorEq, Int.reduceToNat, Int.reduceLE, Int.reduceLT, Int.reduceEq, withV_any, h2]
    simp only [F18.B0_eq, s1, F18.k145_n, condC_true, F18.k139_n, s2, F18.k141_n, F18.k137_n, s3, F18.k132_n, gc_one]
    exact h6
theorem call18 (g : Game) (hg : g.ok) : callL Try.prog hints 18 [.agg g.cells] = some (.int .i64 g.check) := by
  refine F18.call (r := (.int .i64 g.check, [.arr [g.cells] none false])) ?_ rfl
  have s0 : ∀ K : KT, execL (F18.C 0) 0 F18.c1 K [(0, .agg g.cells)] [] = K .normal (F18.ee0 (.mp 0 0 0)) [.arr [g.cells] none false] := fun K => by
    simp only [go_sem, ↓reduceIte, Nat.reduceEqDiff, Nat.reduceBEq, Nat.reduceAdd, Nat.reduceMul, Nat.reduceSub, Nat.reduceLT, Nat.reduceLeDiff, reduceCtorEq, Int.reduceToNat, Int.reduceLE, Int.reduceLT, Int.reduceEq, withV_any]
  have s2 : ∀ K : KT, execL (F18.C 0) 0 F18.c3 K (F18.ee0 (.mp 0 0 0)) [.arr [g.cells] none false] = K .normal (F18.ee1 (.mp 0 0 0) (.int .i64 g.owner.length)) [.arr [g.cells] none false] := fun K => by
    simp only [go_sem, ↓reduceIte, Nat.reduceEqDiff, Nat.reduceBEq, Nat.reduceAdd, Nat.reduceMul, Nat.reduceSub, Nat.reduceLT, Nat.reduceLeDiff, reduceCtorEq, Int.reduceToNat, Int.reduceLE, Int.reduceLT, Int.reduceEq, withV_any]
  have key := sum18 g hg (z := (.int .i64 g.check, [.arr [g.cells] none false])) g.moves.length 0 (by omega) 0 (by
    rw [List.drop_zero]
    by_cases big : 400 < g.owner.length ∨ 400 < g.moves.length ∨ 400 < g.goal.length ∨ 4000 < sumLens 0 g.moves
    · have s3 : ∀ K : KT, execL (F18.C 0) 0 F18.c113 K (F18.ee4 (.mp 0 0 0) (.int .i64 g.owner.length) (.int .i64 (sumLens 0 g.moves)) .undef .undef) [.arr [g.cells] none false] = K .normal (F18.ee12 (.mp 0 0 0) (.int .i64 g.owner.length) (.bool true)) [.arr [g.cells] none false] := fun K => by
        by_cases b1 : (400 : Int) < (g.owner.length : Int)
        · simp only [go_sem, ↓reduceIte, Nat.reduceEqDiff, Nat.reduceBEq, Nat.reduceAdd, Nat.reduceMul, Nat.reduceSub, Nat.reduceLT, Nat.reduceLeDiff, reduceCtorEq, Int.reduceToNat, Int.reduceLE, Int.reduceLT, Int.reduceEq, withV_any, b1]
        · by_cases b2 : (400 : Int) < (g.moves.length : Int)
          · simp only [go_sem, ↓reduceIte, Nat.reduceEqDiff, Nat.reduceBEq, Nat.reduceAdd, Nat.reduceMul, Nat.reduceSub, Nat.reduceLT, Nat.reduceLeDiff, reduceCtorEq, Int.reduceToNat, Int.reduceLE, Int.reduceLT, Int.reduceEq, withV_any, b1, Game.drop1, Vs.part23, b2]
          · by_cases b3 : (400 : Int) < (g.goal.length : Int)
            · simp only [go_sem, ↓reduceIte, Nat.reduceEqDiff, Nat.reduceBEq, Nat.reduceAdd, Nat.reduceMul, Nat.reduceSub, Nat.reduceLT, Nat.reduceLeDiff, reduceCtorEq, Int.reduceToNat, Int.reduceLE, Int.reduceLT, Int.reduceEq, withV_any, b1, Game.drop1, Vs.part23, b2, Game.drop2, Vs.part24, b3]
            · have b4 : (4000 : Int) < sumLens 0 g.moves := by omega
              simp only [go_sem, ↓reduceIte, Nat.reduceEqDiff, Nat.reduceBEq, Nat.reduceAdd, Nat.reduceMul, Nat.reduceSub, Nat.reduceLT, Nat.reduceLeDiff, reduceCtorEq, Int.reduceToNat, Int.reduceLE, Int.reduceLT, Int.reduceEq, withV_any, b1, Game.drop1, Vs.part23, b2, Game.drop2, Vs.part24, b3, b4]
      have e : g.check = 2 := by unfold Game.check; rw [if_pos big]
      rw [e]
      simp only [F18.k112_n, s3, F18.k115_n, condC_true, F18.g122, withV_any, F18.k121_n, F18.k100_ret, F18.k0_ret14]
    · have n1 : ¬ (400 : Int) < (g.owner.length : Int) := by omega
      have n2 : ¬ (400 : Int) < (g.moves.length : Int) := by omega
      have n3 : ¬ (400 : Int) < (g.goal.length : Int) := by omega
      have n4 : ¬ (4000 : Int) < sumLens 0 g.moves := by omega
      have s3 : ∀ K : KT, execL (F18.C 0) 0 F18.c113 K (F18.ee4 (.mp 0 0 0) (.int .i64 g.owner.length) (.int .i64 (sumLens 0 g.moves)) .undef .undef) [.arr [g.cells] none false] = K .normal (F18.ee12 (.mp 0 0 0) (.int .i64 g.owner.length) (.bool false)) [.arr [g.cells] none false] := fun K => by
        simp only [go_sem, ↓reduceIte, Nat.reduceEqDiff, Nat.reduceBEq, Nat.reduceAdd, Nat.reduceMul, Nat.reduceSub, Nat.reduceLT, Nat.reduceLeDiff, reduceCtorEq, Int.reduceToNat, Int.reduceLE, Int.reduceLT, Int.reduceEq, withV_any, n1, Game.drop1, Vs.part23, n2, Game.drop2, Vs.part24, n3, n4]
      by_cases bad : g.moves.length ≠ g.owner.length ∨ g.goal.length ≠ g.owner.length
      · have s4 : ∀ K : KT, execL (F18.C 0) 0 F18.c101 K (F18.ee12 (.mp 0 0 0) (.int .i64 g.owner.length) (.bool false)) [.arr [g.cells] none false] = K .normal (F18.ee13 (.mp 0 0 0) (.int .i64 g.owner.length) (.bool true)) [.arr [g.cells] none false] := fun K => by
          by_cases b1 : (g.moves.length : Int) = (g.owner.length : Int)
          · have b2 : ¬ (g.goal.length : Int) = (g.owner.length : Int) := by omega
            simp only [go_sem, ↓reduceIte, Nat.reduceEqDiff, Nat.reduceBEq, Nat.reduceAdd, Nat.reduceMul, Nat.reduceSub, Nat.reduceLT, Nat.reduceLeDiff, reduceCtorEq, Int.reduceToNat, Int.reduceLE, Int.reduceLT, Int.reduceEq, withV_any, Game.drop1, Vs.part23, b1, Game.drop2, Vs.part24, b2, decide_true, decide_false, Bool.not_true, Bool.not_false]
          · simp only [go_sem, ↓reduceIte, Nat.reduceEqDiff, Nat.reduceBEq, Nat.reduceAdd, Nat.reduceMul, Nat.reduceSub, Nat.reduceLT, Nat.reduceLeDiff, reduceCtorEq, Int.reduceToNat, Int.reduceLE, Int.reduceLT, Int.reduceEq, withV_any, Game.drop1, Vs.part23, b1, decide_false, Bool.not_false]
        have e : g.check = 3 := by unfold Game.check; rw [if_neg big, if_pos bad]
        rw [e]
        simp only [F18.k112_n, s3, F18.k115_n, condC_false, F18.k100_n, s4, F18.k103_n, condC_true, F18.g110, withV_any, F18.k109_n, F18.k20_ret, F18.k0_ret14]
      · have b1 : (g.moves.length : Int) = (g.owner.length : Int) := by omega
        have b2 : (g.goal.length : Int) = (g.owner.length : Int) := by omega
        have s4 : ∀ K : KT, execL (F18.C 0) 0 F18.c101 K (F18.ee12 (.mp 0 0 0) (.int .i64 g.owner.length) (.bool false)) [.arr [g.cells] none false] = K .normal (F18.ee13 (.mp 0 0 0) (.int .i64 g.owner.length) (.bool false)) [.arr [g.cells] none false] := fun K => by
          simp only [go_sem, ↓reduceIte, Nat.reduceEqDiff, Nat.reduceBEq, Nat.reduceAdd, Nat.reduceMul, Nat.reduceSub, Nat.reduceLT, Nat.reduceLeDiff, reduceCtorEq, Int.reduceToNat, Int.reduceLE, Int.reduceLT, Int.reduceEq, withV_any, Game.drop1, Vs.part23, b1, Game.drop2, Vs.part24, b2, decide_true, Bool.not_true]
        have e : g.check = (if g.posFrom g.owner.length 0 = true then 0 else 3) := by unfold Game.check; rw [if_neg big, if_neg bad]
        rw [e]
        have l2 := loop18_2 g hg (by omega) (by omega) hg.each g.owner.length 0 (by omega)
        simp only [Int.natCast_zero] at l2
        simp only [F18.k112_n, s3, F18.k115_n, condC_false, F18.k100_n, s4, F18.k103_n, F18.k20_n, F18.g99, withV_any, F18.k23_n, List.length_cons, List.length_nil, Nat.zero_add]
        exact l2)
  simp only [Int.natCast_zero] at key
  simp only [F18.E_eq, s0, F18.k153_n, s2, F18.k151_n, F18.g152, withV_any, F18.k124_n, F18.g150, F18.k127_n, List.length_cons, List.length_nil, Nat.zero_add]
  exact key
end Go.Vs
end
/- What Check asks for, plain. -/
section
set_option linter.unusedVariables false
set_option linter.unusedSimpArgs false
namespace Go.Vs
open Go Go.Proofs
theorem movesFrom_at (n : Int) (l : List Int) : ∀ (m k : Nat), movesFrom n l m k = true → ∀ j, k ≤ j → j < k + m → moveBad n l j = false
  | 0, k, _, j, h1, h2 => by omega
  | m + 1, k, h, j, h1, h2 => by
    simp only [movesFrom, Bool.and_eq_true, Bool.not_eq_true'] at h
    by_cases e : j = k
    · rw [e]; exact h.1
    · exact movesFrom_at n l m (k + 1) h.2 j (by omega) (by omega)
theorem posFrom_at (g : Game) : ∀ (m i : Nat), g.posFrom m i = true → ∀ j, i ≤ j → j < i + m → g.posOK j = true
  | 0, i, _, j, h1, h2 => by omega
  | m + 1, i, h, j, h1, h2 => by
    simp only [Game.posFrom, Bool.and_eq_true] at h
    by_cases e : j = i
    · rw [e]; exact h.1
    · exact posFrom_at g m (i + 1) h.2 j (by omega) (by omega)
theorem movesOK_at {n : Int} {l : List Int} (h : movesOK n l = true) {j : Nat} (hj : j < l.length) : 0 ≤ l.getD j 0 ∧ l.getD j 0 < n ∧ (0 < j → l.getD (j - 1) 0 < l.getD j 0) := by
  have := movesFrom_at n l l.length 0 h j (by omega) (by omega)
  simp only [moveBad, Bool.or_eq_false_iff, Bool.and_eq_false_iff, decide_eq_false_iff_not] at this
  obtain ⟨h1, h2, h3⟩ := this
  refine ⟨by omega, by omega, fun h0 => ?_⟩
  rcases h3 with h3 | h3
  · exact absurd h0 h3
  · omega
theorem movesOK_lt {n : Int} {l : List Int} (h : movesOK n l = true) : ∀ (d i : Nat), i + d + 1 < l.length → l.getD i 0 < l.getD (i + d + 1) 0
  | 0, i, hi => by
    have := (movesOK_at h (j := i + 1) (by omega)).2.2 (by omega)
    simpa using this
  | d + 1, i, hi => by
    have h1 := movesOK_lt h d i (by omega)
    have h2 := (movesOK_at h (j := i + d + 2) (by omega)).2.2 (by omega)
    rw [show i + d + 2 - 1 = i + d + 1 by omega] at h2
    rw [show i + (d + 1) + 1 = i + d + 2 by omega]
    omega
theorem movesOK_inc {n : Int} {l : List Int} (h : movesOK n l = true) : l.Pairwise (· < ·) := by
  rw [List.pairwise_iff_getElem]
  intro i j hi hj hij
  have := movesOK_lt h (j - i - 1) i (by omega)
  rw [show i + (j - i - 1) + 1 = j by omega] at this
  simpa [List.getD_eq_getElem?_getD, hi, hj] using this
theorem movesOK_ge {n : Int} {l : List Int} (h : movesOK n l = true) : ∀ j : Nat, j < l.length → (j : Int) ≤ l.getD j 0
  | 0, hj => (movesOK_at h hj).1
  | j + 1, hj => by
    have h1 := movesOK_ge h j (by omega)
    have h2 := (movesOK_at h hj).2.2 (by omega)
    rw [Nat.add_sub_cancel] at h2
    omega
theorem good_of {g : Game} (h : g.check = 0) : g.good := by
  unfold Game.check at h
  split at h
  · exact absurd h (by decide)
  rename_i big
  split at h
  · exact absurd h (by decide)
  rename_i bad
  split at h
  case isFalse => exact absurd h (by decide)
  rename_i hp
  have hm : g.moves.length = g.owner.length := by omega
  have hat := posFrom_at g g.owner.length 0 hp
  have hmv : ∀ i, i < g.owner.length → movesOK g.owner.length (g.moves.getD i []) = true := fun i hi => by
    have := hat i (by omega) (by omega)
    simp only [Game.posOK, Bool.and_eq_true] at this
    exact this.2
  have hlen : ∀ i, (g.moves.getD i []).length ≤ 400 := fun i => by
    by_cases hi : i < g.owner.length
    · by_cases h0 : (g.moves.getD i []).length = 0
      · omega
      · have h1 := movesOK_ge (hmv i hi) ((g.moves.getD i []).length - 1) (by omega)
        have h2 := (movesOK_at (hmv i hi) (j := (g.moves.getD i []).length - 1) (by omega)).2.1
        omega
    · have : g.moves.getD i [] = [] := by simp only [List.getD_eq_getElem?_getD]; rw [List.getElem?_eq_none (by omega)]; rfl
      rw [this]; simp
  refine ⟨hm, by omega, by omega, fun i => by have := hlen i; omega, ⟨fun i hi => ?_, fun i hi x hx => ?_, fun i hi => movesOK_inc (hmv i hi)⟩⟩
  · have := hat i (by omega) (by simp only [Game.toG] at hi; omega)
    simp only [Game.posOK, Bool.and_eq_true, Bool.or_eq_true, decide_eq_true_eq] at this
    exact this.1
  · obtain ⟨j, hj, rfl⟩ := List.mem_iff_getElem.1 hx
    have hj' : j < (g.moves.getD i []).length := hj
    have := movesOK_at (hmv i hi) hj'
    have e : (g.moves.getD i []).getD j 0 = (g.moves.getD i [])[j] := by rw [List.getD_eq_getElem?_getD (l := g.moves.getD i []), List.getElem?_eq_getElem hj']; rfl
    rw [e] at this
    exact ⟨this.1, this.2.1⟩
end Go.Vs
end
