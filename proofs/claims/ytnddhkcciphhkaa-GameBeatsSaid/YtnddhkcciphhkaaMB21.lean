/- The reference's Check: it returns what game.Check returns. -/
import Derived.Test.YtnddhkcciphhkaaRows
import Derived.Test.YtnddhkcciphhkaaMB9
import Derived.Test.YtnddhkcciphhkaaMB11
import Derived.Test.YtnddhkcciphhkaaMB20
section
set_option linter.unusedVariables false
set_option linter.unusedSimpArgs false
namespace Go.Vs
open Go Go.Proofs
theorem loop18_4 (g : Game) (hg : g.ok) (i : Nat) (hi : i < g.moves.length) (hl : (g.moves.getD i []).length ≤ maxLen) {z : PV × Store} : ∀ (m k : Nat), k + m = (g.moves.getD i []).length →
    (movesFrom g.owner.length (g.moves.getD i []) m k = true → F18.k37 0 1 .normal (F18.ee8 (.mp 0 0 0) (.int .i64 g.owner.length) (.int .i64 i) .undef .undef) [.arr [g.cells] none false] = some z) → (movesFrom g.owner.length (g.moves.getD i []) m k = false → z = (.int .i64 3, [.arr [g.cells] none false])) →
    F18.L4 0 1 1 (.mp 0 0 0) (.int .i64 g.owner.length) (.int .i64 i) (.int .i64 k) [.arr [g.cells] none false] = some z := by
  have h4 : 0 ≤ (i : Int) ∧ (i : Int) < (g.moves.length : Int) := ⟨by omega, by omega⟩
  intro m
  induction m with
  | zero =>
    intro k hk h1 h2
    have c1 : ¬ (k : Int) < ((g.moves.getD i []).length : Int) := by omega
    refine F18.L4_step ?_
    have s1 : ∀ (K : KT), execL (F18.C 0) 4 F18.c72 K (F18.ee6 (.mp 0 0 0) (.int .i64 g.owner.length) (.int .i64 i) (.int .i64 k)) [.arr [g.cells] none false] = K .normal (F18.ee8 (.mp 0 0 0) (.int .i64 g.owner.length) (.int .i64 i) (.int .i64 k) (.bool false)) [.arr [g.cells] none false] := fun K => by
      simp only [go_sem, ↓reduceIte, Nat.reduceEqDiff, Nat.reduceBEq, Nat.reduceAdd, Nat.reduceMul, Nat.reduceSub, Nat.reduceLT, Nat.reduceLeDiff, reduceCtorEq, Int.reduceToNat, Int.reduceLE, Int.reduceLT, Int.reduceEq, withV_any, Game.drop1, Vs.part23, h4, Int.toNat_natCast, c1]
    simp only [F18.B4_eq, s1, F18.k74_n, condC_false, F18.k54_exit, F18.k47_x1, F18.k44_exit, if_true, gc_one]
    exact h1 rfl
  | succ m hm =>
    intro k hk h1 h2
    have c1 : (k : Int) < ((g.moves.getD i []).length : Int) := by omega
    have w1 := wrap_succ (i := k) (n := (g.moves.getD i []).length) (by omega) hl
    have h5 : 0 ≤ (k : Int) ∧ (k : Int) < ((g.moves.getD i []).length : Int) := ⟨by omega, c1⟩
    have s1 : ∀ (K : KT), execL (F18.C 0) 4 F18.c72 K (F18.ee6 (.mp 0 0 0) (.int .i64 g.owner.length) (.int .i64 i) (.int .i64 k)) [.arr [g.cells] none false] = K .normal (F18.ee8 (.mp 0 0 0) (.int .i64 g.owner.length) (.int .i64 i) (.int .i64 k) (.bool true)) [.arr [g.cells] none false] := fun K => by
      simp only [go_sem, ↓reduceIte, Nat.reduceEqDiff, Nat.reduceBEq, Nat.reduceAdd, Nat.reduceMul, Nat.reduceSub, Nat.reduceLT, Nat.reduceLeDiff, reduceCtorEq, Int.reduceToNat, Int.reduceLE, Int.reduceLT, Int.reduceEq, withV_any, Game.drop1, Vs.part23, h4, Int.toNat_natCast, c1]
    have s2 : ∀ (K : KT), execL (F18.C 0) 5 F18.c57 K (F18.ee8 (.mp 0 0 0) (.int .i64 g.owner.length) (.int .i64 i) (.int .i64 k) (.bool true)) [.arr [g.cells] none false] = K .normal (F18.ee7 (.mp 0 0 0) (.int .i64 g.owner.length) (.int .i64 i) (.int .i64 k) (.int .i64 ((g.moves.getD i []).getD k 0))) [.arr [g.cells] none false] := fun K => by
      simp only [go_sem, ↓reduceIte, Nat.reduceEqDiff, Nat.reduceBEq, Nat.reduceAdd, Nat.reduceMul, Nat.reduceSub, Nat.reduceLT, Nat.reduceLeDiff, reduceCtorEq, Int.reduceToNat, Int.reduceLE, Int.reduceLT, Int.reduceEq, withV_any, Game.drop1, Vs.part23, h4, h5, Int.toNat_natCast]
    have s3 : ∀ (K : KT), execL (F18.C 0) 5 F18.c59 K (F18.ee7 (.mp 0 0 0) (.int .i64 g.owner.length) (.int .i64 i) (.int .i64 k) (.int .i64 ((g.moves.getD i []).getD k 0))) [.arr [g.cells] none false] = K .normal (F18.ee9 (.mp 0 0 0) (.int .i64 g.owner.length) (.int .i64 i) (.int .i64 k) (.bool (moveBad g.owner.length (g.moves.getD i []) k))) [.arr [g.cells] none false] := fun K => by
      by_cases b1 : (g.moves.getD i []).getD k 0 < 0
      · have e : moveBad g.owner.length (g.moves.getD i []) k = true := by simp only [moveBad, b1, decide_true, Bool.true_or]
        rw [e]
        simp only [go_sem, ↓reduceIte, Nat.reduceEqDiff, Nat.reduceBEq, Nat.reduceAdd, Nat.reduceMul, Nat.reduceSub, Nat.reduceLT, Nat.reduceLeDiff, reduceCtorEq, Int.reduceToNat, Int.reduceLE, Int.reduceLT, Int.reduceEq, withV_any, b1]
      · by_cases b2 : (g.owner.length : Int) ≤ (g.moves.getD i []).getD k 0
        · have e : moveBad g.owner.length (g.moves.getD i []) k = true := by simp only [moveBad, b2, decide_true, Bool.true_or, Bool.or_true]
          rw [e]
          simp only [go_sem, ↓reduceIte, Nat.reduceEqDiff, Nat.reduceBEq, Nat.reduceAdd, Nat.reduceMul, Nat.reduceSub, Nat.reduceLT, Nat.reduceLeDiff, reduceCtorEq, Int.reduceToNat, Int.reduceLE, Int.reduceLT, Int.reduceEq, withV_any, b1, b2]
        · by_cases b3 : 0 < k
          · have b3' : 0 < (k : Int) := by omega
            have w2 := wrap_down b3 (by omega)
            have h6 : 0 ≤ ((k - 1 : Nat) : Int) ∧ ((k - 1 : Nat) : Int) < ((g.moves.getD i []).length : Int) := ⟨by omega, by omega⟩
            by_cases b4 : (g.moves.getD i []).getD k 0 ≤ (g.moves.getD i []).getD (k - 1) 0
            · have e : moveBad g.owner.length (g.moves.getD i []) k = true := by simp only [moveBad, b3, b4, decide_true, Bool.and_self, Bool.or_true]
              rw [e]
              simp only [go_sem, ↓reduceIte, Nat.reduceEqDiff, Nat.reduceBEq, Nat.reduceAdd, Nat.reduceMul, Nat.reduceSub, Nat.reduceLT, Nat.reduceLeDiff, reduceCtorEq, Int.reduceToNat, Int.reduceLE, Int.reduceLT, Int.reduceEq, withV_any, b1, b2, b3', w2, h4, h6, Int.toNat_natCast, b4]
            · have e : moveBad g.owner.length (g.moves.getD i []) k = false := by simp only [moveBad, b1, b2, b4, decide_false, Bool.and_false, Bool.or_self]
              rw [e]
              simp only [go_sem, ↓reduceIte, Nat.reduceEqDiff, Nat.reduceBEq, Nat.reduceAdd, Nat.reduceMul, Nat.reduceSub, Nat.reduceLT, Nat.reduceLeDiff, reduceCtorEq, Int.reduceToNat, Int.reduceLE, Int.reduceLT, Int.reduceEq, withV_any, b1, b2, b3', w2, h4, h6, Int.toNat_natCast, b4]
          · have b3' : ¬ 0 < (k : Int) := by omega
            have e : moveBad g.owner.length (g.moves.getD i []) k = false := by simp only [moveBad, b1, b2, b3, decide_false, Bool.false_and, Bool.or_self]
            rw [e]
            simp only [go_sem, ↓reduceIte, Nat.reduceEqDiff, Nat.reduceBEq, Nat.reduceAdd, Nat.reduceMul, Nat.reduceSub, Nat.reduceLT, Nat.reduceLeDiff, reduceCtorEq, Int.reduceToNat, Int.reduceLE, Int.reduceLT, Int.reduceEq, withV_any, b1, b2, b3']
    have s9 : ∀ (K : KT) (S : Store) (x : PV), execL (F18.C 0) 4 F18.c51 K (F18.ee9 (.mp 0 0 0) (.int .i64 g.owner.length) (.int .i64 i) (.int .i64 k) x) S = K .normal (F18.ee6 (.mp 0 0 0) (.int .i64 g.owner.length) (.int .i64 i) (.int .i64 (k + 1 : Nat))) S := fun K S x => by
      simp only [go_sem, ↓reduceIte, Nat.reduceEqDiff, Nat.reduceBEq, Nat.reduceAdd, Nat.reduceMul, Nat.reduceSub, Nat.reduceLT, Nat.reduceLeDiff, reduceCtorEq, Int.reduceToNat, Int.reduceLE, Int.reduceLT, Int.reduceEq, withV_any, w1]
    refine F18.L4_step ?_
    cases hb : moveBad g.owner.length (g.moves.getD i []) k with
    | true =>
      rw [hb] at s3
      have hz := h2 (by simp only [movesFrom, hb]; rfl)
      rw [hz]
      simp only [F18.B4_eq, s1, F18.k74_n, condC_true, F18.k54_n, s2, F18.k69_n, s3, F18.k61_n, F18.g68, withV_any, F18.k67_n, F18.k56_ret, F18.k52_ret, F18.k47_ret, F18.k44_ret, F18.k37_ret, F18.k33_ret, F18.k28_ret, F18.k25_ret, F18.k18_ret, F18.k0_ret14]
    | false =>
      rw [hb] at s3
      have hmf : movesFrom g.owner.length (g.moves.getD i []) (m + 1) k = movesFrom g.owner.length (g.moves.getD i []) m (k + 1) := by simp only [movesFrom, hb, Bool.not_false, Bool.true_and]
      rw [hmf] at h1 h2
      have := hm (k + 1) (by omega) h1 h2
      simp only [F18.B4_eq, s1, F18.k74_n, condC_true, F18.k54_n, s2, F18.k69_n, s3, F18.k61_n, condC_false, F18.k56_n, F18.k52_n, s9, F18.k47_n, gc_one]
      exact this
theorem loop18_2 (g : Game) (hg : g.ok) (hm : g.moves.length = g.owner.length) (hN : g.owner.length ≤ 400) (hl : ∀ l ∈ g.moves, l.length ≤ maxLen) : ∀ (m i : Nat), i + m = g.owner.length →
    F18.L2 0 1 (.mp 0 0 0) (.int .i64 g.owner.length) (.int .i64 i) [.arr [g.cells] none false] = some (.int .i64 (if g.posFrom m i = true then 0 else 3), [.arr [g.cells] none false]) := by
  have hm4 : (4000 : Nat) ≤ maxLen := by decide
  intro m
  induction m with
  | zero =>
    intro i hi
    have c1 : ¬ (i : Int) < (g.owner.length : Int) := by omega
    refine F18.L2_step ?_
    have s1 : ∀ (K : KT) (S : Store), execL (F18.C 0) 2 F18.c92 K (F18.ee5 (.mp 0 0 0) (.int .i64 g.owner.length) (.int .i64 i)) S = K .normal (F18.ee10 (.mp 0 0 0) (.int .i64 g.owner.length) (.int .i64 i) (.bool false)) S := fun K S => by
      simp only [go_sem, ↓reduceIte, Nat.reduceEqDiff, Nat.reduceBEq, Nat.reduceAdd, Nat.reduceMul, Nat.reduceSub, Nat.reduceLT, Nat.reduceLeDiff, reduceCtorEq, Int.reduceToNat, Int.reduceLE, Int.reduceLT, Int.reduceEq, withV_any, c1]
    simp only [F18.B2_eq, s1, F18.k94_n, condC_false, F18.k35_exit, F18.k28_x1, gc_one, F18.k25_exit, if_true, F18.k18_n, F18.g19, withV_any, F18.k17_n, F18.k0_ret14, Game.posFrom]
  | succ m ih =>
    intro i hi
    have c1 : (i : Int) < (g.owner.length : Int) := by omega
    have w1 := wrap_succ (i := i) (n := g.owner.length) (by omega) (by omega)
    have h5 : 0 ≤ (i : Int) ∧ (i : Int) < (g.owner.length : Int) := ⟨by omega, c1⟩
    have s1 : ∀ (K : KT) (S : Store), execL (F18.C 0) 2 F18.c92 K (F18.ee5 (.mp 0 0 0) (.int .i64 g.owner.length) (.int .i64 i)) S = K .normal (F18.ee10 (.mp 0 0 0) (.int .i64 g.owner.length) (.int .i64 i) (.bool true)) S := fun K S => by
      simp only [go_sem, ↓reduceIte, Nat.reduceEqDiff, Nat.reduceBEq, Nat.reduceAdd, Nat.reduceMul, Nat.reduceSub, Nat.reduceLT, Nat.reduceLeDiff, reduceCtorEq, Int.reduceToNat, Int.reduceLE, Int.reduceLT, Int.reduceEq, withV_any, c1]
    have s3 : ∀ (K : KT), execL (F18.C 0) 3 F18.c81 K (F18.ee10 (.mp 0 0 0) (.int .i64 g.owner.length) (.int .i64 i) (.bool true)) [.arr [g.cells] none false] = K .normal (F18.ee11 (.mp 0 0 0) (.int .i64 g.owner.length) (.int .i64 i) (.bool (!(decide (g.owner.getD i 0 = 0) || decide (g.owner.getD i 0 = 1))))) [.arr [g.cells] none false] := fun K => by
      by_cases b1 : g.owner.getD i 0 = 0
      · simp only [go_sem, ↓reduceIte, Nat.reduceEqDiff, Nat.reduceBEq, Nat.reduceAdd, Nat.reduceMul, Nat.reduceSub, Nat.reduceLT, Nat.reduceLeDiff, reduceCtorEq, Int.reduceToNat, Int.reduceLE, Int.reduceLT, Int.reduceEq, withV_any, h5, Int.toNat_natCast, b1, decide_true, Bool.true_or, Bool.not_true]
      · by_cases b2 : g.owner.getD i 0 = 1
        · simp only [go_sem, ↓reduceIte, Nat.reduceEqDiff, Nat.reduceBEq, Nat.reduceAdd, Nat.reduceMul, Nat.reduceSub, Nat.reduceLT, Nat.reduceLeDiff, reduceCtorEq, Int.reduceToNat, Int.reduceLE, Int.reduceLT, Int.reduceEq, withV_any, h5, Int.toNat_natCast, b1, b2, decide_true, decide_false, Bool.or_true, Bool.not_true, Bool.not_false]
        · simp only [go_sem, ↓reduceIte, Nat.reduceEqDiff, Nat.reduceBEq, Nat.reduceAdd, Nat.reduceMul, Nat.reduceSub, Nat.reduceLT, Nat.reduceLeDiff, reduceCtorEq, Int.reduceToNat, Int.reduceLE, Int.reduceLT, Int.reduceEq, withV_any, h5, Int.toNat_natCast, b1, b2, decide_false, Bool.or_self, Bool.not_false]
    have hpos : g.posFrom (m + 1) i = (g.posOK i && g.posFrom m (i + 1)) := rfl
    refine F18.L2_step ?_
    cases hb : (decide (g.owner.getD i 0 = 0) || decide (g.owner.getD i 0 = 1)) with
    | false =>
      rw [hb] at s3
      have e : g.posFrom (m + 1) i = false := by rw [hpos, Game.posOK, hb]; rfl
      rw [e, if_neg (by simp)]
      simp only [F18.B2_eq, s1, F18.k94_n, condC_true, F18.k35_n, s3, Bool.not_false, F18.k83_n, condC_true, F18.g90, withV_any, F18.k89_n, F18.k79_ret, F18.k37_ret, F18.k33_ret, F18.k28_ret, F18.k25_ret, F18.k18_ret, F18.k0_ret14]
    | true =>
      rw [hb] at s3
      have e : g.posFrom (m + 1) i = (movesOK g.owner.length (g.moves.getD i []) && g.posFrom m (i + 1)) := by rw [hpos, Game.posOK, hb, Bool.true_and]
      rw [e]
      have s5 : ∀ (K : KT) (S : Store), execL (F18.C 0) 2 F18.c32 K (F18.ee8 (.mp 0 0 0) (.int .i64 g.owner.length) (.int .i64 i) .undef .undef) S = K .normal (F18.ee5 (.mp 0 0 0) (.int .i64 g.owner.length) (.int .i64 (i + 1 : Nat))) S := fun K S => by
        simp only [go_sem, ↓reduceIte, Nat.reduceEqDiff, Nat.reduceBEq, Nat.reduceAdd, Nat.reduceMul, Nat.reduceSub, Nat.reduceLT, Nat.reduceLeDiff, reduceCtorEq, Int.reduceToNat, Int.reduceLE, Int.reduceLT, Int.reduceEq, withV_any, w1]
      have key := loop18_4 g hg i (by omega) (hl _ (paths_mem (by omega))) (z := (.int .i64 (if (movesOK g.owner.length (g.moves.getD i []) && g.posFrom m (i + 1)) = true then 0 else 3), [.arr [g.cells] none false])) (g.moves.getD i []).length 0 (by omega) (fun ht => by
          have ht' : movesOK g.owner.length (g.moves.getD i []) = true := ht
          simp only [F18.k37_n, F18.k33_n, s5, F18.k28_n, gc_one, ht', Bool.true_and]
          exact ih (i + 1) (by omega)) (fun hf => by
          have hf' : movesOK g.owner.length (g.moves.getD i []) = false := hf
          rw [hf', Bool.false_and]; rfl)
      simp only [Int.natCast_zero] at key
      simp only [F18.B2_eq, s1, F18.k94_n, condC_true, F18.k35_n, s3, Bool.not_true, F18.k83_n, condC_false, F18.k79_n, F18.g80, withV_any, F18.k42_n, List.length_cons, List.length_nil, Nat.zero_add]
      exact key
theorem sum18 (g : Game) (hg : g.ok) {z : PV × Store} : ∀ (m i : Nat), i + m = g.moves.length → ∀ a : Int,
    F18.k112 0 .normal (F18.ee4 (.mp 0 0 0) (.int .i64 g.owner.length) (.int .i64 (sumLens a (g.moves.drop i))) .undef .undef) [.arr [g.cells] none false] = some z →
    F18.L0 0 1 (.mp 0 0 0) (.int .i64 g.owner.length) (.int .i64 a) (.int .i64 i) [.arr [g.cells] none false] = some z := by
  intro m
  induction m with
  | zero =>
    intro i hi a hz
    have h1 : ¬ (i : Int) < (g.moves.length : Int) := by omega
    rw [List.drop_of_length_le (by omega)] at hz
    refine F18.L0_step ?_
    have s1 : ∀ (K : KT), execL (F18.C 0) 0 F18.c143 K (F18.ee3 (.mp 0 0 0) (.int .i64 g.owner.length) (.int .i64 a) (.int .i64 i)) [.arr [g.cells] none false] = K .normal (F18.ee4 (.mp 0 0 0) (.int .i64 g.owner.length) (.int .i64 a) (.int .i64 i) (.bool false)) [.arr [g.cells] none false] := fun K => by
      simp only [go_sem, ↓reduceIte, Nat.reduceEqDiff, Nat.reduceBEq, Nat.reduceAdd, Nat.reduceMul, Nat.reduceSub, Nat.reduceLT, Nat.reduceLeDiff, reduceCtorEq, Int.reduceToNat, Int.reduceLE, Int.reduceLT, Int.reduceEq, withV_any, Game.drop1, Vs.part23, h1]
    simp only [F18.B0_eq, s1, F18.k145_n, condC_false, F18.k139_exit, F18.k132_x1, gc_one, F18.k129_exit, if_true]
    exact hz
  | succ m hm =>
    intro i hi a hz
    have h1 : (i : Int) < (g.moves.length : Int) := by omega
    have h2 := wrap_succ (i := i) (n := g.moves.length) (by omega) hg.moves
    have h4 : 0 ≤ (i : Int) ∧ (i : Int) < (g.moves.length : Int) := ⟨by omega, h1⟩
    rw [paths_drop (by omega), sumLens] at hz
    have h6 := hm (i + 1) (by omega) _ hz
    refine F18.L0_step ?_
    have s1 : ∀ (K : KT), execL (F18.C 0) 0 F18.c143 K (F18.ee3 (.mp 0 0 0) (.int .i64 g.owner.length) (.int .i64 a) (.int .i64 i)) [.arr [g.cells] none false] = K .normal (F18.ee4 (.mp 0 0 0) (.int .i64 g.owner.length) (.int .i64 a) (.int .i64 i) (.bool true)) [.arr [g.cells] none false] := fun K => by
      simp only [go_sem, ↓reduceIte, Nat.reduceEqDiff, Nat.reduceBEq, Nat.reduceAdd, Nat.reduceMul, Nat.reduceSub, Nat.reduceLT, Nat.reduceLeDiff, reduceCtorEq, Int.reduceToNat, Int.reduceLE, Int.reduceLT, Int.reduceEq, withV_any, Game.drop1, Vs.part23, h1]
    have s2 : ∀ (K : KT), execL (F18.C 0) 1 F18.c140 K (F18.ee4 (.mp 0 0 0) (.int .i64 g.owner.length) (.int .i64 a) (.int .i64 i) (.bool true)) [.arr [g.cells] none false] = K .normal (F18.ee3 (.mp 0 0 0) (.int .i64 g.owner.length) (.int .i64 (IntKind.i64.wrap (a + (g.moves.getD i []).length))) (.int .i64 i)) [.arr [g.cells] none false] := fun K => by
      simp only [go_sem, ↓reduceIte, Nat.reduceEqDiff, Nat.reduceBEq, Nat.reduceAdd, Nat.reduceMul, Nat.reduceSub, Nat.reduceLT, Nat.reduceLeDiff, reduceCtorEq, Int.reduceToNat, Int.reduceLE, Int.reduceLT, Int.reduceEq, withV_any, Game.drop1, Vs.part23, h4, Int.toNat_natCast]
    have s3 : ∀ (K : KT) (a : Int), execL (F18.C 0) 0 F18.c136 K (F18.ee3 (.mp 0 0 0) (.int .i64 g.owner.length) (.int .i64 a) (.int .i64 i)) [.arr [g.cells] none false] = K .normal (F18.ee3 (.mp 0 0 0) (.int .i64 g.owner.length) (.int .i64 a) (.int .i64 (i + 1 : Nat))) [.arr [g.cells] none false] := fun K a => by
      simp only [go_sem, ↓reduceIte, Nat.reduceEqDiff, Nat.reduceBEq, Nat.reduceAdd, Nat.reduceMul, Nat.reduceSub, Nat.reduceLT, Nat.reduceLeDiff, reduceCtorEq, Int.reduceToNat, Int.reduceLE, Int.reduceLT, Int.reduceEq, withV_any, h2]
    simp only [F18.B0_eq, s1, F18.k145_n, condC_true, F18.k139_n, s2, F18.k141_n, F18.k137_n, s3, F18.k132_n, gc_one]
    exact h6
theorem call18 (g : Game) (hg : g.ok) : callL Try.prog hints 18 [.agg g.cells] = some (.int .i64 g.check) := by
  refine F18.call (r := (.int .i64 g.check, [.arr [g.cells] none false])) ?_ rfl
  have s0 : ∀ K : KT, execL (F18.C 0) 0 F18.c1 K [(0, .agg g.cells)] [] = K .normal (F18.ee0 (.mp 0 0 0)) [.arr [g.cells] none false] := fun K => by
    simp only [go_sem, ↓reduceIte, Nat.reduceEqDiff, Nat.reduceBEq, Nat.reduceAdd, Nat.reduceMul, Nat.reduceSub, Nat.reduceLT, Nat.reduceLeDiff, reduceCtorEq, Int.reduceToNat, Int.reduceLE, Int.reduceLT, Int.reduceEq, withV_any]
  have s2 : ∀ K : KT, execL (F18.C 0) 0 F18.c3 K (F18.ee0 (.mp 0 0 0)) [.arr [g.cells] none false] = K .normal (F18.ee1 (.mp 0 0 0) (.int .i64 g.owner.length)) [.arr [g.cells] none false] := fun K => by
    simp only [go_sem, ↓reduceIte, Nat.reduceEqDiff, Nat.reduceBEq, Nat.reduceAdd, Nat.reduceMul, Nat.reduceSub, Nat.reduceLT, Nat.reduceLeDiff, reduceCtorEq, Int.reduceToNat, Int.reduceLE, Int.reduceLT, Int.reduceEq, withV_any]
  have key := sum18 g hg (z := (.int .i64 g.check, [.arr [g.cells] none false])) g.moves.length 0 (by omega) 0 (by
    rw [List.drop_zero]
    by_cases big : 400 < g.owner.length ∨ 400 < g.moves.length ∨ 400 < g.goal.length ∨ 4000 < sumLens 0 g.moves
    · have s3 : ∀ K : KT, execL (F18.C 0) 0 F18.c113 K (F18.ee4 (.mp 0 0 0) (.int .i64 g.owner.length) (.int .i64 (sumLens 0 g.moves)) .undef .undef) [.arr [g.cells] none false] = K .normal (F18.ee12 (.mp 0 0 0) (.int .i64 g.owner.length) (.bool true)) [.arr [g.cells] none false] := fun K => by
        by_cases b1 : (400 : Int) < (g.owner.length : Int)
        · simp only [go_sem, ↓reduceIte, Nat.reduceEqDiff, Nat.reduceBEq, Nat.reduceAdd, Nat.reduceMul, Nat.reduceSub, Nat.reduceLT, Nat.reduceLeDiff, reduceCtorEq, Int.reduceToNat, Int.reduceLE, Int.reduceLT, Int.reduceEq, withV_any, b1]
        · by_cases b2 : (400 : Int) < (g.moves.length : Int)
          · simp only [go_sem, ↓reduceIte, Nat.reduceEqDiff, Nat.reduceBEq, Nat.reduceAdd, Nat.reduceMul, Nat.reduceSub, Nat.reduceLT, Nat.reduceLeDiff, reduceCtorEq, Int.reduceToNat, Int.reduceLE, Int.reduceLT, Int.reduceEq, withV_any, b1, Game.drop1, Vs.part23, b2]
          · by_cases b3 : (400 : Int) < (g.goal.length : Int)
            · simp only [go_sem, ↓reduceIte, Nat.reduceEqDiff, Nat.reduceBEq, Nat.reduceAdd, Nat.reduceMul, Nat.reduceSub, Nat.reduceLT, Nat.reduceLeDiff, reduceCtorEq, Int.reduceToNat, Int.reduceLE, Int.reduceLT, Int.reduceEq, withV_any, b1, Game.drop1, Vs.part23, b2, Game.drop2, Vs.part24, b3]
            · have b4 : (4000 : Int) < sumLens 0 g.moves := by omega
              simp only [go_sem, ↓reduceIte, Nat.reduceEqDiff, Nat.reduceBEq, Nat.reduceAdd, Nat.reduceMul, Nat.reduceSub, Nat.reduceLT, Nat.reduceLeDiff, reduceCtorEq, Int.reduceToNat, Int.reduceLE, Int.reduceLT, Int.reduceEq, withV_any, b1, Game.drop1, Vs.part23, b2, Game.drop2, Vs.part24, b3, b4]
      have e : g.check = 2 := by unfold Game.check; rw [if_pos big]
      rw [e]
      simp only [F18.k112_n, s3, F18.k115_n, condC_true, F18.g122, withV_any, F18.k121_n, F18.k100_ret, F18.k0_ret14]
    · have n1 : ¬ (400 : Int) < (g.owner.length : Int) := by omega
      have n2 : ¬ (400 : Int) < (g.moves.length : Int) := by omega
      have n3 : ¬ (400 : Int) < (g.goal.length : Int) := by omega
      have n4 : ¬ (4000 : Int) < sumLens 0 g.moves := by omega
      have s3 : ∀ K : KT, execL (F18.C 0) 0 F18.c113 K (F18.ee4 (.mp 0 0 0) (.int .i64 g.owner.length) (.int .i64 (sumLens 0 g.moves)) .undef .undef) [.arr [g.cells] none false] = K .normal (F18.ee12 (.mp 0 0 0) (.int .i64 g.owner.length) (.bool false)) [.arr [g.cells] none false] := fun K => by
        simp only [go_sem, ↓reduceIte, Nat.reduceEqDiff, Nat.reduceBEq, Nat.reduceAdd, Nat.reduceMul, Nat.reduceSub, Nat.reduceLT, Nat.reduceLeDiff, reduceCtorEq, Int.reduceToNat, Int.reduceLE, Int.reduceLT, Int.reduceEq, withV_any, n1, Game.drop1, Vs.part23, n2, Game.drop2, Vs.part24, n3, n4]
      by_cases bad : g.moves.length ≠ g.owner.length ∨ g.goal.length ≠ g.owner.length
      · have s4 : ∀ K : KT, execL (F18.C 0) 0 F18.c101 K (F18.ee12 (.mp 0 0 0) (.int .i64 g.owner.length) (.bool false)) [.arr [g.cells] none false] = K .normal (F18.ee13 (.mp 0 0 0) (.int .i64 g.owner.length) (.bool true)) [.arr [g.cells] none false] := fun K => by
          by_cases b1 : (g.moves.length : Int) = (g.owner.length : Int)
          · have b2 : ¬ (g.goal.length : Int) = (g.owner.length : Int) := by omega
            simp only [go_sem, ↓reduceIte, Nat.reduceEqDiff, Nat.reduceBEq, Nat.reduceAdd, Nat.reduceMul, Nat.reduceSub, Nat.reduceLT, Nat.reduceLeDiff, reduceCtorEq, Int.reduceToNat, Int.reduceLE, Int.reduceLT, Int.reduceEq, withV_any, Game.drop1, Vs.part23, b1, Game.drop2, Vs.part24, b2, decide_true, decide_false, Bool.not_true, Bool.not_false]
          · simp only [go_sem, ↓reduceIte, Nat.reduceEqDiff, Nat.reduceBEq, Nat.reduceAdd, Nat.reduceMul, Nat.reduceSub, Nat.reduceLT, Nat.reduceLeDiff, reduceCtorEq, Int.reduceToNat, Int.reduceLE, Int.reduceLT, Int.reduceEq, withV_any, Game.drop1, Vs.part23, b1, decide_false, Bool.not_false]
        have e : g.check = 3 := by unfold Game.check; rw [if_neg big, if_pos bad]
        rw [e]
        simp only [F18.k112_n, s3, F18.k115_n, condC_false, F18.k100_n, s4, F18.k103_n, condC_true, F18.g110, withV_any, F18.k109_n, F18.k20_ret, F18.k0_ret14]
      · have b1 : (g.moves.length : Int) = (g.owner.length : Int) := by omega
        have b2 : (g.goal.length : Int) = (g.owner.length : Int) := by omega
        have s4 : ∀ K : KT, execL (F18.C 0) 0 F18.c101 K (F18.ee12 (.mp 0 0 0) (.int .i64 g.owner.length) (.bool false)) [.arr [g.cells] none false] = K .normal (F18.ee13 (.mp 0 0 0) (.int .i64 g.owner.length) (.bool false)) [.arr [g.cells] none false] := fun K => by
          simp only [go_sem, ↓reduceIte, Nat.reduceEqDiff, Nat.reduceBEq, Nat.reduceAdd, Nat.reduceMul, Nat.reduceSub, Nat.reduceLT, Nat.reduceLeDiff, reduceCtorEq, Int.reduceToNat, Int.reduceLE, Int.reduceLT, Int.reduceEq, withV_any, Game.drop1, Vs.part23, b1, Game.drop2, Vs.part24, b2, decide_true, Bool.not_true]
        have e : g.check = (if g.posFrom g.owner.length 0 = true then 0 else 3) := by unfold Game.check; rw [if_neg big, if_neg bad]
        rw [e]
        have l2 := loop18_2 g hg (by omega) (by omega) hg.each g.owner.length 0 (by omega)
        simp only [Int.natCast_zero] at l2
        simp only [F18.k112_n, s3, F18.k115_n, condC_false, F18.k100_n, s4, F18.k103_n, F18.k20_n, F18.g99, withV_any, F18.k23_n, List.length_cons, List.length_nil, Nat.zero_add]
        exact l2)
  simp only [Int.natCast_zero] at key
  simp only [F18.E_eq, s0, F18.k153_n, s2, F18.k151_n, F18.g152, withV_any, F18.k124_n, F18.g150, F18.k127_n, List.length_cons, List.length_nil, Nat.zero_add]
  exact key
end Go.Vs
end
/- What Check asks for, plain. -/
section
set_option linter.unusedVariables false
set_option linter.unusedSimpArgs false
namespace Go.Vs
open Go Go.Proofs
theorem movesFrom_at (n : Int) (l : List Int) : ∀ (m k : Nat), movesFrom n l m k = true → ∀ j, k ≤ j → j < k + m → moveBad n l j = false
  | 0, k, _, j, h1, h2 => by omega
  | m + 1, k, h, j, h1, h2 => by
    simp only [movesFrom, Bool.and_eq_true, Bool.not_eq_true'] at h
    by_cases e : j = k
    · rw [e]; exact h.1
    · exact movesFrom_at n l m (k + 1) h.2 j (by omega) (by omega)
theorem posFrom_at (g : Game) : ∀ (m i : Nat), g.posFrom m i = true → ∀ j, i ≤ j → j < i + m → g.posOK j = true
  | 0, i, _, j, h1, h2 => by omega
  | m + 1, i, h, j, h1, h2 => by
    simp only [Game.posFrom, Bool.and_eq_true] at h
    by_cases e : j = i
    · rw [e]; exact h.1
    · exact posFrom_at g m (i + 1) h.2 j (by omega) (by omega)
theorem movesOK_at {n : Int} {l : List Int} (h : movesOK n l = true) {j : Nat} (hj : j < l.length) : 0 ≤ l.getD j 0 ∧ l.getD j 0 < n ∧ (0 < j → l.getD (j - 1) 0 < l.getD j 0) := by
  have := movesFrom_at n l l.length 0 h j (by omega) (by omega)
  simp only [moveBad, Bool.or_eq_false_iff, Bool.and_eq_false_iff, decide_eq_false_iff_not] at this
  obtain ⟨h1, h2, h3⟩ := this
  refine ⟨by omega, by omega, fun h0 => ?_⟩
  rcases h3 with h3 | h3
  · exact absurd h0 h3
  · omega
theorem movesOK_lt {n : Int} {l : List Int} (h : movesOK n l = true) : ∀ (d i : Nat), i + d + 1 < l.length → l.getD i 0 < l.getD (i + d + 1) 0
  | 0, i, hi => by
    have := (movesOK_at h (j := i + 1) (by omega)).2.2 (by omega)
    simpa using this
  | d + 1, i, hi => by
    have h1 := movesOK_lt h d i (by omega)
    have h2 := (movesOK_at h (j := i + d + 2) (by omega)).2.2 (by omega)
    rw [show i + d + 2 - 1 = i + d + 1 by omega] at h2
    rw [show i + (d + 1) + 1 = i + d + 2 by omega]
    omega
theorem movesOK_inc {n : Int} {l : List Int} (h : movesOK n l = true) : l.Pairwise (· < ·) := by
  rw [List.pairwise_iff_getElem]
  intro i j hi hj hij
  have := movesOK_lt h (j - i - 1) i (by omega)
  rw [show i + (j - i - 1) + 1 = j by omega] at this
  simpa [List.getD_eq_getElem?_getD, hi, hj] using this
theorem movesOK_ge {n : Int} {l : List Int} (h : movesOK n l = true) : ∀ j : Nat, j < l.length → (j : Int) ≤ l.getD j 0
  | 0, hj => (movesOK_at h hj).1
  | j + 1, hj => by
    have h1 := movesOK_ge h j (by omega)
    have h2 := (movesOK_at h hj).2.2 (by omega)
    rw [Nat.add_sub_cancel] at h2
    omega
theorem good_of {g : Game} (h : g.check = 0) : g.good := by
  unfold Game.check at h
  split at h
  · exact absurd h (by decide)
  rename_i big
  split at h
  · exact absurd h (by decide)
  rename_i bad
  split at h
  case isFalse => exact absurd h (by decide)
  rename_i hp
  have hm : g.moves.length = g.owner.length := by omega
  have hat := posFrom_at g g.owner.length 0 hp
  have hmv : ∀ i, i < g.owner.length → movesOK g.owner.length (g.moves.getD i []) = true := fun i hi => by
    have := hat i (by omega) (by omega)
    simp only [Game.posOK, Bool.and_eq_true] at this
    exact this.2
  have hlen : ∀ i, (g.moves.getD i []).length ≤ 400 := fun i => by
    by_cases hi : i < g.owner.length
    · by_cases h0 : (g.moves.getD i []).length = 0
      · omega
      · have h1 := movesOK_ge (hmv i hi) ((g.moves.getD i []).length - 1) (by omega)
        have h2 := (movesOK_at (hmv i hi) (j := (g.moves.getD i []).length - 1) (by omega)).2.1
        omega
    · have : g.moves.getD i [] = [] := by simp only [List.getD_eq_getElem?_getD]; rw [List.getElem?_eq_none (by omega)]; rfl
      rw [this]; simp
  refine ⟨hm, by omega, by omega, fun i => by have := hlen i; omega, ⟨fun i hi => ?_, fun i hi x hx => ?_, fun i hi => movesOK_inc (hmv i hi)⟩⟩
  · have := hat i (by omega) (by simp only [Game.toG] at hi; omega)
    simp only [Game.posOK, Bool.and_eq_true, Bool.or_eq_true, decide_eq_true_eq] at this
    exact this.1
  · obtain ⟨j, hj, rfl⟩ := List.mem_iff_getElem.1 hx
    have hj' : j < (g.moves.getD i []).length := hj
    have := movesOK_at (hmv i hi) hj'
    have e : (g.moves.getD i []).getD j 0 = (g.moves.getD i [])[j] := by rw [List.getD_eq_getElem?_getD (l := g.moves.getD i []), List.getElem?_eq_getElem hj']; rfl
    rw [e] at this
    exact ⟨this.1, this.2.1⟩
end Go.Vs
end
/- Printed by a program of mine (stage1.py): the functions 15, 16, 20, 21, 23, piece by piece. -/
section
set_option linter.unusedVariables false
set_option linter.unusedSimpArgs false
namespace Go.Vs
open Go Go.Proofs
noncomputable section

/-! ### game.Ranks -/
namespace F15
section
variable (b : Nat) (K : KT) (x0 x1 x2 x3 x4 x8 : PV) (e : Env) (S : Store)
end
end F15
/-! ### isochroneref23.Ranks -/
namespace F16
section
variable (b : Nat) (K : KT) (x0 x1 x2 x3 x4 x8 : PV) (e : Env) (S : Store)
end
end F16
/-! ### game.Wins -/
namespace F20
section
variable (b i n n0 : Nat) (K : KT) (x0 x1 x2 x4 x5 x6 x7 x9 x13 x20 x22 x23 x24 x25 : PV) (e : Env) (S : Store)
end
end F20
/-! ### isochroneref23.Wins -/
namespace F21
section
variable (b i n n0 : Nat) (K : KT) (x0 x1 x2 x4 x5 x6 x7 x8 x9 x13 x20 x29 : PV) (e : Env) (S : Store)
end
end F21
/-! ### game.Safe -/
namespace F23
section
variable (b : Nat) (K : KT) (x0 x1 x2 x3 : PV) (e : Env) (S : Store)
end
end F23
end
end Go.Vs
end
/- game.Ranks and the reference's: what they return. -/
section
set_option linter.unusedVariables false
set_option linter.unusedSimpArgs false
namespace Go.Vs
open Go Go.Proofs
/-- The ranks. -/
def Game.ranks (g : Game) : List Int := Rk.lvl g.toG (g.owner.length + 1)
end Go.Vs
end
/- game.Wins: what it returns. -/
section
set_option linter.unusedVariables false
set_option linter.unusedSimpArgs false
namespace Go.Vs
open Go Go.Proofs
theorem bytes4 : (tyi Try.prog 4).bytes = 1 := by kernel_rfl
theorem zeroOK4 : zeroOK (tyi Try.prog 4) = true := by kernel_rfl
theorem boolRows_ok (l : List Bool) : rowsOK 1 (boolRows l) = true := by simp [rowsOK, boolRows]
theorem boolRows_refs (l : List Bool) : rowsRefs (boolRows l) = [] := by
  induction l with
  | nil => rfl
  | cons a l ih => simp only [boolRows, List.map_cons, rowsRefs_cons] at ih ⊢; rw [ih]; rfl
/-- A list of bools that is appended to. -/
inductive BoolO (S : Store) : PV → List Bool → Prop
  | nil : BoolO S (.sl [] true) []
  | arr (id : Nat) (L : List Bool) (g : Option Nat) (hg : g = none ∨ g = some 1) (h : S[id]? = some (.arr (boolRows L) (some g) false)) (h0 : L ≠ []) : BoolO S (.msl id 0 L.length false) L
/-- Does the player win where the rank is this? -/
def winB (p r : Int) : Bool := decide (0 ≤ r) == decide (p = 0)
end Go.Vs
end
/- game.Wins, game.Safe and the reference's Wins: what they return. -/
section
set_option linter.unusedVariables false
set_option linter.unusedSimpArgs false
namespace Go.Vs
open Go Go.Proofs
theorem bools_fz {S : Store} {id : Nat} {ex : Bool} {L : List Bool} {g : Option (Option Nat)} {f : Bool} (h : S[id]? = some (.arr (boolRows L) g f)) (d : Nat) : fzCell S (d + 2) (.msl id 0 L.length ex) = some (.sl (boolRows L) false) := by
  have e0 : rowsAt S id = some (boolRows L) := by simp only [rowsAt, h]
  have e1 : Vs.rowsIn S (.msl id 0 L.length false) = some (boolRows L) := by
    rw [rowsIn_msl, e0]
    simp only [Option.bind_some, Nat.zero_add, boolRows_length, Nat.le_refl, if_true, List.drop_zero]
    rw [← boolRows_length L, List.take_length]
  have e2 : mapO (mapO (fzCell S (d + 1))) (boolRows L) = some (boolRows L) := by
    have := mapO_all (f := mapO (fzCell S (d + 1))) (g := fun x => x) (l := boolRows L) (fun a ha => by
      obtain ⟨w, _, rfl⟩ := List.mem_map.1 ha
      rfl)
    simpa using this
  show ((Vs.rowsIn S (.msl id 0 L.length false)).bind fun rows => (mapO (mapO (fzCell S (d + 1))) rows).map fun rows => PV.sl rows false) = _
  rw [e1]
  simp only [Option.bind_some, e2, Option.map_some]
/-- A list of bools as a value; nil only if it is empty. -/
def IsBools (v : PV) (l : List Bool) : Prop := ∃ ex, v = .sl (boolRows l) ex ∧ (ex = true → l = [])
theorem IsBools.plain {v : PV} {l : List Bool} (h : IsBools v l) : Plain v := by
  obtain ⟨ex, rfl, h2⟩ := h
  cases ex with
  | false => exact .sl _
  | true => rw [h2 rfl]; exact .nil
theorem BoolO.fz {S : Store} {v : PV} {L : List Bool} (h : BoolO S v L) : ∃ w, IsBools w L ∧ fzPV1 S v = some w := by
  cases h with
  | nil => exact ⟨.sl [] true, ⟨true, rfl, fun _ => rfl⟩, rfl⟩
  | arr id L g hg h h0 => exact ⟨.sl (boolRows L) false, ⟨false, rfl, fun h => by cases h⟩, bools_fz (ex := false) h 6⟩
theorem ranks_len (g : Game) : g.ranks.length = g.owner.length := by rw [Game.ranks, Rk.lvl_length]; rfl
end Go.Vs
end
/- The reference's Wins: what it returns. -/
section
set_option linter.unusedVariables false
set_option linter.unusedSimpArgs false
namespace Go.Vs
open Go Go.Proofs
theorem known4' : (tyi Try.prog 4).known = true := by kernel_rfl
def zbool (n : Nat) : List Bool := List.replicate n false
theorem makeSlice24 (id n : Nat) (h : n ≤ 2000000) : makeSliceO Try.prog 24 id (.int .i64 n) (.int .i64 n) = some { v := .msl id 0 n true, new := some (boolRows (zbool n), some (some 1)) } := by
  have e3 : (tyi Try.prog 4).zero = some [.bool false] := by kernel_rfl
  simp only [makeSliceO, d24, e3, Option.bind_some, bytes4, size4]
  rw [if_pos ⟨by omega, by omega, by omega, by omega, rfl, rfl⟩]
  simp [zbool, boolRows]
theorem idx24m {S : Store} {id n : Nat} {ex : Bool} {rows : List (List PV)} (i : Nat) (hS : rowsAt S id = some rows) (hl : rows.length = n) (h2 : rowsOK 1 rows = true) (hi : i < n) : indexAddrO Try.prog 24 S (.msl id 0 n ex) (.int .i64 i) = some (.mp id i 0) := by
  have e1 : elemTy (tyi Try.prog 24) = 4 := by simp [elemTy, d24]
  have e2 : isSlice (tyi Try.prog 24) = true := by simp [isSlice, d24]
  simp only [indexAddrO, e1, e2, known4', size4, and_self, if_true, evIndexAddr, hS, Option.bind_some]
  rw [if_pos ⟨by omega, by omega⟩, if_pos ⟨h2, by omega⟩, Nat.zero_add, Int.toNat_natCast]
end Go.Vs
end
/- Printed by a program of mine (stage1.py): the functions 72, 78, 79, 81, piece by piece. -/
section
set_option linter.unusedVariables false
set_option linter.unusedSimpArgs false
namespace Go.Vs
open Go Go.Proofs
noncomputable section

/-! ### tree.root -/
namespace F72
section
variable (b : Nat) (K : KT) (x0 x1 x2 x3 x12 : PV) (e : Env) (S : Store)
end
end F72
/-! ### tree.step -/
namespace F78
section
variable (b i n n0 : Nat) (K : KT) (x0 x1 x2 x4 x5 x7 x8 x9 x10 x11 x22 : PV) (e : Env) (S : Store)
end
end F78
/-! ### tree.Copy -/
namespace F79
section
variable (b i n n0 : Nat) (K : KT) (x0 x1 x2 x3 x5 x6 x20 x31 x39 x40 x41 x42 : PV) (e : Env) (S : Store)
end
end F79
/-! ### tree.put -/
namespace F81
section
variable (b i n n0 : Nat) (K : KT) (x0 x1 x2 x3 x5 x6 x7 x8 x9 x10 x13 x19 x20 x21 x22 x30 : PV) (e : Env) (S : Store)
end
end F81
end
end Go.Vs
end
/- tree.Copy: it returns the same tree. -/
section
set_option linter.unusedVariables false
set_option linter.unusedSimpArgs false
namespace Go.Vs
open Go Go.Proofs
/- No list of a tree is too long to be appended to. -/
@[go_sem] theorem ownMem_mp (S : Store) (id i off j : Nat) : ownMem S (.mp id i off) j = ownCell S id i (off + j) := nr rfl
/-- A cell that freezes to a value, refers but below, and isn't hurt by what comes behind. -/
structure CellOK (A B R0 : Obj) (T : Store) (v w : PV) : Prop where
  cell : v.cell = true
  low : (v.refs.all fun i => decide (i < T.length + 3)) = true
  fz : ∀ A B R U d, fzCell (A :: B :: R :: (T ++ U)) (d + 2) v = some w
  ne : ∀ i, T.length + 3 ≤ i → (v.refs.any fun x => [i].contains x) = false
/-- A slice of words that lie in the store. -/
theorem fzCell_words {S : Store} {id : Nat} {l : List Int} {ex : Bool} (h : rowsAt S id = some (wordRows l)) (d : Nat) : fzCell S (d + 2) (.msl id 0 l.length ex) = some (.sl (wordRows l) false) := by
  have e1 : rowsIn S (.msl id 0 l.length false) = some (wordRows l) := by
    have : l.length = (wordRows l).length := (wordRows_length l).symm
    simp only [rowsIn, h, Option.bind_some, Nat.zero_add, List.drop_zero, wordRows_length, Nat.le_refl, if_true]
    rw [this, List.take_length]
  have e2 : mapO (mapO (fzCell S (d + 1))) (wordRows l) = some (wordRows l) := by
    have := mapO_all (f := mapO (fzCell S (d + 1))) (g := fun x => x) (l := wordRows l) (fun a ha => by
      obtain ⟨w, _, rfl⟩ := List.mem_map.1 ha
      rfl)
    simpa using this
  show ((rowsIn S (.msl id 0 l.length false)).bind fun rows => (mapO (mapO (fzCell S (d + 1))) rows).map fun rows => PV.sl rows false) = _
  rw [e1]
  simp only [Option.bind_some, e2, Option.map_some]
theorem CellOK.none {A B R0 : Obj} {T : Store} {l : List Int} (h : l.length = 0) : CellOK A B R0 T (.sl [] true) (.sl (wordRows l) false) := by
  obtain rfl := List.eq_nil_of_length_eq_zero h
  exact ⟨rfl, rfl, fun _ _ _ _ _ => rfl, fun _ _ => rfl⟩
theorem CellOK.some {A B R0 : Obj} {T : Store} {l : List Int} {j : Nat} (hj : j < T.length) (h : ∀ U, rowsAt (T ++ U) j = some (wordRows l)) : CellOK A B R0 T (.msl (j + 3) 0 l.length false) (.sl (wordRows l) false) := by
  refine ⟨rfl, ?_, fun A B R U d => fzCell_words ?_ d, fun i hi => ?_⟩
  · simp [PV.refs]; omega
  · rw [rowsAt_succ, rowsAt_succ, rowsAt_succ]; exact h U
  · simp [PV.refs]; omega
end Go.Vs
end
/- tree.put: the tree with another node at a place. -/
section
set_option linter.unusedVariables false
set_option linter.unusedSimpArgs false
namespace Go.Vs
open Go Go.Proofs
/-- The tree with w at a place. -/
def Node.put (w : Node) : List Int → Node → Node
  | [], _ => w
  | p :: ps, n => .mk n.op n.name n.neg n.num n.den (n.kids.mapIdx fun i k => if (i : Int) = p then Node.put w ps k else k)
end Go.Vs
end
/- tree.shape: what it returns. -/
section
set_option linter.unusedVariables false
set_option linter.unusedSimpArgs false
namespace Go.Vs
open Go Go.Proofs
/-- The sorts of an operator's kids; what differs by the node is not told here. -/
def kidSorts (o : Int) : List Int :=
  if o = 4 ∨ o = 12 then [1] else if o = 59 ∨ o = 60 then [3] else if o = 53 ∨ o = 28 ∨ o = 39 then [2] else
  if (5 ≤ o ∧ o ≤ 9) ∨ (22 ≤ o ∧ o ≤ 27) then [1, 1] else if 29 ≤ o ∧ o ≤ 32 then [2, 2] else if o = 33 ∨ o = 34 then [2] else
  if o = 35 ∨ o = 36 then [3, 2] else if o = 50 ∨ o = 51 ∨ o = 55 then [1] else if o = 57 ∨ o = 58 then [3, 3] else []
/-- Has a node of an operator a name? -/
def hasName (o : Int) : Bool := decide (o = 2 ∨ o = 3 ∨ o = 11 ∨ o = 33 ∨ o = 34 ∨ o = 38 ∨ o = 50 ∨ o = 51 ∨ o = 52 ∨ o = 55 ∨ o = 56 ∨ o = 61 ∨ o = 62)
end Go.Vs
end
/- tree.formed: what it returns. -/
section
set_option linter.unusedVariables false
set_option linter.unusedSimpArgs false
namespace Go.Vs
open Go Go.Proofs
def noName (s : ByteArray) : Bool := s.toList == (⟨#[]⟩ : ByteArray).toList
/-- The sorts of a node's kids. -/
def sortsFor (o : Int) (m : Nat) : List Int := if o = 10 ∨ o = 37 then List.replicate m 1 else if o = 54 then List.replicate (m - 1) 4 ++ [2] else kidSorts o
/-- The last test: a quotient's, a power's second kid. -/
def tailOK (o : Int) (f : List Node) : Bool :=
  if o = 8 then decide ((f.getD 1 default).op = 1) && decide (0 < (f.getD 1 default).num.length)
  else if o = 9 then decide ((f.getD 1 default).op = 1) && (decide ((f.getD 1 default).num.length = 0) || (decide ((f.getD 1 default).num.length = 1) && decide ((f.getD 1 default).num.getD 0 0 ≤ 20)))
  else true
/-- Another variable than this equation's. -/
def otherVar (k o : Node) : Bool := !(decide (k.op = 55) && (o.name.toList == k.name.toList))
/-- A flow's kid at a place: an equation of another variable than those before, or further equations at the end. -/
def flowAt (f : List Node) (last i : Nat) : Bool :=
  (decide ((f.getD i default).op = 55) || (decide ((f.getD i default).op = 56) && decide (i = last - 1))) && (f.take i).all (otherVar (f.getD i default))
def flowFrom (f : List Node) (last : Nat) : Nat → Nat → Bool
  | 0, _ => true
  | m + 1, i => flowAt f last i && flowFrom f last m (i + 1)
def flowOK (f : List Node) : Bool := flowFrom f (f.length - 1) (f.length - 1) 0
/-- The number, the name. -/
def headOK (o : Int) (nm : ByteArray) (ng : Bool) (nu de : List Int) : Bool :=
  (if o = 1 then natOK ng nu de else (!ng && (decide (nu.length = 0) && decide (de.length = 0)))) &&
  !((hasName o && !nameOK nm) || (!hasName o && (!noName nm && (decide (o ≠ 10) && decide (o ≠ 37)))))
/-- What an operator asks besides. -/
def switchOK (o : Int) (nm : ByteArray) (f : List Node) (a b c : Bool) : Bool :=
  if o = 10 ∨ o = 37 then nameOK nm && decide (f.length ≤ 1)
  else if o = 54 then noName nm && (decide (2 ≤ f.length) && flowOK f)
  else if o = 3 then !(a || (b || c))
  else if o = 12 then !(a || c)
  else if o = 39 then !c && (decide (f.length = 1) && (f.getD 0 default).diff)
  else true
mutual
def Node.formed : Node → Bool → Bool → Bool → Bool
  | .mk o nm ng nu de f, a, b, c => headOK o nm ng nu de && (switchOK o nm f a b c && (decide (f.length = (sortsFor o f.length).length) && (Node.formeds f (sortsFor o f.length) (a || decide (o = 12)) (b || decide (o = 39)) (c || decide (o = 54)) && tailOK o f)))
def Node.formeds : List Node → List Int → Bool → Bool → Bool → Bool
  | [], _, _, _, _ => true
  | n :: r, s, a, b, c => decide (sortOf n.op = s.getD 0 0) && (n.formed a b c && Node.formeds r s.tail a b c)
end
/-- All that formed asks behind the number and the name. -/
def Node.rest (n : Node) (a b c : Bool) : Bool := switchOK n.op n.name n.kids a b c && (decide (n.kids.length = (sortsFor n.op n.kids.length).length) && (Node.formeds n.kids (sortsFor n.op n.kids.length) (a || decide (n.op = 12)) (b || decide (n.op = 39)) (c || decide (n.op = 54)) && tailOK n.op n.kids))
end Go.Vs
end
/- tree.formed on a flow. -/
section
set_option linter.unusedVariables false
set_option linter.unusedSimpArgs false
namespace Go.Vs
open Go Go.Proofs
end Go.Vs
end
/- tree.Check: what it returns. -/
section
set_option linter.unusedVariables false
set_option linter.unusedSimpArgs false
namespace Go.Vs
open Go Go.Proofs
def Node.small (n : Node) : Bool := decide (n.count ≤ 4000) && decide (n.depth ≤ 60)
def Node.check (n : Node) (sort : Int) : Int :=
  if sort < 1 ∨ 3 < sort then 1 else if n.small = false then 2 else if sortOf n.op ≠ sort then 80 else if n.formed false false false = false then 3 else 0
end Go.Vs
end
/- Printed by a program of mine (stage1.py): the functions 52, 54, piece by piece. -/
section
set_option linter.unusedVariables false
set_option linter.unusedSimpArgs false
namespace Go.Vs
open Go Go.Proofs
noncomputable section

/-! ### tree.At -/
namespace F52
section
variable (b : Nat) (K : KT) (x0 x1 x2 x4 x5 x6 x7 x8 x12 x22 : PV) (e : Env) (S : Store)
end
end F52
/-! ### tree.Replace -/
namespace F54
section
variable (b : Nat) (K : KT) (x0 x1 x2 x3 x5 x6 x7 x8 x9 x10 x11 x12 x13 x17 x27 x41 x45 x57 : PV) (e : Env) (S : Store)
end
end F54
end
end Go.Vs
end
/- tree.root, step, At: what they return. -/
section
set_option linter.unusedVariables false
set_option linter.unusedSimpArgs false
namespace Go.Vs
open Go Go.Proofs
/-- The node at a place. -/
def Node.at : List Int → Node → Option Node
  | [], n => some n
  | p :: ps, n => if p < 0 ∨ (n.kids.length : Int) ≤ p then none else Node.at ps (n.kids.getD p.toNat default)
end Go.Vs
end
/- tree.within, with the number anywhere in the store. -/
section
set_option linter.unusedVariables false
set_option linter.unusedSimpArgs false
namespace Go.Vs
open Go Go.Proofs
end Go.Vs
end
/- tree.Replace: what it returns. -/
section
set_option linter.unusedVariables false
set_option linter.unusedSimpArgs false
namespace Go.Vs
open Go Go.Proofs
end Go.Vs
end
/- The order of trees: antisymmetric, transitive. -/
section
set_option linter.unusedVariables false
set_option linter.unusedSimpArgs false
namespace Go.Vs
open Go Go.Proofs
/-- Three comparisons, of a with b, b with c, a with c, go together. -/
def Tri (x y z : Int) : Prop := (0 < x ∨ 0 < y ∨ (z ≤ 0 ∧ (z ≠ 0 ∨ (x = 0 ∧ y = 0)))) ∧ (x < 0 ∨ y < 0 ∨ (0 ≤ z ∧ (z ≠ 0 ∨ (x = 0 ∧ y = 0))))
theorem Tri.seq {x y z x' y' z' : Int} (h : Tri x y z) (k : x = 0 → y = 0 → z = 0 → Tri x' y' z') : Tri (seqI x x') (seqI y y') (seqI z z') := by
  unfold Tri at *
  have e : ∀ u v : Int, (u = 0 ∧ seqI u v = v) ∨ (u ≠ 0 ∧ seqI u v = u) := fun u v => by
    by_cases hu : u = 0
    · left; simp [seqI, hu]
    · right; simp [seqI, hu]
  rcases e x x' with ⟨h1, e1⟩ | ⟨h1, e1⟩ <;> rcases e y y' with ⟨h2, e2⟩ | ⟨h2, e2⟩ <;> rcases e z z' with ⟨h3, e3⟩ | ⟨h3, e3⟩ <;> rw [e1, e2, e3]
  · exact k h1 h2 h3
  all_goals (clear k; omega)
/-- The results are -1, 0, 1. -/
def Small (x : Int) : Prop := -1 ≤ x ∧ x ≤ 1
theorem Small.seq {x y : Int} (h : Small x) (k : Small y) : Small (seqI x y) := by unfold seqI; split <;> assumption
end Go.Vs
end
/- Places in trees: plain laws. -/
section
set_option linter.unusedVariables false
set_option linter.unusedSimpArgs false
namespace Go.Vs
open Go Go.Proofs
/-! ### A well formed tree's nodes have sorts -/
end Go.Vs
end
/- Printed by a program of mine (stage1.py): the functions 87, 88, 90, 91, 92, 95, piece by piece. -/
section
set_option linter.unusedVariables false
set_option linter.unusedSimpArgs false
namespace Go.Vs
open Go Go.Proofs
noncomputable section

/-! ### isochroneref08.named -/
namespace F87
section
variable (b : Nat) (K : KT) (x0 x2 x3 x4 : PV) (e : Env) (S : Store)
end
end F87
/-! ### isochroneref08.natural -/
namespace F88
section
variable (b : Nat) (K : KT) (x0 x1 x2 x23 : PV) (e : Env) (S : Store)
end
end F88
/-! ### isochroneref08.kids -/
namespace F90
section
variable (b : Nat) (K : KT) (x0 x2 x3 x4 x10 x22 x28 x33 x36 x39 : PV) (e : Env) (S : Store)
end
end F90
/-! ### isochroneref08.Natural -/
namespace F91
section
variable (b : Nat) (K : KT) (x0 x1 x2 x4 x8 x21 : PV) (e : Env) (S : Store)
end
end F91
/-! ### isochroneref08.differential -/
namespace F92
section
variable (b i n n1 : Nat) (K : KT) (x0 x1 x2 x3 x4 x33 x46 x55 : PV) (e : Env) (S : Store)
end
end F92
/-! ### isochroneref08.primed -/
namespace F95
section
variable (b i n n0 : Nat) (K : KT) (x0 x1 x2 x3 x16 x21 x29 : PV) (e : Env) (S : Store)
end
end F95
end
end Go.Vs
end
/- The reference's small functions: what they return. -/
section
set_option linter.unusedVariables false
set_option linter.unusedSimpArgs false
namespace Go.Vs
open Go Go.Proofs
def hasName' (o : Int) : Bool := hasName o || (decide (o = 10) || decide (o = 37))
/-- The sorts as digits. -/
def digits (l : List Int) : ByteArray := ⟨(l.map fun d => UInt8.ofNat (48 + d.toNat)).toArray⟩
/-- The value of a natural number, -1 if it is greater than a bound. -/
def natVal (num : List Int) (most : Int) : Int := if num.length = 0 then 0 else if 1 < num.length ∨ most < num.getD 0 0 then -1 else num.getD 0 0
mutual
/-- Does a differential occur? -/
def Node.primed : Node → Bool
  | .mk o _ _ _ _ f => (decide (o = 3) || (decide (o = 12) || decide (o = 39))) || Node.primeds f
def Node.primeds : List Node → Bool
  | [] => false
  | n :: r => n.primed || Node.primeds r
end
end Go.Vs
end
/- Printed by a program of mine (stage1.py): the functions 89, 65, 37, 7, piece by piece. -/
section
set_option linter.unusedVariables false
set_option linter.unusedSimpArgs false
namespace Go.Vs
open Go Go.Proofs
noncomputable section

/-! ### isochroneref08.flow -/
namespace F89
section
variable (b i n n0 n2 : Nat) (K : KT) (x0 x1 x2 x3 x6 x7 x8 x9 x10 x31 x35 x68 x71 x87 : PV) (e : Env) (S : Store)
end
end F89
/-! ### isochroneref08.well -/
namespace F65
section
variable (b i n n0 : Nat) (K : KT) (x0 x1 x2 x3 x4 x8 x9 x10 x35 x38 x42 x59 x76 x79 x94 x98 x104 x108 x134 x136 x137 x155 x172 : PV) (e : Env) (S : Store)
end
end F65
/-! ### isochroneref08.Check -/
namespace F37
section
variable (b : Nat) (K : KT) (x0 x1 x2 x4 x5 x12 x21 x27 : PV) (e : Env) (S : Store)
end
end F37
/-! ### isochronelaw08.TreeChecks -/
namespace F7
section
variable (b : Nat) (K : KT) (x0 x1 x2 x4 x6 : PV) (e : Env) (S : Store)
end
end F7
end
end Go.Vs
end
/- The reference's flow, over well: what it returns. -/
section
set_option linter.unusedVariables false
set_option linter.unusedSimpArgs false
namespace Go.Vs
open Go Go.Proofs
/-- The sorts of a node's kids, by the reference. -/
def sortsRef (o : Int) (m : Nat) : List Int := if (o = 10 ∨ o = 37) ∧ m = 1 then [1] else kidSorts o
def tailRef (o : Int) (f : List Node) : Bool :=
  if o = 8 then decide ((f.getD 1 default).op = 1) && decide (0 < (f.getD 1 default).num.length)
  else if o = 9 then decide ((f.getD 1 default).op = 1) && decide (0 ≤ natVal (f.getD 1 default).num 20)
  else if o = 39 then (f.getD 0 default).diff
  else true
mutual
def Node.well : Node → Int → Bool → Bool → Bool
  | .mk o nm ng nu de fs, s, t, f =>
    (decide (sortOf o = s) && (decide (hasName' o = nameOK nm) && (hasName' o || noName nm))) &&
    ((if o = 1 then natOK ng nu de else (!ng && (decide (nu.length = 0) && decide (de.length = 0)))) &&
    (!((t && decide (o = 12)) || ((t || f) && decide (o = 3))) &&
    (if o = 54 then decide (2 ≤ fs.length) && (!((decide (o = 3) || (decide (o = 12) || decide (o = 39))) || Node.primeds fs) && (Node.wells fs (List.replicate (fs.length - 1) 4 ++ [2]) t f && flowOK fs))
     else decide ((sortsRef o fs.length).length = fs.length) && (Node.wells fs (sortsRef o fs.length) (t || decide (o = 12)) (f || decide (o = 39)) && tailRef o fs))))
def Node.wells : List Node → List Int → Bool → Bool → Bool
  | [], _, _, _ => true
  | n :: r, s, t, f => n.well (s.getD 0 0) t f && Node.wells r s.tail t f
end
end Go.Vs
end
/- The reference's well: what it returns. -/
section
set_option linter.unusedVariables false
set_option linter.unusedSimpArgs false
namespace Go.Vs
open Go Go.Proofs
end Go.Vs
end
/- The reference's well and Check: what they return. -/
section
set_option linter.unusedVariables false
set_option linter.unusedSimpArgs false
namespace Go.Vs
open Go Go.Proofs
end Go.Vs
end
/- The reference's Check; both agree where nothing wraps. -/
section
set_option linter.unusedVariables false
set_option linter.unusedSimpArgs false
namespace Go.Vs
open Go Go.Proofs
/-! ### Sizes and levels that don't wrap are the true ones -/
/-! ### Well formed, by both -/
end Go.Vs
end
/- tree.formed and the reference's well agree. -/
section
set_option linter.unusedVariables false
set_option linter.unusedSimpArgs false
namespace Go.Vs
open Go Go.Proofs
end Go.Vs
end
/- The check of the statements' own package comes to true. -/
section
set_option linter.unusedVariables false
namespace Go.Vs
open Go Go.Proofs
def isTrue (x : Option PV) : Bool := match x with | some (.bool b) => b | _ => false
theorem isTrue_eq {x : Option PV} (h : isTrue x = true) : x = some (.bool true) := by
  unfold isTrue at h
  split at h
  · subst h; rfl
  · cases h
end Go.Vs
end
/- TreeChecks gives true for all trees of at most 1000000000 nodes. -/
section
set_option linter.unusedVariables false
set_option linter.unusedSimpArgs false
namespace Go.Vs
open Go Go.Proofs
end Go.Vs
end
/- A law's arguments as pure values, with a bound for what they hold: the second form's bulk. -/
section
set_option linter.unusedVariables false
set_option linter.unusedSimpArgs false
namespace Go.Vs
open Go Go.RowKit Go.Proofs
open Go.Proofs.Ytnddhkcciphhkaa.Rows
section
variable {H : Type}
end
end Go.Vs
end
/- Printed by a program of mine (stage1.py): the functions 12, piece by piece. -/
section
set_option linter.unusedVariables false
set_option linter.unusedSimpArgs false
namespace Go.Vs
open Go Go.Proofs
noncomputable section

/-! ### isochronelaw08.TreeReplaces -/
namespace F12
section
variable (b : Nat) (K : KT) (x0 x1 x2 x3 x5 x6 x7 x8 x9 x10 x11 x12 x13 x14 x15 x16 x18 x26 x34 x49 x58 : PV) (e : Env) (S : Store)
end
end F12
end
end Go.Vs
end
/- TreeReplaces gives true. -/
section
set_option linter.unusedVariables false
set_option linter.unusedSimpArgs false
namespace Go.Vs
open Go Go.Proofs
end Go.Vs
end
/- TreeReplaces gives true for all arguments of bulk at most 1048576. -/
section
set_option linter.unusedVariables false
namespace Go.Vs
open Go Go.Proofs
end Go.Vs
end
/- Printed by a program of mine (stage1.py): the functions 75, 80, 53, 82, 55, 56, 11, piece by piece. -/
section
set_option linter.unusedVariables false
set_option linter.unusedSimpArgs false
namespace Go.Vs
open Go Go.Proofs
noncomputable section

/-! ### isochroneref08.whole -/
namespace F75
section
variable (b : Nat) (K : KT) (x0 x1 x2 x3 x12 : PV) (e : Env) (S : Store)
end
end F75
/-! ### isochroneref08.at -/
namespace F80
section
variable (b i n n0 : Nat) (K : KT) (x0 x1 x2 x4 x5 x6 x10 x27 : PV) (e : Env) (S : Store)
end
end F80
/-! ### isochroneref08.At -/
namespace F53
section
variable (b : Nat) (K : KT) (x0 x1 x2 x4 x5 x6 x7 x8 x12 x22 : PV) (e : Env) (S : Store)
end
end F53
/-! ### isochroneref08.Put -/
namespace F82
section
variable (b : Nat) (K : KT) (x0 x1 x2 x3 x5 x6 x7 x10 : PV) (e : Env) (S : Store)
end
end F82
/-! ### isochroneref08.Replace -/
namespace F55
section
variable (b : Nat) (K : KT) (x0 x1 x2 x3 x5 x6 x7 x8 x9 x10 x11 x12 x20 x34 x46 : PV) (e : Env) (S : Store)
end
end F55
/-! ### isochroneref08.Equal -/
namespace F56
section
variable (b : Nat) (K : KT) (x0 x1 x2 x3 x4 : PV) (e : Env) (S : Store)
end
end F56
/-! ### isochronelaw08.TreePlaces -/
namespace F11
section
variable (b : Nat) (K : KT) (x0 x1 x2 x3 x5 x6 x7 x8 x9 x10 x11 x12 x13 x14 x16 x24 : PV) (e : Env) (S : Store)
end
end F11
end
end Go.Vs
end
/- The reference's whole, at, At, Put, Replace: what they return; TreePlaces gives true. -/
section
set_option linter.unusedVariables false
set_option linter.unusedSimpArgs false
namespace Go.Vs
open Go Go.Proofs
/-! ### Put -/
end Go.Vs
end
/- TreeChecks gives true for all arguments of bulk at most 1048576. -/
section
set_option linter.unusedVariables false
namespace Go.Vs
open Go Go.Proofs
/- A tree's nodes are no more than what it holds. -/
end Go.Vs
end
/- TreePlaces gives true for all arguments of bulk at most 1048576. -/
section
set_option linter.unusedVariables false
set_option linter.unusedSimpArgs false
namespace Go.Vs
open Go Go.Proofs
end Go.Vs
end
