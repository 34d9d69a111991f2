/- The reference's natural numbers: digit. -/

import Derived.Test.YtkaeejkajfinhaaGreatMS18
import Derived.Test.YtkaeejkajfinhaaGreatMS19
import Derived.Test.YtkaeejkajfinhaaGreatMS20
section
set_option linter.unusedVariables false
set_option linter.unusedSimpArgs false
set_option maxRecDepth 100000
namespace Go.Vs
open Go Go.Proofs
theorem nat_SmallK {n : Nat} {v : PV} (h : IsNat n v) (k : Nat) (hk : k ≤ 65536) (hn : (dec n).length ≤ 1000000) (S : Store) : callO (callL Tryz.prog hints) S 160 [v, .int .i64 k, .int .i64 0] = some { v := natV (n * k) } := nat_Small h k 0 hk (by omega) hn S
theorem dec_mul {m n j k : Nat} (hm : (dec m).length ≤ j) (hn : (dec n).length ≤ k) : (dec (m * n)).length ≤ j + k := digs_mul DB2 hm hn
theorem dec_small {n : Nat} (h : n < 10000) : (dec n).length ≤ 1 := (digs_le DB2 1 n).2 (by rw [Nat.pow_one]; exact h)
theorem getD_last {n : Nat} (h : n ≠ 0) : 0 < (dec n).getD ((dec n).length - 1) 0 := by
  have h1 := (dec_ok n).getD (by decide) ((dec n).length - 1)
  have h2 : (dec n).getD ((dec n).length - 1) 0 ≠ 0 := digs_last DB2 h
  omega
section
attribute [local irreducible] Vs.callL Vs.callRL tyi callO callM callMV appendE storeE evLoad indexAddrO sliceO evFieldAddr evField buildO buildSliceO makeSliceO allocO boxed lenO copyE convertO indexO Vs.gc freezeAll
noncomputable def fx_isochroneref01_digit : FX := ⟨Tryz.f187, hints.of 187, []⟩
theorem ok_isochroneref01_digit : fx_isochroneref01_digit.ok 187 := ⟨by kernel_rfl, of_decide_eq_true (by kernel_rfl), by kernel_rfl, by kernel_rfl, by kernel_rfl, by kernel_rfl⟩
theorem sem_isochroneref01_digit (b0 : Nat) (m : Md) (fs : List Fr) (e : Env) (S : Store) : sem b0 fx_isochroneref01_digit m fs e S = run b0 fx_isochroneref01_digit 1000 m fs e S := (sem_eq _ _ _ _ _ _).trans (run_sem b0 fx_isochroneref01_digit ok_isochroneref01_digit.good 1000 m fs e S).symm
theorem loop_digit0 (R B : List Int) (e1 e2 : Bool) (hR : OkD DB R) (hl : R.length ≤ 1000000) (hl2 : B.length ≤ 1000000) (fs : List Fr) {z : PV × Store} (hz : ∀ t : Int, 0 ≤ t → t < 1000000000000 → exitTo 0 fx_isochroneref01_digit 0 fs [(0, .sl (kRows .i64 R) e1), (1, .sl (kRows .i64 B) e2), (5, .int .i64 B.length), (6, .int .i64 t), (7, .int .i64 0), (8, .undef), (18, .undef)] [] = some z) :
    ∀ (m : Nat) (i U t : Int), i = (if (0 : Int) < (B.length : Int) - 2 then (B.length : Int) - 2 else 0) - 1 + m → i ≤ 1000000 → 0 ≤ t → t < U → U * 10000 ^ m ≤ 1000000000000 → loopAt 0 fx_isochroneref01_digit 0 244 0 fs [(0, .sl (kRows .i64 R) e1), (1, .sl (kRows .i64 B) e2), (5, .int .i64 B.length), (6, .int .i64 t), (7, .int .i64 0), (8, .int .i64 i)] [] = some z := by
  have hM := maxLen_big
  have w0 : IntKind.i64.wrap ((B.length : Int) - 2) = (B.length : Int) - 2 := by rw [IntKind.wrap_i64]; omega
  intro m
  induction m with
  | zero =>
    intro i U t hi hi2 h0 hU hU2
    have c : ¬ (if (0 : Int) < (B.length : Int) - 2 then (B.length : Int) - 2 else 0) ≤ i := by omega
    have key := hz t h0 (by rw [Int.pow_zero, Int.mul_one] at hU2; omega)
    refine loopAt_step ok_isochroneref01_digit.good 1000 ?_
    ((repeat ((conv => lhs; whnf); simp only [go_sem, ↓reduceIte, Nat.reduceEqDiff, Nat.reduceBEq, Nat.reduceAdd, Nat.reduceMul, Nat.reduceSub, Nat.reduceLT, Nat.reduceLeDiff, reduceCtorEq, Int.reduceToNat, Int.reduceLE, Int.reduceLT, Int.reduceEq, sem_isochroneref01_digit, w0, c])); try (conv => lhs; whnf); try rfl)
    exact key
  | succ m ih =>
    intro i U t hi hi2 h0 hU hU2
    have c : (if (0 : Int) < (B.length : Int) - 2 then (B.length : Int) - 2 else 0) ≤ i := by omega
    have hi0 : 0 ≤ i := by
      have : (0 : Int) ≤ (if (0 : Int) < (B.length : Int) - 2 then (B.length : Int) - 2 else 0) := by split <;> omega
      omega
    have w1 : IntKind.i64.wrap (i - 1) = i - 1 := by rw [IntKind.wrap_i64]; omega
    have hP : (1 : Int) ≤ 10000 ^ m := by
      have := Int.pow_pos (m := m) (show (0 : Int) < 10000 by omega)
      omega
    have hU3 : U * 10000 * 10000 ^ m ≤ 1000000000000 := by
      rw [Int.pow_succ, Int.mul_comm (10000 ^ m) 10000, ← Int.mul_assoc] at hU2
      exact hU2
    have hU4 : U * 10000 ≤ 1000000000000 := by
      have : U * 10000 * 1 ≤ U * 10000 * 10000 ^ m := Int.mul_le_mul_of_nonneg_left hP (by omega)
      omega
    have w2 : IntKind.i64.wrap (t * 10000) = t * 10000 := by rw [IntKind.wrap_i64]; omega
    obtain ⟨j, rfl⟩ : ∃ j : Nat, i = j := ⟨i.toNat, by omega⟩
    refine loopAt_step ok_isochroneref01_digit.good 1000 ?_
    by_cases hb : j < R.length
    · have c2 : (j : Int) < (R.length : Int) := by omega
      have x2 : 0 ≤ (j : Int) ∧ (j : Int) < (R.length : Int) := ⟨by omega, c2⟩
      have ha := hR.getD (by decide) j
      have ha' : R.getD j 0 < 10000 := ha.2
      have w3 : IntKind.i64.wrap (t * 10000 + R.getD j 0) = t * 10000 + R.getD j 0 := by rw [IntKind.wrap_i64]; omega
      have key := ih ((j : Int) - 1) (U * 10000) (t * 10000 + R.getD j 0) (by omega) (by omega) (by omega) (by omega) hU3
      ((repeat ((conv => lhs; whnf); simp only [go_sem, ↓reduceIte, Nat.reduceEqDiff, Nat.reduceBEq, Nat.reduceAdd, Nat.reduceMul, Nat.reduceSub, Nat.reduceLT, Nat.reduceLeDiff, reduceCtorEq, Int.reduceToNat, Int.reduceLE, Int.reduceLT, Int.reduceEq, sem_isochroneref01_digit, w0, c, w1, w2, w3, c2, x2, Int.toNat_natCast])); try (conv => lhs; whnf); try rfl)
      exact key
    · have c2 : ¬ (j : Int) < (R.length : Int) := by omega
      have key := ih ((j : Int) - 1) (U * 10000) (t * 10000) (by omega) (by omega) (by omega) (by omega) hU3
      ((repeat ((conv => lhs; whnf); simp only [go_sem, ↓reduceIte, Nat.reduceEqDiff, Nat.reduceBEq, Nat.reduceAdd, Nat.reduceMul, Nat.reduceSub, Nat.reduceLT, Nat.reduceLeDiff, reduceCtorEq, Int.reduceToNat, Int.reduceLE, Int.reduceLT, Int.reduceEq, sem_isochroneref01_digit, w0, c, w1, w2, c2])); try (conv => lhs; whnf); try rfl)
      exact key
theorem loop_digit2 (R B : List Int) (e1 e2 : Bool) (hB : OkD DB B) (hl2 : B.length ≤ 1000000) (h1 : 1 ≤ B.length) (hpos : 0 < B.getD (B.length - 1) 0) (x6 : PV) (fs : List Fr) {z : PV × Store} (hz : ∀ t : Int, 0 < t → t < 1000000000000 → exitTo 0 fx_isochroneref01_digit 2 fs [(0, .sl (kRows .i64 R) e1), (1, .sl (kRows .i64 B) e2), (5, .int .i64 B.length), (6, x6), (7, .int .i64 t), (9, .undef), (39, .undef)] [] = some z) :
    ∀ (m : Nat) (i U t : Int), i = (if (0 : Int) < (B.length : Int) - 2 then (B.length : Int) - 2 else 0) - 1 + m → i ≤ (B.length : Int) - 1 → (i = (B.length : Int) - 1 ∨ 0 < t) → 0 ≤ t → t < U → U * 10000 ^ m ≤ 1000000000000 → loopAt 0 fx_isochroneref01_digit 2 500 0 fs [(0, .sl (kRows .i64 R) e1), (1, .sl (kRows .i64 B) e2), (5, .int .i64 B.length), (6, x6), (7, .int .i64 t), (9, .int .i64 i)] [] = some z := by
  have hM := maxLen_big
  have w0 : IntKind.i64.wrap ((B.length : Int) - 2) = (B.length : Int) - 2 := by rw [IntKind.wrap_i64]; omega
  intro m
  induction m with
  | zero =>
    intro i U t hi hi2 hp h0 hU hU2
    have c : ¬ (if (0 : Int) < (B.length : Int) - 2 then (B.length : Int) - 2 else 0) ≤ i := by omega
    have hp' : 0 < t := by
      rcases hp with hp | hp
      · exfalso
        revert hi; split <;> intro hi <;> omega
      · exact hp
    have key := hz t hp' (by rw [Int.pow_zero, Int.mul_one] at hU2; omega)
    refine loopAt_step ok_isochroneref01_digit.good 1000 ?_
    ((repeat ((conv => lhs; whnf); simp only [go_sem, ↓reduceIte, Nat.reduceEqDiff, Nat.reduceBEq, Nat.reduceAdd, Nat.reduceMul, Nat.reduceSub, Nat.reduceLT, Nat.reduceLeDiff, reduceCtorEq, Int.reduceToNat, Int.reduceLE, Int.reduceLT, Int.reduceEq, sem_isochroneref01_digit, w0, c])); try (conv => lhs; whnf); try rfl)
    exact key
  | succ m ih =>
    intro i U t hi hi2 hp h0 hU hU2
    have c : (if (0 : Int) < (B.length : Int) - 2 then (B.length : Int) - 2 else 0) ≤ i := by omega
    have hi0 : 0 ≤ i := by
      have : (0 : Int) ≤ (if (0 : Int) < (B.length : Int) - 2 then (B.length : Int) - 2 else 0) := by split <;> omega
      omega
    have w1 : IntKind.i64.wrap (i - 1) = i - 1 := by rw [IntKind.wrap_i64]; omega
    have hP : (1 : Int) ≤ 10000 ^ m := by
      have := Int.pow_pos (m := m) (show (0 : Int) < 10000 by omega)
      omega
    have hU3 : U * 10000 * 10000 ^ m ≤ 1000000000000 := by
      rw [Int.pow_succ, Int.mul_comm (10000 ^ m) 10000, ← Int.mul_assoc] at hU2
      exact hU2
    have hU4 : U * 10000 ≤ 1000000000000 := by
      have : U * 10000 * 1 ≤ U * 10000 * 10000 ^ m := Int.mul_le_mul_of_nonneg_left hP (by omega)
      omega
    have w2 : IntKind.i64.wrap (t * 10000) = t * 10000 := by rw [IntKind.wrap_i64]; omega
    obtain ⟨j, rfl⟩ : ∃ j : Nat, i = j := ⟨i.toNat, by omega⟩
    have c2 : (j : Int) < (B.length : Int) := by omega
    have x2 : 0 ≤ (j : Int) ∧ (j : Int) < (B.length : Int) := ⟨by omega, c2⟩
    have ha := hB.getD (by decide) j
    have ha' : B.getD j 0 < 10000 := ha.2
    have w3 : IntKind.i64.wrap (t * 10000 + B.getD j 0) = t * 10000 + B.getD j 0 := by rw [IntKind.wrap_i64]; omega
    have hp2 : 0 < t * 10000 + B.getD j 0 := by
      rcases hp with hp | hp
      · have : j = B.length - 1 := by omega
        rw [this]; omega
      · omega
    have key := ih ((j : Int) - 1) (U * 10000) (t * 10000 + B.getD j 0) (by omega) (by omega) (.inr hp2) (by omega) (by omega) hU3
    refine loopAt_step ok_isochroneref01_digit.good 1000 ?_
    ((repeat ((conv => lhs; whnf); simp only [go_sem, ↓reduceIte, Nat.reduceEqDiff, Nat.reduceBEq, Nat.reduceAdd, Nat.reduceMul, Nat.reduceSub, Nat.reduceLT, Nat.reduceLeDiff, reduceCtorEq, Int.reduceToNat, Int.reduceLE, Int.reduceLT, Int.reduceEq, sem_isochroneref01_digit, w0, c, w1, w2, w3, x2, Int.toNat_natCast])); try (conv => lhs; whnf); try rfl)
    exact key
theorem loop_digit4 (m n : Nat) (e1 e2 : Bool) (i1 : IsNat m (natE m e1)) (i2 : IsNat n (natE n e2)) (hm : (dec m).length ≤ 900000) (hn : (dec n).length ≤ 900000) (fs : List Fr) {z : PV × Store} (hz : ∀ q : Nat, q ≤ 9999 → n * q ≤ m → exitTo 0 fx_isochroneref01_digit 4 fs [(0, natE m e1), (1, natE n e2), (10, .int .i64 q), (63, .undef)] [] = some z) :
    ∀ (q : Nat), q ≤ 9999 → loopAt 0 fx_isochroneref01_digit 4 2040 0 fs [(0, natE m e1), (1, natE n e2), (10, .int .i64 q)] [] = some z := by
  intro q
  induction q with
  | zero =>
    intro hq
    have key := hz 0 hq (by simp)
    have s1 := nat_SmallK i2 0 (by decide) (by omega)
    have s2 := nat_Cmp (IsNat.of (n * 0)) i1 (by rw [Nat.mul_zero]; simp [dec, digs_zero]) (by omega)
    have c : ¬ 0 < cmpN (n * 0) m := by unfold cmpN; split <;> (try split) <;> omega
    have e0 : ((0 : Nat) : Int) = 0 := rfl
    rw [e0] at s1 key ⊢
    refine loopAt_step ok_isochroneref01_digit.good 1000 ?_
    unfold natE natV at *
    ((repeat ((conv => lhs; whnf); simp only [go_sem, ↓reduceIte, Nat.reduceEqDiff, Nat.reduceBEq, Nat.reduceAdd, Nat.reduceMul, Nat.reduceSub, Nat.reduceLT, Nat.reduceLeDiff, reduceCtorEq, Int.reduceToNat, Int.reduceLE, Int.reduceLT, Int.reduceEq, sem_isochroneref01_digit, s1, s2, c])); try (conv => lhs; whnf); try rfl)
    exact key
  | succ q ih =>
    intro hq
    have s1 := nat_SmallK i2 (q + 1) (by omega) (by omega)
    have hd : (dec (n * (q + 1))).length ≤ 900001 := dec_mul hn (dec_small (by omega))
    have s2 := nat_Cmp (IsNat.of (n * (q + 1))) i1 (by omega) (by omega)
    refine loopAt_step ok_isochroneref01_digit.good 1000 ?_
    by_cases h : n * (q + 1) ≤ m
    · have key := hz (q + 1) hq h
      have c : ¬ 0 < cmpN (n * (q + 1)) m := by unfold cmpN; split <;> (try split) <;> omega
      unfold natE natV at *
      ((repeat ((conv => lhs; whnf); simp only [go_sem, ↓reduceIte, Nat.reduceEqDiff, Nat.reduceBEq, Nat.reduceAdd, Nat.reduceMul, Nat.reduceSub, Nat.reduceLT, Nat.reduceLeDiff, reduceCtorEq, Int.reduceToNat, Int.reduceLE, Int.reduceLT, Int.reduceEq, sem_isochroneref01_digit, s1, s2, c])); try (conv => lhs; whnf); try rfl)
      exact key
    · have key := ih (by omega)
      have c : 0 < cmpN (n * (q + 1)) m := by unfold cmpN; rw [if_neg (by omega), if_pos (by omega)]; omega
      have w : IntKind.i64.wrap (((q + 1 : Nat) : Int) - 1) = (q : Int) := by rw [IntKind.wrap_i64]; omega
      unfold natE natV at *
      ((repeat ((conv => lhs; whnf); simp only [go_sem, ↓reduceIte, Nat.reduceEqDiff, Nat.reduceBEq, Nat.reduceAdd, Nat.reduceMul, Nat.reduceSub, Nat.reduceLT, Nat.reduceLeDiff, reduceCtorEq, Int.reduceToNat, Int.reduceLE, Int.reduceLT, Int.reduceEq, sem_isochroneref01_digit, s1, s2, c, w])); try (conv => lhs; whnf); try rfl)
      exact key
theorem loop_digit6 (m n : Nat) (e1 e2 : Bool) (i1 : IsNat m (natE m e1)) (i2 : IsNat n (natE n e2)) (hm : (dec m).length ≤ 900000) (hn : (dec n).length ≤ 900000) (h0 : n ≠ 0) (hlt : m < n * 10000) (fs : List Fr) {z : PV × Store} (hz : exitTo 0 fx_isochroneref01_digit 6 fs [(0, .undef), (1, .undef), (10, .int .i64 (m / n : Nat)), (77, .undef)] [] = some z) :
    ∀ (f q : Nat), 9999 - q = f → q ≤ 9999 → n * q ≤ m → loopAt 0 fx_isochroneref01_digit 6 4088 0 fs [(0, natE m e1), (1, natE n e2), (10, .int .i64 q), (63, .undef)] [] = some z := by
  intro f
  induction f with
  | zero =>
    intro q hf hq hle
    have hq9 : q = 9999 := by omega
    have e : m / n = 9999 := by
      rw [hq9] at hle
      exact Nat.div_eq_of_lt_le (by rw [Nat.mul_comm]; exact hle) (by rw [Nat.mul_comm]; exact hlt)
    rw [e] at hz
    subst hq9
    have w : IntKind.i64.wrap (((9999 : Nat) : Int) + 1) = 10000 := by decide
    refine loopAt_step ok_isochroneref01_digit.good 1000 ?_
    unfold natE at *
    ((repeat ((conv => lhs; whnf); simp only [go_sem, ↓reduceIte, Nat.reduceEqDiff, Nat.reduceBEq, Nat.reduceAdd, Nat.reduceMul, Nat.reduceSub, Nat.reduceLT, Nat.reduceLeDiff, reduceCtorEq, Int.reduceToNat, Int.reduceLE, Int.reduceLT, Int.reduceEq, sem_isochroneref01_digit, w])); try (conv => lhs; whnf); try rfl)
    exact hz
  | succ f ih =>
    intro q hf hq hle
    have w : IntKind.i64.wrap ((q : Int) + 1) = ((q + 1 : Nat) : Int) := by rw [IntKind.wrap_i64]; omega
    have c1 : ((q + 1 : Nat) : Int) < 10000 := by omega
    have s1 := nat_SmallK i2 (q + 1) (by omega) (by omega)
    have hd : (dec (n * (q + 1))).length ≤ 900001 := dec_mul hn (dec_small (by omega))
    have s2 := nat_Cmp (IsNat.of (n * (q + 1))) i1 (by omega) (by omega)
    refine loopAt_step ok_isochroneref01_digit.good 1000 ?_
    by_cases h : n * (q + 1) ≤ m
    · have key := ih (q + 1) (by omega) (by omega) h
      have c : cmpN (n * (q + 1)) m ≤ 0 := by unfold cmpN; split <;> (try split) <;> omega
      unfold natE natV at *
      ((repeat ((conv => lhs; whnf); simp only [go_sem, ↓reduceIte, Nat.reduceEqDiff, Nat.reduceBEq, Nat.reduceAdd, Nat.reduceMul, Nat.reduceSub, Nat.reduceLT, Nat.reduceLeDiff, reduceCtorEq, Int.reduceToNat, Int.reduceLE, Int.reduceLT, Int.reduceEq, sem_isochroneref01_digit, w, c1, s1, s2, c])); try (conv => lhs; whnf); try rfl)
      exact key
    · have c : ¬ cmpN (n * (q + 1)) m ≤ 0 := by unfold cmpN; rw [if_neg (by omega), if_pos (by omega)]; omega
      have e : m / n = q := Nat.div_eq_of_lt_le (by rw [Nat.mul_comm]; exact hle) (by rw [Nat.mul_comm]; omega)
      rw [e] at hz
      unfold natE natV at *
      ((repeat ((conv => lhs; whnf); simp only [go_sem, ↓reduceIte, Nat.reduceEqDiff, Nat.reduceBEq, Nat.reduceAdd, Nat.reduceMul, Nat.reduceSub, Nat.reduceLT, Nat.reduceLeDiff, reduceCtorEq, Int.reduceToNat, Int.reduceLE, Int.reduceLT, Int.reduceEq, sem_isochroneref01_digit, w, c1, s1, s2, c])); try (conv => lhs; whnf); try rfl)
      exact hz
theorem call_digit {m n : Nat} {va vb : PV} (ha : IsNat m va) (hb : IsNat n vb) (hm : (dec m).length ≤ 900000) (hn : (dec n).length ≤ 900000) (h0 : n ≠ 0) (hlt : m < n * 10000) : callL Tryz.prog hints 187 [va, vb] = some (.int .i64 (m / n : Nat)) := by
  have hM := maxLen_big
  obtain ⟨e1, rfl, p1⟩ := ha.form
  obtain ⟨e2, rfl, p2⟩ := hb.form
  have hB1 : (dec n).length ≠ 0 := fun e => h0 (dec_len0.1 e)
  have hpos := getD_last h0
  refine FX.callL (r := (.int .i64 (m / n : Nat), [])) ok_isochroneref01_digit 1000 rfl rfl ?_ rfl
  have k6 := fun q hq hle => loop_digit6 m n e1 e2 ha hb hm hn h0 hlt [.blk 6, .seq 0 1023] (z := (.int .i64 (m / n : Nat), [])) (by
    refine exit_run ok_isochroneref01_digit.good 1000 ?_
    ((repeat ((conv => lhs; whnf); simp only [go_sem, ↓reduceIte, Nat.reduceEqDiff, Nat.reduceBEq, Nat.reduceAdd, Nat.reduceMul, Nat.reduceSub, Nat.reduceLT, Nat.reduceLeDiff, reduceCtorEq, Int.reduceToNat, Int.reduceLE, Int.reduceLT, Int.reduceEq, sem_isochroneref01_digit])); try (conv => lhs; whnf); try rfl)) (9999 - q) q rfl hq hle
  have k4 := loop_digit4 m n e1 e2 ha hb hm hn [.blk 4, .seq 0 511] (z := (.int .i64 (m / n : Nat), [])) (fun q hq hle => by
    have key := k6 q hq hle
    unfold natE at *
    refine exit_run ok_isochroneref01_digit.good 1000 ?_
    ((repeat ((conv => lhs; whnf); simp only [go_sem, ↓reduceIte, Nat.reduceEqDiff, Nat.reduceBEq, Nat.reduceAdd, Nat.reduceMul, Nat.reduceSub, Nat.reduceLT, Nat.reduceLeDiff, reduceCtorEq, Int.reduceToNat, Int.reduceLE, Int.reduceLT, Int.reduceEq, sem_isochroneref01_digit])); try (conv => lhs; whnf); try rfl)
    exact key)
  -- from the guess on
  have guess : ∀ t u : Int, 0 ≤ t → t < 1000000000000 → 0 < u → u < 1000000000000 → ∃ q : Nat, q ≤ 9999 ∧ (if (9999 : Int) < IntKind.i64.wrap (t.tdiv u) then (9999 : Int) else IntKind.i64.wrap (t.tdiv u)) = q := by
    intro t u h1 h2 h3 h4
    have e : IntKind.i64.wrap (t.tdiv u) = t / u := by
      have a1 : 0 ≤ t / u := Int.ediv_nonneg h1 (by omega)
      have a2 : t / u ≤ t := Int.ediv_le_self _ h1
      rw [Int.tdiv_eq_ediv_of_nonneg h1, IntKind.wrap_i64]; omega
    rw [e]
    have a1 : 0 ≤ t / u := Int.ediv_nonneg h1 (by omega)
    by_cases h : (9999 : Int) < t / u
    · exact ⟨9999, by omega, by rw [if_pos h]; rfl⟩
    · exact ⟨(t / u).toNat, by omega, by rw [if_neg h]; omega⟩
  have k2 := fun (t : Int) (h1 : 0 ≤ t) (h2 : t < 1000000000000) => loop_digit2 (dec m) (dec n) e1 e2 (dec_ok n) (by omega) (by omega) hpos (.int .i64 t) [.blk 2, .seq 0 63] (z := (.int .i64 (m / n : Nat), [])) (fun u h3 h4 => by
    obtain ⟨q, hq, eq⟩ := guess t u h1 h2 h3 h4
    have key := k4 q hq
    have u0 : ¬ u = 0 := by omega
    by_cases hn1 : ((dec n).length : Int) = 1
    · have x0 : 0 ≤ (0 : Int) ∧ (0 : Int) < ((dec n).length : Int) := ⟨by omega, by omega⟩
      have hl0 : (dec n).getD 0 0 = (dec n).getD ((dec n).length - 1) 0 := by
        have : (dec n).length - 1 = 0 := by omega
        rw [this]
      have hv1 := (dec_ok n).getD (by decide) 0
      have hv2 : (dec n).getD 0 0 < 10000 := hv1.2
      obtain ⟨q', hq', eq'⟩ := guess t ((dec n).getD 0 0) h1 h2 (by rw [hl0]; exact hpos) (by omega)
      have key' := k4 q' hq'
      have v0 : ¬ (dec n).getD 0 0 = 0 := by rw [hl0]; omega
      have hn1' : (dec n).length = 1 := by omega
      unfold natE at *
      refine exit_run ok_isochroneref01_digit.good 1000 ?_
      ((repeat ((conv => lhs; whnf); simp only [go_sem, ↓reduceIte, Nat.reduceEqDiff, Nat.reduceBEq, Nat.reduceAdd, Nat.reduceMul, Nat.reduceSub, Nat.reduceLT, Nat.reduceLeDiff, reduceCtorEq, Int.reduceToNat, Int.reduceLE, Int.reduceLT, Int.reduceEq, sem_isochroneref01_digit, hn1, hn1', x0, Int.toNat_zero, v0, eq'])); try (conv => lhs; whnf); try rfl)
      exact key'
    · have hn1' : ¬ (dec n).length = 1 := by omega
      unfold natE at *
      refine exit_run ok_isochroneref01_digit.good 1000 ?_
      ((repeat ((conv => lhs; whnf); simp only [go_sem, ↓reduceIte, Nat.reduceEqDiff, Nat.reduceBEq, Nat.reduceAdd, Nat.reduceMul, Nat.reduceSub, Nat.reduceLT, Nat.reduceLeDiff, reduceCtorEq, Int.reduceToNat, Int.reduceLE, Int.reduceLT, Int.reduceEq, sem_isochroneref01_digit, hn1, hn1', u0, eq])); try (conv => lhs; whnf); try rfl)
      exact key)
  have hmx : ∃ j : Nat, (if (0 : Int) < ((dec n).length : Int) - 2 then ((dec n).length : Int) - 2 else 0) = ((dec n).length : Int) - j ∧ 1 ≤ j ∧ j ≤ 2 := by
    by_cases h : (0 : Int) < ((dec n).length : Int) - 2
    · exact ⟨2, by rw [if_pos h]; rfl, by omega, by omega⟩
    · rw [if_neg h]
      exact ⟨(dec n).length, by omega, by omega, by omega⟩
  obtain ⟨j, hj, hj1, hj2⟩ := hmx
  have pw : ∀ j : Nat, 1 ≤ j → j ≤ 2 → (1 : Int) * 10000 ^ (j + 1) ≤ 1000000000000 ∧ (1 : Int) * 10000 ^ j ≤ 1000000000000 := by
    intro j h1 h2
    match j, h1, h2 with
    | 1, _, _ => decide
    | 2, _, _ => decide
  have w1 : IntKind.i64.wrap (((dec n).length : Int) - 1) = ((dec n).length : Int) - 1 := by rw [IntKind.wrap_i64]; omega
  have k0 := loop_digit0 (dec m) (dec n) e1 e2 (dec_ok m) (by omega) (by omega) [.blk 0, .seq 0 31] (z := (.int .i64 (m / n : Nat), [])) (fun t h1 h2 => by
    have key := k2 t h1 h2 j (((dec n).length : Int) - 1) 1 0 (by rw [hj]; omega) (by omega) (.inl rfl) (by omega) (by omega) (pw j hj1 hj2).2
    refine exit_run ok_isochroneref01_digit.good 1000 ?_
    ((repeat ((conv => lhs; whnf); simp only [go_sem, ↓reduceIte, Nat.reduceEqDiff, Nat.reduceBEq, Nat.reduceAdd, Nat.reduceMul, Nat.reduceSub, Nat.reduceLT, Nat.reduceLeDiff, reduceCtorEq, Int.reduceToNat, Int.reduceLE, Int.reduceLT, Int.reduceEq, sem_isochroneref01_digit, w1])); try (conv => lhs; whnf); try rfl)
    exact key) (j + 1) ((dec n).length : Int) 1 0 (by rw [hj]; omega) (by omega) (by omega) (by omega) (pw j hj1 hj2).1
  unfold natE at *
  ((repeat ((conv => lhs; whnf); simp only [go_sem, ↓reduceIte, Nat.reduceEqDiff, Nat.reduceBEq, Nat.reduceAdd, Nat.reduceMul, Nat.reduceSub, Nat.reduceLT, Nat.reduceLeDiff, reduceCtorEq, Int.reduceToNat, Int.reduceLE, Int.reduceLT, Int.reduceEq, sem_isochroneref01_digit])); try (conv => lhs; whnf); try rfl)
  exact k0
end
end Go.Vs
end
/- The reference's natural numbers: DivMod. -/
section
set_option linter.unusedVariables false
set_option linter.unusedSimpArgs false
set_option maxRecDepth 100000
namespace Go.Vs
open Go Go.Proofs
theorem nat_digit {m n : Nat} {va vb : PV} (ha : IsNat m va) (hb : IsNat n vb) (hm : (dec m).length ≤ 900000) (hn : (dec n).length ≤ 900000) (h0 : n ≠ 0) (hlt : m < n * 10000) (S : Store) : callO (callL Tryz.prog hints) S 187 [va, vb] = some { v := .int .i64 (m / n : Nat) } := callO_plain (S := S) (call_digit ha hb hm hn h0 hlt) (by simp [ha.plain, hb.plain])
theorem dec_lt_mul {n x k : Nat} (h : (dec n).length ≤ k) (hx : x < n * 10000) : (dec x).length ≤ k + 1 := by
  refine (digs_le DB2 (k + 1) _).2 ?_
  have h1 := (digs_le DB2 k n).1 h
  rw [Nat.pow_succ]
  generalize DB ^ k = P at *
  have : n * 10000 < P * 10000 := Nat.mul_lt_mul_of_pos_right h1 (by omega)
  exact Nat.lt_trans hx this
theorem set_rep' {L : List Int} {m : Nat} (v : Int) : (List.replicate (m + 1) (0 : Int) ++ L).set m v = List.replicate m 0 ++ (v :: L) := set_rep v rfl
theorem rep_cons (m : Nat) (L : List Int) : List.replicate (m + 1) (0 : Int) ++ L = List.replicate m 0 ++ (0 :: L) := by
  rw [List.replicate_succ', List.append_assoc]; rfl
section
attribute [local irreducible] Vs.callL Vs.callRL tyi callO callM callMV appendE storeE evLoad indexAddrO sliceO evFieldAddr evField buildO buildSliceO makeSliceO allocO boxed lenO copyE convertO indexO Vs.gc freezeAll
noncomputable def fx_isochroneref01_DivMod : FX := ⟨Tryz.f173, hints.of 173, []⟩
theorem ok_isochroneref01_DivMod : fx_isochroneref01_DivMod.ok 173 := ⟨by kernel_rfl, of_decide_eq_true (by kernel_rfl), by kernel_rfl, by kernel_rfl, by kernel_rfl, by kernel_rfl⟩
theorem sem_isochroneref01_DivMod (b0 : Nat) (m : Md) (fs : List Fr) (e : Env) (S : Store) : sem b0 fx_isochroneref01_DivMod m fs e S = run b0 fx_isochroneref01_DivMod 1000 m fs e S := (sem_eq _ _ _ _ _ _).trans (run_sem b0 fx_isochroneref01_DivMod ok_isochroneref01_DivMod.good 1000 m fs e S).symm
theorem loop_DivMod01 (m n : Nat) (e1 e2 : Bool) (i1 : IsNat m (natE m e1)) (i2 : IsNat n (natE n e2)) (hm : (dec m).length ≤ 800000) (hn : (dec n).length ≤ 800000) (h0 : n ≠ 0) (fs : List Fr) :
    ∀ (i : Nat), i ≤ (dec m).length → ∀ (V : Nat) (Q : List Int), valD DB ((dec m).drop i) = V → OkD DB Q → Q.length = (dec m).length - i → valD DB Q = (V / n : Nat) →
      ∃ Q' : List Int, OkD DB Q' ∧ Q'.length = (dec m).length ∧ valD DB Q' = (m / n : Nat) ∧ ∀ z : PV × Store, exitTo 0 fx_isochroneref01_DivMod 0 fs [(0, .undef), (1, .undef), (12, .msl 0 0 (dec m).length true), (13, natV (m % n)), (14, .undef), (62, .undef)] [.arr (kRows .i64 Q') (some (some 1)) false, .arr [] (some (some 1)) true] = some z →
      loopAt 0 fx_isochroneref01_DivMod 0 2036 2 fs [(0, natE m e1), (1, natE n e2), (12, .msl 0 0 (dec m).length true), (13, natV (V % n)), (14, .int .i64 ((i : Int) - 1))] [.arr (kRows .i64 (List.replicate i 0 ++ Q)) (some (some 1)) false, .arr [] (some (some 1)) true] = some z := by
  have hM := maxLen_big
  intro i
  induction i with
  | zero =>
    intro hi V Q hV hQ hQl hQv
    rw [List.drop_zero, dec_val] at hV
    have e : V = m := by omega
    subst e
    refine ⟨Q, hQ, by omega, hQv, fun z key => ?_⟩
    refine loopAt_step ok_isochroneref01_DivMod.good 1000 ?_
    unfold natV natE at *
    simp only [List.replicate_zero, List.nil_append]
    ((repeat ((conv => lhs; whnf); simp only [go_sem, ↓reduceIte, Nat.reduceEqDiff, Nat.reduceBEq, Nat.reduceAdd, Nat.reduceMul, Nat.reduceSub, Nat.reduceLT, Nat.reduceLeDiff, reduceCtorEq, Int.reduceToNat, Int.reduceLE, Int.reduceLT, Int.reduceEq, sem_isochroneref01_DivMod])); try (conv => lhs; whnf); try rfl)
    exact key
  | succ i ih =>
    intro hi V Q hV hQ hQl hQv
    have ed := list_at (dec m) (k := i) (by omega)
    have ha := (dec_ok m).getD (by decide) i
    have ha' : (dec m).getD i 0 < 10000 := ha.2
    obtain ⟨a, hA⟩ : ∃ a : Nat, (dec m).getD i 0 = a := ⟨((dec m).getD i 0).toNat, by omega⟩
    have ev : valD DB ((dec m).drop i) = ((a + 10000 * V : Nat) : Int) := by
      rw [ed, valD, hV, hA]
      have : ((a + 10000 * V : Nat) : Int) = (a : Int) + 10000 * V := by omega
      exact this.symm
    have hRlt : V % n < n := Nat.mod_lt _ (by omega)
    have hRd : (dec (V % n)).length ≤ 800000 := Nat.le_trans (dec_mono (Nat.le_of_lt hRlt)) hn
    have s1 := nat_Small (IsNat.of (V % n)) 10000 a (by omega) (by omega) (by omega)
    have hR1 : V % n * 10000 + a < n * 10000 := by
      have : (V % n + 1) * 10000 ≤ n * 10000 := Nat.mul_le_mul_right _ hRlt
      omega
    have hR1d : (dec (V % n * 10000 + a)).length ≤ 800001 := dec_lt_mul hn hR1
    have s2 := nat_Cmp (IsNat.of (V % n * 10000 + a)) i2 (by omega) (by omega)
    have hdiv : a + 10000 * V = n * (10000 * (V / n)) + (V % n * 10000 + a) := by
      have := Nat.div_add_mod V n
      have e : n * (10000 * (V / n)) = 10000 * (n * (V / n)) := by rw [Nat.mul_left_comm]
      rw [e]
      omega
    have hq : (a + 10000 * V) / n = 10000 * (V / n) + (V % n * 10000 + a) / n := by
      rw [hdiv, Nat.mul_add_div (by omega)]
    have hr : (a + 10000 * V) % n = (V % n * 10000 + a) % n := by
      rw [hdiv, Nat.mul_add_mod]
    have hd9 : (V % n * 10000 + a) / n < 10000 := Nat.div_lt_of_lt_mul hR1
    have hnd0 : n * ((V % n * 10000 + a) / n) ≤ V % n * 10000 + a := Nat.mul_div_le _ _
    have hda := Nat.div_add_mod (V % n * 10000 + a) n
    have s3 := nat_digit (IsNat.of (V % n * 10000 + a)) i2 (by omega) (by omega) h0 hR1
    generalize hdd : (V % n * 10000 + a) / n = d at *
    obtain ⟨Q', q1, q2, q3, key⟩ := ih (by omega) (a + 10000 * V) ((d : Int) :: Q) ev (.cons ⟨by omega, by show _ < ((10000 : Nat) : Int); omega⟩ hQ) (by simp only [List.length_cons]; omega) (by
      rw [valD, hQv, hq]
      have : ((10000 * (V / n) + d : Nat) : Int) = 10000 * ((V / n : Nat) : Int) + (d : Int) := by omega
      rw [this]
      have e0 : ((DB : Nat) : Int) = 10000 := rfl
      rw [e0]; omega)
    rw [hr] at key
    refine ⟨Q', q1, q2, q3, fun z hz => ?_⟩
    have key := key z hz
    have x1 : 0 ≤ (i : Int) ∧ (i : Int) < ((dec m).length : Int) := ⟨by omega, by omega⟩
    have ei : ((i + 1 : Nat) : Int) - 1 = (i : Int) := by omega
    have hi0 : (0 : Int) ≤ (i : Int) := by omega
    have w1 : IntKind.i64.wrap ((i : Int) - 1) = (i : Int) - 1 := by rw [IntKind.wrap_i64]; omega
    have k5 : ((10000 : Nat) : Int) = 10000 := rfl
    rw [k5] at s1
    rw [ei]
    by_cases hc : V % n * 10000 + a < n
    · have c : cmpN (V % n * 10000 + a) n < 0 := by unfold cmpN; rw [if_pos hc]; omega
      rw [Nat.div_eq_of_lt hc] at hdd
      subst hdd
      rw [Nat.mod_eq_of_lt hc] at key
      have k6 : ((0 : Nat) : Int) = 0 := rfl
      rw [k6, ← rep_cons] at key
      refine loopAt_step ok_isochroneref01_DivMod.good 1000 ?_
      unfold natV natE at *
      ((repeat ((conv => lhs; whnf); simp only [go_sem, ↓reduceIte, Nat.reduceEqDiff, Nat.reduceBEq, Nat.reduceAdd, Nat.reduceMul, Nat.reduceSub, Nat.reduceLT, Nat.reduceLeDiff, reduceCtorEq, Int.reduceToNat, Int.reduceLE, Int.reduceLT, Int.reduceEq, sem_isochroneref01_DivMod, x1, hi0, Int.toNat_natCast, hA, s1, s2, c, w1])); try (conv => lhs; whnf); try rfl)
      exact key
    · have c : ¬ cmpN (V % n * 10000 + a) n < 0 := by unfold cmpN; rw [if_neg hc]; split <;> omega
      have s4 := nat_SmallK i2 d (by omega) (by omega)
      have hsub : V % n * 10000 + a - n * d = (V % n * 10000 + a) % n := by
        omega
      have s5 := nat_Sub (IsNat.of (V % n * 10000 + a)) (IsNat.of (n * d)) (by omega) hnd0 (by omega)
      rw [hsub] at s5
      have xm := sl_nat.idxmk .i64 (S := [.arr (kRows .i64 (List.replicate (i + 1) 0 ++ Q)) (some (some 1)) false, .arr [] (some (some 1)) true]) (id := 0) (off := 0) (n := (dec m).length) (ex := true) (L := List.replicate (i + 1) 0 ++ Q) i rfl (by simp; omega) (by omega)
      have len : i < (List.replicate (i + 1) (0 : Int) ++ Q).length := by simp; omega
      have len1 : ((kRows .i64 (List.replicate (i + 1) 0 ++ Q)).getD i []).length = 1 := by rw [kRows_get _ _ len]; rfl
      have set : ∀ v : Int, (kRows .i64 (List.replicate (i + 1) 0 ++ Q)).set i [.int .i64 v] = kRows .i64 (List.replicate i 0 ++ (v :: Q)) := fun v => by rw [kRows_set, set_rep']
      have xm2 := sl_nat.idxmk .i64 (S := [.arr (kRows .i64 (List.replicate i 0 ++ ((d : Int) :: Q))) (some (some 1)) false, .arr [] (some (some 1)) true]) (id := 0) (off := 0) (n := (dec m).length) (ex := true) (L := List.replicate i 0 ++ ((d : Int) :: Q)) i rfl (by simp; omega) (by omega)
      have len2 : i < (List.replicate i (0 : Int) ++ ((d : Int) :: Q)).length := by simp
      have gk := kRows_get .i64 (List.replicate i 0 ++ ((d : Int) :: Q)) len2
      have get : (List.replicate i (0 : Int) ++ ((d : Int) :: Q)).getD i 0 = d := by
        rw [List.getD_eq_getElem?_getD, List.getElem?_append_right (by simp)]
        simp
      rw [get] at gk
      rw [Nat.zero_add] at xm xm2
      refine loopAt_step ok_isochroneref01_DivMod.good 1000 ?_
      unfold natV natE at *
      ((repeat ((conv => lhs; whnf); simp only [go_sem, ↓reduceIte, Nat.reduceEqDiff, Nat.reduceBEq, Nat.reduceAdd, Nat.reduceMul, Nat.reduceSub, Nat.reduceLT, Nat.reduceLeDiff, reduceCtorEq, Int.reduceToNat, Int.reduceLE, Int.reduceLT, Int.reduceEq, sem_isochroneref01_DivMod, x1, hi0, Int.toNat_natCast, hA, s1, s2, c, s3, xm, len, len1, set, xm2, len2, gk, s4, s5, w1, kRows_length, kRows_refs])); try (conv => lhs; whnf); try rfl)
      exact key
theorem nat_little {n : Nat} {v : PV} (h : IsNat n v) (hn : (dec n).length ≤ 3000000) (S : Store) : callO (callL Tryz.prog hints) S 172 [v] = some { v := if n < 10000000000000000 then .tup [.int .i64 n, .bool true] else .tup [.int .i64 0, .bool false] } := by
  obtain ⟨e, rfl, hp⟩ := h.form
  exact callO_plain (S := S) (call_little n e hn) (by simp [hp])
theorem natV_zero : natV 0 = .sl [] false := by unfold natV natE dec; rw [digs_zero]; rfl
theorem fz1_plain {v : PV} (h : Plain v) (hv : ∃ r e, v = .sl r e) (S : Store) : fzPV1 S v = some v := by
  obtain ⟨r, e, rfl⟩ := hv
  exact h.2 S
theorem IsNat.sl {n : Nat} {v : PV} (h : IsNat n v) : ∃ r e, v = .sl r e := by
  obtain ⟨e, rfl, _⟩ := h.form
  exact ⟨_, _, rfl⟩
theorem fz_nat2 {m n : Nat} {a b : PV} (ha : IsNat m a) (hb : IsNat n b) (S : Store) : fzPV S (.tup [a, b]) = some (.tup [a, b]) := fz_tup (by
  simp only [List.mem_cons, List.not_mem_nil, or_false, forall_eq_or_imp, forall_eq]
  exact ⟨fz1_plain ha.plain ha.sl S, fz1_plain hb.plain hb.sl S⟩)
theorem call_DivMod01 {m n : Nat} {va vb : PV} (ha : IsNat m va) (hb : IsNat n vb) (hm : (dec m).length ≤ 800000) (hn : (dec n).length ≤ 800000) (h0 : n ≠ 0) : ∃ q r, IsNat (m / n) q ∧ IsNat (m % n) r ∧ callL Tryz.prog hints 173 [va, vb] = some (.tup [q, r]) := by
  have hM := maxLen_big
  have cc := nat_Cmp ha hb (by omega) (by omega)
  by_cases hlt : m < n
  · refine ⟨natV 0, va, by rw [Nat.div_eq_of_lt hlt]; exact .of 0, by rw [Nat.mod_eq_of_lt hlt]; exact ha, ?_⟩
    have c : cmpN m n < 0 := by unfold cmpN; rw [if_pos hlt]; omega
    refine FX.callL (r := (.tup [.msl 0 0 0 true, va], [.arr [] (some (some 1)) false])) ok_isochroneref01_DivMod 1000 rfl rfl ?_ ?_
    · obtain ⟨e1, rfl, p1⟩ := ha.form
      obtain ⟨e2, rfl, p2⟩ := hb.form
      unfold natE at *
      ((repeat ((conv => lhs; whnf); simp only [go_sem, ↓reduceIte, Nat.reduceEqDiff, Nat.reduceBEq, Nat.reduceAdd, Nat.reduceMul, Nat.reduceSub, Nat.reduceLT, Nat.reduceLeDiff, reduceCtorEq, Int.reduceToNat, Int.reduceLE, Int.reduceLT, Int.reduceEq, sem_isochroneref01_DivMod, cc, c])); try (conv => lhs; whnf); try rfl)
    · have h1 := fz1_plain ha.plain ha.sl [.arr [] (some (some 1)) false]
      have h2 : fzPV1 [.arr [] (some (some 1)) false] (.msl 0 0 0 true) = some (.sl [] false) := rfl
      show (mapO (fzPV1 [.arr [] (some (some 1)) false]) [.msl 0 0 0 true, va]).map PV.tup = _
      simp only [mapO, h1, h2, Option.bind_some, Option.map_some, natV_zero]
  · have c : ¬ cmpN m n < 0 := by unfold cmpN; rw [if_neg hlt]; split <;> omega
    have l1 := nat_little ha (by omega)
    by_cases hs : m < 10000000000000000
    · have l2 := nat_little hb (by omega)
      rw [if_pos hs] at l1
      rw [if_pos (show n < 10000000000000000 by omega)] at l2
      have d1 := nat_Int (m / n) (by have := Nat.div_le_self m n; omega)
      have d2 := nat_Int (m % n) (by have := Nat.mod_le m n; omega)
      have n0 : ¬ (n : Int) = 0 := by omega
      have td : IntKind.i64.wrap ((m : Int).tdiv n) = ((m / n : Nat) : Int) := by
        have h1 := Nat.div_le_self m n
        have e : (m : Int) / n = ((m / n : Nat) : Int) := rfl
        rw [Int.tdiv_eq_ediv_of_nonneg (by omega), IntKind.wrap_i64, e]
        generalize m / n = q at *
        omega
      have tm : (m : Int).tmod n = ((m % n : Nat) : Int) := by rw [Int.tmod_eq_emod_of_nonneg (by omega)]; rfl
      refine ⟨natV (m / n), natV (m % n), .of _, .of _, ?_⟩
      refine FX.callL (r := (.tup [natV (m / n), natV (m % n)], [])) ok_isochroneref01_DivMod 1000 rfl rfl ?_ (fz_nat2 (.of _) (.of _) _)
      obtain ⟨e1, rfl, p1⟩ := ha.form
      obtain ⟨e2, rfl, p2⟩ := hb.form
      unfold natV natE at *
      ((repeat ((conv => lhs; whnf); simp only [go_sem, ↓reduceIte, Nat.reduceEqDiff, Nat.reduceBEq, Nat.reduceAdd, Nat.reduceMul, Nat.reduceSub, Nat.reduceLT, Nat.reduceLeDiff, reduceCtorEq, Int.reduceToNat, Int.reduceLE, Int.reduceLT, Int.reduceEq, sem_isochroneref01_DivMod, cc, c, l1, l2, n0, h0, td, tm, d1, d2])); try (conv => lhs; whnf); try rfl)
    · rw [if_neg hs] at l1
      by_cases hone : (dec n).length = 1
      · have hone' : ((dec n).length : Int) = 1 := by omega
        have x0 : 0 ≤ (0 : Int) ∧ (0 : Int) < ((dec n).length : Int) := ⟨by omega, by omega⟩
        have hv : (dec n).getD 0 0 = n := by
          obtain ⟨x, hx⟩ := List.length_eq_one_iff.1 hone
          have := dec_val n
          rw [hx] at this ⊢
          simp [valD] at this
          simpa [List.getD_eq_getElem?_getD] using this
        have hn9 : n < 10000 := by
          have := (digs_le DB2 1 n).1 (by show (dec n).length ≤ 1; omega)
          rw [Nat.pow_one] at this
          exact this
        have sp := nat_Split ha n ⟨by omega, by omega⟩ (by omega)
        have d2 := nat_Int (m % n) (by have := Nat.mod_lt m (show n > 0 by omega); omega)
        refine ⟨natV (m / n), natV (m % n), .of _, .of _, ?_⟩
        refine FX.callL (r := (.tup [natV (m / n), natV (m % n)], [])) ok_isochroneref01_DivMod 1000 rfl rfl ?_ (fz_nat2 (.of _) (.of _) _)
        obtain ⟨e1, rfl, p1⟩ := ha.form
        obtain ⟨e2, rfl, p2⟩ := hb.form
        unfold natV natE at *
        ((repeat ((conv => lhs; whnf); simp only [go_sem, ↓reduceIte, Nat.reduceEqDiff, Nat.reduceBEq, Nat.reduceAdd, Nat.reduceMul, Nat.reduceSub, Nat.reduceLT, Nat.reduceLeDiff, reduceCtorEq, Int.reduceToNat, Int.reduceLE, Int.reduceLT, Int.reduceEq, sem_isochroneref01_DivMod, cc, c, l1, hone, hone', x0, Int.toNat_zero, hv, sp, d2])); try (conv => lhs; whnf); try rfl)
      · have hone' : ¬ ((dec n).length : Int) = 1 := by omega
        refine ⟨natV (m / n), natV (m % n), .of _, .of _, ?_⟩
        obtain ⟨e1, rfl, p1⟩ := ha.form
        obtain ⟨e2, rfl, p2⟩ := hb.form
        have mk := fun id => make_nat id (dec m).length (by omega)
        have w1 : IntKind.i64.wrap (((dec m).length : Int) - 1) = ((dec m).length : Int) - 1 := by rw [IntKind.wrap_i64]; omega
        obtain ⟨Q, q1, q2, q3, key⟩ := loop_DivMod01 m n e1 e2 ha hb hm hn h0 [.blk 0, .seq 0 255] (dec m).length (Nat.le_refl _) 0 [] (by rw [List.drop_length]; rfl) (.nil _) (by simp) (by simp [valD])
        have ct := call_trim_ok (by omega) q1
        rw [q3, Int.toNat_natCast] at ct
        have c1 := callO_msl (S := [.arr (kRows .i64 Q) (some (some 1)) false, .arr [] (some (some 1)) true]) (id := 0) (n := (dec m).length) (ex := true) ct rfl q2 (by simp)
        have hS := key (.tup [natV (m / n), natV (m % n)], [.arr (kRows .i64 Q) (some (some 1)) true, .arr [] (some (some 1)) true]) (by
          refine exit_run ok_isochroneref01_DivMod.good 1000 ?_
          ((repeat ((conv => lhs; whnf); simp only [go_sem, ↓reduceIte, Nat.reduceEqDiff, Nat.reduceBEq, Nat.reduceAdd, Nat.reduceMul, Nat.reduceSub, Nat.reduceLT, Nat.reduceLeDiff, reduceCtorEq, Int.reduceToNat, Int.reduceLE, Int.reduceLT, Int.reduceEq, sem_isochroneref01_DivMod, c1])); try (conv => lhs; whnf); try rfl))
        rw [Nat.zero_mod, natV_zero, List.append_nil] at hS
        refine FX.callL (r := (.tup [natV (m / n), natV (m % n)], [.arr (kRows .i64 Q) (some (some 1)) true, .arr [] (some (some 1)) true])) ok_isochroneref01_DivMod 1000 rfl rfl ?_ (fz_nat2 (.of _) (.of _) _)
        unfold natV natE at *
        ((repeat ((conv => lhs; whnf); simp only [go_sem, ↓reduceIte, Nat.reduceEqDiff, Nat.reduceBEq, Nat.reduceAdd, Nat.reduceMul, Nat.reduceSub, Nat.reduceLT, Nat.reduceLeDiff, reduceCtorEq, Int.reduceToNat, Int.reduceLE, Int.reduceLT, Int.reduceEq, sem_isochroneref01_DivMod, cc, c, l1, hone, hone', mk, w1])); try (conv => lhs; whnf); try rfl)
        exact hS
end
end Go.Vs
end
/- The reference's natural numbers: GCD. -/
section
set_option linter.unusedVariables false
set_option linter.unusedSimpArgs false
set_option maxRecDepth 100000
namespace Go.Vs
open Go Go.Proofs
theorem nat_DivMod {m n : Nat} {va vb : PV} (ha : IsNat m va) (hb : IsNat n vb) (hm : (dec m).length ≤ 800000) (hn : (dec n).length ≤ 800000) (h0 : n ≠ 0) : ∃ q r, IsNat (m / n) q ∧ IsNat (m % n) r ∧ ∀ S, callO (callL Tryz.prog hints) S 173 [va, vb] = some { v := .tup [q, r] } := by
  obtain ⟨q, r, hq, hr, h⟩ := call_DivMod01 ha hb hm hn h0
  exact ⟨q, r, hq, hr, fun S => callO_plain (S := S) h (by simp [ha.plain, hb.plain])⟩
section
attribute [local irreducible] Vs.callL Vs.callRL tyi callO callM callMV appendE storeE evLoad indexAddrO sliceO evFieldAddr evField buildO buildSliceO makeSliceO allocO boxed lenO copyE convertO indexO Vs.gc freezeAll
noncomputable def fx_isochroneref01_GCD : FX := ⟨Tryz.f150, hints.of 150, []⟩
theorem ok_isochroneref01_GCD : fx_isochroneref01_GCD.ok 150 := ⟨by kernel_rfl, of_decide_eq_true (by kernel_rfl), by kernel_rfl, by kernel_rfl, by kernel_rfl, by kernel_rfl⟩
theorem sem_isochroneref01_GCD (b0 : Nat) (m : Md) (fs : List Fr) (e : Env) (S : Store) : sem b0 fx_isochroneref01_GCD m fs e S = run b0 fx_isochroneref01_GCD 1000 m fs e S := (sem_eq _ _ _ _ _ _).trans (run_sem b0 fx_isochroneref01_GCD ok_isochroneref01_GCD.good 1000 m fs e S).symm
theorem loop_GCD01b (x0 x1 : PV) (fs : List Fr) {z : PV × Store} : ∀ (f x y : Nat), y ≤ f → x < 4611686018427387904 → y < 4611686018427387904 → exitTo 0 fx_isochroneref01_GCD 2 fs [(5, .int .i64 (Nat.gcd x y)), (7, .undef), (29, .undef)] [] = some z → loopAt 0 fx_isochroneref01_GCD 2 25296 0 fs [(0, .undef), (1, .undef), (5, .int .i64 x), (7, .int .i64 y), (27, .undef)] [] = some z := by
  intro f
  induction f with
  | zero =>
    intro x y hf hx hy hz
    have h0 : y = 0 := by omega
    subst h0
    rw [Nat.gcd_zero_right] at hz
    refine loopAt_step ok_isochroneref01_GCD.good 1000 ?_
    ((repeat ((conv => lhs; whnf); simp only [go_sem, ↓reduceIte, Nat.reduceEqDiff, Nat.reduceBEq, Nat.reduceAdd, Nat.reduceMul, Nat.reduceSub, Nat.reduceLT, Nat.reduceLeDiff, reduceCtorEq, Int.reduceToNat, Int.reduceLE, Int.reduceLT, Int.reduceEq, sem_isochroneref01_GCD])); try (conv => lhs; whnf); try rfl)
    exact hz
  | succ f ih =>
    intro x y hf hx hy hz
    by_cases h0 : y = 0
    · subst h0
      rw [Nat.gcd_zero_right] at hz
      refine loopAt_step ok_isochroneref01_GCD.good 1000 ?_
      ((repeat ((conv => lhs; whnf); simp only [go_sem, ↓reduceIte, Nat.reduceEqDiff, Nat.reduceBEq, Nat.reduceAdd, Nat.reduceMul, Nat.reduceSub, Nat.reduceLT, Nat.reduceLeDiff, reduceCtorEq, Int.reduceToNat, Int.reduceLE, Int.reduceLT, Int.reduceEq, sem_isochroneref01_GCD])); try (conv => lhs; whnf); try rfl)
      exact hz
    · have hlt : x % y < y := Nat.mod_lt _ (by omega)
      have key := ih y (x % y) (by omega) hy (by omega) (by rw [Nat.gcd_comm y, ← Nat.gcd_rec, Nat.gcd_comm]; exact hz)
      have c : (0 : Int) < y := by omega
      have c' : 0 < y := by omega
      have n0 : ¬ (y : Int) = 0 := by omega
      have tm : (x : Int).tmod y = ((x % y : Nat) : Int) := by rw [Int.tmod_eq_emod_of_nonneg (by omega)]; rfl
      refine loopAt_step ok_isochroneref01_GCD.good 1000 ?_
      ((repeat ((conv => lhs; whnf); simp only [go_sem, ↓reduceIte, Nat.reduceEqDiff, Nat.reduceBEq, Nat.reduceAdd, Nat.reduceMul, Nat.reduceSub, Nat.reduceLT, Nat.reduceLeDiff, reduceCtorEq, Int.reduceToNat, Int.reduceLE, Int.reduceLT, Int.reduceEq, sem_isochroneref01_GCD, c, c', n0, h0, tm])); try (conv => lhs; whnf); try rfl)
      exact key
theorem loop_GCD01 : ∀ (f m n : Nat) (va vb : PV), n ≤ f → (dec m).length ≤ 800000 → (dec n).length ≤ 800000 → IsNat m va → IsNat n vb →
    ∃ g, IsNat (Nat.gcd m n) g ∧ loopAt 0 fx_isochroneref01_GCD 0 24 0 [.blk 0, .seq 0 7] [(0, va), (1, vb)] [] = some (g, []) := by
  have hM := maxLen_big
  have base : ∀ (m : Nat) (va vb : PV), IsNat m va → IsNat 0 vb → ∃ g, IsNat (Nat.gcd m 0) g ∧ loopAt 0 fx_isochroneref01_GCD 0 24 0 [.blk 0, .seq 0 7] [(0, va), (1, vb)] [] = some (g, []) := by
    intro m va vb ha hb
    refine ⟨va, by rw [Nat.gcd_zero_right]; exact ha, ?_⟩
    obtain ⟨e1, rfl, p1⟩ := ha.form
    obtain ⟨e2, rfl, p2⟩ := hb.form
    have l0 : (dec 0).length = 0 := dec_len0.2 rfl
    refine loopAt_step ok_isochroneref01_GCD.good 1000 ?_
    unfold natE
    ((repeat ((conv => lhs; whnf); simp only [go_sem, ↓reduceIte, Nat.reduceEqDiff, Nat.reduceBEq, Nat.reduceAdd, Nat.reduceMul, Nat.reduceSub, Nat.reduceLT, Nat.reduceLeDiff, reduceCtorEq, Int.reduceToNat, Int.reduceLE, Int.reduceLT, Int.reduceEq, sem_isochroneref01_GCD, l0])); try (conv => lhs; whnf); try rfl)
    refine exit_run ok_isochroneref01_GCD.good 1000 ?_
    ((repeat ((conv => lhs; whnf); simp only [go_sem, ↓reduceIte, Nat.reduceEqDiff, Nat.reduceBEq, Nat.reduceAdd, Nat.reduceMul, Nat.reduceSub, Nat.reduceLT, Nat.reduceLeDiff, reduceCtorEq, Int.reduceToNat, Int.reduceLE, Int.reduceLT, Int.reduceEq, sem_isochroneref01_GCD])); try (conv => lhs; whnf); try rfl)
  intro f
  induction f with
  | zero =>
    intro m n va vb hf _ _ ha hb
    have h0 : n = 0 := by omega
    subst h0
    exact base m va vb ha hb
  | succ f ih =>
    intro m n va vb hf hm hn ha hb
    by_cases h0 : n = 0
    · subst h0
      exact base m va vb ha hb
    · have l1 := nat_little ha (by omega)
      have l2 := nat_little hb (by omega)
      have d0 : (dec n).length ≠ 0 := fun e => h0 (dec_len0.1 e)
      have d1 : (0 : Int) < (dec n).length := by omega
      have d2 : 0 < (dec n).length := by omega
      by_cases hs : m < 10000000000000000 ∧ n < 10000000000000000
      · rw [if_pos hs.1] at l1
        rw [if_pos hs.2] at l2
        have hg : Nat.gcd m n ≤ n := Nat.le_of_dvd (by omega) (Nat.gcd_dvd_right m n)
        have di := nat_Int (Nat.gcd m n) (by omega)
        have key := loop_GCD01b va vb [.blk 2, .seq 1 6325, .seq 1 791, .blk 1, .lop 0 24 0, .blk 0, .seq 0 7] (z := (natV (Nat.gcd m n), [])) n m n (Nat.le_refl _) (by omega) (by omega) (by
          refine exit_run ok_isochroneref01_GCD.good 1000 ?_
          unfold natV natE at *
          ((repeat ((conv => lhs; whnf); simp only [go_sem, ↓reduceIte, Nat.reduceEqDiff, Nat.reduceBEq, Nat.reduceAdd, Nat.reduceMul, Nat.reduceSub, Nat.reduceLT, Nat.reduceLeDiff, reduceCtorEq, Int.reduceToNat, Int.reduceLE, Int.reduceLT, Int.reduceEq, sem_isochroneref01_GCD, di])); try (conv => lhs; whnf); try rfl))
        refine ⟨natV (Nat.gcd m n), .of _, ?_⟩
        obtain ⟨e1, rfl, p1⟩ := ha.form
        obtain ⟨e2, rfl, p2⟩ := hb.form
        refine loopAt_step ok_isochroneref01_GCD.good 1000 ?_
        unfold natV natE at *
        ((repeat ((conv => lhs; whnf); simp only [go_sem, ↓reduceIte, Nat.reduceEqDiff, Nat.reduceBEq, Nat.reduceAdd, Nat.reduceMul, Nat.reduceSub, Nat.reduceLT, Nat.reduceLeDiff, reduceCtorEq, Int.reduceToNat, Int.reduceLE, Int.reduceLT, Int.reduceEq, sem_isochroneref01_GCD, d1, d2, l1, l2])); try (conv => lhs; whnf); try rfl)
        exact key
      · obtain ⟨q, r, iq, ir, hd⟩ := nat_DivMod ha hb hm hn h0
        have hlt : m % n < n := Nat.mod_lt _ (by omega)
        obtain ⟨g, hg, key⟩ := ih n (m % n) vb r (by omega) hn (Nat.le_trans (dec_mono (by omega)) hn) hb ir
        refine ⟨g, by rw [Nat.gcd_comm, Nat.gcd_rec]; rw [Nat.gcd_comm] at hg; exact hg, ?_⟩
        obtain ⟨e1, rfl, p1⟩ := ha.form
        obtain ⟨e2, rfl, p2⟩ := hb.form
        refine loopAt_step ok_isochroneref01_GCD.good 1000 ?_
        unfold natE at *
        by_cases h1 : m < 10000000000000000
        · have h2 : ¬ n < 10000000000000000 := fun h => hs ⟨h1, h⟩
          rw [if_pos h1] at l1
          rw [if_neg h2] at l2
          ((repeat ((conv => lhs; whnf); simp only [go_sem, ↓reduceIte, Nat.reduceEqDiff, Nat.reduceBEq, Nat.reduceAdd, Nat.reduceMul, Nat.reduceSub, Nat.reduceLT, Nat.reduceLeDiff, reduceCtorEq, Int.reduceToNat, Int.reduceLE, Int.reduceLT, Int.reduceEq, sem_isochroneref01_GCD, d1, d2, l1, l2, hd])); try (conv => lhs; whnf); try rfl)
          exact key
        · rw [if_neg h1] at l1
          by_cases h2 : n < 10000000000000000
          · rw [if_pos h2] at l2
            ((repeat ((conv => lhs; whnf); simp only [go_sem, ↓reduceIte, Nat.reduceEqDiff, Nat.reduceBEq, Nat.reduceAdd, Nat.reduceMul, Nat.reduceSub, Nat.reduceLT, Nat.reduceLeDiff, reduceCtorEq, Int.reduceToNat, Int.reduceLE, Int.reduceLT, Int.reduceEq, sem_isochroneref01_GCD, d1, d2, l1, l2, hd])); try (conv => lhs; whnf); try rfl)
            exact key
          · rw [if_neg h2] at l2
            ((repeat ((conv => lhs; whnf); simp only [go_sem, ↓reduceIte, Nat.reduceEqDiff, Nat.reduceBEq, Nat.reduceAdd, Nat.reduceMul, Nat.reduceSub, Nat.reduceLT, Nat.reduceLeDiff, reduceCtorEq, Int.reduceToNat, Int.reduceLE, Int.reduceLT, Int.reduceEq, sem_isochroneref01_GCD, d1, d2, l1, l2, hd])); try (conv => lhs; whnf); try rfl)
            exact key
theorem call_GCD01 {m n : Nat} {va vb : PV} (ha : IsNat m va) (hb : IsNat n vb) (hm : (dec m).length ≤ 800000) (hn : (dec n).length ≤ 800000) : ∃ g, IsNat (Nat.gcd m n) g ∧ callL Tryz.prog hints 150 [va, vb] = some g := by
  obtain ⟨g, hg, key⟩ := loop_GCD01 n m n va vb (Nat.le_refl _) hm hn ha hb
  refine ⟨g, hg, ?_⟩
  refine FX.callL (r := (g, [])) ok_isochroneref01_GCD 1000 rfl rfl ?_ (hg.plain.2 _)
  ((repeat ((conv => lhs; whnf); simp only [go_sem, ↓reduceIte, Nat.reduceEqDiff, Nat.reduceBEq, Nat.reduceAdd, Nat.reduceMul, Nat.reduceSub, Nat.reduceLT, Nat.reduceLeDiff, reduceCtorEq, Int.reduceToNat, Int.reduceLE, Int.reduceLT, Int.reduceEq, sem_isochroneref01_GCD])); try (conv => lhs; whnf); try rfl)
  exact key
theorem nat_GCD {m n : Nat} {va vb : PV} (ha : IsNat m va) (hb : IsNat n vb) (hm : (dec m).length ≤ 800000) (hn : (dec n).length ≤ 800000) : ∃ g, IsNat (Nat.gcd m n) g ∧ ∀ S, callO (callL Tryz.prog hints) S 150 [va, vb] = some { v := g } := by
  obtain ⟨g, hg, h⟩ := call_GCD01 ha hb hm hn
  exact ⟨g, hg, fun S => callO_plain (S := S) h (by simp [ha.plain, hb.plain])⟩
end
end Go.Vs
end
/- Rational numbers in the program: num.*. -/
section
set_option linter.unusedVariables false
set_option linter.unusedSimpArgs false
set_option maxRecDepth 100000
namespace Go.Vs
open Go Go.Proofs
theorem ratV_zero : ratV 0 = ratL false [] [1] := by
  unfold ratV
  have h1 : words (0 : Rat).num.natAbs = [] := (digs_nil WB2).2 rfl
  have h2 : words (0 : Rat).den = [1] := words1
  rw [h1, h2]
  rfl
/-- The sign of a Rat as the program keeps it. -/
def neg? (q : Rat) : Bool := decide (q.num < 0)
/-- The order of two numbers. -/
def cmpQ (q r : Rat) : Int := if q < r then -1 else if r < q then 1 else 0
/-- The sign of a number. -/
def sgnQ (q : Rat) : Int := if q.num = 0 then 0 else if neg? q then -1 else 1
theorem cmpQ_diff {q r : Rat} (h : sgnQ q ≠ sgnQ r) : cmpQ q r = if sgnQ q < sgnQ r then -1 else 1 := by
  unfold cmpQ
  simp only [Rat.lt_iff]
  have ha : (0 : Int) < q.den := by have := q.den_nz; omega
  have hb : (0 : Int) < r.den := by have := r.den_nz; omega
  unfold sgnQ neg? at h ⊢
  rcases Int.lt_trichotomy q.num 0 with h1 | h1 | h1 <;> rcases Int.lt_trichotomy r.num 0 with h2 | h2 | h2
  · simp [h1, h2, Int.ne_of_lt h1, Int.ne_of_lt h2] at h
  · have := Int.mul_neg_of_neg_of_pos h1 hb
    simp [h1, h2, Int.ne_of_lt h1, this]
  · have t1 := Int.mul_neg_of_neg_of_pos h1 hb
    have t2 := Int.mul_pos h2 ha
    have e : q.num * r.den < r.num * q.den := by omega
    have n2 : ¬ r.num < 0 := by omega
    have n3 : ¬ r.num = 0 := by omega
    simp [h1, Int.ne_of_lt h1, e, n2, n3]
  · have t2 := Int.mul_neg_of_neg_of_pos h2 ha
    have n : ¬ q.num * (r.den : Int) < r.num * q.den := by rw [h1, Int.zero_mul]; omega
    have n2 : r.num * (q.den : Int) < q.num * r.den := by rw [h1, Int.zero_mul]; omega
    simp [h1, h2, Int.ne_of_lt h2, t2] ; omega
  · simp [h1, h2] at h
  · have t2 := Int.mul_pos h2 ha
    have n2 : ¬ r.num < 0 := by omega
    have n3 : ¬ r.num = 0 := by omega
    simp [h1, n2, n3, t2]
  · have t1 := Int.mul_pos h1 hb
    have t2 := Int.mul_neg_of_neg_of_pos h2 ha
    have e : ¬ q.num * (r.den : Int) < r.num * q.den := by omega
    have e2 : r.num * (q.den : Int) < q.num * r.den := by omega
    have n2 : ¬ q.num < 0 := by omega
    have n3 : ¬ q.num = 0 := by omega
    simp [h2, Int.ne_of_lt h2, e, e2, n2, n3]
  · have t1 := Int.mul_pos h1 hb
    have e : ¬ q.num * (r.den : Int) < 0 := by omega
    have n2 : ¬ q.num < 0 := by omega
    have n3 : ¬ q.num = 0 := by omega
    simp [h2, e, t1, n2, n3]
  · have n2 : ¬ q.num < 0 := by omega
    have n3 : ¬ q.num = 0 := by omega
    have n4 : ¬ r.num < 0 := by omega
    have n5 : ¬ r.num = 0 := by omega
    simp [n2, n3, n4, n5] at h
theorem cmpQ_same {q r : Rat} (h : sgnQ q = sgnQ r) : cmpQ q r = if neg? q then -(cmpN (q.num.natAbs * r.den) (r.num.natAbs * q.den)) else cmpN (q.num.natAbs * r.den) (r.num.natAbs * q.den) := by
  unfold cmpQ cmpN
  simp only [Rat.lt_iff]
  have e1 : ((q.num.natAbs * r.den : Nat) : Int) = (q.num.natAbs : Int) * r.den := Int.natCast_mul _ _
  have e2 : ((r.num.natAbs * q.den : Nat) : Int) = (r.num.natAbs : Int) * q.den := Int.natCast_mul _ _
  generalize q.num.natAbs * r.den = X at *
  generalize r.num.natAbs * q.den = Y at *
  unfold sgnQ neg? at h
  unfold neg?
  rcases Int.lt_trichotomy q.num 0 with h1 | h1 | h1
  · have h2 : r.num < 0 := by
      simp only [Int.ne_of_lt h1, if_false, decide_eq_true h1, if_true] at h
      by_cases c : r.num = 0
      · simp [c] at h
      · by_cases c2 : r.num < 0
        · exact c2
        · simp [c, c2] at h
    have f1 : q.num * (r.den : Int) = -(X : Int) := by rw [e1, ← Int.neg_mul]; congr 1; omega
    have f2 : r.num * (q.den : Int) = -(Y : Int) := by rw [e2, ← Int.neg_mul]; congr 1; omega
    rw [f1, f2, decide_eq_true h1, if_pos rfl]
    split <;> split <;> (try split) <;> omega
  · have n : ¬ q.num < 0 := by omega
    have h2 : ¬ r.num < 0 := by
      simp only [h1, if_true] at h
      intro c
      simp [Int.ne_of_lt c, c] at h
    have f1 : q.num * (r.den : Int) = (X : Int) := by rw [e1]; congr 1; omega
    have f2 : r.num * (q.den : Int) = (Y : Int) := by rw [e2]; congr 1; omega
    rw [f1, f2, decide_eq_false n]
    simp
  · have n : ¬ q.num < 0 := by omega
    have h2 : ¬ r.num < 0 := by
      intro c
      have n3 : ¬ q.num = 0 := by omega
      simp [Int.ne_of_lt c, c, n, n3] at h
    have f1 : q.num * (r.den : Int) = (X : Int) := by rw [e1]; congr 1; omega
    have f2 : r.num * (q.den : Int) = (Y : Int) := by rw [e2]; congr 1; omega
    rw [f1, f2, decide_eq_false n]
    simp
@[go_sem] theorem alloc_Rat (n : Nat) : allocO (tyi Tryz.prog 27) n = some { v := .mp n 0 0, new := some ([[.bool false, .sl [] true, .sl [] true]], none) } := nr (by unfold allocO; rw [zero_Rat]; rfl)
@[go_sem] theorem build_Rat (l : List (Nat × PV)) : buildO (tyi Tryz.prog 27) l = (fillV [(0, 1, false), (1, 1, false), (2, 1, false)] [.bool false, .sl [] true, .sl [] true] l).map .agg := nr (by unfold buildO; rw [d_Rat, zero_Rat]; rfl)
@[go_sem] theorem fm_Rat_0 (id i off : Nat) : evFieldAddr (tyi Tryz.prog 27) 0 (.mp id i off) = some (.mp id i (off + 0)) := by simp [evFieldAddr, d_Rat]
@[go_sem] theorem fk_Rat_0 (r : List PV) : evFieldAddr (tyi Tryz.prog 27) 0 (.cp r) = some (.cp (r.drop 0)) := by simp [evFieldAddr, d_Rat]
@[go_sem] theorem fv_Rat_0 (cs : List PV) : evField (tyi Tryz.prog 27) 0 (.agg cs) = cs[0]? := by simp [evField, d_Rat]
@[go_sem] theorem fm_Rat_1 (id i off : Nat) : evFieldAddr (tyi Tryz.prog 27) 1 (.mp id i off) = some (.mp id i (off + 1)) := by simp [evFieldAddr, d_Rat]
@[go_sem] theorem fk_Rat_1 (r : List PV) : evFieldAddr (tyi Tryz.prog 27) 1 (.cp r) = some (.cp (r.drop 1)) := by simp [evFieldAddr, d_Rat]
@[go_sem] theorem fv_Rat_1 (cs : List PV) : evField (tyi Tryz.prog 27) 1 (.agg cs) = cs[1]? := by simp [evField, d_Rat]
@[go_sem] theorem fm_Rat_2 (id i off : Nat) : evFieldAddr (tyi Tryz.prog 27) 2 (.mp id i off) = some (.mp id i (off + 2)) := by simp [evFieldAddr, d_Rat]
@[go_sem] theorem fk_Rat_2 (r : List PV) : evFieldAddr (tyi Tryz.prog 27) 2 (.cp r) = some (.cp (r.drop 2)) := by simp [evFieldAddr, d_Rat]
@[go_sem] theorem fv_Rat_2 (cs : List PV) : evField (tyi Tryz.prog 27) 2 (.agg cs) = cs[2]? := by simp [evField, d_Rat]
theorem fz_ratM {S : Store} {b e1 e2 : Bool} {i j m n : Nat} {N D : List Int} (h1 : rowsAt S i = some (kRows .u32 N)) (hN : N.length = m) (h2 : rowsAt S j = some (kRows .u32 D)) (hD : D.length = n) : fzPV S (.agg [.bool b, .msl i 0 m e1, .msl j 0 n e2]) = some (ratL b N D) := by
  have k1 := kRows_fz (ex := e1) h1 hN 6
  have k2 := kRows_fz (ex := e2) h2 hD 6
  show (mapO (fzCell S 8) [.bool b, .msl i 0 m e1, .msl j 0 n e2]).map PV.agg = _
  simp only [mapO_cons, mapO_nil, k1, k2, fzCell_bool, some_bind, some_map]
  rfl
section
attribute [local irreducible] Vs.callL Vs.callRL tyi callO callM callMV appendE storeE evLoad indexAddrO sliceO evFieldAddr evField buildO buildSliceO makeSliceO allocO boxed lenO copyE convertO indexO Vs.gc freezeAll
noncomputable def fx_num_Zero : FX := ⟨Tryz.f54, hints.of 54, []⟩
theorem ok_num_Zero : fx_num_Zero.ok 54 := ⟨by kernel_rfl, of_decide_eq_true (by kernel_rfl), by kernel_rfl, by kernel_rfl, by kernel_rfl, by kernel_rfl⟩
theorem sem_num_Zero (b0 : Nat) (m : Md) (fs : List Fr) (e : Env) (S : Store) : sem b0 fx_num_Zero m fs e S = run b0 fx_num_Zero 1000 m fs e S := (sem_eq _ _ _ _ _ _).trans (run_sem b0 fx_num_Zero ok_num_Zero.good 1000 m fs e S).symm
theorem call_num_Zero : callL Tryz.prog hints 54 [] = some (ratV 0) := by
  rw [ratV_zero]
  refine FX.callL (r := (.agg [.bool false, .sl [] true, .msl 1 0 1 true], [.arr [[.bool false, .sl [] true, .msl 1 0 1 true]] none false, .arr (kRows .u32 [1]) (some (some 1)) false])) ok_num_Zero 1000 rfl rfl ?_ ?_
  · ((repeat ((conv => lhs; whnf); simp only [go_sem, ↓reduceIte, Nat.reduceEqDiff, Nat.reduceBEq, Nat.reduceAdd, Nat.reduceMul, Nat.reduceSub, Nat.reduceLT, Nat.reduceLeDiff, reduceCtorEq, Int.reduceToNat, Int.reduceLE, Int.reduceLT, Int.reduceEq, sem_num_Zero])); try (conv => lhs; whnf); try rfl)
  · rfl
end
end Go.Vs
end
/- Magnitudes in the program: Add. -/
section
set_option linter.unusedVariables false
set_option linter.unusedSimpArgs false
set_option maxRecDepth 100000
namespace Go.Vs
open Go Go.Proofs
section
attribute [local irreducible] Vs.callL Vs.callRL tyi callO callM callMV appendE storeE evLoad indexAddrO sliceO evFieldAddr evField buildO buildSliceO makeSliceO allocO boxed lenO copyE convertO indexO Vs.gc freezeAll
end
end Go.Vs
end
