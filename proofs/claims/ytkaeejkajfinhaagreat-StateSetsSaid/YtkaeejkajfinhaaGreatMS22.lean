/- Rational numbers in the program: Copy, Neg, Inv, Sign, Fits, Mul, Add, Cmp, Int, One. -/

import Derived.Test.YtkaeejkajfinhaaGreatMS21
section
set_option linter.unusedVariables false
set_option linter.unusedSimpArgs false
set_option maxRecDepth 100000
namespace Go.Vs
open Go Go.Proofs
/-- At most so many words. -/
def RatW (q : Rat) (k : Nat) : Prop := (words q.num.natAbs).length ≤ k ∧ (words q.den).length ≤ k
theorem RatW.mono {q : Rat} {j k : Nat} (h : RatW q j) (hk : j ≤ k) : RatW q k := ⟨Nat.le_trans h.1 hk, Nat.le_trans h.2 hk⟩
theorem ratV_def (q : Rat) : ratV q = .agg [.bool (neg? q), magE q.num.natAbs false, magE q.den false] := rfl
theorem mag_nil_append (S : Store) (n : Nat) (e : Bool) (hn : (words n).length ≤ 1000000) : appendE Tryz.prog 0 25 25 S (.sl [] true) (.sl (kRows .u32 (words n)) e) = some { v := .msl S.length 0 (words n).length false, S := S ++ [.arr (kRows .u32 (words n)) (some (some 1)) false] } := by
  have := sl_us.appNil 0 S (RowsV.sl (S := S) (kRows .u32 (words n)) e) (kRows_ok _ _) (by rw [kRows_length]; omega) (by rw [kRows_length]; omega)
  rw [kRows_length] at this
  exact this
section
attribute [local irreducible] Vs.callL Vs.callRL tyi callO callM callMV appendE storeE evLoad indexAddrO sliceO evFieldAddr evField buildO buildSliceO makeSliceO allocO boxed lenO copyE convertO indexO Vs.gc freezeAll
noncomputable def fx_num_Copy : FX := ⟨Tryz.f63, hints.of 63, []⟩
theorem ok_num_Copy : fx_num_Copy.ok 63 := ⟨by kernel_rfl, of_decide_eq_true (by kernel_rfl), by kernel_rfl, by kernel_rfl, by kernel_rfl, by kernel_rfl⟩
theorem sem_num_Copy (b0 : Nat) (m : Md) (fs : List Fr) (e : Env) (S : Store) : sem b0 fx_num_Copy m fs e S = run b0 fx_num_Copy 1000 m fs e S := (sem_eq _ _ _ _ _ _).trans (run_sem b0 fx_num_Copy ok_num_Copy.good 1000 m fs e S).symm
theorem call_num_Copy (q : Rat) (hq : RatW q 900000) : callL Tryz.prog hints 63 [ratV q] = some (ratV q) := by
  have a1 := fun S => mag_nil_append S q.num.natAbs false (by have := hq.1; omega)
  have a2 := fun S => mag_nil_append S q.den false (by have := hq.2; omega)
  refine FX.callL (r := (.agg [.bool (neg? q), .msl 2 0 (words q.num.natAbs).length false, .msl 3 0 (words q.den).length false], [.arr [[.bool (neg? q), magE q.num.natAbs false, magE q.den false]] none false, .arr [[.bool (neg? q), .msl 2 0 (words q.num.natAbs).length false, .msl 3 0 (words q.den).length false]] none false, .arr (kRows .u32 (words q.num.natAbs)) (some (some 1)) false, .arr (kRows .u32 (words q.den)) (some (some 1)) false])) ok_num_Copy 1000 rfl rfl ?_ (fz_ratM rfl rfl rfl rfl)
  rw [ratV_def]
  unfold magE
  ((repeat ((conv => lhs; whnf); simp only [go_sem, ↓reduceIte, Nat.reduceEqDiff, Nat.reduceBEq, Nat.reduceAdd, Nat.reduceMul, Nat.reduceSub, Nat.reduceLT, Nat.reduceLeDiff, reduceCtorEq, Int.reduceToNat, Int.reduceLE, Int.reduceLT, Int.reduceEq, sem_num_Copy, a1, a2])); try (conv => lhs; whnf); try rfl)
noncomputable def fx_num_Sign : FX := ⟨Tryz.f114, hints.of 114, []⟩
theorem ok_num_Sign : fx_num_Sign.ok 114 := ⟨by kernel_rfl, of_decide_eq_true (by kernel_rfl), by kernel_rfl, by kernel_rfl, by kernel_rfl, by kernel_rfl⟩
theorem sem_num_Sign (b0 : Nat) (m : Md) (fs : List Fr) (e : Env) (S : Store) : sem b0 fx_num_Sign m fs e S = run b0 fx_num_Sign 1000 m fs e S := (sem_eq _ _ _ _ _ _).trans (run_sem b0 fx_num_Sign ok_num_Sign.good 1000 m fs e S).symm
theorem call_num_Sign (q : Rat) : callL Tryz.prog hints 114 [ratV q] = some (.int .i64 (sgnQ q)) := by
  refine FX.callL (r := (.int .i64 (sgnQ q), [.arr [[.bool (neg? q), magE q.num.natAbs false, magE q.den false]] none false])) ok_num_Sign 1000 rfl rfl ?_ rfl
  rw [ratV_def]
  unfold magE
  have l0 := words_len0 (n := q.num.natAbs)
  by_cases h0 : q.num.natAbs = 0
  · have w : (words q.num.natAbs).length = 0 := l0.2 h0
    have e : sgnQ q = 0 := by unfold sgnQ; rw [if_pos (by omega)]
    rw [e]
    ((repeat ((conv => lhs; whnf); simp only [go_sem, ↓reduceIte, Nat.reduceEqDiff, Nat.reduceBEq, Nat.reduceAdd, Nat.reduceMul, Nat.reduceSub, Nat.reduceLT, Nat.reduceLeDiff, reduceCtorEq, Int.reduceToNat, Int.reduceLE, Int.reduceLT, Int.reduceEq, sem_num_Sign, w])); try (conv => lhs; whnf); try rfl)
  · have w : ¬ (words q.num.natAbs).length = 0 := fun e => h0 (l0.1 e)
    have w' : ¬ ((words q.num.natAbs).length : Int) = 0 := by omega
    have e : sgnQ q = if neg? q then -1 else 1 := by unfold sgnQ; rw [if_neg (by omega)]
    rw [e]
    cases hn : neg? q with
    | true => ((repeat ((conv => lhs; whnf); simp only [go_sem, ↓reduceIte, Nat.reduceEqDiff, Nat.reduceBEq, Nat.reduceAdd, Nat.reduceMul, Nat.reduceSub, Nat.reduceLT, Nat.reduceLeDiff, reduceCtorEq, Int.reduceToNat, Int.reduceLE, Int.reduceLT, Int.reduceEq, sem_num_Sign, w, w', hn])); try (conv => lhs; whnf); try rfl)
    | false => ((repeat ((conv => lhs; whnf); simp only [go_sem, ↓reduceIte, Nat.reduceEqDiff, Nat.reduceBEq, Nat.reduceAdd, Nat.reduceMul, Nat.reduceSub, Nat.reduceLT, Nat.reduceLeDiff, reduceCtorEq, Int.reduceToNat, Int.reduceLE, Int.reduceLT, Int.reduceEq, sem_num_Sign, w, w', hn])); try (conv => lhs; whnf); try rfl)
end
end Go.Vs
end
/- Rational numbers in the program: Mul, Add, Cmp, Int, One. -/
section
set_option linter.unusedVariables false
set_option linter.unusedSimpArgs false
set_option maxRecDepth 100000
namespace Go.Vs
open Go Go.Proofs
section
attribute [local irreducible] Vs.callL Vs.callRL tyi callO callM callMV appendE storeE evLoad indexAddrO sliceO evFieldAddr evField buildO buildSliceO makeSliceO allocO boxed lenO copyE convertO indexO Vs.gc freezeAll
end
end Go.Vs
end
/- Rational numbers in the program: Cmp, Int, One. -/
section
set_option linter.unusedVariables false
set_option linter.unusedSimpArgs false
set_option maxRecDepth 100000
namespace Go.Vs
open Go Go.Proofs
section
attribute [local irreducible] Vs.callL Vs.callRL tyi callO callM callMV appendE storeE evLoad indexAddrO sliceO evFieldAddr evField buildO buildSliceO makeSliceO allocO boxed lenO copyE convertO indexO Vs.gc freezeAll
noncomputable def fx_num_Cmp : FX := ⟨Tryz.f68, hints.of 68, []⟩
theorem ok_num_Cmp : fx_num_Cmp.ok 68 := ⟨by kernel_rfl, of_decide_eq_true (by kernel_rfl), by kernel_rfl, by kernel_rfl, by kernel_rfl, by kernel_rfl⟩
theorem sem_num_Cmp (b0 : Nat) (m : Md) (fs : List Fr) (e : Env) (S : Store) : sem b0 fx_num_Cmp m fs e S = run b0 fx_num_Cmp 1000 m fs e S := (sem_eq _ _ _ _ _ _).trans (run_sem b0 fx_num_Cmp ok_num_Cmp.good 1000 m fs e S).symm
theorem call_num_Cmp (q r : Rat) (hq : RatW q 400000) (hr : RatW r 400000) : callL Tryz.prog hints 68 [ratV q, ratV r] = some (.int .i64 (cmpQ q r)) := by
  have s1 := fun S => callO_plain (S := S) (call_num_Sign q) (by simp [ratV_plain])
  have s2 := fun S => callO_plain (S := S) (call_num_Sign r) (by simp [ratV_plain])
  refine FX.callL (r := (.int .i64 (cmpQ q r), [.arr [[.bool (neg? q), magE q.num.natAbs false, magE q.den false]] none false, .arr [[.bool (neg? r), magE r.num.natAbs false, magE r.den false]] none false])) ok_num_Cmp 1000 rfl rfl ?_ rfl
  simp only [ratV_def] at s1 s2 ⊢
  by_cases hs : sgnQ q = sgnQ r
  · rw [cmpQ_same hs]
    obtain ⟨vx, iX, k1⟩ := mag_Mul (IsMag.of q.num.natAbs) (IsMag.of r.den) (by have := hq.1; omega) (by have := hr.2; omega)
    obtain ⟨vy, iY, k2⟩ := mag_Mul (IsMag.of r.num.natAbs) (IsMag.of q.den) (by have := hr.1; omega) (by have := hq.2; omega)
    have f0 := mag_Cmp iX iY (Nat.le_trans (words_mul hq.1 hr.2) (by omega)) (Nat.le_trans (words_mul hr.1 hq.2) (by omega))
    unfold magV at k1 k2
    unfold magE at *
    have w : IntKind.i64.wrap (0 - cmpN (q.num.natAbs * r.den) (r.num.natAbs * q.den)) = -cmpN (q.num.natAbs * r.den) (r.num.natAbs * q.den) := by
      have : cmpN (q.num.natAbs * r.den) (r.num.natAbs * q.den) = -1 ∨ cmpN (q.num.natAbs * r.den) (r.num.natAbs * q.den) = 0 ∨ cmpN (q.num.natAbs * r.den) (r.num.natAbs * q.den) = 1 := by
        unfold cmpN; split <;> (try split) <;> simp
      rw [IntKind.wrap_i64]; omega
    cases hn : neg? q with
    | true =>
      rw [hn] at s1
      ((repeat ((conv => lhs; whnf); simp only [go_sem, ↓reduceIte, Nat.reduceEqDiff, Nat.reduceBEq, Nat.reduceAdd, Nat.reduceMul, Nat.reduceSub, Nat.reduceLT, Nat.reduceLeDiff, reduceCtorEq, Int.reduceToNat, Int.reduceLE, Int.reduceLT, Int.reduceEq, sem_num_Cmp, s1, s2, hs, k1, k2, f0, w])); try (conv => lhs; whnf); try rfl)
    | false =>
      rw [hn] at s1
      ((repeat ((conv => lhs; whnf); simp only [go_sem, ↓reduceIte, Nat.reduceEqDiff, Nat.reduceBEq, Nat.reduceAdd, Nat.reduceMul, Nat.reduceSub, Nat.reduceLT, Nat.reduceLeDiff, reduceCtorEq, Int.reduceToNat, Int.reduceLE, Int.reduceLT, Int.reduceEq, sem_num_Cmp, s1, s2, hs, k1, k2, f0])); try (conv => lhs; whnf); try rfl)
  · rw [cmpQ_diff hs]
    unfold magE at *
    by_cases hl : sgnQ q < sgnQ r
    · rw [if_pos hl]
      ((repeat ((conv => lhs; whnf); simp only [go_sem, ↓reduceIte, Nat.reduceEqDiff, Nat.reduceBEq, Nat.reduceAdd, Nat.reduceMul, Nat.reduceSub, Nat.reduceLT, Nat.reduceLeDiff, reduceCtorEq, Int.reduceToNat, Int.reduceLE, Int.reduceLT, Int.reduceEq, sem_num_Cmp, s1, s2, hs, hl])); try (conv => lhs; whnf); try rfl)
    · rw [if_neg hl]
      ((repeat ((conv => lhs; whnf); simp only [go_sem, ↓reduceIte, Nat.reduceEqDiff, Nat.reduceBEq, Nat.reduceAdd, Nat.reduceMul, Nat.reduceSub, Nat.reduceLT, Nat.reduceLeDiff, reduceCtorEq, Int.reduceToNat, Int.reduceLE, Int.reduceLT, Int.reduceEq, sem_num_Cmp, s1, s2, hs, hl])); try (conv => lhs; whnf); try rfl)
end
end Go.Vs
end
/- The reference's fractions: Zero, One, Int, Make, Sign, Neg. -/
section
set_option linter.unusedVariables false
set_option linter.unusedSimpArgs false
set_option maxRecDepth 100000
namespace Go.Vs
open Go Go.Proofs
theorem d_RR : (tyi Tryz.prog 62).d = .struct [(0, 1, false), (1, 1, false), (2, 1, false)] := by kernel_rfl
@[go_sem] theorem size_RR : (tyi Tryz.prog 62).size = 3 := nr (by kernel_rfl)
@[go_sem] theorem known_RR : (tyi Tryz.prog 62).known = true := nr (by kernel_rfl)
@[go_sem] theorem zero_RR : (tyi Tryz.prog 62).zero = some [.bool false, .sl [] true, .sl [] true] := nr (by kernel_rfl)
@[go_sem] theorem alloc_RR (n : Nat) : allocO (tyi Tryz.prog 62) n = some { v := .mp n 0 0, new := some ([[.bool false, .sl [] true, .sl [] true]], none) } := nr (by unfold allocO; rw [zero_RR]; rfl)
@[go_sem] theorem build_RR (l : List (Nat × PV)) : buildO (tyi Tryz.prog 62) l = (fillV [(0, 1, false), (1, 1, false), (2, 1, false)] [.bool false, .sl [] true, .sl [] true] l).map .agg := nr (by unfold buildO; rw [d_RR, zero_RR]; rfl)
theorem parts_RR (row : List PV) : part (tyi Tryz.prog 62) row = if 3 ≤ row.length then some (.agg (row.take 3)) else none := by simp [part, known_RR, TI.isAgg, d_RR, size_RR]
@[go_sem] theorem fm_RR_0 (id i off : Nat) : evFieldAddr (tyi Tryz.prog 62) 0 (.mp id i off) = some (.mp id i (off + 0)) := by simp [evFieldAddr, d_RR]
@[go_sem] theorem fk_RR_0 (r : List PV) : evFieldAddr (tyi Tryz.prog 62) 0 (.cp r) = some (.cp (r.drop 0)) := by simp [evFieldAddr, d_RR]
@[go_sem] theorem fv_RR_0 (cs : List PV) : evField (tyi Tryz.prog 62) 0 (.agg cs) = cs[0]? := by simp [evField, d_RR]
@[go_sem] theorem fm_RR_1 (id i off : Nat) : evFieldAddr (tyi Tryz.prog 62) 1 (.mp id i off) = some (.mp id i (off + 1)) := by simp [evFieldAddr, d_RR]
@[go_sem] theorem fk_RR_1 (r : List PV) : evFieldAddr (tyi Tryz.prog 62) 1 (.cp r) = some (.cp (r.drop 1)) := by simp [evFieldAddr, d_RR]
@[go_sem] theorem fv_RR_1 (cs : List PV) : evField (tyi Tryz.prog 62) 1 (.agg cs) = cs[1]? := by simp [evField, d_RR]
@[go_sem] theorem fm_RR_2 (id i off : Nat) : evFieldAddr (tyi Tryz.prog 62) 2 (.mp id i off) = some (.mp id i (off + 2)) := by simp [evFieldAddr, d_RR]
@[go_sem] theorem fk_RR_2 (r : List PV) : evFieldAddr (tyi Tryz.prog 62) 2 (.cp r) = some (.cp (r.drop 2)) := by simp [evFieldAddr, d_RR]
@[go_sem] theorem fv_RR_2 (cs : List PV) : evField (tyi Tryz.prog 62) 2 (.agg cs) = cs[2]? := by simp [evField, d_RR]
attribute [go_sem] parts_RR
@[go_sem] theorem part_nat (v : PV) (r : List PV) : part (tyi Tryz.prog 60) (v :: r) = some v := by
  have k : (tyi Tryz.prog 60).known = true := by kernel_rfl
  simp [part, k, TI.isAgg, sl_nat.d]
/-- A fraction of the reference. -/
def rrL (neg : Bool) (n d : Nat) : PV := .agg [.bool neg, natV n, natV d]
def rrV (q : Rat) : PV := rrL (neg? q) q.num.natAbs q.den
theorem rrL_plain (neg : Bool) (n d : Nat) : Plain (rrL neg n d) := ⟨rfl, fun _ => rfl⟩
theorem rrV_plain (q : Rat) : Plain (rrV q) := rrL_plain _ _ _
theorem dec1 : dec 1 = [1] := by
  unfold dec
  rw [digs_pos DB2 (by decide)]
  have : 1 / DB = 0 := by decide
  rw [this, digs_zero]
  decide
theorem natV_one : natV 1 = .sl [[.int .i64 1]] false := by unfold natV natE; rw [dec1]; rfl
theorem neg0 : neg? 0 = false := rfl
theorem num0 : (0 : Rat).num.natAbs = 0 := rfl
theorem den0 : (0 : Rat).den = 1 := rfl
theorem neg1 : neg? 1 = false := rfl
theorem rrV_zero : rrV 0 = .agg [.bool false, .sl [] false, .sl [[.int .i64 1]] false] := by
  unfold rrV rrL; rw [neg0, num0, den0, natV_zero, natV_one]
theorem IsNat.pos {n : Nat} {v : PV} (h : IsNat n v) (h0 : n ≠ 0) : v = natV n := by
  rcases h with h | ⟨h, _⟩
  · exact h
  · exact absurd h h0
section
attribute [local irreducible] Vs.callL Vs.callRL tyi callO callM callMV appendE storeE evLoad indexAddrO sliceO evFieldAddr evField buildO buildSliceO makeSliceO allocO boxed lenO copyE convertO indexO Vs.gc freezeAll
noncomputable def fx_isochroneref02_Zero : FX := ⟨Tryz.f51, hints.of 51, []⟩
theorem ok_isochroneref02_Zero : fx_isochroneref02_Zero.ok 51 := ⟨by kernel_rfl, of_decide_eq_true (by kernel_rfl), by kernel_rfl, by kernel_rfl, by kernel_rfl, by kernel_rfl⟩
theorem sem_isochroneref02_Zero (b0 : Nat) (m : Md) (fs : List Fr) (e : Env) (S : Store) : sem b0 fx_isochroneref02_Zero m fs e S = run b0 fx_isochroneref02_Zero 1000 m fs e S := (sem_eq _ _ _ _ _ _).trans (run_sem b0 fx_isochroneref02_Zero ok_isochroneref02_Zero.good 1000 m fs e S).symm
theorem call_rr_Zero : callL Tryz.prog hints 51 [] = some (rrV 0) := by
  rw [rrV_zero]
  refine FX.callL (r := (.agg [.bool false, .msl 1 0 0 true, .msl 2 0 1 true], [.arr [[.bool false, .msl 1 0 0 true, .msl 2 0 1 true]] none false, .arr [] (some (some 1)) false, .arr [[.int .i64 1]] (some (some 1)) false])) ok_isochroneref02_Zero 1000 rfl rfl ?_ rfl
  ((repeat ((conv => lhs; whnf); simp only [go_sem, ↓reduceIte, Nat.reduceEqDiff, Nat.reduceBEq, Nat.reduceAdd, Nat.reduceMul, Nat.reduceSub, Nat.reduceLT, Nat.reduceLeDiff, reduceCtorEq, Int.reduceToNat, Int.reduceLE, Int.reduceLT, Int.reduceEq, sem_isochroneref02_Zero])); try (conv => lhs; whnf); try rfl)
end
end Go.Vs
end
/- The reference's fractions: Add, Sub, Mul, Div, Cmp. -/
section
set_option linter.unusedVariables false
set_option linter.unusedSimpArgs false
set_option maxRecDepth 100000
namespace Go.Vs
open Go Go.Proofs
/-- At most so many digits. -/
def RatD (q : Rat) (k : Nat) : Prop := (dec q.num.natAbs).length ≤ k ∧ (dec q.den).length ≤ k
theorem RatD.mono {q : Rat} {j k : Nat} (h : RatD q j) (hk : j ≤ k) : RatD q k := ⟨Nat.le_trans h.1 hk, Nat.le_trans h.2 hk⟩
theorem RatW.dec {q : Rat} {k : Nat} (h : RatW q k) : RatD q (3 * k) := ⟨dec_words h.1, dec_words h.2⟩
theorem RatD.words {q : Rat} {k : Nat} (h : RatD q k) : RatW q k := ⟨words_dec h.1, words_dec h.2⟩
section
attribute [local irreducible] Vs.callL Vs.callRL tyi callO callM callMV appendE storeE evLoad indexAddrO sliceO evFieldAddr evField buildO buildSliceO makeSliceO allocO boxed lenO copyE convertO indexO Vs.gc freezeAll
end
end Go.Vs
end
/- The reference's fractions: Of, To, Short, Same, Valid. -/
section
set_option linter.unusedVariables false
set_option linter.unusedSimpArgs false
set_option maxRecDepth 100000
namespace Go.Vs
open Go Go.Proofs
theorem nat_Of {n : Nat} {v : PV} (h : IsMag n v) (hn : (words n).length ≤ 100000) (S : Store) : callO (callL Tryz.prog hints) S 135 [v] = some { v := natV n } := by
  obtain ⟨e, rfl, hp⟩ := h.form
  exact callO_plain (S := S) (call_Of n e hn) (by simp [hp])
theorem nat_Words {n : Nat} {v : PV} (h : IsNat n v) (hn : (dec n).length ≤ 1000000) (S : Store) : callO (callL Tryz.prog hints) S 73 [v] = some { v := magV n } := callO_plain (S := S) (call_Words h hn) (by simp [h.plain])
section
attribute [local irreducible] Vs.callL Vs.callRL tyi callO callM callMV appendE storeE evLoad indexAddrO sliceO evFieldAddr evField buildO buildSliceO makeSliceO allocO boxed lenO copyE convertO indexO Vs.gc freezeAll
noncomputable def fx_isochroneref02_To : FX := ⟨Tryz.f32, hints.of 32, []⟩
theorem ok_isochroneref02_To : fx_isochroneref02_To.ok 32 := ⟨by kernel_rfl, of_decide_eq_true (by kernel_rfl), by kernel_rfl, by kernel_rfl, by kernel_rfl, by kernel_rfl⟩
theorem sem_isochroneref02_To (b0 : Nat) (m : Md) (fs : List Fr) (e : Env) (S : Store) : sem b0 fx_isochroneref02_To m fs e S = run b0 fx_isochroneref02_To 1000 m fs e S := (sem_eq _ _ _ _ _ _).trans (run_sem b0 fx_isochroneref02_To ok_isochroneref02_To.good 1000 m fs e S).symm
theorem call_rr_To (q : Rat) (hq : RatD q 1000000) : callL Tryz.prog hints 32 [rrV q] = some (ratV q) := by
  have c1 := nat_Words (IsNat.of q.num.natAbs) hq.1
  have c2 := nat_Words (IsNat.of q.den) hq.2
  refine FX.callL (r := (ratV q, [.arr [[.bool (neg? q), natV q.num.natAbs, natV q.den]] none false, .arr [[.bool (neg? q), magE q.num.natAbs false, magE q.den false]] none false])) ok_isochroneref02_To 1000 rfl rfl ?_ rfl
  rw [ratV_def]
  unfold magV at c1 c2
  unfold rrV rrL natV natE magE at *
  ((repeat ((conv => lhs; whnf); simp only [go_sem, ↓reduceIte, Nat.reduceEqDiff, Nat.reduceBEq, Nat.reduceAdd, Nat.reduceMul, Nat.reduceSub, Nat.reduceLT, Nat.reduceLeDiff, reduceCtorEq, Int.reduceToNat, Int.reduceLE, Int.reduceLT, Int.reduceEq, sem_isochroneref02_To, c1, c2])); try (conv => lhs; whnf); try rfl)
noncomputable def fx_slices_Equal_uint32_uint32 : FX := ⟨Tryz.f107, hints.of 107, []⟩
theorem ok_slices_Equal_uint32_uint32 : fx_slices_Equal_uint32_uint32.ok 107 := ⟨by kernel_rfl, of_decide_eq_true (by kernel_rfl), by kernel_rfl, by kernel_rfl, by kernel_rfl, by kernel_rfl⟩
theorem sem_slices_Equal_uint32_uint32 (b0 : Nat) (m : Md) (fs : List Fr) (e : Env) (S : Store) : sem b0 fx_slices_Equal_uint32_uint32 m fs e S = run b0 fx_slices_Equal_uint32_uint32 1000 m fs e S := (sem_eq _ _ _ _ _ _).trans (run_sem b0 fx_slices_Equal_uint32_uint32 ok_slices_Equal_uint32_uint32.good 1000 m fs e S).symm
theorem loop_Equal (A B : List Int) (e1 e2 : Bool) (hl : A.length = B.length) (hm : A.length ≤ 3000000) : ∀ (m i : Nat), i + m = A.length → A.take i = B.take i → loopAt 0 fx_slices_Equal_uint32_uint32 0 116 0 [.blk 0, .seq 0 15] [(0, .sl (kRows .u32 A) e1), (1, .sl (kRows .u32 B) e2), (12, .int .i64 A.length), (13, .int .i64 i)] [] = some (.bool (decide (A = B)), []) := by
  have hM := maxLen_big
  intro m
  induction m with
  | zero =>
    intro i hi ht
    have h1 : ¬ (i : Int) < (A.length : Int) := by omega
    have e : A = B := by
      rw [List.take_of_length_le (by omega), List.take_of_length_le (by omega)] at ht
      exact ht
    rw [decide_eq_true e]
    refine loopAt_step ok_slices_Equal_uint32_uint32.good 1000 ?_
    ((repeat ((conv => lhs; whnf); simp only [go_sem, ↓reduceIte, Nat.reduceEqDiff, Nat.reduceBEq, Nat.reduceAdd, Nat.reduceMul, Nat.reduceSub, Nat.reduceLT, Nat.reduceLeDiff, reduceCtorEq, Int.reduceToNat, Int.reduceLE, Int.reduceLT, Int.reduceEq, sem_slices_Equal_uint32_uint32, h1])); try (conv => lhs; whnf); try rfl)
    refine exit_run ok_slices_Equal_uint32_uint32.good 1000 ?_
    ((repeat ((conv => lhs; whnf); simp only [go_sem, ↓reduceIte, Nat.reduceEqDiff, Nat.reduceBEq, Nat.reduceAdd, Nat.reduceMul, Nat.reduceSub, Nat.reduceLT, Nat.reduceLeDiff, reduceCtorEq, Int.reduceToNat, Int.reduceLE, Int.reduceLT, Int.reduceEq, sem_slices_Equal_uint32_uint32])); try (conv => lhs; whnf); try rfl)
  | succ m ih =>
    intro i hi ht
    have h1 : (i : Int) < (A.length : Int) := by omega
    have w1 := wrap_succ (i := i) (n := A.length) (by omega) (by omega)
    have x1 : 0 ≤ (i : Int) ∧ (i : Int) < (A.length : Int) := ⟨by omega, h1⟩
    have x2 : 0 ≤ (i : Int) ∧ (i : Int) < (B.length : Int) := ⟨by omega, by omega⟩
    have ea := list_at A (k := i) (by omega)
    have eb := list_at B (k := i) (by omega)
    refine loopAt_step ok_slices_Equal_uint32_uint32.good 1000 ?_
    by_cases h : A.getD i 0 = B.getD i 0
    · have key := ih (i + 1) (by omega) (by
        have ta : A.take (i + 1) = A.take i ++ [A.getD i 0] := by
          rw [List.take_add_one]
          have : A[i]? = some (A.getD i 0) := by rw [List.getElem?_eq_getElem (by omega)]; simp [List.getD_eq_getElem?_getD, show i < A.length by omega]
          rw [this]; rfl
        have tb : B.take (i + 1) = B.take i ++ [B.getD i 0] := by
          rw [List.take_add_one]
          have : B[i]? = some (B.getD i 0) := by rw [List.getElem?_eq_getElem (by omega)]; simp [List.getD_eq_getElem?_getD, show i < B.length by omega]
          rw [this]; rfl
        rw [ta, tb, ht, h])
      ((repeat ((conv => lhs; whnf); simp only [go_sem, ↓reduceIte, Nat.reduceEqDiff, Nat.reduceBEq, Nat.reduceAdd, Nat.reduceMul, Nat.reduceSub, Nat.reduceLT, Nat.reduceLeDiff, reduceCtorEq, Int.reduceToNat, Int.reduceLE, Int.reduceLT, Int.reduceEq, sem_slices_Equal_uint32_uint32, h1, x1, x2, Int.toNat_natCast, h, w1])); try (conv => lhs; whnf); try rfl)
      exact key
    · have e : ¬ A = B := fun hab => h (by rw [hab])
      rw [decide_eq_false e]
      ((repeat ((conv => lhs; whnf); simp only [go_sem, ↓reduceIte, Nat.reduceEqDiff, Nat.reduceBEq, Nat.reduceAdd, Nat.reduceMul, Nat.reduceSub, Nat.reduceLT, Nat.reduceLeDiff, reduceCtorEq, Int.reduceToNat, Int.reduceLE, Int.reduceLT, Int.reduceEq, sem_slices_Equal_uint32_uint32, h1, x1, x2, Int.toNat_natCast, h])); try (conv => lhs; whnf); try rfl)
theorem call_Equal (A B : List Int) (e1 e2 : Bool) (hm : A.length ≤ 3000000) : callL Tryz.prog hints 107 [.sl (kRows .u32 A) e1, .sl (kRows .u32 B) e2] = some (.bool (decide (A = B))) := by
  refine FX.callL (r := (.bool (decide (A = B)), [])) ok_slices_Equal_uint32_uint32 1000 rfl rfl ?_ rfl
  by_cases hl : A.length = B.length
  · have hl' : (A.length : Int) = (B.length : Int) := by omega
    have key := loop_Equal A B e1 e2 hl hm A.length 0 (by omega) (by simp)
    rw [hl'] at key
    ((repeat ((conv => lhs; whnf); simp only [go_sem, ↓reduceIte, Nat.reduceEqDiff, Nat.reduceBEq, Nat.reduceAdd, Nat.reduceMul, Nat.reduceSub, Nat.reduceLT, Nat.reduceLeDiff, reduceCtorEq, Int.reduceToNat, Int.reduceLE, Int.reduceLT, Int.reduceEq, sem_slices_Equal_uint32_uint32, hl', hl])); try (conv => lhs; whnf); try rfl)
    exact key
  · have hl' : ¬ (A.length : Int) = (B.length : Int) := by omega
    have e : ¬ A = B := fun hab => hl (by rw [hab])
    rw [decide_eq_false e]
    ((repeat ((conv => lhs; whnf); simp only [go_sem, ↓reduceIte, Nat.reduceEqDiff, Nat.reduceBEq, Nat.reduceAdd, Nat.reduceMul, Nat.reduceSub, Nat.reduceLT, Nat.reduceLeDiff, reduceCtorEq, Int.reduceToNat, Int.reduceLE, Int.reduceLT, Int.reduceEq, sem_slices_Equal_uint32_uint32, hl', hl])); try (conv => lhs; whnf); try rfl)
noncomputable def fx_isochroneref02_Same : FX := ⟨Tryz.f57, hints.of 57, []⟩
theorem ok_isochroneref02_Same : fx_isochroneref02_Same.ok 57 := ⟨by kernel_rfl, of_decide_eq_true (by kernel_rfl), by kernel_rfl, by kernel_rfl, by kernel_rfl, by kernel_rfl⟩
theorem sem_isochroneref02_Same (b0 : Nat) (m : Md) (fs : List Fr) (e : Env) (S : Store) : sem b0 fx_isochroneref02_Same m fs e S = run b0 fx_isochroneref02_Same 1000 m fs e S := (sem_eq _ _ _ _ _ _).trans (run_sem b0 fx_isochroneref02_Same ok_isochroneref02_Same.good 1000 m fs e S).symm
theorem call_rr_Same (b1 b2 : Bool) (N1 D1 N2 D2 : List Int) (h1 : N1.length ≤ 3000000) (h2 : D1.length ≤ 3000000) : callL Tryz.prog hints 57 [ratL b1 N1 D1, ratL b2 N2 D2] = some (.bool (decide (b1 = b2 ∧ N1 = N2 ∧ D1 = D2))) := by
  have c1 := fun S => callO_plain (S := S) (call_Equal N1 N2 false false h1) (by simp; exact ⟨Plain.sl _, Plain.sl _⟩)
  have c2 := fun S => callO_plain (S := S) (call_Equal D1 D2 false false h2) (by simp; exact ⟨Plain.sl _, Plain.sl _⟩)
  refine FX.callL (r := (.bool (decide (b1 = b2 ∧ N1 = N2 ∧ D1 = D2)), [.arr [[.bool b1, .sl (kRows .u32 N1) false, .sl (kRows .u32 D1) false]] none false, .arr [[.bool b2, .sl (kRows .u32 N2) false, .sl (kRows .u32 D2) false]] none false])) ok_isochroneref02_Same 1000 rfl rfl ?_ rfl
  unfold ratL
  by_cases hb : b1 = b2
  · have hb' : (b1 == b2) = true := by simp [hb]
    by_cases hN : N1 = N2
    · simp only [hN, decide_true] at c1
      simp only [hb, hN, true_and]
      rw [hb] at hb'
      ((repeat ((conv => lhs; whnf); simp only [go_sem, ↓reduceIte, Nat.reduceEqDiff, Nat.reduceBEq, Nat.reduceAdd, Nat.reduceMul, Nat.reduceSub, Nat.reduceLT, Nat.reduceLeDiff, reduceCtorEq, Int.reduceToNat, Int.reduceLE, Int.reduceLT, Int.reduceEq, sem_isochroneref02_Same, hb', c1, c2])); try (conv => lhs; whnf); try rfl)
    · simp only [hN, decide_false] at c1
      simp only [hN, false_and, and_false, decide_false]
      ((repeat ((conv => lhs; whnf); simp only [go_sem, ↓reduceIte, Nat.reduceEqDiff, Nat.reduceBEq, Nat.reduceAdd, Nat.reduceMul, Nat.reduceSub, Nat.reduceLT, Nat.reduceLeDiff, reduceCtorEq, Int.reduceToNat, Int.reduceLE, Int.reduceLT, Int.reduceEq, sem_isochroneref02_Same, hb', c1, c2])); try (conv => lhs; whnf); try rfl)
  · have hb' : (b1 == b2) = false := by simpa using hb
    simp only [hb, false_and, decide_false]
    ((repeat ((conv => lhs; whnf); simp only [go_sem, ↓reduceIte, Nat.reduceEqDiff, Nat.reduceBEq, Nat.reduceAdd, Nat.reduceMul, Nat.reduceSub, Nat.reduceLT, Nat.reduceLeDiff, reduceCtorEq, Int.reduceToNat, Int.reduceLE, Int.reduceLT, Int.reduceEq, sem_isochroneref02_Same, hb', c1, c2])); try (conv => lhs; whnf); try rfl)
end
end Go.Vs
end
/- The reference's fractions: Valid. -/
section
set_option linter.unusedVariables false
set_option linter.unusedSimpArgs false
set_option maxRecDepth 100000
namespace Go.Vs
open Go Go.Proofs
section
attribute [local irreducible] Vs.callL Vs.callRL tyi callO callM callMV appendE storeE evLoad indexAddrO sliceO evFieldAddr evField buildO buildSliceO makeSliceO allocO boxed lenO copyE convertO indexO Vs.gc freezeAll
noncomputable def fx_isochroneref01_Valid : FX := ⟨Tryz.f148, hints.of 148, []⟩
theorem ok_isochroneref01_Valid : fx_isochroneref01_Valid.ok 148 := ⟨by kernel_rfl, of_decide_eq_true (by kernel_rfl), by kernel_rfl, by kernel_rfl, by kernel_rfl, by kernel_rfl⟩
theorem sem_isochroneref01_Valid (b0 : Nat) (m : Md) (fs : List Fr) (e : Env) (S : Store) : sem b0 fx_isochroneref01_Valid m fs e S = run b0 fx_isochroneref01_Valid 1000 m fs e S := (sem_eq _ _ _ _ _ _).trans (run_sem b0 fx_isochroneref01_Valid ok_isochroneref01_Valid.good 1000 m fs e S).symm
theorem call_Valid01 (L : List Int) (e : Bool) (hl : L.length ≤ 9223372036854775807) : callL Tryz.prog hints 148 [.sl (kRows .u32 L) e] = some (.bool (decide (L.length ≤ 4096) && decide (Trimmed L))) := by
  refine FX.callL (r := (.bool (decide (L.length ≤ 4096) && decide (Trimmed L)), [])) ok_isochroneref01_Valid 1000 rfl rfl ?_ rfl
  by_cases c1 : L.length ≤ 4096
  · have c1' : (L.length : Int) ≤ 4096 := by omega
    by_cases c2 : L = []
    · subst c2
      have ht : Trimmed [] := .inl rfl
      simp only [c1, ht, decide_true, Bool.and_self]
      ((repeat ((conv => lhs; whnf); simp only [go_sem, ↓reduceIte, Nat.reduceEqDiff, Nat.reduceBEq, Nat.reduceAdd, Nat.reduceMul, Nat.reduceSub, Nat.reduceLT, Nat.reduceLeDiff, reduceCtorEq, Int.reduceToNat, Int.reduceLE, Int.reduceLT, Int.reduceEq, sem_isochroneref01_Valid, List.length_nil])); try (conv => lhs; whnf); try rfl)
    · have l0 : L.length ≠ 0 := fun h => c2 (List.eq_nil_of_length_eq_zero h)
      have l0' : ¬ (L.length : Int) = 0 := by omega
      have wl : IntKind.i64.wrap ((L.length : Int) - 1) = ((L.length - 1 : Nat) : Int) := by rw [IntKind.wrap_i64]; omega
      have xl : 0 ≤ ((L.length - 1 : Nat) : Int) ∧ ((L.length - 1 : Nat) : Int) < L.length := ⟨by omega, by omega⟩
      by_cases c3 : L.getD (L.length - 1) 0 = 0
      · have ht : ¬ Trimmed L := fun h => by
          rcases h with h | h
          · exact c2 h
          · exact h c3
        simp only [c1, ht, decide_true, decide_false, Bool.and_false]
        ((repeat ((conv => lhs; whnf); simp only [go_sem, ↓reduceIte, Nat.reduceEqDiff, Nat.reduceBEq, Nat.reduceAdd, Nat.reduceMul, Nat.reduceSub, Nat.reduceLT, Nat.reduceLeDiff, reduceCtorEq, Int.reduceToNat, Int.reduceLE, Int.reduceLT, Int.reduceEq, sem_isochroneref01_Valid, c1', l0, l0', wl, xl, Int.toNat_natCast, c3])); try (conv => lhs; whnf); try rfl)
      · have ht : Trimmed L := .inr c3
        simp only [c1, ht, decide_true, Bool.and_self]
        ((repeat ((conv => lhs; whnf); simp only [go_sem, ↓reduceIte, Nat.reduceEqDiff, Nat.reduceBEq, Nat.reduceAdd, Nat.reduceMul, Nat.reduceSub, Nat.reduceLT, Nat.reduceLeDiff, reduceCtorEq, Int.reduceToNat, Int.reduceLE, Int.reduceLT, Int.reduceEq, sem_isochroneref01_Valid, c1', l0, l0', wl, xl, Int.toNat_natCast, c3])); try (conv => lhs; whnf); try rfl)
  · have c1' : ¬ (L.length : Int) ≤ 4096 := by omega
    simp only [c1, decide_false, Bool.false_and]
    ((repeat ((conv => lhs; whnf); simp only [go_sem, ↓reduceIte, Nat.reduceEqDiff, Nat.reduceBEq, Nat.reduceAdd, Nat.reduceMul, Nat.reduceSub, Nat.reduceLT, Nat.reduceLeDiff, reduceCtorEq, Int.reduceToNat, Int.reduceLE, Int.reduceLT, Int.reduceEq, sem_isochroneref01_Valid, c1'])); try (conv => lhs; whnf); try rfl)
noncomputable def fx_isochroneref02_Valid : FX := ⟨Tryz.f111, hints.of 111, []⟩
theorem ok_isochroneref02_Valid : fx_isochroneref02_Valid.ok 111 := ⟨by kernel_rfl, of_decide_eq_true (by kernel_rfl), by kernel_rfl, by kernel_rfl, by kernel_rfl, by kernel_rfl⟩
theorem sem_isochroneref02_Valid (b0 : Nat) (m : Md) (fs : List Fr) (e : Env) (S : Store) : sem b0 fx_isochroneref02_Valid m fs e S = run b0 fx_isochroneref02_Valid 1000 m fs e S := (sem_eq _ _ _ _ _ _).trans (run_sem b0 fx_isochroneref02_Valid ok_isochroneref02_Valid.good 1000 m fs e S).symm
theorem call_rr_Valid (neg : Bool) (N D : List Int) (hN : OkD WB N) (hD : OkD WB D) (hl1 : N.length ≤ 9223372036854775807) (hl2 : D.length ≤ 9223372036854775807) : callL Tryz.prog hints 111 [ratL neg N D] = some (.bool (validR neg N D 4096)) := by
  have c1 := fun S => callO_plain (S := S) (call_Valid01 N false hl1) (by simp; exact Plain.sl _)
  have c2 := fun S => callO_plain (S := S) (call_Valid01 D false hl2) (by simp; exact Plain.sl _)
  have hr : ∃ S, run ([] : Store).length fx_isochroneref02_Valid 1000 (.at 0 1) [] [(0, ratL neg N D)] [] = some (.bool (validR neg N D 4096), S) := by
    unfold validR
    have z1 : decide ((N.length : Int) ≤ 4096) = decide (N.length ≤ 4096) := by congr 1; exact propext ⟨by omega, by omega⟩
    have z2 : decide ((D.length : Int) ≤ 4096) = decide (D.length ≤ 4096) := by congr 1; exact propext ⟨by omega, by omega⟩
    rw [z1, z2]
    unfold ratL
    cases v1 : (decide (N.length ≤ 4096) && decide (Trimmed N)) with
    | false =>
      rw [v1] at c1
      refine ⟨[.arr [[.bool neg, .sl (kRows .u32 N) false, .sl (kRows .u32 D) false]] none false], ?_⟩
      simp only [Bool.false_and]
      ((repeat ((conv => lhs; whnf); simp only [go_sem, ↓reduceIte, Nat.reduceEqDiff, Nat.reduceBEq, Nat.reduceAdd, Nat.reduceMul, Nat.reduceSub, Nat.reduceLT, Nat.reduceLeDiff, reduceCtorEq, Int.reduceToNat, Int.reduceLE, Int.reduceLT, Int.reduceEq, sem_isochroneref02_Valid, c1])); try (conv => lhs; whnf); try rfl)
    | true =>
      rw [v1] at c1
      cases v2 : (decide (D.length ≤ 4096) && decide (Trimmed D)) with
      | false =>
        rw [v2] at c2
        refine ⟨[.arr [[.bool neg, .sl (kRows .u32 N) false, .sl (kRows .u32 D) false]] none false], ?_⟩
        simp only [Bool.true_and, Bool.false_and]
        ((repeat ((conv => lhs; whnf); simp only [go_sem, ↓reduceIte, Nat.reduceEqDiff, Nat.reduceBEq, Nat.reduceAdd, Nat.reduceMul, Nat.reduceSub, Nat.reduceLT, Nat.reduceLeDiff, reduceCtorEq, Int.reduceToNat, Int.reduceLE, Int.reduceLT, Int.reduceEq, sem_isochroneref02_Valid, c1, c2])); try (conv => lhs; whnf); try rfl)
      | true =>
        rw [v2] at c2
        by_cases d0 : D.length = 0
        · have d0' : (D.length : Int) = 0 := by omega
          refine ⟨[.arr [[.bool neg, .sl (kRows .u32 N) false, .sl (kRows .u32 D) false]] none false], ?_⟩
          simp only [d0, decide_true, Bool.not_true, Bool.and_false, Bool.false_and]
          ((repeat ((conv => lhs; whnf); simp only [go_sem, ↓reduceIte, Nat.reduceEqDiff, Nat.reduceBEq, Nat.reduceAdd, Nat.reduceMul, Nat.reduceSub, Nat.reduceLT, Nat.reduceLeDiff, reduceCtorEq, Int.reduceToNat, Int.reduceLE, Int.reduceLT, Int.reduceEq, sem_isochroneref02_Valid, c1, c2, d0, d0'])); try (conv => lhs; whnf); try rfl)
        · have d0' : ¬ (D.length : Int) = 0 := by omega
          simp only [d0, decide_false, Bool.not_false, Bool.and_true, Bool.true_and]
          by_cases n0 : N.length = 0
          · have n0' : (N.length : Int) = 0 := by omega
            rw [if_pos n0]
            refine ⟨[.arr [[.bool neg, .sl (kRows .u32 N) false, .sl (kRows .u32 D) false]] none false], ?_⟩
            cases neg with
            | true =>
              simp only [Bool.not_true, Bool.false_and]
              ((repeat ((conv => lhs; whnf); simp only [go_sem, ↓reduceIte, Nat.reduceEqDiff, Nat.reduceBEq, Nat.reduceAdd, Nat.reduceMul, Nat.reduceSub, Nat.reduceLT, Nat.reduceLeDiff, reduceCtorEq, Int.reduceToNat, Int.reduceLE, Int.reduceLT, Int.reduceEq, sem_isochroneref02_Valid, c1, c2, d0, d0', n0, n0'])); try (conv => lhs; whnf); try rfl)
            | false =>
              simp only [Bool.not_false, Bool.true_and]
              by_cases d1 : D.length = 1
              · have d1' : (D.length : Int) = 1 := by omega
                have x0 : 0 ≤ (0 : Int) ∧ (0 : Int) < (D.length : Int) := ⟨by omega, by omega⟩
                have e := one_iff d1
                by_cases g1 : D.getD 0 0 = 1
                · rw [decide_eq_true (e.2 g1)]
                  ((repeat ((conv => lhs; whnf); simp only [go_sem, ↓reduceIte, Nat.reduceEqDiff, Nat.reduceBEq, Nat.reduceAdd, Nat.reduceMul, Nat.reduceSub, Nat.reduceLT, Nat.reduceLeDiff, reduceCtorEq, Int.reduceToNat, Int.reduceLE, Int.reduceLT, Int.reduceEq, sem_isochroneref02_Valid, c1, c2, d0, d0', n0, n0', d1, d1', x0, Int.toNat_zero, g1])); try (conv => lhs; whnf); try rfl)
                · rw [decide_eq_false (fun h => g1 (e.1 h))]
                  ((repeat ((conv => lhs; whnf); simp only [go_sem, ↓reduceIte, Nat.reduceEqDiff, Nat.reduceBEq, Nat.reduceAdd, Nat.reduceMul, Nat.reduceSub, Nat.reduceLT, Nat.reduceLeDiff, reduceCtorEq, Int.reduceToNat, Int.reduceLE, Int.reduceLT, Int.reduceEq, sem_isochroneref02_Valid, c1, c2, d0, d0', n0, n0', d1, d1', x0, Int.toNat_zero, g1])); try (conv => lhs; whnf); try rfl)
              · have d1' : ¬ (D.length : Int) = 1 := by omega
                have e : ¬ D = [1] := fun h => d1 (by rw [h]; rfl)
                rw [decide_eq_false e]
                ((repeat ((conv => lhs; whnf); simp only [go_sem, ↓reduceIte, Nat.reduceEqDiff, Nat.reduceBEq, Nat.reduceAdd, Nat.reduceMul, Nat.reduceSub, Nat.reduceLT, Nat.reduceLeDiff, reduceCtorEq, Int.reduceToNat, Int.reduceLE, Int.reduceLT, Int.reduceEq, sem_isochroneref02_Valid, c1, c2, d0, d0', n0, n0', d1, d1'])); try (conv => lhs; whnf); try rfl)
          · have n0' : ¬ (N.length : Int) = 0 := by omega
            rw [if_neg n0]
            have v1' := v1
            have v2' := v2
            simp only [Bool.and_eq_true, decide_eq_true_eq] at v1' v2'
            have wN := v1'.2.words hN
            have wD := v2'.2.words hD
            have lN : (words (nv N)).length ≤ 4096 := by rw [← wN]; exact v1'.1
            have lD : (words (nv D)).length ≤ 4096 := by rw [← wD]; exact v2'.1
            have o1 := nat_Of (IsMag.of (nv N)) (by omega)
            have o2 := nat_Of (IsMag.of (nv D)) (by omega)
            have k1 : (dec (nv N)).length ≤ 12288 := dec_words lN
            have k2 : (dec (nv D)).length ≤ 12288 := dec_words lD
            obtain ⟨g, ig, cg⟩ := nat_GCD (IsNat.of (nv N)) (IsNat.of (nv D)) (by omega) (by omega)
            have hgl : (dec (Nat.gcd (nv N) (nv D))).length ≤ 12288 := by
              have hn0 : nv N ≠ 0 := fun e => n0 (by rw [wN, e]; exact words_len0.2 rfl)
              exact Nat.le_trans (dec_mono (Nat.le_of_dvd (by omega) (Nat.gcd_dvd_left _ _))) k1
            have hc0 : callL Tryz.prog hints 149 [g, natV 1] = some (.int .i64 (cmpN (Nat.gcd (nv N) (nv D)) 1)) := by
              obtain ⟨eg, rfl, _⟩ := ig.form
              exact call_Cmp01 _ 1 eg false (by omega) (by rw [dec1]; decide)
            rw [natV_one] at hc0
            have hS : ∃ S0 : Store, S0 = [.arr [[.bool neg, .sl (kRows .u32 N) false, .sl (kRows .u32 D) false]] none false, .arr [[.int .i64 1]] (some (some 1)) false] := ⟨_, rfl⟩
            obtain ⟨S0, hS0⟩ := hS
            have cc := callO_of (S := S0) (l := [g, .msl 1 0 1 true]) (ids := [1]) hc0 (by
              have h2 := ig.plain.2 S0
              have hf := kRows_fzV (S := S0) (id := 1) (n := 1) (k := .i64) (L := [1]) (ex := true) (by rw [hS0]; rfl) rfl
              simp only [mapO, h2, Option.bind_some, hf, Option.map_some]
              rfl) (by
              have h2 := ig.plain.1
              simp only [List.flatMap_cons, List.flatMap_nil, h2]
              rw [hS0]
              rfl) (by rw [hS0]; rfl)
            rw [hS0] at cc
            unfold magV at o1 o2
            rw [← wN] at o1
            rw [← wD] at o2
            refine ⟨[.arr [[.bool neg, .sl (kRows .u32 N) false, .sl (kRows .u32 D) false]] none false, .arr [[.int .i64 1]] (some (some 1)) true], ?_⟩
            have e : decide (Nat.gcd (nv N) (nv D) = 1) = decide (cmpN (Nat.gcd (nv N) (nv D)) 1 = 0) := by
              congr 1
              refine propext ⟨fun h => by rw [h]; rfl, fun h => ?_⟩
              unfold cmpN at h
              split at h
              · omega
              · split at h <;> omega
            rw [e]
            ((repeat ((conv => lhs; whnf); simp only [go_sem, ↓reduceIte, Nat.reduceEqDiff, Nat.reduceBEq, Nat.reduceAdd, Nat.reduceMul, Nat.reduceSub, Nat.reduceLT, Nat.reduceLeDiff, reduceCtorEq, Int.reduceToNat, Int.reduceLE, Int.reduceLT, Int.reduceEq, sem_isochroneref02_Valid, c1, c2, d0, d0', n0, n0', o1, o2, cg, cc])); try (conv => lhs; whnf); try rfl)
  obtain ⟨S, h⟩ := hr
  exact FX.callL (r := (.bool (validR neg N D 4096), S)) ok_isochroneref02_Valid 1000 rfl rfl h rfl
end
end Go.Vs
end
/- Names and variables: tree.Name, the reference's, and the three functions that take a prime away. -/
section
set_option linter.unusedVariables false
set_option linter.unusedSimpArgs false
set_option maxRecDepth 100000
namespace Go.Vs
open Go Go.Proofs
@[go_sem] theorem evBin_strgtr (ti : TI) (a b : ByteArray) : evBin .gtr ti (.str a) (.str b) = some (.bool (!(Op.bytesLess a.toList b.toList || a.toList == b.toList))) := nr rfl
@[go_sem] theorem evBin_strgeq (ti : TI) (a b : ByteArray) : evBin .geq ti (.str a) (.str b) = some (.bool (!(Op.bytesLess a.toList b.toList))) := nr rfl
def isLetter (c : Int) : Bool := (decide (97 ≤ c) && decide (c ≤ 122)) || (decide (65 ≤ c) && decide (c ≤ 90))
section
attribute [local irreducible] Vs.callL Vs.callRL tyi callO callM callMV appendE storeE evLoad indexAddrO sliceO evFieldAddr evField buildO buildSliceO makeSliceO allocO boxed lenO copyE convertO indexO Vs.gc freezeAll
noncomputable def fx_tree_letter : FX := ⟨Tryz.f146, hints.of 146, []⟩
theorem ok_tree_letter : fx_tree_letter.ok 146 := ⟨by kernel_rfl, of_decide_eq_true (by kernel_rfl), by kernel_rfl, by kernel_rfl, by kernel_rfl, by kernel_rfl⟩
theorem sem_tree_letter (b0 : Nat) (m : Md) (fs : List Fr) (e : Env) (S : Store) : sem b0 fx_tree_letter m fs e S = run b0 fx_tree_letter 1000 m fs e S := (sem_eq _ _ _ _ _ _).trans (run_sem b0 fx_tree_letter ok_tree_letter.good 1000 m fs e S).symm
theorem call_letter (c : Int) : callL Tryz.prog hints 146 [.int .u8 c] = some (.bool (isLetter c)) := by
  refine FX.callL (r := (.bool (isLetter c), [])) ok_tree_letter 1000 rfl rfl ?_ rfl
  unfold isLetter
  by_cases h1 : 97 ≤ c <;> by_cases h2 : c ≤ 122 <;> by_cases h3 : 65 ≤ c <;> by_cases h4 : c ≤ 90 <;>
    (simp only [h1, h2, h3, h4, decide_true, decide_false, Bool.true_and, Bool.false_and, Bool.and_true, Bool.and_false, Bool.or_true, Bool.or_false, Bool.true_or, Bool.false_or]; ((repeat ((conv => lhs; whnf); simp only [go_sem, ↓reduceIte, Nat.reduceEqDiff, Nat.reduceBEq, Nat.reduceAdd, Nat.reduceMul, Nat.reduceSub, Nat.reduceLT, Nat.reduceLeDiff, reduceCtorEq, Int.reduceToNat, Int.reduceLE, Int.reduceLT, Int.reduceEq, sem_tree_letter, h1, h2, h3, h4])); try (conv => lhs; whnf); try rfl))
noncomputable def fx_isochroneref08_letter : FX := ⟨Tryz.f118, hints.of 118, []⟩
theorem ok_isochroneref08_letter : fx_isochroneref08_letter.ok 118 := ⟨by kernel_rfl, of_decide_eq_true (by kernel_rfl), by kernel_rfl, by kernel_rfl, by kernel_rfl, by kernel_rfl⟩
theorem sem_isochroneref08_letter (b0 : Nat) (m : Md) (fs : List Fr) (e : Env) (S : Store) : sem b0 fx_isochroneref08_letter m fs e S = run b0 fx_isochroneref08_letter 1000 m fs e S := (sem_eq _ _ _ _ _ _).trans (run_sem b0 fx_isochroneref08_letter ok_isochroneref08_letter.good 1000 m fs e S).symm
theorem call_letter8 (c : Int) : callL Tryz.prog hints 118 [.int .u8 c] = some (.bool (isLetter c)) := by
  refine FX.callL (r := (.bool (isLetter c), [])) ok_isochroneref08_letter 1000 rfl rfl ?_ rfl
  unfold isLetter
  by_cases h1 : 97 ≤ c <;> by_cases h2 : c ≤ 122 <;> by_cases h3 : 65 ≤ c <;> by_cases h4 : c ≤ 90 <;>
    (simp only [h1, h2, h3, h4, decide_true, decide_false, Bool.true_and, Bool.false_and, Bool.and_true, Bool.and_false, Bool.or_true, Bool.or_false, Bool.true_or, Bool.false_or]; ((repeat ((conv => lhs; whnf); simp only [go_sem, ↓reduceIte, Nat.reduceEqDiff, Nat.reduceBEq, Nat.reduceAdd, Nat.reduceMul, Nat.reduceSub, Nat.reduceLT, Nat.reduceLeDiff, reduceCtorEq, Int.reduceToNat, Int.reduceLE, Int.reduceLT, Int.reduceEq, sem_isochroneref08_letter, h1, h2, h3, h4])); try (conv => lhs; whnf); try rfl))
theorem letter_o (S : Store) (c : Int) : callO (callL Tryz.prog hints) S 146 [.int .u8 c] = some { v := .bool (isLetter c) } := callO_plain (call_letter c) (by simp [Plain.int])
theorem letter8_o (S : Store) (c : Int) : callO (callL Tryz.prog hints) S 118 [.int .u8 c] = some { v := .bool (isLetter c) } := callO_plain (call_letter8 c) (by simp [Plain.int])
def isAlnum (c : Int) : Bool := isLetter c || (decide (48 ≤ c) && decide (c ≤ 57))
/-- From byte i on, letters and digits alone. -/
def restOK (s : ByteArray) : Nat → Nat → Bool
  | 0, i => true
  | m + 1, i => isAlnum (byteAt s i) && restOK s m (i + 1)
def kw1 (s : ByteArray) : Bool := s.toList == (⟨#[116, 114, 117, 101]⟩ : ByteArray).toList
def kw2 (s : ByteArray) : Bool := s.toList == (⟨#[102, 97, 108, 115, 101]⟩ : ByteArray).toList
def kw3 (s : ByteArray) : Bool := s.toList == (⟨#[102, 111, 114, 97, 108, 108]⟩ : ByteArray).toList
def kw4 (s : ByteArray) : Bool := s.toList == (⟨#[101, 120, 105, 115, 116, 115]⟩ : ByteArray).toList
def keyword (s : ByteArray) : Bool := kw1 s || kw2 s || kw3 s || kw4 s
def nameOK (s : ByteArray) : Bool := decide (0 < s.size) && decide (s.size ≤ 12) && isLetter (byteAt s 0) && restOK s s.size 0 && !keyword s
noncomputable def fx_tree_Name : FX := ⟨Tryz.f108, hints.of 108, []⟩
theorem ok_tree_Name : fx_tree_Name.ok 108 := ⟨by kernel_rfl, of_decide_eq_true (by kernel_rfl), by kernel_rfl, by kernel_rfl, by kernel_rfl, by kernel_rfl⟩
theorem sem_tree_Name (b0 : Nat) (m : Md) (fs : List Fr) (e : Env) (S : Store) : sem b0 fx_tree_Name m fs e S = run b0 fx_tree_Name 1000 m fs e S := (sem_eq _ _ _ _ _ _).trans (run_sem b0 fx_tree_Name ok_tree_Name.good 1000 m fs e S).symm
theorem loop_Name (s : ByteArray) (hs : s.size ≤ 12) : ∀ (m i : Nat), i + m = s.size → loopAt 0 fx_tree_Name 0 116 0 [.blk 0, .seq 0 15] [(0, .str s), (3, .int .i64 i)] [] = some (.bool (restOK s m i && !keyword s), []) := by
  intro m
  induction m with
  | zero =>
    intro i hi
    have h1 : ¬ (i : Int) < (s.size : Int) := by omega
    refine loopAt_step ok_tree_Name.good 1000 ?_
    ((repeat ((conv => lhs; whnf); simp only [go_sem, ↓reduceIte, Nat.reduceEqDiff, Nat.reduceBEq, Nat.reduceAdd, Nat.reduceMul, Nat.reduceSub, Nat.reduceLT, Nat.reduceLeDiff, reduceCtorEq, Int.reduceToNat, Int.reduceLE, Int.reduceLT, Int.reduceEq, sem_tree_Name, h1])); try (conv => lhs; whnf); try rfl)
    refine exit_run ok_tree_Name.good 1000 ?_
    simp only [restOK, Bool.true_and, keyword]
    cases k1 : kw1 s <;> cases k2 : kw2 s <;> cases k3 : kw3 s <;> cases k4 : kw4 s <;>
      (unfold kw1 kw2 kw3 kw4 at *; simp only [Bool.or_true, Bool.or_false, Bool.true_or, Bool.false_or, Bool.not_true, Bool.not_false]; ((repeat ((conv => lhs; whnf); simp only [go_sem, ↓reduceIte, Nat.reduceEqDiff, Nat.reduceBEq, Nat.reduceAdd, Nat.reduceMul, Nat.reduceSub, Nat.reduceLT, Nat.reduceLeDiff, reduceCtorEq, Int.reduceToNat, Int.reduceLE, Int.reduceLT, Int.reduceEq, sem_tree_Name, k1, k2, k3, k4])); try (conv => lhs; whnf); try rfl))
  | succ m ih =>
    intro i hi
    have h1 : (i : Int) < (s.size : Int) := by omega
    have h2 := wrap_succ (i := i) (n := s.size) (by omega) (by unfold maxLen; omega)
    have h4 : 0 ≤ (i : Int) ∧ (i : Int) < (s.size : Int) := ⟨by omega, h1⟩
    have key := ih (i + 1) (by omega)
    refine loopAt_step ok_tree_Name.good 1000 ?_
    simp only [restOK, isAlnum]
    cases hl : isLetter (byteAt s i)
    · by_cases c1 : byteAt s i < 48
      · have c1' : ¬ 48 ≤ byteAt s i := by omega
        simp only [c1', decide_false, Bool.false_and, Bool.or_self]
        ((repeat ((conv => lhs; whnf); simp only [go_sem, ↓reduceIte, Nat.reduceEqDiff, Nat.reduceBEq, Nat.reduceAdd, Nat.reduceMul, Nat.reduceSub, Nat.reduceLT, Nat.reduceLeDiff, reduceCtorEq, Int.reduceToNat, Int.reduceLE, Int.reduceLT, Int.reduceEq, sem_tree_Name, h1, h2, h4, letter_o, hl, Int.toNat_natCast, c1])); try (conv => lhs; whnf); try rfl)
      · have c1' : 48 ≤ byteAt s i := by omega
        by_cases c2 : 57 < byteAt s i
        · have c2' : ¬ byteAt s i ≤ 57 := by omega
          simp only [c1', c2', decide_true, decide_false, Bool.true_and, Bool.or_self, Bool.false_and]
          ((repeat ((conv => lhs; whnf); simp only [go_sem, ↓reduceIte, Nat.reduceEqDiff, Nat.reduceBEq, Nat.reduceAdd, Nat.reduceMul, Nat.reduceSub, Nat.reduceLT, Nat.reduceLeDiff, reduceCtorEq, Int.reduceToNat, Int.reduceLE, Int.reduceLT, Int.reduceEq, sem_tree_Name, h1, h2, h4, letter_o, hl, Int.toNat_natCast, c1, c2])); try (conv => lhs; whnf); try rfl)
        · have c2' : byteAt s i ≤ 57 := by omega
          simp only [c1', c2', decide_true, Bool.true_and, Bool.or_true, Bool.and_self]
          ((repeat ((conv => lhs; whnf); simp only [go_sem, ↓reduceIte, Nat.reduceEqDiff, Nat.reduceBEq, Nat.reduceAdd, Nat.reduceMul, Nat.reduceSub, Nat.reduceLT, Nat.reduceLeDiff, reduceCtorEq, Int.reduceToNat, Int.reduceLE, Int.reduceLT, Int.reduceEq, sem_tree_Name, h1, h2, h4, letter_o, hl, Int.toNat_natCast, c1, c2])); try (conv => lhs; whnf); try rfl)
          exact key
    · simp only [Bool.true_or, Bool.true_and]
      ((repeat ((conv => lhs; whnf); simp only [go_sem, ↓reduceIte, Nat.reduceEqDiff, Nat.reduceBEq, Nat.reduceAdd, Nat.reduceMul, Nat.reduceSub, Nat.reduceLT, Nat.reduceLeDiff, reduceCtorEq, Int.reduceToNat, Int.reduceLE, Int.reduceLT, Int.reduceEq, sem_tree_Name, h1, h2, h4, letter_o, hl, Int.toNat_natCast])); try (conv => lhs; whnf); try rfl)
      exact key
theorem call_Name (s : ByteArray) : callL Tryz.prog hints 108 [.str s] = some (.bool (nameOK s)) := by
  refine FX.callL (r := (.bool (nameOK s), [])) ok_tree_Name 1000 rfl rfl ?_ rfl
  unfold nameOK
  by_cases h0 : s.size = 0
  · simp only [h0, Nat.lt_irrefl, decide_false, Bool.false_and]
    ((repeat ((conv => lhs; whnf); simp only [go_sem, ↓reduceIte, Nat.reduceEqDiff, Nat.reduceBEq, Nat.reduceAdd, Nat.reduceMul, Nat.reduceSub, Nat.reduceLT, Nat.reduceLeDiff, reduceCtorEq, Int.reduceToNat, Int.reduceLE, Int.reduceLT, Int.reduceEq, sem_tree_Name, h0])); try (conv => lhs; whnf); try rfl)
  · have h0' : 0 < s.size := by omega
    have h5 : ¬ (s.size : Int) = 0 := by omega
    have h6 : (0 : Int) < (s.size : Int) := by omega
    by_cases h1 : s.size ≤ 12
    · have h4 : ¬ (12 : Int) < (s.size : Int) := by omega
      have key := loop_Name s h1 s.size 0 (by omega)
      simp only [h0', h1, decide_true, Bool.true_and]
      cases hl : isLetter (byteAt s 0)
      · simp only [Bool.false_and]
        ((repeat ((conv => lhs; whnf); simp only [go_sem, ↓reduceIte, Nat.reduceEqDiff, Nat.reduceBEq, Nat.reduceAdd, Nat.reduceMul, Nat.reduceSub, Nat.reduceLT, Nat.reduceLeDiff, reduceCtorEq, Int.reduceToNat, Int.reduceLE, Int.reduceLT, Int.reduceEq, sem_tree_Name, h5, h4, h6, letter_o, hl, Int.toNat_zero])); try (conv => lhs; whnf); try rfl)
      · simp only [Bool.true_and]
        ((repeat ((conv => lhs; whnf); simp only [go_sem, ↓reduceIte, Nat.reduceEqDiff, Nat.reduceBEq, Nat.reduceAdd, Nat.reduceMul, Nat.reduceSub, Nat.reduceLT, Nat.reduceLeDiff, reduceCtorEq, Int.reduceToNat, Int.reduceLE, Int.reduceLT, Int.reduceEq, sem_tree_Name, h5, h4, h6, letter_o, hl, Int.toNat_zero])); try (conv => lhs; whnf); try rfl)
        exact key
    · have h4 : (12 : Int) < (s.size : Int) := by omega
      simp only [h0', h1, decide_true, decide_false, Bool.true_and, Bool.false_and]
      ((repeat ((conv => lhs; whnf); simp only [go_sem, ↓reduceIte, Nat.reduceEqDiff, Nat.reduceBEq, Nat.reduceAdd, Nat.reduceMul, Nat.reduceSub, Nat.reduceLT, Nat.reduceLeDiff, reduceCtorEq, Int.reduceToNat, Int.reduceLE, Int.reduceLT, Int.reduceEq, sem_tree_Name, h5, h4])); try (conv => lhs; whnf); try rfl)
/-- The first may be a letter alone. -/
def restOK' (s : ByteArray) : Nat → Nat → Bool
  | 0, i => true
  | m + 1, i => (isLetter (byteAt s i) || (decide (i ≠ 0) && (decide (48 ≤ byteAt s i) && decide (byteAt s i ≤ 57)))) && restOK' s m (i + 1)
theorem restOK'_eq (s : ByteArray) : ∀ (m i : Nat), i ≠ 0 → restOK' s m i = restOK s m i
  | 0, i, h => rfl
  | m + 1, i, h => by simp only [restOK, restOK', h, restOK'_eq s m (i + 1) (by omega), isAlnum, ne_eq, not_false_eq_true, decide_true, Bool.true_and]
noncomputable def fx_isochroneref08_Name : FX := ⟨Tryz.f71, hints.of 71, []⟩
theorem ok_isochroneref08_Name : fx_isochroneref08_Name.ok 71 := ⟨by kernel_rfl, of_decide_eq_true (by kernel_rfl), by kernel_rfl, by kernel_rfl, by kernel_rfl, by kernel_rfl⟩
theorem sem_isochroneref08_Name (b0 : Nat) (m : Md) (fs : List Fr) (e : Env) (S : Store) : sem b0 fx_isochroneref08_Name m fs e S = run b0 fx_isochroneref08_Name 1000 m fs e S := (sem_eq _ _ _ _ _ _).trans (run_sem b0 fx_isochroneref08_Name ok_isochroneref08_Name.good 1000 m fs e S).symm
theorem loop_Name8 (s : ByteArray) (hs : s.size ≤ 12) : ∀ (m i : Nat), i + m = s.size → loopAt 0 fx_isochroneref08_Name 0 116 0 [.blk 0, .seq 0 15] [(0, .str s), (3, .int .i64 i)] [] = some (.bool (restOK' s m i), []) := by
  intro m
  induction m with
  | zero =>
    intro i hi
    have h1 : ¬ (i : Int) < (s.size : Int) := by omega
    refine loopAt_step ok_isochroneref08_Name.good 1000 ?_
    ((repeat ((conv => lhs; whnf); simp only [go_sem, ↓reduceIte, Nat.reduceEqDiff, Nat.reduceBEq, Nat.reduceAdd, Nat.reduceMul, Nat.reduceSub, Nat.reduceLT, Nat.reduceLeDiff, reduceCtorEq, Int.reduceToNat, Int.reduceLE, Int.reduceLT, Int.reduceEq, sem_isochroneref08_Name, h1])); try (conv => lhs; whnf); try rfl)
    refine exit_run ok_isochroneref08_Name.good 1000 ?_
    simp only [restOK']
    ((repeat ((conv => lhs; whnf); simp only [go_sem, ↓reduceIte, Nat.reduceEqDiff, Nat.reduceBEq, Nat.reduceAdd, Nat.reduceMul, Nat.reduceSub, Nat.reduceLT, Nat.reduceLeDiff, reduceCtorEq, Int.reduceToNat, Int.reduceLE, Int.reduceLT, Int.reduceEq, sem_isochroneref08_Name])); try (conv => lhs; whnf); try rfl)
  | succ m ih =>
    intro i hi
    have h1 : (i : Int) < (s.size : Int) := by omega
    have h2 := wrap_succ (i := i) (n := s.size) (by omega) (by unfold maxLen; omega)
    have h4 : 0 ≤ (i : Int) ∧ (i : Int) < (s.size : Int) := ⟨by omega, h1⟩
    have key := ih (i + 1) (by omega)
    refine loopAt_step ok_isochroneref08_Name.good 1000 ?_
    simp only [restOK']
    cases hl : isLetter (byteAt s i)
    · by_cases c0 : i = 0
      · have c0' : (i : Int) = 0 := by omega
        simp only [c0, ne_eq, not_true, decide_false, Bool.false_and, Bool.or_self]
        simp only [c0, Int.natCast_zero] at h1 h4 hl c0' ⊢
        ((repeat ((conv => lhs; whnf); simp only [go_sem, ↓reduceIte, Nat.reduceEqDiff, Nat.reduceBEq, Nat.reduceAdd, Nat.reduceMul, Nat.reduceSub, Nat.reduceLT, Nat.reduceLeDiff, reduceCtorEq, Int.reduceToNat, Int.reduceLE, Int.reduceLT, Int.reduceEq, sem_isochroneref08_Name, h1, h4, letter8_o, hl, Int.toNat_zero])); try (conv => lhs; whnf); try rfl)
      · have c0' : ¬ (i : Int) = 0 := by omega
        by_cases c1 : byteAt s i < 48
        · have c1' : ¬ 48 ≤ byteAt s i := by omega
          simp only [c0, c1', ne_eq, not_false_eq_true, decide_true, Bool.true_and, decide_false, Bool.false_and, Bool.or_self]
          ((repeat ((conv => lhs; whnf); simp only [go_sem, ↓reduceIte, Nat.reduceEqDiff, Nat.reduceBEq, Nat.reduceAdd, Nat.reduceMul, Nat.reduceSub, Nat.reduceLT, Nat.reduceLeDiff, reduceCtorEq, Int.reduceToNat, Int.reduceLE, Int.reduceLT, Int.reduceEq, sem_isochroneref08_Name, h1, h2, h4, letter8_o, hl, Int.toNat_natCast, c0', c1])); try (conv => lhs; whnf); try rfl)
        · have c1' : 48 ≤ byteAt s i := by omega
          by_cases c2 : 57 < byteAt s i
          · have c2' : ¬ byteAt s i ≤ 57 := by omega
            simp only [c0, c1', c2', ne_eq, not_false_eq_true, decide_true, decide_false, Bool.true_and, Bool.or_self, Bool.false_and]
            ((repeat ((conv => lhs; whnf); simp only [go_sem, ↓reduceIte, Nat.reduceEqDiff, Nat.reduceBEq, Nat.reduceAdd, Nat.reduceMul, Nat.reduceSub, Nat.reduceLT, Nat.reduceLeDiff, reduceCtorEq, Int.reduceToNat, Int.reduceLE, Int.reduceLT, Int.reduceEq, sem_isochroneref08_Name, h1, h2, h4, letter8_o, hl, Int.toNat_natCast, c0', c1, c2])); try (conv => lhs; whnf); try rfl)
          · have c2' : byteAt s i ≤ 57 := by omega
            simp only [c0, c1', c2', ne_eq, not_false_eq_true, decide_true, Bool.true_and, Bool.or_true, Bool.and_self]
            ((repeat ((conv => lhs; whnf); simp only [go_sem, ↓reduceIte, Nat.reduceEqDiff, Nat.reduceBEq, Nat.reduceAdd, Nat.reduceMul, Nat.reduceSub, Nat.reduceLT, Nat.reduceLeDiff, reduceCtorEq, Int.reduceToNat, Int.reduceLE, Int.reduceLT, Int.reduceEq, sem_isochroneref08_Name, h1, h2, h4, letter8_o, hl, Int.toNat_natCast, c0', c1, c2])); try (conv => lhs; whnf); try rfl)
            exact key
    · simp only [Bool.true_or, Bool.true_and]
      ((repeat ((conv => lhs; whnf); simp only [go_sem, ↓reduceIte, Nat.reduceEqDiff, Nat.reduceBEq, Nat.reduceAdd, Nat.reduceMul, Nat.reduceSub, Nat.reduceLT, Nat.reduceLeDiff, reduceCtorEq, Int.reduceToNat, Int.reduceLE, Int.reduceLT, Int.reduceEq, sem_isochroneref08_Name, h1, h2, h4, letter8_o, hl, Int.toNat_natCast])); try (conv => lhs; whnf); try rfl)
      exact key
theorem call_Name8 (s : ByteArray) : callL Tryz.prog hints 71 [.str s] = some (.bool (nameOK s)) := by
  refine FX.callL (r := (.bool (nameOK s), [])) ok_isochroneref08_Name 1000 rfl rfl ?_ rfl
  unfold nameOK
  by_cases h0 : s.size = 0
  · simp only [h0, Nat.lt_irrefl, decide_false, Bool.false_and]
    ((repeat ((conv => lhs; whnf); simp only [go_sem, ↓reduceIte, Nat.reduceEqDiff, Nat.reduceBEq, Nat.reduceAdd, Nat.reduceMul, Nat.reduceSub, Nat.reduceLT, Nat.reduceLeDiff, reduceCtorEq, Int.reduceToNat, Int.reduceLE, Int.reduceLT, Int.reduceEq, sem_isochroneref08_Name, h0])); try (conv => lhs; whnf); try rfl)
  · have h0' : 0 < s.size := by omega
    have h5 : ¬ (s.size : Int) = 0 := by omega
    by_cases h1 : s.size ≤ 12
    · have h4 : ¬ (12 : Int) < (s.size : Int) := by omega
      have key := loop_Name8 s h1 s.size 0 (by omega)
      obtain ⟨m, hm⟩ : ∃ m, s.size = m + 1 := ⟨s.size - 1, by omega⟩
      have h7 : restOK' s s.size 0 = (isLetter (byteAt s 0) && restOK s s.size 0) := by
        rw [hm]
        simp only [restOK', restOK, isAlnum, restOK'_eq s m (0 + 1) (by omega)]
        cases isLetter (byteAt s 0) <;> simp
      simp only [h0', h1, decide_true, Bool.true_and]
      rw [h7] at key
      cases k1 : kw1 s <;> cases k2 : kw2 s <;> cases k3 : kw3 s <;> cases k4 : kw4 s <;>
        (simp only [keyword, k1, k2, k3, k4, Bool.or_true, Bool.or_false, Bool.true_or, Bool.false_or, Bool.not_true, Bool.not_false, Bool.and_true, Bool.and_false]; unfold kw1 kw2 kw3 kw4 at *; ((repeat ((conv => lhs; whnf); simp only [go_sem, ↓reduceIte, Nat.reduceEqDiff, Nat.reduceBEq, Nat.reduceAdd, Nat.reduceMul, Nat.reduceSub, Nat.reduceLT, Nat.reduceLeDiff, reduceCtorEq, Int.reduceToNat, Int.reduceLE, Int.reduceLT, Int.reduceEq, sem_isochroneref08_Name, h5, h4, k1, k2, k3, k4])); try (conv => lhs; whnf); try rfl); try exact key)
    · have h4 : (12 : Int) < (s.size : Int) := by omega
      simp only [h0', h1, decide_true, decide_false, Bool.true_and, Bool.false_and]
      ((repeat ((conv => lhs; whnf); simp only [go_sem, ↓reduceIte, Nat.reduceEqDiff, Nat.reduceBEq, Nat.reduceAdd, Nat.reduceMul, Nat.reduceSub, Nat.reduceLT, Nat.reduceLeDiff, reduceCtorEq, Int.reduceToNat, Int.reduceLE, Int.reduceLT, Int.reduceEq, sem_isochroneref08_Name, h5, h4])); try (conv => lhs; whnf); try rfl)
theorem Name8_o (S : Store) (s : ByteArray) : callO (callL Tryz.prog hints) S 71 [.str s] = some { v := .bool (nameOK s) } := callO_plain (call_Name8 s) (by simp [Plain.str])
theorem Name_o (S : Store) (s : ByteArray) : callO (callL Tryz.prog hints) S 108 [.str s] = some { v := .bool (nameOK s) } := callO_plain (call_Name s) (by simp [Plain.str])
end
end Go.Vs
end
