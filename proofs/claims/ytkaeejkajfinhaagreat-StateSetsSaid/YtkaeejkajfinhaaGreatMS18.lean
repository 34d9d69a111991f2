/- Magnitudes in the program: lehmer. -/

import Derived.Test.YtkaeejkajfinhaaGreatMS17
section
set_option linter.unusedVariables false
set_option linter.unusedSimpArgs false
set_option maxRecDepth 100000
namespace Go.Vs
open Go Go.Proofs
/-- What holds at each turn. -/
structure LInv (m n : Nat) (sh : Int) (ah bh a b : Int) (p q r s x y : Int) : Prop where
  sgn : (0 ≤ p ∧ q ≤ 0 ∧ r ≤ 0 ∧ 0 ≤ s) ∨ (p ≤ 0 ∧ 0 ≤ q ∧ 0 ≤ r ∧ s ≤ 0)
  b1 : 0 ≤ x + p ∧ x + p ≤ 2147483648
  b2 : 0 ≤ x + q ∧ x + q ≤ 2147483648
  b3 : 0 ≤ y + r ∧ y + r ≤ 2147483648
  b4 : 0 ≤ y + s ∧ y + s ≤ 2147483648
  vx : x = p * ah + q * bh
  vy : y = r * ah + s * bh
  gcd : Int.gcd (p * m + q * n) (r * m + s * n) = Nat.gcd m n
  ord : (p = 1 ∧ q = 0 ∧ r = 0 ∧ s = 1) ∨ (y + r < x + p ∧ y + s < x + q ∧ p * m + q * n ≤ n)
theorem comb_split {m n sh ah bh a b : Int} (hm : m = ah * sh + a) (hn : n = bh * sh + b) (p q x : Int) (hx : x = p * ah + q * bh) : p * m + q * n = sh * x + (p * a + q * b) := by
  subst hm hn hx
  simp only [Int.mul_add]
  have e1 : p * (ah * sh) = sh * (p * ah) := by ac_rfl
  have e2 : q * (bh * sh) = sh * (q * bh) := by ac_rfl
  omega
/-- Bounds on a combination: p ≥ 0 ≥ q. -/
theorem comb_ge {sh a b p q x : Int} (hs : 0 ≤ sh) (ha : 0 ≤ a ∧ a ≤ sh) (hb : 0 ≤ b ∧ b ≤ sh) (hp : 0 ≤ p) (hq : q ≤ 0) : sh * (x + q) ≤ sh * x + (p * a + q * b) ∧ sh * x + (p * a + q * b) ≤ sh * (x + p) := by
  have h1 : 0 ≤ p * a := Int.mul_nonneg hp ha.1
  have h2 : p * a ≤ p * sh := Int.mul_le_mul_of_nonneg_left ha.2 hp
  have h3 : q * b ≤ 0 := Int.mul_nonpos_of_nonpos_of_nonneg hq hb.1
  have h4 : q * sh ≤ q * b := Int.mul_le_mul_of_nonpos_left hq hb.2
  rw [Int.mul_add, Int.mul_add, Int.mul_comm sh q, Int.mul_comm sh p]
  omega
theorem LInv.bounds {m n : Nat} {sh ah bh a b p q r s x y : Int} (h : LInv m n sh ah bh a b p q r s x y) (hs : 0 < sh) (ha : 0 ≤ a ∧ a ≤ sh) (hb : 0 ≤ b ∧ b ≤ sh) (hm : (m : Int) = ah * sh + a) (hn : (n : Int) = bh * sh + b) :
    0 ≤ p * m + q * n ∧ 0 ≤ r * m + s * n ∧ ((y + r < x + p ∧ y + s < x + q) → r * m + s * n < p * m + q * n) := by
  rw [comb_split hm hn p q x h.vx, comb_split hm hn r s y h.vy]
  have mono : ∀ u v : Int, u ≤ v → sh * u ≤ sh * v := fun u v e => Int.mul_le_mul_of_nonneg_left e (Int.le_of_lt hs)
  have monos : ∀ u v : Int, u < v → sh * u < sh * v := fun u v e => Int.mul_lt_mul_of_pos_left e hs
  rcases h.sgn with ⟨s1, s2, s3, s4⟩ | ⟨s1, s2, s3, s4⟩
  · have g1 := comb_ge (x := x) (Int.le_of_lt hs) ha hb s1 s2
    have g2 := comb_ge (x := y) (Int.le_of_lt hs) hb ha s4 s3
    have m1 := mono 0 (x + q) h.b2.1
    have m2 := mono 0 (y + r) h.b3.1
    rw [Int.mul_zero] at m1 m2
    refine ⟨by omega, by omega, fun ⟨_, o⟩ => ?_⟩
    have m3 := monos _ _ o
    omega
  · have g1 := comb_ge (x := x) (Int.le_of_lt hs) hb ha s2 s1
    have g2 := comb_ge (x := y) (Int.le_of_lt hs) ha hb s3 s4
    have m1 := mono 0 (x + p) h.b1.1
    have m2 := mono 0 (y + s) h.b4.1
    rw [Int.mul_zero] at m1 m2
    refine ⟨by omega, by omega, fun ⟨o, _⟩ => ?_⟩
    have m3 := monos _ _ o
    omega
theorem LInv.step {m n : Nat} {sh ah bh a b p q r s x y k : Int} (h : LInv m n sh ah bh a b p q r s x y) (hs : 0 < sh) (ha : 0 ≤ a ∧ a ≤ sh) (hb : 0 ≤ b ∧ b ≤ sh) (hm : (m : Int) = ah * sh + a) (hn : (n : Int) = bh * sh + b)
    (h1 : y + r ≠ 0) (h2 : y + s ≠ 0) (k1 : k = (x + p) / (y + r)) (k2 : k = (x + q) / (y + s)) : LInv m n sh ah bh a b r s (p - k * r) (q - k * s) y (x - k * y) ∧ (x - k * y) + (p - k * r) < y + r := by
  obtain ⟨_, _, hord⟩ := h.bounds hs ha hb hm hn
  have hk : 0 ≤ k := by rw [k1]; exact Int.ediv_nonneg h.b1.1 h.b3.1
  have e1 : (x - k * y) + (p - k * r) = (x + p) % (y + r) := by
    have := Int.mul_ediv_add_emod (x + p) (y + r)
    rw [← k1, Int.mul_comm, Int.mul_add] at this
    omega
  have e2 : (x - k * y) + (q - k * s) = (x + q) % (y + s) := by
    have := Int.mul_ediv_add_emod (x + q) (y + s)
    rw [← k2, Int.mul_comm, Int.mul_add] at this
    omega
  have p3 : 0 < y + r := by have := h.b3.1; omega
  have p4 : 0 < y + s := by have := h.b4.1; omega
  have r1 := Int.emod_nonneg (x + p) h1
  have r2 := Int.emod_lt_of_pos (x + p) p3
  have r3 := Int.emod_nonneg (x + q) h2
  have r4 := Int.emod_lt_of_pos (x + q) p4
  have b3 := h.b3
  have b4 := h.b4
  refine ⟨⟨?_, h.b3, h.b4, by rw [e1]; omega, by rw [e2]; omega, h.vy, ?_, ?_, ?_⟩, by rw [e1]; exact r2⟩
  · rcases h.sgn with ⟨s1, s2, s3, s4⟩ | ⟨s1, s2, s3, s4⟩
    · have t1 : k * r ≤ 0 := Int.mul_nonpos_of_nonneg_of_nonpos hk s3
      have t2 : 0 ≤ k * s := Int.mul_nonneg hk s4
      right; omega
    · have t1 : 0 ≤ k * r := Int.mul_nonneg hk s3
      have t2 : k * s ≤ 0 := Int.mul_nonpos_of_nonneg_of_nonpos hk s4
      left; omega
  · rw [h.vx, h.vy, Int.sub_mul, Int.sub_mul, Int.mul_add, Int.mul_assoc, Int.mul_assoc]
    omega
  · have e : (p - k * r) * m + (q - k * s) * n = (p * m + q * n) - k * (r * m + s * n) := by
      rw [Int.sub_mul, Int.sub_mul, Int.mul_add, Int.mul_assoc, Int.mul_assoc]
      omega
    rw [e, ← h.gcd, Int.gcd_comm (p * m + q * n)]
    exact Int.gcd_sub_mul_right_right _ _ _
  · right
    rw [e1, e2]
    refine ⟨r2, r4, ?_⟩
    rcases h.ord with ⟨o1, o2, o3, o4⟩ | ⟨o1, o2, o3⟩
    · rw [o3, o4]; omega
    · have := hord ⟨o1, o2⟩
      omega
/-- The bounds on the single numbers. -/
theorem LInv.small {m n : Nat} {sh ah bh a b p q r s x y : Int} (h : LInv m n sh ah bh a b p q r s x y) : (-2147483648 ≤ p ∧ p ≤ 2147483648) ∧ (-2147483648 ≤ q ∧ q ≤ 2147483648) ∧ (-2147483648 ≤ r ∧ r ≤ 2147483648) ∧ (-2147483648 ≤ s ∧ s ≤ 2147483648) ∧ (0 ≤ x ∧ x ≤ 2147483648) ∧ (0 ≤ y ∧ y ≤ 2147483648) := by
  have b1 := h.b1
  have b2 := h.b2
  have b3 := h.b3
  have b4 := h.b4
  rcases h.sgn with ⟨s1, s2, s3, s4⟩ | ⟨s1, s2, s3, s4⟩ <;> omega
theorem prod_bound {k r : Int} (hk : 0 ≤ k ∧ k ≤ 2147483648) (hr : -2147483648 ≤ r ∧ r ≤ 2147483648) : -4611686018427387904 ≤ k * r ∧ k * r ≤ 4611686018427387904 := by
  have h1 : k * r ≤ k * 2147483648 := Int.mul_le_mul_of_nonneg_left hr.2 hk.1
  have h2 : k * (-2147483648) ≤ k * r := Int.mul_le_mul_of_nonneg_left hr.1 hk.1
  omega
section
attribute [local irreducible] Vs.callL Vs.callRL tyi callO callM callMV appendE storeE evLoad indexAddrO sliceO evFieldAddr evField buildO buildSliceO makeSliceO allocO boxed lenO copyE convertO indexO Vs.gc freezeAll
noncomputable def fx_mag_lehmer : FX := ⟨Tryz.f180, hints.of 180, []⟩
theorem ok_mag_lehmer : fx_mag_lehmer.ok 180 := ⟨by kernel_rfl, of_decide_eq_true (by kernel_rfl), by kernel_rfl, by kernel_rfl, by kernel_rfl, by kernel_rfl⟩
theorem sem_mag_lehmer (b0 : Nat) (m : Md) (fs : List Fr) (e : Env) (S : Store) : sem b0 fx_mag_lehmer m fs e S = run b0 fx_mag_lehmer 1000 m fs e S := (sem_eq _ _ _ _ _ _).trans (run_sem b0 fx_mag_lehmer ok_mag_lehmer.good 1000 m fs e S).symm
theorem loop_lehmer (va vb : PV) (m n : Nat) (sh ah bh a b : Int) (hs : 0 < sh) (ha : 0 ≤ a ∧ a ≤ sh) (hb : 0 ≤ b ∧ b ≤ sh) (hm : (m : Int) = ah * sh + a) (hn : (n : Int) = bh * sh + b) (fs : List Fr) : ∀ (f : Nat) (p q r s x y : Int), y + r ≤ f → LInv m n sh ah bh a b p q r s x y →
    ∃ p' q' r' s' x' y' : Int, LInv m n sh ah bh a b p' q' r' s' x' y' ∧ ∀ z : PV × Store, exitTo 0 fx_mag_lehmer 0 fs [(0, va), (1, vb), (12, .int .i64 p'), (13, .int .i64 q'), (14, .int .i64 r'), (15, .int .i64 s'), (16, .undef), (17, .undef), (18, .undef), (55, .undef), (71, .undef)] [] = some z →
    loopAt 0 fx_mag_lehmer 0 2040 0 fs [(0, va), (1, vb), (12, .int .i64 p), (13, .int .i64 q), (14, .int .i64 r), (15, .int .i64 s), (16, .int .i64 x), (17, .int .i64 y)] [] = some z := by
  intro f
  induction f with
  | zero =>
    intro p q r s x y hf h
    obtain ⟨i1, i2, i3, i4, i5, i6⟩ := h.small
    have b3 := h.b3
    have c1 : y + r = 0 := by omega
    have w1 : IntKind.i64.wrap (y + r) = 0 := by rw [c1]; decide
    refine ⟨p, q, r, s, x, y, h, fun z hz => ?_⟩
    refine loopAt_step ok_mag_lehmer.good 1000 ?_
    ((repeat ((conv => lhs; whnf); simp only [go_sem, ↓reduceIte, Nat.reduceEqDiff, Nat.reduceBEq, Nat.reduceAdd, Nat.reduceMul, Nat.reduceSub, Nat.reduceLT, Nat.reduceLeDiff, reduceCtorEq, Int.reduceToNat, Int.reduceLE, Int.reduceLT, Int.reduceEq, sem_mag_lehmer, w1])); try (conv => lhs; whnf); try rfl)
    exact hz
  | succ f ih =>
    intro p q r s x y hf h
    obtain ⟨i1, i2, i3, i4, i5, i6⟩ := h.small
    have b1 := h.b1
    have b2 := h.b2
    have b3 := h.b3
    have b4 := h.b4
    have wyr : IntKind.i64.wrap (y + r) = y + r := by rw [IntKind.wrap_i64]; omega
    have wys : IntKind.i64.wrap (y + s) = y + s := by rw [IntKind.wrap_i64]; omega
    have wxp : IntKind.i64.wrap (x + p) = x + p := by rw [IntKind.wrap_i64]; omega
    have wxq : IntKind.i64.wrap (x + q) = x + q := by rw [IntKind.wrap_i64]; omega
    by_cases c1 : y + r = 0
    · refine ⟨p, q, r, s, x, y, h, fun z hz => ?_⟩
      refine loopAt_step ok_mag_lehmer.good 1000 ?_
      ((repeat ((conv => lhs; whnf); simp only [go_sem, ↓reduceIte, Nat.reduceEqDiff, Nat.reduceBEq, Nat.reduceAdd, Nat.reduceMul, Nat.reduceSub, Nat.reduceLT, Nat.reduceLeDiff, reduceCtorEq, Int.reduceToNat, Int.reduceLE, Int.reduceLT, Int.reduceEq, sem_mag_lehmer, wyr, c1])); try (conv => lhs; whnf); try rfl)
      exact hz
    by_cases c2 : y + s = 0
    · refine ⟨p, q, r, s, x, y, h, fun z hz => ?_⟩
      refine loopAt_step ok_mag_lehmer.good 1000 ?_
      ((repeat ((conv => lhs; whnf); simp only [go_sem, ↓reduceIte, Nat.reduceEqDiff, Nat.reduceBEq, Nat.reduceAdd, Nat.reduceMul, Nat.reduceSub, Nat.reduceLT, Nat.reduceLeDiff, reduceCtorEq, Int.reduceToNat, Int.reduceLE, Int.reduceLT, Int.reduceEq, sem_mag_lehmer, wyr, c1, wys, c2])); try (conv => lhs; whnf); try rfl)
      exact hz
    have t1 : (x + p).tdiv (y + r) = (x + p) / (y + r) := Int.tdiv_eq_ediv_of_nonneg b1.1
    have t2 : (x + q).tdiv (y + s) = (x + q) / (y + s) := Int.tdiv_eq_ediv_of_nonneg b2.1
    obtain ⟨k, hk⟩ : ∃ k, k = (x + p) / (y + r) := ⟨_, rfl⟩
    obtain ⟨l, hl⟩ : ∃ l, l = (x + q) / (y + s) := ⟨_, rfl⟩
    have k0 : 0 ≤ k ∧ k ≤ 2147483648 := by
      rw [hk]
      have := Int.ediv_nonneg b1.1 b3.1
      have := Int.ediv_le_self (y + r) b1.1
      omega
    have l0 : 0 ≤ l ∧ l ≤ 2147483648 := by
      rw [hl]
      have := Int.ediv_nonneg b2.1 b4.1
      have := Int.ediv_le_self (y + s) b2.1
      omega
    rw [← hk] at t1
    rw [← hl] at t2
    have wk : IntKind.i64.wrap k = k := by rw [IntKind.wrap_i64]; omega
    have wl : IntKind.i64.wrap l = l := by rw [IntKind.wrap_i64]; omega
    by_cases c3 : k = l
    · subst c3
      obtain ⟨hst, hlt⟩ := h.step hs ha hb hm hn c1 c2 hk hl
      obtain ⟨p', q', r', s', x', y', j1, j2⟩ := ih r s (p - k * r) (q - k * s) y (x - k * y) (by omega) hst
      obtain ⟨j3, j4, j5, j6, j7, j8⟩ := hst.small
      have m1 := prod_bound k0 i3
      have m2 := prod_bound k0 i4
      have m3 := prod_bound (r := y) k0 (by omega)
      have w1 : IntKind.i64.wrap (k * r) = k * r := by rw [IntKind.wrap_i64]; omega
      have w2 : IntKind.i64.wrap (k * s) = k * s := by rw [IntKind.wrap_i64]; omega
      have w3 : IntKind.i64.wrap (k * y) = k * y := by rw [IntKind.wrap_i64]; omega
      have w4 : IntKind.i64.wrap (p - k * r) = p - k * r := by rw [IntKind.wrap_i64]; omega
      have w5 : IntKind.i64.wrap (q - k * s) = q - k * s := by rw [IntKind.wrap_i64]; omega
      have w6 : IntKind.i64.wrap (x - k * y) = x - k * y := by rw [IntKind.wrap_i64]; omega
      refine ⟨p', q', r', s', x', y', j1, fun z hz => ?_⟩
      have key := j2 z hz
      refine loopAt_step ok_mag_lehmer.good 1000 ?_
      ((repeat ((conv => lhs; whnf); simp only [go_sem, ↓reduceIte, Nat.reduceEqDiff, Nat.reduceBEq, Nat.reduceAdd, Nat.reduceMul, Nat.reduceSub, Nat.reduceLT, Nat.reduceLeDiff, reduceCtorEq, Int.reduceToNat, Int.reduceLE, Int.reduceLT, Int.reduceEq, sem_mag_lehmer, wyr, c1, wys, c2, wxp, wxq, t1, t2, wk, w1, w2, w3, w4, w5, w6])); try (conv => lhs; whnf); try rfl)
      exact key
    · refine ⟨p, q, r, s, x, y, h, fun z hz => ?_⟩
      refine loopAt_step ok_mag_lehmer.good 1000 ?_
      ((repeat ((conv => lhs; whnf); simp only [go_sem, ↓reduceIte, Nat.reduceEqDiff, Nat.reduceBEq, Nat.reduceAdd, Nat.reduceMul, Nat.reduceSub, Nat.reduceLT, Nat.reduceLeDiff, reduceCtorEq, Int.reduceToNat, Int.reduceLE, Int.reduceLT, Int.reduceEq, sem_mag_lehmer, wyr, c1, wys, c2, wxp, wxq, t1, t2, wk, wl, c3])); try (conv => lhs; whnf); try rfl)
      exact hz
theorem fz_leh (S : Store) (m n : Nat) : fzPV S (.tup [magV m, magV n, .bool true]) = some (.tup [magV m, magV n, .bool true]) := by
  show (mapO (fzPV1 _) [magV m, magV n, .bool true]).map PV.tup = _
  have f : ∀ n, fzPV1 S (magV n) = some (magV n) := fun n => fzPV_sl _ _
  have f2 : fzPV1 S (.bool true) = some (.bool true) := rfl
  simp only [mapO, f, f2, Option.bind_some]
  rfl
theorem call_lehmer {m n : Nat} {va vb : PV} (ha : IsMag m va) (hb : IsMag n vb) (hmn : n ≤ m) (h3 : 18446744073709551616 ≤ n) (hm : (words m).length ≤ 900000) : ∃ v, callL Tryz.prog hints 180 [va, vb] = some v ∧ (v = .tup [.sl [] true, .sl [] true, .bool false] ∨ ∃ X Y : Nat, v = .tup [magV X, magV Y, .bool true] ∧ Y < X ∧ X ≤ n ∧ Nat.gcd X Y = Nat.gcd m n) := by
  have hn : (words n).length ≤ 900000 := by
    have : (digs WB n).length ≤ (digs WB m).length := digs_mono WB2 hmn
    have h2 : (digs WB m).length ≤ 900000 := hm
    show (digs WB n).length ≤ 900000
    omega
  obtain ⟨N, hN⟩ : ∃ N, N = blen m := ⟨_, rfl⟩
  have hN1 : 65 ≤ N := by
    have : ¬ blen m ≤ 64 := fun h => by
      have h2 := (blen_le 64).1 h
      have : (2 : Nat) ^ 64 = 18446744073709551616 := by decide
      omega
    omega
  have hN2 : N ≤ 28800000 := by
    obtain ⟨c, hc⟩ : ∃ c, c = 900000 := ⟨_, rfl⟩
    have h0 : (words m).length ≤ c := by omega
    have h1 := (digs_le WB2 c m).1 h0
    have h2 : WB ^ c = 2 ^ (32 * c) := by rw [Nat.pow_mul]
    rw [h2] at h1
    have := (blen_le (32 * c)).2 h1
    omega
  have bn := blen_mono hmn
  rw [← hN] at bn
  have b1 := fun S => mag_Bits ha (by omega) S
  have b2 := fun S => mag_Bits hb (by omega) S
  rw [← hN] at b1
  have w1 : IntKind.i64.wrap ((N : Int) - 20) = (N : Int) - 20 := by rw [IntKind.wrap_i64]; omega
  by_cases c1 : (blen n : Int) < (N : Int) - 20
  · refine ⟨_, ?_, .inl rfl⟩
    refine FX.callL (r := (.tup [.sl [] true, .sl [] true, .bool false], [])) ok_mag_lehmer 1000 rfl rfl ?_ rfl
    ((repeat ((conv => lhs; whnf); simp only [go_sem, ↓reduceIte, Nat.reduceEqDiff, Nat.reduceBEq, Nat.reduceAdd, Nat.reduceMul, Nat.reduceSub, Nat.reduceLT, Nat.reduceLeDiff, reduceCtorEq, Int.reduceToNat, Int.reduceLE, Int.reduceLT, Int.reduceEq, sem_mag_lehmer, b1, b2, w1, c1])); try (conv => lhs; whnf); try rfl)
  · obtain ⟨K, hK⟩ : ∃ K, K = N - 31 := ⟨_, rfl⟩
    have w2 : IntKind.i64.wrap ((N : Int) - 31) = (K : Int) := by rw [IntKind.wrap_i64]; omega
    obtain ⟨v1, i1, s1⟩ := mag_Shr ha K (by omega) (by omega)
    obtain ⟨v2, i2, s2⟩ := mag_Shr hb K (by omega) (by omega)
    have hp : 0 < 2 ^ K := Nat.pow_pos (by decide)
    obtain ⟨A, hA⟩ : ∃ A, A = m / 2 ^ K := ⟨_, rfl⟩
    obtain ⟨B, hB⟩ : ∃ B, B = n / 2 ^ K := ⟨_, rfl⟩
    rw [← hA] at i1
    rw [← hB] at i2
    have hAl : A < 2147483648 := by
      rw [hA]
      refine (Nat.div_lt_iff_lt_mul hp).2 ?_
      have h1 := blen_lt m
      have h2 : (2147483648 : Nat) * 2 ^ K = 2 ^ N := by
        rw [show (2147483648 : Nat) = 2 ^ 31 by decide, ← Nat.pow_add]
        congr 1
        omega
      rw [h2, hN]
      exact h1
    have hBA : B ≤ A := by rw [hA, hB]; exact Nat.div_le_div_right hmn
    have f1 := fun S => mag_Small i1 (by omega) S
    have f2 := fun S => mag_Small i2 (by omega) S
    have cA : IntKind.i64.wrap (A : Int) = A := by rw [IntKind.wrap_i64]; omega
    have cB : IntKind.i64.wrap (B : Int) = B := by rw [IntKind.wrap_i64]; omega
    have spl : ∀ k : Nat, (k : Int) = ((k / 2 ^ K : Nat) : Int) * ((2 ^ K : Nat) : Int) + ((k % 2 ^ K : Nat) : Int) := fun k => by
      rw [← Int.natCast_mul, ← Int.natCast_add, Nat.mul_comm, Nat.div_add_mod]
    have rem : ∀ k : Nat, (0 : Int) ≤ ((k % 2 ^ K : Nat) : Int) ∧ ((k % 2 ^ K : Nat) : Int) ≤ ((2 ^ K : Nat) : Int) := fun k => by
      have := Nat.mod_lt k hp
      omega
    have sm := spl m
    have sn := spl n
    rw [← hA] at sm
    rw [← hB] at sn
    have hsh : (0 : Int) < ((2 ^ K : Nat) : Int) := by omega
    obtain ⟨p, q, r, s, x, y, hi, j⟩ := loop_lehmer va vb m n ((2 ^ K : Nat) : Int) A B ((m % 2 ^ K : Nat) : Int) ((n % 2 ^ K : Nat) : Int) hsh (rem m) (rem n) sm sn [.blk 0, .seq 0 511] B 1 0 0 1 A B (by omega) ⟨by omega, by omega, by omega, by omega, by omega, by omega, by omega, by simp, .inl ⟨rfl, rfl, rfl, rfl⟩⟩
    obtain ⟨q1, q2, q3, q4, q5, q6⟩ := hi.small
    by_cases c2 : q = 0
    · subst c2
      have key := j (.tup [.sl [] true, .sl [] true, .bool false], []) (by
        refine exit_run ok_mag_lehmer.good 1000 ?_
        ((repeat ((conv => lhs; whnf); simp only [go_sem, ↓reduceIte, Nat.reduceEqDiff, Nat.reduceBEq, Nat.reduceAdd, Nat.reduceMul, Nat.reduceSub, Nat.reduceLT, Nat.reduceLeDiff, reduceCtorEq, Int.reduceToNat, Int.reduceLE, Int.reduceLT, Int.reduceEq, sem_mag_lehmer])); try (conv => lhs; whnf); try rfl))
      refine ⟨_, ?_, .inl rfl⟩
      refine FX.callL (r := (.tup [.sl [] true, .sl [] true, .bool false], [])) ok_mag_lehmer 1000 rfl rfl ?_ rfl
      ((repeat ((conv => lhs; whnf); simp only [go_sem, ↓reduceIte, Nat.reduceEqDiff, Nat.reduceBEq, Nat.reduceAdd, Nat.reduceMul, Nat.reduceSub, Nat.reduceLT, Nat.reduceLeDiff, reduceCtorEq, Int.reduceToNat, Int.reduceLE, Int.reduceLT, Int.reduceEq, sem_mag_lehmer, b1, b2, w1, c1, w2, s1, s2, f1, f2, cA, cB])); try (conv => lhs; whnf); try rfl)
      exact key
    · obtain ⟨g1, g2, g3⟩ := hi.bounds hsh (rem m) (rem n) sm sn
      have od : y + r < x + p ∧ y + s < x + q ∧ p * m + q * n ≤ n := by
        rcases hi.ord with ⟨_, h, _⟩ | h
        · exact absurd h c2
        · exact h
      have g3' := g3 ⟨od.1, od.2.1⟩
      have k1 := call_combine ha hb p q hm hn (by omega) (by omega) (by rcases hi.sgn with h | h <;> omega) g1
      have k2 := call_combine ha hb r s hm hn (by omega) (by omega) (by rcases hi.sgn with h | h <;> omega) g2
      have kc1 := fun S => callO_plain (S := S) k1 (by simp [ha.plain, hb.plain, Plain.int])
      have kc2 := fun S => callO_plain (S := S) k2 (by simp [ha.plain, hb.plain, Plain.int])
      have gg := hi.gcd
      have od3 := od.2.2
      obtain ⟨X, hX⟩ : ∃ X : Nat, p * m + q * n = X := ⟨(p * m + q * n).toNat, by omega⟩
      obtain ⟨Y, hY⟩ : ∃ Y : Nat, r * m + s * n = Y := ⟨(r * m + s * n).toNat, by omega⟩
      rw [hX, Int.toNat_natCast] at kc1
      rw [hY, Int.toNat_natCast] at kc2
      rw [hX, hY] at gg g3'
      rw [hX] at od3
      have key := j (.tup [magV X, magV Y, .bool true], []) (by
        refine exit_run ok_mag_lehmer.good 1000 ?_
        ((repeat ((conv => lhs; whnf); simp only [go_sem, ↓reduceIte, Nat.reduceEqDiff, Nat.reduceBEq, Nat.reduceAdd, Nat.reduceMul, Nat.reduceSub, Nat.reduceLT, Nat.reduceLeDiff, reduceCtorEq, Int.reduceToNat, Int.reduceLE, Int.reduceLT, Int.reduceEq, sem_mag_lehmer, c2, kc1, kc2])); try (conv => lhs; whnf); try rfl))
      refine ⟨_, ?_, .inr ⟨X, Y, rfl, by omega, by omega, by rw [← gg]; rfl⟩⟩
      refine FX.callL (r := (.tup [magV X, magV Y, .bool true], [])) ok_mag_lehmer 1000 rfl rfl ?_ (fz_leh _ _ _)
      ((repeat ((conv => lhs; whnf); simp only [go_sem, ↓reduceIte, Nat.reduceEqDiff, Nat.reduceBEq, Nat.reduceAdd, Nat.reduceMul, Nat.reduceSub, Nat.reduceLT, Nat.reduceLeDiff, reduceCtorEq, Int.reduceToNat, Int.reduceLE, Int.reduceLT, Int.reduceEq, sem_mag_lehmer, b1, b2, w1, c1, w2, s1, s2, f1, f2, cA, cB])); try (conv => lhs; whnf); try rfl)
      exact key
end
end Go.Vs
end
/- Magnitudes in the program: GCD. -/
section
set_option linter.unusedVariables false
set_option linter.unusedSimpArgs false
set_option maxRecDepth 100000
namespace Go.Vs
open Go Go.Proofs
theorem words_gt2 {n : Nat} : 2 < (words n).length ↔ 18446744073709551616 ≤ n := by
  have h := digs_le WB2 2 n
  have e : WB ^ 2 = 18446744073709551616 := by decide
  rw [e] at h
  have : (words n).length = (digs WB n).length := rfl
  omega
theorem words_mono {m n : Nat} (h : m ≤ n) : (words m).length ≤ (words n).length := digs_mono WB2 h
section
attribute [local irreducible] Vs.callL Vs.callRL tyi callO callM callMV appendE storeE evLoad indexAddrO sliceO evFieldAddr evField buildO buildSliceO makeSliceO allocO boxed lenO copyE convertO indexO Vs.gc freezeAll
noncomputable def fx_mag_GCD : FX := ⟨Tryz.f168, hints.of 168, []⟩
theorem ok_mag_GCD : fx_mag_GCD.ok 168 := ⟨by kernel_rfl, of_decide_eq_true (by kernel_rfl), by kernel_rfl, by kernel_rfl, by kernel_rfl, by kernel_rfl⟩
theorem sem_mag_GCD (b0 : Nat) (m : Md) (fs : List Fr) (e : Env) (S : Store) : sem b0 fx_mag_GCD m fs e S = run b0 fx_mag_GCD 1000 m fs e S := (sem_eq _ _ _ _ _ _).trans (run_sem b0 fx_mag_GCD ok_mag_GCD.good 1000 m fs e S).symm
theorem loop_GCD (fs : List Fr) : ∀ (f m n : Nat) (va vb : PV), n ≤ f → n ≤ m → (words m).length ≤ 900000 → IsMag m va → IsMag n vb →
    ∃ (m' n' : Nat) (wa wb : PV), IsMag m' wa ∧ IsMag n' wb ∧ n' ≤ m' ∧ n' < 18446744073709551616 ∧ (words m').length ≤ 900000 ∧ Nat.gcd m' n' = Nat.gcd m n ∧ ∀ z : PV × Store, exitTo 0 fx_mag_GCD 0 fs [(0, wa), (1, wb), (24, .undef)] [] = some z → loopAt 0 fx_mag_GCD 0 56 0 fs [(0, va), (1, vb), (19, .undef)] [] = some z := by
  intro f
  induction f with
  | zero =>
    intro m n va vb hf hmn hl ha hb
    refine ⟨m, n, va, vb, ha, hb, hmn, by omega, hl, rfl, fun z hz => ?_⟩
    have hl2 : ¬ 2 < (words n).length := fun h => by have := words_gt2.1 h; omega
    have c : ¬ (2 : Int) < (words n).length := by omega
    obtain ⟨e, rfl, hp⟩ := hb.form
    unfold magE at hz ⊢
    refine loopAt_step ok_mag_GCD.good 1000 ?_
    ((repeat ((conv => lhs; whnf); simp only [go_sem, ↓reduceIte, Nat.reduceEqDiff, Nat.reduceBEq, Nat.reduceAdd, Nat.reduceMul, Nat.reduceSub, Nat.reduceLT, Nat.reduceLeDiff, reduceCtorEq, Int.reduceToNat, Int.reduceLE, Int.reduceLT, Int.reduceEq, sem_mag_GCD, c, hl2])); try (conv => lhs; whnf); try rfl)
    exact hz
  | succ f ih =>
    intro m n va vb hf hmn hl ha hb
    by_cases h2 : 2 < (words n).length
    · have hn3 := words_gt2.1 h2
      have c : (2 : Int) < (words n).length := by omega
      have hln := words_mono hmn
      obtain ⟨v, hv, hcase⟩ := call_lehmer ha hb hmn hn3 hl
      have kl := fun S => callO_plain (S := S) hv (by simp [ha.plain, hb.plain])
      rcases hcase with rfl | ⟨X, Y, rfl, o1, o2, o3⟩
      · obtain ⟨q, r, iq, ir, hd⟩ := mag_DivMod ha hb (by omega) hl (by omega)
        have hlt : m % n < n := Nat.mod_lt _ (by omega)
        obtain ⟨m', n', wa, wb, j1, j2, j3, j4, j5, j6, j7⟩ := ih n (m % n) vb r (by omega) (by omega) (by omega) hb ir
        refine ⟨m', n', wa, wb, j1, j2, j3, j4, j5, by rw [j6, Nat.gcd_comm, Nat.gcd_comm m n, ← Nat.gcd_rec], fun z hz => ?_⟩
        have key := j7 z hz
        obtain ⟨e, rfl, hp⟩ := hb.form
        unfold magE at kl hd key ⊢
        refine loopAt_step ok_mag_GCD.good 1000 ?_
        ((repeat ((conv => lhs; whnf); simp only [go_sem, ↓reduceIte, Nat.reduceEqDiff, Nat.reduceBEq, Nat.reduceAdd, Nat.reduceMul, Nat.reduceSub, Nat.reduceLT, Nat.reduceLeDiff, reduceCtorEq, Int.reduceToNat, Int.reduceLE, Int.reduceLT, Int.reduceEq, sem_mag_GCD, c, h2, kl, hd])); try (conv => lhs; whnf); try rfl)
        exact key
      · have hX := words_mono o2
        obtain ⟨m', n', wa, wb, j1, j2, j3, j4, j5, j6, j7⟩ := ih X Y (magV X) (magV Y) (by omega) (by omega) (by omega) (.of X) (.of Y)
        refine ⟨m', n', wa, wb, j1, j2, j3, j4, j5, by rw [j6, o3], fun z hz => ?_⟩
        have key := j7 z hz
        obtain ⟨e, rfl, hp⟩ := hb.form
        unfold magE at kl ⊢
        refine loopAt_step ok_mag_GCD.good 1000 ?_
        ((repeat ((conv => lhs; whnf); simp only [go_sem, ↓reduceIte, Nat.reduceEqDiff, Nat.reduceBEq, Nat.reduceAdd, Nat.reduceMul, Nat.reduceSub, Nat.reduceLT, Nat.reduceLeDiff, reduceCtorEq, Int.reduceToNat, Int.reduceLE, Int.reduceLT, Int.reduceEq, sem_mag_GCD, c, h2, kl])); try (conv => lhs; whnf); try rfl)
        exact key
    · have c : ¬ (2 : Int) < (words n).length := by omega
      have hn3 : n < 18446744073709551616 := Nat.lt_of_not_le fun h => h2 (words_gt2.2 h)
      refine ⟨m, n, va, vb, ha, hb, hmn, hn3, hl, rfl, fun z hz => ?_⟩
      obtain ⟨e, rfl, hp⟩ := hb.form
      unfold magE at hz ⊢
      refine loopAt_step ok_mag_GCD.good 1000 ?_
      ((repeat ((conv => lhs; whnf); simp only [go_sem, ↓reduceIte, Nat.reduceEqDiff, Nat.reduceBEq, Nat.reduceAdd, Nat.reduceMul, Nat.reduceSub, Nat.reduceLT, Nat.reduceLeDiff, reduceCtorEq, Int.reduceToNat, Int.reduceLE, Int.reduceLT, Int.reduceEq, sem_mag_GCD, c, h2])); try (conv => lhs; whnf); try rfl)
      exact hz
theorem loop_GCD2 (fs : List Fr) {z : PV × Store} : ∀ (f x y : Nat), y ≤ f → x < 18446744073709551616 → y < 18446744073709551616 → exitTo 0 fx_mag_GCD 2 fs [(12, .int .u64 (Nat.gcd x y)), (14, .undef), (65, .undef)] [] = some z → loopAt 0 fx_mag_GCD 2 2040 0 fs [(12, .int .u64 x), (14, .int .u64 y)] [] = some z := by
  intro f
  induction f with
  | zero =>
    intro x y hf hx hy hz
    have h0 : y = 0 := by omega
    subst h0
    rw [Nat.gcd_zero_right] at hz
    refine loopAt_step ok_mag_GCD.good 1000 ?_
    ((repeat ((conv => lhs; whnf); simp only [go_sem, ↓reduceIte, Nat.reduceEqDiff, Nat.reduceBEq, Nat.reduceAdd, Nat.reduceMul, Nat.reduceSub, Nat.reduceLT, Nat.reduceLeDiff, reduceCtorEq, Int.reduceToNat, Int.reduceLE, Int.reduceLT, Int.reduceEq, sem_mag_GCD])); try (conv => lhs; whnf); try rfl)
    exact hz
  | succ f ih =>
    intro x y hf hx hy hz
    by_cases h0 : y = 0
    · subst h0
      rw [Nat.gcd_zero_right] at hz
      refine loopAt_step ok_mag_GCD.good 1000 ?_
      ((repeat ((conv => lhs; whnf); simp only [go_sem, ↓reduceIte, Nat.reduceEqDiff, Nat.reduceBEq, Nat.reduceAdd, Nat.reduceMul, Nat.reduceSub, Nat.reduceLT, Nat.reduceLeDiff, reduceCtorEq, Int.reduceToNat, Int.reduceLE, Int.reduceLT, Int.reduceEq, sem_mag_GCD])); try (conv => lhs; whnf); try rfl)
      exact hz
    · have hlt : x % y < y := Nat.mod_lt _ (by omega)
      have key := ih y (x % y) (by omega) hy (by omega) (by rw [Nat.gcd_comm y, ← Nat.gcd_rec, Nat.gcd_comm]; exact hz)
      have c : ¬ (y : Int) = 0 := by omega
      have tm : (x : Int).tmod y = ((x % y : Nat) : Int) := by rw [Int.tmod_eq_emod_of_nonneg (by omega)]; rfl
      have cw : IntKind.u64.wrap ((x % y : Nat) : Int) = ((x % y : Nat) : Int) := by rw [wU64]; omega
      refine loopAt_step ok_mag_GCD.good 1000 ?_
      ((repeat ((conv => lhs; whnf); simp only [go_sem, ↓reduceIte, Nat.reduceEqDiff, Nat.reduceBEq, Nat.reduceAdd, Nat.reduceMul, Nat.reduceSub, Nat.reduceLT, Nat.reduceLeDiff, reduceCtorEq, Int.reduceToNat, Int.reduceLE, Int.reduceLT, Int.reduceEq, sem_mag_GCD, c, h0, tm, cw])); try (conv => lhs; whnf); try rfl)
      exact key
theorem call_GCD {m n : Nat} {va vb : PV} (ha : IsMag m va) (hb : IsMag n vb) (hm : (words m).length ≤ 900000) (hn : (words n).length ≤ 900000) : callL Tryz.prog hints 168 [va, vb] = some (magV (Nat.gcd m n)) := by
  have cc := mag_Cmp ha hb (by omega) (by omega)
  -- behind the first loop
  have tail : ∀ (m' n' : Nat) (wa wb : PV), IsMag m' wa → IsMag n' wb → n' ≤ m' → n' < 18446744073709551616 → (words m').length ≤ 900000 → ∃ S, exitTo 0 fx_mag_GCD 0 [.blk 0, .seq 0 15] [(0, wa), (1, wb), (24, .undef)] [] = some (if n' = 0 then .msl 0 0 (words m').length false else magV (Nat.gcd m' n'), if n' = 0 then [.arr (kRows .u32 (words m')) (some (some 1)) false] else S) := by
    intro m' n' wa wb ia ib hle hn2 hl
    have hln := words_mono hle
    by_cases h0 : n' = 0
    · refine ⟨[], ?_⟩
      rw [if_pos h0, if_pos h0]
      have l0 : (words n').length = 0 := words_len0.2 h0
      obtain ⟨e1, rfl, p1⟩ := ia.form
      obtain ⟨e2, rfl, p2⟩ := ib.form
      have ap := fun S => sl_us.appNil 0 S (RowsV.sl (S := S) (kRows .u32 (words m')) e1) (kRows_ok _ _) (by rw [kRows_length]; omega) (by rw [kRows_length]; omega)
      unfold magE
      refine exit_run ok_mag_GCD.good 1000 ?_
      ((repeat ((conv => lhs; whnf); simp only [go_sem, ↓reduceIte, Nat.reduceEqDiff, Nat.reduceBEq, Nat.reduceAdd, Nat.reduceMul, Nat.reduceSub, Nat.reduceLT, Nat.reduceLeDiff, reduceCtorEq, Int.reduceToNat, Int.reduceLE, Int.reduceLT, Int.reduceEq, sem_mag_GCD, l0, ap])); try (conv => lhs; whnf); try rfl)
    · refine ⟨[], ?_⟩
      rw [if_neg h0, if_neg h0]
      have l0 : (words n').length ≠ 0 := fun e => h0 (words_len0.1 e)
      have l0' : ¬ ((words n').length : Int) = 0 := by omega
      obtain ⟨q, r, iq, ir, hd⟩ := mag_DivMod ia ib h0 hl (by omega)
      have hlt : m' % n' < n' := Nat.mod_lt _ (by omega)
      have f1 := mag_Small ib hn2
      have f2 := mag_Small ir (by omega)
      have hg : Nat.gcd n' (m' % n') = Nat.gcd m' n' := by rw [Nat.gcd_comm, ← Nat.gcd_rec, Nat.gcd_comm]
      have hgl : Nat.gcd m' n' < 18446744073709551616 := by
        have := Nat.le_of_dvd (by omega) (Nat.gcd_dvd_right m' n')
        omega
      have f3 := mag_From (Nat.gcd m' n') hgl
      have key := loop_GCD2 [.blk 2, .seq 0 511] (z := (magV (Nat.gcd m' n'), [])) n' n' (m' % n') (by omega) hn2 (by omega) (by
        rw [hg]
        refine exit_run ok_mag_GCD.good 1000 ?_
        ((repeat ((conv => lhs; whnf); simp only [go_sem, ↓reduceIte, Nat.reduceEqDiff, Nat.reduceBEq, Nat.reduceAdd, Nat.reduceMul, Nat.reduceSub, Nat.reduceLT, Nat.reduceLeDiff, reduceCtorEq, Int.reduceToNat, Int.reduceLE, Int.reduceLT, Int.reduceEq, sem_mag_GCD, f3])); try (conv => lhs; whnf); try rfl))
      obtain ⟨e2, rfl, p2⟩ := ib.form
      unfold magE at hd f1 ⊢
      refine exit_run ok_mag_GCD.good 1000 ?_
      ((repeat ((conv => lhs; whnf); simp only [go_sem, ↓reduceIte, Nat.reduceEqDiff, Nat.reduceBEq, Nat.reduceAdd, Nat.reduceMul, Nat.reduceSub, Nat.reduceLT, Nat.reduceLeDiff, reduceCtorEq, Int.reduceToNat, Int.reduceLE, Int.reduceLT, Int.reduceEq, sem_mag_GCD, l0, l0', hd, f1, f2])); try (conv => lhs; whnf); try rfl)
      exact key
  have main : ∀ (m n : Nat) (va vb : PV), IsMag m va → IsMag n vb → n ≤ m → (words m).length ≤ 900000 → ∃ r : PV × Store, fzPV r.2 r.1 = some (magV (Nat.gcd m n)) ∧ loopAt 0 fx_mag_GCD 0 56 0 [.blk 0, .seq 0 15] [(0, va), (1, vb), (19, .undef)] [] = some r := by
    intro m n va vb ha hb hle hl
    obtain ⟨m', n', wa, wb, j1, j2, j3, j4, j5, j6, j7⟩ := loop_GCD [.blk 0, .seq 0 15] n m n va vb (Nat.le_refl _) hle hl ha hb
    obtain ⟨S, ht⟩ := tail m' n' wa wb j1 j2 j3 j4 j5
    refine ⟨_, ?_, j7 _ ht⟩
    rw [← j6]
    by_cases h0 : n' = 0
    · rw [if_pos h0, if_pos h0, h0, Nat.gcd_zero_right]
      exact kRows_fzV (ex := false) rfl rfl
    · rw [if_neg h0, if_neg h0]
      exact fzPV_sl _ _
  by_cases h : m < n
  · have c : cmpN m n < 0 := by unfold cmpN; simp [h]
    obtain ⟨r, h1, h2⟩ := main n m vb va hb ha (by omega) hn
    rw [Nat.gcd_comm] at h1
    refine FX.callL (r := r) ok_mag_GCD 1000 rfl rfl ?_ h1
    ((repeat ((conv => lhs; whnf); simp only [go_sem, ↓reduceIte, Nat.reduceEqDiff, Nat.reduceBEq, Nat.reduceAdd, Nat.reduceMul, Nat.reduceSub, Nat.reduceLT, Nat.reduceLeDiff, reduceCtorEq, Int.reduceToNat, Int.reduceLE, Int.reduceLT, Int.reduceEq, sem_mag_GCD, cc, c])); try (conv => lhs; whnf); try rfl)
    exact h2
  · have c : ¬ cmpN m n < 0 := by unfold cmpN; rw [if_neg h]; split <;> omega
    obtain ⟨r, h1, h2⟩ := main m n va vb ha hb (by omega) hm
    refine FX.callL (r := r) ok_mag_GCD 1000 rfl rfl ?_ h1
    ((repeat ((conv => lhs; whnf); simp only [go_sem, ↓reduceIte, Nat.reduceEqDiff, Nat.reduceBEq, Nat.reduceAdd, Nat.reduceMul, Nat.reduceSub, Nat.reduceLT, Nat.reduceLeDiff, reduceCtorEq, Int.reduceToNat, Int.reduceLE, Int.reduceLT, Int.reduceEq, sem_mag_GCD, cc, c])); try (conv => lhs; whnf); try rfl)
    exact h2
end
end Go.Vs
end
/- Rational numbers: plain laws. -/
section
set_option linter.unusedVariables false
set_option linter.unusedSimpArgs false
namespace Go.Vs
open Go Go.Proofs
end Go.Vs
end
/- Rational numbers in the program: valid, Valid. -/
section
set_option linter.unusedVariables false
set_option linter.unusedSimpArgs false
set_option maxRecDepth 100000
namespace Go.Vs
open Go Go.Proofs
/-- No zero word at its end. -/
def Trimmed (L : List Int) : Prop := L = [] ∨ L.getD (L.length - 1) 0 ≠ 0
instance (L : List Int) : Decidable (Trimmed L) := inferInstanceAs (Decidable (_ ∨ _))
theorem d_Rat : (tyi Tryz.prog 27).d = .struct [(0, 1, false), (1, 1, false), (2, 1, false)] := by kernel_rfl
@[go_sem] theorem size_Rat : (tyi Tryz.prog 27).size = 3 := nr (by kernel_rfl)
@[go_sem] theorem known_Rat : (tyi Tryz.prog 27).known = true := nr (by kernel_rfl)
@[go_sem] theorem zero_Rat : (tyi Tryz.prog 27).zero = some [.bool false, .sl [] true, .sl [] true] := nr (by kernel_rfl)
theorem known_bool : (tyi Tryz.prog 4).known = true := by kernel_rfl
theorem d_bool : (tyi Tryz.prog 4).d = .bool := by kernel_rfl
theorem known_us : (tyi Tryz.prog 25).known = true := by kernel_rfl
@[go_sem] theorem part_us (v : PV) (r : List PV) : part (tyi Tryz.prog 25) (v :: r) = some v := by simp [part, known_us, TI.isAgg, sl_us.d]
@[go_sem] theorem part_bool (v : PV) (r : List PV) : part (tyi Tryz.prog 4) (v :: r) = some v := by simp [part, known_bool, TI.isAgg, d_bool]
@[go_sem] theorem part_Rat (a b c : PV) (r : List PV) : part (tyi Tryz.prog 27) (a :: b :: c :: r) = some (.agg [a, b, c]) := by simp [part, known_Rat, TI.isAgg, d_Rat, size_Rat]
@[go_sem] theorem faRat_0 (id i off : Nat) : evFieldAddr (tyi Tryz.prog 27) 0 (.mp id i off) = some (.mp id i off) := by simp [evFieldAddr, d_Rat]
@[go_sem] theorem faRat_1 (id i off : Nat) : evFieldAddr (tyi Tryz.prog 27) 1 (.mp id i off) = some (.mp id i (off + 1)) := by simp [evFieldAddr, d_Rat]
@[go_sem] theorem faRat_2 (id i off : Nat) : evFieldAddr (tyi Tryz.prog 27) 2 (.mp id i off) = some (.mp id i (off + 2)) := by simp [evFieldAddr, d_Rat]
@[go_sem] theorem fcRat_0 (r : List PV) : evFieldAddr (tyi Tryz.prog 27) 0 (.cp r) = some (.cp r) := by simp [evFieldAddr, d_Rat]
@[go_sem] theorem fcRat_1 (r : List PV) : evFieldAddr (tyi Tryz.prog 27) 1 (.cp r) = some (.cp (r.drop 1)) := by simp [evFieldAddr, d_Rat]
@[go_sem] theorem fcRat_2 (r : List PV) : evFieldAddr (tyi Tryz.prog 27) 2 (.cp r) = some (.cp (r.drop 2)) := by simp [evFieldAddr, d_Rat]
section
attribute [local irreducible] Vs.callL Vs.callRL tyi callO callM callMV appendE storeE evLoad indexAddrO sliceO evFieldAddr evField buildO buildSliceO makeSliceO allocO boxed lenO copyE convertO indexO Vs.gc freezeAll
noncomputable def fx_num_valid : FX := ⟨Tryz.f171, hints.of 171, []⟩
theorem ok_num_valid : fx_num_valid.ok 171 := ⟨by kernel_rfl, of_decide_eq_true (by kernel_rfl), by kernel_rfl, by kernel_rfl, by kernel_rfl, by kernel_rfl⟩
theorem sem_num_valid (b0 : Nat) (m : Md) (fs : List Fr) (e : Env) (S : Store) : sem b0 fx_num_valid m fs e S = run b0 fx_num_valid 1000 m fs e S := (sem_eq _ _ _ _ _ _).trans (run_sem b0 fx_num_valid ok_num_valid.good 1000 m fs e S).symm
theorem call_valid (L : List Int) (e : Bool) (hl : L.length ≤ 9223372036854775807) (w : Int) : callL Tryz.prog hints 171 [.sl (kRows .u32 L) e, .int .i64 w] = some (.bool (decide (L.length ≤ w) && decide (Trimmed L))) := by
  refine FX.callL (r := (.bool (decide (L.length ≤ w) && decide (Trimmed L)), [])) ok_num_valid 1000 rfl rfl ?_ rfl
  by_cases c1 : (L.length : Int) ≤ w
  · by_cases c2 : L = []
    · subst c2
      have ht : Trimmed [] := .inl rfl
      have c1' : ((0 : Nat) : Int) ≤ w := c1
      have c1'' : (0 : Int) ≤ w := c1
      simp only [c1, ht, decide_true, Bool.and_self]
      ((repeat ((conv => lhs; whnf); simp only [go_sem, ↓reduceIte, Nat.reduceEqDiff, Nat.reduceBEq, Nat.reduceAdd, Nat.reduceMul, Nat.reduceSub, Nat.reduceLT, Nat.reduceLeDiff, reduceCtorEq, Int.reduceToNat, Int.reduceLE, Int.reduceLT, Int.reduceEq, sem_num_valid, c1, c1', c1'', List.length_nil])); try (conv => lhs; whnf); try rfl)
    · have l0 : L.length ≠ 0 := fun h => c2 (List.eq_nil_of_length_eq_zero h)
      have l0' : ¬ (L.length : Int) = 0 := by omega
      have wl : IntKind.i64.wrap ((L.length : Int) - 1) = ((L.length - 1 : Nat) : Int) := by rw [IntKind.wrap_i64]; omega
      have xl : 0 ≤ ((L.length - 1 : Nat) : Int) ∧ ((L.length - 1 : Nat) : Int) < L.length := ⟨by omega, by omega⟩
      by_cases c3 : L.getD (L.length - 1) 0 = 0
      · have ht : ¬ Trimmed L := fun h => by
          rcases h with h | h
          · exact c2 h
          · exact h c3
        simp only [c1, ht, decide_true, decide_false, Bool.and_false]
        ((repeat ((conv => lhs; whnf); simp only [go_sem, ↓reduceIte, Nat.reduceEqDiff, Nat.reduceBEq, Nat.reduceAdd, Nat.reduceMul, Nat.reduceSub, Nat.reduceLT, Nat.reduceLeDiff, reduceCtorEq, Int.reduceToNat, Int.reduceLE, Int.reduceLT, Int.reduceEq, sem_num_valid, c1, l0, l0', wl, xl, Int.toNat_natCast, c3])); try (conv => lhs; whnf); try rfl)
      · have ht : Trimmed L := .inr c3
        simp only [c1, ht, decide_true, Bool.and_self]
        ((repeat ((conv => lhs; whnf); simp only [go_sem, ↓reduceIte, Nat.reduceEqDiff, Nat.reduceBEq, Nat.reduceAdd, Nat.reduceMul, Nat.reduceSub, Nat.reduceLT, Nat.reduceLeDiff, reduceCtorEq, Int.reduceToNat, Int.reduceLE, Int.reduceLT, Int.reduceEq, sem_num_valid, c1, l0, l0', wl, xl, Int.toNat_natCast, c3])); try (conv => lhs; whnf); try rfl)
  · simp only [c1, decide_false, Bool.false_and]
    ((repeat ((conv => lhs; whnf); simp only [go_sem, ↓reduceIte, Nat.reduceEqDiff, Nat.reduceBEq, Nat.reduceAdd, Nat.reduceMul, Nat.reduceSub, Nat.reduceLT, Nat.reduceLeDiff, reduceCtorEq, Int.reduceToNat, Int.reduceLE, Int.reduceLT, Int.reduceEq, sem_num_valid, c1])); try (conv => lhs; whnf); try rfl)
end
/-- The number of a list of words. -/
def nv (L : List Int) : Nat := (valD WB L).toNat
theorem nv_words (n : Nat) : nv (words n) = n := by unfold nv; rw [words_val, Int.toNat_natCast]
theorem Trimmed.words {L : List Int} (h : Trimmed L) (ho : OkD WB L) : L = Vs.words (nv L) := by
  unfold Vs.words nv
  refine digs_of WB2 ho ?_
  intro x r e
  rcases h with h | h
  · rw [h] at e
    have := congrArg List.length e
    simp at this
  · rw [e] at h
    intro h0
    apply h
    simp [List.getD_eq_getElem?_getD, h0]
theorem trimmed_words (n : Nat) : Trimmed (words n) := by
  by_cases h : n = 0
  · left; exact (digs_nil WB2).2 h
  · right; exact digs_last WB2 h
/-- What the program takes for a valid Rat. -/
def validR (neg : Bool) (N D : List Int) (w : Int) : Bool :=
  (decide (N.length ≤ w) && decide (Trimmed N)) && (decide (D.length ≤ w) && decide (Trimmed D)) && !decide (D.length = 0) &&
  (if N.length = 0 then !neg && decide (D = [1]) else decide (Nat.gcd (nv N) (nv D) = 1))
theorem one_iff {D : List Int} (h : D.length = 1) : D = [1] ↔ D.getD 0 0 = 1 := by
  obtain ⟨x, rfl⟩ := List.length_eq_one_iff.1 h
  simp [List.getD_eq_getElem?_getD]
theorem words1 : words 1 = [1] := by
  unfold words
  rw [digs_pos WB2 (by decide)]
  have : 1 / WB = 0 := by decide
  rw [this, digs_zero]
  decide
theorem plain_sl {L : List Int} {e : Bool} (h : e = true → L = []) : Plain (.sl (kRows .u32 L) e) := by
  cases e with
  | false => exact Plain.sl _
  | true => rw [h rfl]; exact Plain.nil
theorem isMag_sl {L : List Int} {e : Bool} (h : e = true → L = []) (ht : Trimmed L) (ho : OkD WB L) : IsMag (nv L) (.sl (kRows .u32 L) e) := by
  cases e with
  | false => left; unfold magV; rw [← ht.words ho]
  | true =>
    have := h rfl
    subst this
    right; exact ⟨rfl, rfl⟩
theorem one_len : ([1] : List Int).length = 1 := rfl
theorem one_len' : ((([1] : List Int).length : Nat) : Int) = 1 := rfl
theorem one_get : ([1] : List Int).getD 0 0 = 1 := rfl
/-- A Rat of two lists of words. -/
def ratL (neg : Bool) (N D : List Int) : PV := .agg [.bool neg, .sl (kRows .u32 N) false, .sl (kRows .u32 D) false]
theorem ratL_plain (neg : Bool) (N D : List Int) : Plain (ratL neg N D) := ⟨rfl, fun _ => rfl⟩
/-- What a value is when it is handed on. -/
def Fz (a a' : PV) : Prop := a.refs = [] ∧ ∀ S, fzPV S a = some a'
theorem Plain.fz {a : PV} (h : Plain a) : Fz a a := h
theorem Fz.rat (neg : Bool) (N D : List (List PV)) (e1 e2 : Bool) : Fz (.agg [.bool neg, .sl N e1, .sl D e2]) (.agg [.bool neg, .sl N false, .sl D false]) := ⟨rfl, fun _ => rfl⟩
section
attribute [local irreducible] Vs.callL Vs.callRL tyi callO callM callMV appendE storeE evLoad indexAddrO sliceO evFieldAddr evField buildO buildSliceO makeSliceO allocO boxed lenO copyE convertO indexO Vs.gc freezeAll
noncomputable def fx_num_Valid : FX := ⟨Tryz.f147, hints.of 147, []⟩
theorem ok_num_Valid : fx_num_Valid.ok 147 := ⟨by kernel_rfl, of_decide_eq_true (by kernel_rfl), by kernel_rfl, by kernel_rfl, by kernel_rfl, by kernel_rfl⟩
theorem sem_num_Valid (b0 : Nat) (m : Md) (fs : List Fr) (e : Env) (S : Store) : sem b0 fx_num_Valid m fs e S = run b0 fx_num_Valid 1000 m fs e S := (sem_eq _ _ _ _ _ _).trans (run_sem b0 fx_num_Valid ok_num_Valid.good 1000 m fs e S).symm
theorem call_num_Valid (neg : Bool) (N D : List Int) (e1 e2 : Bool) (hN : OkD WB N) (hD : OkD WB D) (w : Int) (hw : w ≤ 900000) (lN : N.length ≤ 9223372036854775807) (lD : D.length ≤ 9223372036854775807) (f1 : e1 = true → N = []) (f2 : e2 = true → D = []) : callL Tryz.prog hints 147 [.agg [.bool neg, .sl (kRows .u32 N) e1, .sl (kRows .u32 D) e2], .int .i64 w] = some (.bool (validR neg N D w)) := by
  have p1 := plain_sl f1
  have p2 := plain_sl f2
  have v1 := fun S => callO_plain (S := S) (call_valid N e1 lN w) (by simp [p1, Plain.int])
  have v2 := fun S => callO_plain (S := S) (call_valid D e2 lD w) (by simp [p2, Plain.int])
  refine FX.callL (r := (.bool (validR neg N D w), [.arr [[.bool neg, .sl (kRows .u32 N) e1, .sl (kRows .u32 D) e2]] none false])) ok_num_Valid 1000 rfl rfl ?_ rfl
  unfold validR
  by_cases b1 : (decide ((N.length : Int) ≤ w) && decide (Trimmed N)) = true
  · rw [b1] at v1 ⊢
    by_cases b2 : (decide ((D.length : Int) ≤ w) && decide (Trimmed D)) = true
    · rw [b2] at v2 ⊢
      simp only [Bool.and_eq_true, decide_eq_true_eq] at b1 b2
      by_cases d0 : D.length = 0
      · simp only [d0, decide_true, Bool.not_true, Bool.and_false, Bool.false_and]
        have d0' : (D.length : Int) = 0 := by omega
        ((repeat ((conv => lhs; whnf); simp only [go_sem, ↓reduceIte, Nat.reduceEqDiff, Nat.reduceBEq, Nat.reduceAdd, Nat.reduceMul, Nat.reduceSub, Nat.reduceLT, Nat.reduceLeDiff, reduceCtorEq, Int.reduceToNat, Int.reduceLE, Int.reduceLT, Int.reduceEq, sem_num_Valid, v1, v2, d0, d0'])); try (conv => lhs; whnf); try rfl)
      · have d0' : ¬ (D.length : Int) = 0 := by omega
        simp only [d0, decide_false, Bool.not_false, Bool.and_true, Bool.true_and]
        by_cases n0 : N.length = 0
        · have n0' : (N.length : Int) = 0 := by omega
          rw [if_pos n0]
          cases neg with
          | true => ((repeat ((conv => lhs; whnf); simp only [go_sem, ↓reduceIte, Nat.reduceEqDiff, Nat.reduceBEq, Nat.reduceAdd, Nat.reduceMul, Nat.reduceSub, Nat.reduceLT, Nat.reduceLeDiff, reduceCtorEq, Int.reduceToNat, Int.reduceLE, Int.reduceLT, Int.reduceEq, sem_num_Valid, v1, v2, d0, d0', n0, n0', Bool.not_true, Bool.false_and])); try (conv => lhs; whnf); try rfl)
          | false =>
            by_cases d1 : D.length = 1
            · have d1' : (D.length : Int) = 1 := by omega
              by_cases g : D.getD 0 0 = 1
              · have e : D = [1] := (one_iff d1).2 g
                have e' : decide (D = [1]) = true := decide_eq_true e
                rw [e']
                ((repeat ((conv => lhs; whnf); simp only [go_sem, ↓reduceIte, Nat.reduceEqDiff, Nat.reduceBEq, Nat.reduceAdd, Nat.reduceMul, Nat.reduceSub, Nat.reduceLT, Nat.reduceLeDiff, reduceCtorEq, Int.reduceToNat, Int.reduceLE, Int.reduceLT, Int.reduceEq, sem_num_Valid, v1, v2, d0, d0', n0, n0', d1, d1', g, Bool.not_false, Bool.and_true])); try (conv => lhs; whnf); try rfl)
              · have e : ¬ D = [1] := fun h => g ((one_iff d1).1 h)
                have e' : decide (D = [1]) = false := decide_eq_false e
                rw [e']
                ((repeat ((conv => lhs; whnf); simp only [go_sem, ↓reduceIte, Nat.reduceEqDiff, Nat.reduceBEq, Nat.reduceAdd, Nat.reduceMul, Nat.reduceSub, Nat.reduceLT, Nat.reduceLeDiff, reduceCtorEq, Int.reduceToNat, Int.reduceLE, Int.reduceLT, Int.reduceEq, sem_num_Valid, v1, v2, d0, d0', n0, n0', d1, d1', g, Bool.not_false, Bool.and_false])); try (conv => lhs; whnf); try rfl)
            · have d1' : ¬ (D.length : Int) = 1 := by omega
              have e' : decide (D = [1]) = false := decide_eq_false (fun h => d1 (by rw [h]; rfl))
              rw [e']
              ((repeat ((conv => lhs; whnf); simp only [go_sem, ↓reduceIte, Nat.reduceEqDiff, Nat.reduceBEq, Nat.reduceAdd, Nat.reduceMul, Nat.reduceSub, Nat.reduceLT, Nat.reduceLeDiff, reduceCtorEq, Int.reduceToNat, Int.reduceLE, Int.reduceLT, Int.reduceEq, sem_num_Valid, v1, v2, d0, d0', n0, n0', d1, d1', Bool.not_false, Bool.and_false])); try (conv => lhs; whnf); try rfl)
        · have n0' : ¬ (N.length : Int) = 0 := by omega
          rw [if_neg n0]
          have iN := isMag_sl f1 b1.2 hN
          have iD := isMag_sl f2 b2.2 hD
          have hwN := b1.2.words hN
          have hwD := b2.2.words hD
          have hg := call_GCD iN iD (by rw [← hwN]; omega) (by rw [← hwD]; omega)
          have kg := fun S => callO_plain (S := S) hg (by simp [p1, p2])
          have hDp : 0 < nv D := by
            have : nv D ≠ 0 := fun h => by
              rw [hwD, h] at d0
              exact d0 (words_len0.2 rfl)
            omega
          by_cases d1 : D.length = 1
          · have d1' : (D.length : Int) = 1 := by omega
            by_cases g : D.getD 0 0 = 1
            · have e : D = [1] := (one_iff d1).2 g
              have e1 : Nat.gcd (nv N) (nv D) = 1 := by
                have : nv D = 1 := by rw [e]; decide
                rw [this, Nat.gcd_one_right]
              rw [decide_eq_true e1]
              ((repeat ((conv => lhs; whnf); simp only [go_sem, ↓reduceIte, Nat.reduceEqDiff, Nat.reduceBEq, Nat.reduceAdd, Nat.reduceMul, Nat.reduceSub, Nat.reduceLT, Nat.reduceLeDiff, reduceCtorEq, Int.reduceToNat, Int.reduceLE, Int.reduceLT, Int.reduceEq, sem_num_Valid, v1, v2, d0, d0', n0, n0', d1, d1', g])); try (conv => lhs; whnf); try rfl)
            · -- the greatest common divisor
              by_cases g1 : Nat.gcd (nv N) (nv D) = 1
              · rw [decide_eq_true g1]
                have mv : magV (Nat.gcd (nv N) (nv D)) = .sl (kRows .u32 [1]) false := by rw [g1]; unfold magV; rw [words1]
                rw [mv] at kg
                ((repeat ((conv => lhs; whnf); simp only [go_sem, ↓reduceIte, Nat.reduceEqDiff, Nat.reduceBEq, Nat.reduceAdd, Nat.reduceMul, Nat.reduceSub, Nat.reduceLT, Nat.reduceLeDiff, reduceCtorEq, Int.reduceToNat, Int.reduceLE, Int.reduceLT, Int.reduceEq, sem_num_Valid, v1, v2, d0, d0', n0, n0', d1, d1', g, kg, one_len, one_len', one_get])); try (conv => lhs; whnf); try rfl)
              · rw [decide_eq_false g1]
                generalize Nat.gcd (nv N) (nv D) = gg at *
                have mv : magV gg = .sl (kRows .u32 (words gg)) false := rfl
                rw [mv] at kg
                by_cases l1 : (words gg).length = 1
                · have l1' : ((words gg).length : Int) = 1 := by omega
                  have gg0 : (words gg).getD 0 0 = (gg : Int) := by rw [(words_one l1).1]; rfl
                  have gg1 : ¬ (gg : Int) = 1 := by omega
                  ((repeat ((conv => lhs; whnf); simp only [go_sem, ↓reduceIte, Nat.reduceEqDiff, Nat.reduceBEq, Nat.reduceAdd, Nat.reduceMul, Nat.reduceSub, Nat.reduceLT, Nat.reduceLeDiff, reduceCtorEq, Int.reduceToNat, Int.reduceLE, Int.reduceLT, Int.reduceEq, sem_num_Valid, v1, v2, d0, d0', n0, n0', d1, d1', g, kg, l1, l1', gg0, gg1, g1])); try (conv => lhs; whnf); try rfl)
                · have l1' : ¬ ((words gg).length : Int) = 1 := by omega
                  ((repeat ((conv => lhs; whnf); simp only [go_sem, ↓reduceIte, Nat.reduceEqDiff, Nat.reduceBEq, Nat.reduceAdd, Nat.reduceMul, Nat.reduceSub, Nat.reduceLT, Nat.reduceLeDiff, reduceCtorEq, Int.reduceToNat, Int.reduceLE, Int.reduceLT, Int.reduceEq, sem_num_Valid, v1, v2, d0, d0', n0, n0', d1, d1', g, kg, l1, l1'])); try (conv => lhs; whnf); try rfl)
          · have d1' : ¬ (D.length : Int) = 1 := by omega
            by_cases g1 : Nat.gcd (nv N) (nv D) = 1
            · rw [decide_eq_true g1]
              have mv : magV (Nat.gcd (nv N) (nv D)) = .sl (kRows .u32 [1]) false := by rw [g1]; unfold magV; rw [words1]
              rw [mv] at kg
              ((repeat ((conv => lhs; whnf); simp only [go_sem, ↓reduceIte, Nat.reduceEqDiff, Nat.reduceBEq, Nat.reduceAdd, Nat.reduceMul, Nat.reduceSub, Nat.reduceLT, Nat.reduceLeDiff, reduceCtorEq, Int.reduceToNat, Int.reduceLE, Int.reduceLT, Int.reduceEq, sem_num_Valid, v1, v2, d0, d0', n0, n0', d1, d1', kg, one_len, one_len', one_get])); try (conv => lhs; whnf); try rfl)
            · rw [decide_eq_false g1]
              generalize Nat.gcd (nv N) (nv D) = gg at *
              have mv : magV gg = .sl (kRows .u32 (words gg)) false := rfl
              rw [mv] at kg
              by_cases l1 : (words gg).length = 1
              · have l1' : ((words gg).length : Int) = 1 := by omega
                have gg0 : (words gg).getD 0 0 = (gg : Int) := by rw [(words_one l1).1]; rfl
                have gg1 : ¬ (gg : Int) = 1 := by omega
                ((repeat ((conv => lhs; whnf); simp only [go_sem, ↓reduceIte, Nat.reduceEqDiff, Nat.reduceBEq, Nat.reduceAdd, Nat.reduceMul, Nat.reduceSub, Nat.reduceLT, Nat.reduceLeDiff, reduceCtorEq, Int.reduceToNat, Int.reduceLE, Int.reduceLT, Int.reduceEq, sem_num_Valid, v1, v2, d0, d0', n0, n0', d1, d1', kg, l1, l1', gg0, gg1, g1])); try (conv => lhs; whnf); try rfl)
              · have l1' : ¬ ((words gg).length : Int) = 1 := by omega
                ((repeat ((conv => lhs; whnf); simp only [go_sem, ↓reduceIte, Nat.reduceEqDiff, Nat.reduceBEq, Nat.reduceAdd, Nat.reduceMul, Nat.reduceSub, Nat.reduceLT, Nat.reduceLeDiff, reduceCtorEq, Int.reduceToNat, Int.reduceLE, Int.reduceLT, Int.reduceEq, sem_num_Valid, v1, v2, d0, d0', n0, n0', d1, d1', kg, l1, l1'])); try (conv => lhs; whnf); try rfl)
    · have b2' : (decide ((D.length : Int) ≤ w) && decide (Trimmed D)) = false := by simpa using b2
      rw [b2'] at v2 ⊢
      simp only [Bool.and_false, Bool.false_and]
      ((repeat ((conv => lhs; whnf); simp only [go_sem, ↓reduceIte, Nat.reduceEqDiff, Nat.reduceBEq, Nat.reduceAdd, Nat.reduceMul, Nat.reduceSub, Nat.reduceLT, Nat.reduceLeDiff, reduceCtorEq, Int.reduceToNat, Int.reduceLE, Int.reduceLT, Int.reduceEq, sem_num_Valid, v1, v2])); try (conv => lhs; whnf); try rfl)
  · have b1' : (decide ((N.length : Int) ≤ w) && decide (Trimmed N)) = false := by simpa using b1
    rw [b1'] at v1 ⊢
    simp only [Bool.and_false, Bool.false_and]
    ((repeat ((conv => lhs; whnf); simp only [go_sem, ↓reduceIte, Nat.reduceEqDiff, Nat.reduceBEq, Nat.reduceAdd, Nat.reduceMul, Nat.reduceSub, Nat.reduceLT, Nat.reduceLeDiff, reduceCtorEq, Int.reduceToNat, Int.reduceLE, Int.reduceLT, Int.reduceEq, sem_num_Valid, v1, v2])); try (conv => lhs; whnf); try rfl)
noncomputable def fx_rat_Valid : FX := ⟨Tryz.f109, hints.of 109, []⟩
theorem ok_rat_Valid : fx_rat_Valid.ok 109 := ⟨by kernel_rfl, of_decide_eq_true (by kernel_rfl), by kernel_rfl, by kernel_rfl, by kernel_rfl, by kernel_rfl⟩
theorem sem_rat_Valid (b0 : Nat) (m : Md) (fs : List Fr) (e : Env) (S : Store) : sem b0 fx_rat_Valid m fs e S = run b0 fx_rat_Valid 1000 m fs e S := (sem_eq _ _ _ _ _ _).trans (run_sem b0 fx_rat_Valid ok_rat_Valid.good 1000 m fs e S).symm
theorem call_rat_Valid (neg : Bool) (N D : List Int) (hN : OkD WB N) (hD : OkD WB D) (lN : N.length ≤ 9223372036854775807) (lD : D.length ≤ 9223372036854775807) : callL Tryz.prog hints 109 [ratL neg N D] = some (.bool (validR neg N D 4096)) := by
  have v := fun S => callO_plain (S := S) (call_num_Valid neg N D false false hN hD 4096 (by decide) lN lD (by simp) (by simp)) (by simp [Plain.int]; exact ratL_plain neg N D)
  refine FX.callL (r := (.bool (validR neg N D 4096), [.arr [[.bool neg, .sl (kRows .u32 N) false, .sl (kRows .u32 D) false]] none false])) ok_rat_Valid 1000 rfl rfl ?_ rfl
  unfold ratL
  ((repeat ((conv => lhs; whnf); simp only [go_sem, ↓reduceIte, Nat.reduceEqDiff, Nat.reduceBEq, Nat.reduceAdd, Nat.reduceMul, Nat.reduceSub, Nat.reduceLT, Nat.reduceLeDiff, reduceCtorEq, Int.reduceToNat, Int.reduceLE, Int.reduceLT, Int.reduceEq, sem_rat_Valid, v])); try (conv => lhs; whnf); try rfl)
end
end Go.Vs
end
/- Rational numbers: valid words are those of a Rat. -/
section
set_option linter.unusedVariables false
set_option linter.unusedSimpArgs false
namespace Go.Vs
open Go Go.Proofs
/-- A Rat's value. -/
def ratV (q : Rat) : PV := ratL (decide (q.num < 0)) (words q.num.natAbs) (words q.den)
theorem ratV_plain (q : Rat) : Plain (ratV q) := ratL_plain _ _ _
theorem validR_of (q : Rat) (w : Int) (h1 : (words q.num.natAbs).length ≤ w) (h2 : (words q.den).length ≤ w) : validR (decide (q.num < 0)) (words q.num.natAbs) (words q.den) w = true := by
  have hd : (words q.den).length ≠ 0 := fun h => q.den_nz (words_len0.1 h)
  unfold validR
  simp only [decide_eq_true h1, decide_eq_true h2, decide_eq_true (trimmed_words _), hd, decide_false, Bool.not_false, Bool.and_self, Bool.true_and]
  by_cases h0 : (words q.num.natAbs).length = 0
  · rw [if_pos h0]
    have hz := words_len0.1 h0
    have hn : q.num = 0 := by omega
    have hden : q.den = 1 := by
      have := q.reduced
      rw [hz] at this
      simpa using this
    simp [hn, hden, words1]
  · rw [if_neg h0, nv_words, nv_words]
    exact decide_eq_true q.reduced
theorem validR_iff {neg : Bool} {N D : List Int} {w : Int} (hN : OkD WB N) (hD : OkD WB D) : validR neg N D w = true ↔ ∃ q : Rat, neg = decide (q.num < 0) ∧ N = words q.num.natAbs ∧ D = words q.den ∧ N.length ≤ w ∧ D.length ≤ w := by
  constructor
  · intro h
    unfold validR at h
    simp only [Bool.and_eq_true, decide_eq_true_eq, Bool.not_eq_true', decide_eq_false_iff_not] at h
    obtain ⟨⟨⟨⟨a1, a2⟩, b1, b2⟩, c⟩, d⟩ := h
    have wN := a2.words hN
    have wD := b2.words hD
    have hd : nv D ≠ 0 := fun e => by rw [wD, e] at c; exact c (words_len0.2 rfl)
    by_cases h0 : N.length = 0
    · rw [if_pos h0] at d
      simp only [Bool.and_eq_true, Bool.not_eq_true', decide_eq_true_eq] at d
      have hNn := List.eq_nil_of_length_eq_zero h0
      refine ⟨0, by rw [d.1]; rfl, ?_, ?_, a1, b1⟩
      · rw [hNn]; exact ((digs_nil WB2).2 rfl).symm
      · rw [d.2]; exact words1.symm
    · rw [if_neg h0] at d
      have d' := of_decide_eq_true d
      have hn0 : nv N ≠ 0 := fun e => by rw [wN, e] at h0; exact h0 (words_len0.2 rfl)
      refine ⟨⟨if neg then -(nv N : Int) else nv N, nv D, hd, by cases neg <;> simp <;> exact d'⟩, ?_, ?_, wD, a1, b1⟩
      · cases neg <;> simp <;> omega
      · cases neg <;> simpa using wN
  · rintro ⟨q, rfl, rfl, rfl, h1, h2⟩
    exact validR_of q w h1 h2
end Go.Vs
end
