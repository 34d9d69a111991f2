/- Magnitudes in the program: DivMod, the long division. -/

import Derived.Test.YtkaeejkajfinhaaGreatMS16
section
set_option linter.unusedVariables false
set_option linter.unusedSimpArgs false
set_option maxRecDepth 100000
namespace Go.Vs
open Go Go.Proofs
theorem callM_eq {S : Store} {f : FuncId} {l : List PV} {v : PV} {S' : Store} (hr : hints.refs f = true) (hc : callRL Tryz.prog hints f l S = some (v, S')) (hl : S.length ≤ S'.length) (hcl : closedS S = true := by first | rfl | simp [closedS, kRows_refs, rowsRefs_cons, rowsRefs_nil, refsL_cons, refsL_nil, refs_int]) (hb : belowL S.length l = true := by first | rfl | simp [belowL, refsL_cons, refsL_nil, refs_int, refs_sl, refs_msl, refs_mp, refs_bool, refs_str]) (hrd : hints.reads f = false := by rfl) : callM Tryz.prog hints S f l = some { v, S := S' } := by
  simp only [callM, hr, if_true, hc, Option.bind_some]
  rw [if_pos ⟨hl, hcl, hb, fun h => by rw [hrd] at h; cases h⟩]
theorem snoc2 {L : List Int} {k : Nat} (h : L.length = k + 2) : ∃ lo : List Int, lo.length = k ∧ L = lo ++ [L.getD k 0, L.getD (k + 1) 0] := by
  refine ⟨L.take k, by simp; omega, ?_⟩
  conv => lhs; rw [← List.take_append_drop k L]
  congr 1
  rw [list_at L (by omega), list_at L (by omega), List.drop_eq_nil_of_le (by omega)]
theorem snoc3 {L : List Int} {k : Nat} (h : L.length = k + 3) : ∃ lo : List Int, lo.length = k ∧ L = lo ++ [L.getD k 0, L.getD (k + 1) 0, L.getD (k + 2) 0] := by
  refine ⟨L.take k, by simp; omega, ?_⟩
  conv => lhs; rw [← List.take_append_drop k L]
  congr 1
  rw [list_at L (by omega), list_at L (by omega), list_at L (by omega), List.drop_eq_nil_of_le (by omega)]
theorem getD_mid {P W Z : List Int} {j : Nat} (hP : P.length = j) (i : Nat) (hi : i < W.length) : (P ++ W ++ Z).getD (j + i) 0 = W.getD i 0 := by
  subst hP
  rw [List.append_assoc]
  simp only [List.getD_eq_getElem?_getD]
  rw [List.getElem?_append_right (by omega), Nat.add_sub_cancel_left, List.getElem?_append_left hi]
/-- What is known of a window and of the divisor. -/
theorem window {W B : List Int} {k : Nat} {T t Wk w0 w1 w2 c0 c1 : Int} (hB : B.length = k + 2) (hBo : OkD WB B) (hW : W.length = k + 3) (hWo : OkD WB W) (hlt : valD WB W < 4294967296 * valD WB B)
    (e1 : W.getD k 0 = w0) (e2 : W.getD (k + 1) 0 = w1) (e3 : W.getD (k + 2) 0 = w2) (e4 : B.getD k 0 = c0) (e5 : B.getD (k + 1) 0 = c1) (hv : 0 < c1)
    (hT : T = (w2 * 4294967296 + w1) * 4294967296 + w0) (ht : t = c1 * 4294967296 + c0) (hk : Wk = (4294967296 : Int) ^ k) :
    T * Wk ≤ valD WB W ∧ valD WB W < (T + 1) * Wk ∧ t * Wk ≤ valD WB B ∧ valD WB B ≤ t * Wk + Wk ∧ 4294967296 * Wk ≤ valD WB B ∧ w2 ≤ c1 ∧ 0 < Wk ∧ (0 ≤ w0 ∧ w0 < 4294967296) ∧ (0 ≤ w1 ∧ w1 < 4294967296) ∧ (0 ≤ w2 ∧ w2 < 4294967296) ∧ (0 ≤ c0 ∧ c0 < 4294967296) ∧ (0 ≤ c1 ∧ c1 < 4294967296) := by
  have e0 : (((WB : Nat) : Int)) = (4294967296 : Int) := rfl
  have p0 : 0 < Wk := by rw [hk]; exact Int.pow_pos (by decide)
  obtain ⟨lo, l1, l2⟩ := snoc3 hW
  obtain ⟨ld, d1, d2⟩ := snoc2 hB
  have a0 : 0 ≤ W.getD k 0 ∧ W.getD k 0 < 4294967296 := hWo.getD (by decide) _
  have a1 : 0 ≤ W.getD (k + 1) 0 ∧ W.getD (k + 1) 0 < 4294967296 := hWo.getD (by decide) _
  have a2 : 0 ≤ W.getD (k + 2) 0 ∧ W.getD (k + 2) 0 < 4294967296 := hWo.getD (by decide) _
  have b0 : 0 ≤ B.getD k 0 ∧ B.getD k 0 < 4294967296 := hBo.getD (by decide) _
  have b1 : 0 ≤ B.getD (k + 1) 0 ∧ B.getD (k + 1) 0 < 4294967296 := hBo.getD (by decide) _
  have lok : OkD WB lo := fun y hy => hWo y (by rw [l2]; simp [hy])
  have dok : OkD WB ld := fun y hy => hBo y (by rw [d2]; simp [hy])
  have h1 := valD_lt lok
  have h2 := valD_nonneg lok
  have h3 := valD_lt dok
  have h4 := valD_nonneg dok
  rw [l1, e0, ← hk] at h1
  rw [d1, e0, ← hk] at h3
  rw [e1] at a0 l2
  rw [e2] at a1 l2
  rw [e3] at a2 l2
  rw [e4] at b0 d2
  rw [e5] at b1 d2
  have vW : valD WB W = valD WB lo + Wk * T := by
    rw [l2, valD_append, l1, e0, hk]
    congr 2
    show w0 + 4294967296 * (w1 + 4294967296 * (w2 + 4294967296 * 0)) = T
    omega
  have vB : valD WB B = valD WB ld + Wk * t := by
    rw [d2, valD_append, d1, e0, hk]
    congr 2
    show c0 + 4294967296 * (c1 + 4294967296 * 0) = t
    omega
  have c1' : T * Wk = Wk * T := Int.mul_comm _ _
  have c2' : t * Wk = Wk * t := Int.mul_comm _ _
  have c3' : (T + 1) * Wk = Wk * T + Wk := by rw [Int.add_mul, c1', Int.one_mul]
  have p1 : 4294967296 * Wk ≤ t * Wk := Int.mul_le_mul_of_nonneg_right (by omega) (Int.le_of_lt p0)
  refine ⟨by omega, by rw [vW, c3']; omega, by omega, by omega, by omega, ?_, p0, a0, a1, a2, b0, b1⟩
  by_cases h : w2 ≤ c1
  · exact h
  · exfalso
    have g1 : (t + 1) * 4294967296 * Wk ≤ T * Wk := Int.mul_le_mul_of_nonneg_right (by omega) (Int.le_of_lt p0)
    have g2 : (t + 1) * 4294967296 * Wk = 4294967296 * (Wk * t + Wk) := by
      rw [Int.mul_comm _ 4294967296, Int.mul_assoc, Int.add_mul, Int.one_mul, Int.mul_comm t Wk]
    omega
section
attribute [local irreducible] Vs.callL Vs.callRL tyi callO callM callMV appendE storeE evLoad indexAddrO sliceO evFieldAddr evField buildO buildSliceO makeSliceO allocO boxed lenO copyE convertO indexO Vs.gc freezeAll
theorem slice_us {S : Store} {id off n : Nat} {ex : Bool} {L : List Int} {lo hi m : Nat} (hS : rowsAt S id = some (kRows .u32 L)) (h1 : lo ≤ hi) (h2 : hi ≤ n) (h3 : off + n ≤ L.length) (hm : hi - lo = m) : sliceO Tryz.prog 25 S (.msl id off n ex) (some (.int .i64 (lo : Nat))) (some (.int .i64 (hi : Nat))) none = some (.msl id (off + lo) m false) := by
  have b : ∀ (d n : Nat), bound d (some (.int .i64 (n : Int))) = some n := fun d n => by simp [bound]
  have b0 : ∀ d : Nat, bound d none = some d := fun d => rfl
  simp only [sliceO, sl_us.el, sl_us.is, sl_us.k, sl_us.s, evSlice, sl_us.d, b, b0, hS, kRows_ok, kRows_length]
  subst hm
  have k1 : rowsOK 1 (kRows .u32 L) = true := kRows_ok _ _
  have k2 : off + n ≤ (kRows .u32 L).length := by rw [kRows_length]; exact h3
  simp [h1, h2, k1, k2]
set_option maxHeartbeats 2000000 in
theorem loop_DivMod (A B : List Int) (J k : Nat) (sh : Int) (hB : B.length = k + 2) (hBo : OkD WB B) (hA : A.length = J + k + 2) (hAo : OkD WB A) (hAl : A.length ≤ 1000000) (hv : 0 < B.getD (k + 1) 0) (fs : List Fr) : ∀ (t : Nat), t ≤ J → ∀ (O Q : List Int), O.length = k + 2 → OkD WB O → Q.length + t = J → OkD WB Q → valD WB O < valD WB B → valD WB A = valD WB (A.take t) + (4294967296 : Int) ^ t * (valD WB B * valD WB Q + valD WB O) →
    ∃ (O' Q' : List Int), OkD WB O' ∧ OkD WB Q' ∧ O'.length = k + 2 ∧ Q'.length = J ∧ valD WB O' < valD WB B ∧ valD WB A = valD WB B * valD WB Q' + valD WB O' ∧ ∀ z : PV × Store, exitTo 0 fx_mag_DivMod 0 fs [(4, .msl 1 0 J true), (8, .int .i64 sh), (9, .undef), (10, .msl 0 0 A.length true), (11, .undef), (12, .undef), (13, .undef), (14, .undef), (83, .undef)] [.arr (kRows .u32 (O' ++ List.replicate J 0)) (some (some 1)) false, .arr (kRows .u32 Q') (some (some 1)) false] = some z →
    loopAt 0 fx_mag_DivMod 0 32756 2 fs ([(4, .msl 1 0 J true), (8, .int .i64 sh), (9, .sl (kRows .u32 B) false), (10, .msl 0 0 A.length true), (11, .int .i64 (k + 2 : Nat)), (12, .int .u64 (B.getD (k + 1) 0)), (13, .int .u64 (B.getD k 0)), (14, .int .i64 ((t : Int) - 1))]) [.arr (kRows .u32 (A.take t ++ O ++ List.replicate (J - t) 0)) (some (some 1)) false, .arr (kRows .u32 (List.replicate t 0 ++ Q)) (some (some 1)) false] = some z := by
  have hM : 3000000 ≤ maxLen := by decide
  intro t
  induction t with
  | zero =>
    intro ht O Q hO hOo hQ hQo hlt hval
    refine ⟨O, Q, hOo, hQo, hO, by omega, hlt, by simpa [valD] using hval, fun z hz => ?_⟩
    refine loopAt_step ok_mag_DivMod.good 1000 ?_
    simp only [List.take_zero, List.nil_append, List.replicate_zero, Nat.sub_zero]
    have c : ¬ (0 : Int) ≤ ((0 : Nat) : Int) - 1 := by omega
    ((repeat ((conv => lhs; whnf); simp only [go_sem, ↓reduceIte, Nat.reduceEqDiff, Nat.reduceBEq, Nat.reduceAdd, Nat.reduceMul, Nat.reduceSub, Nat.reduceLT, Nat.reduceLeDiff, reduceCtorEq, Int.reduceToNat, Int.reduceLE, Int.reduceLT, Int.reduceEq, sem_mag_DivMod, c])); try (conv => lhs; whnf); try rfl)
    exact hz
  | succ t ih =>
    intro ht O Q hO hOo hQ hQo hlt hval
    have ej : ((t + 1 : Nat) : Int) - 1 = (t : Int) := by omega
    have c : (0 : Int) ≤ (t : Int) := by omega
    obtain ⟨x, hx⟩ : ∃ x, x = A.getD t 0 := ⟨_, rfl⟩
    have hxb : 0 ≤ x ∧ x < 4294967296 := by rw [hx]; exact hAo.getD (by decide) t
    have et : A.take (t + 1) = A.take t ++ [x] := by
      rw [List.take_add_one]
      have : A[t]? = some (A.getD t 0) := by rw [List.getElem?_eq_getElem (by omega)]; simp [List.getD_eq_getElem?_getD, show t < A.length by omega]
      rw [this, hx]; rfl
    have eU : A.take (t + 1) ++ O ++ List.replicate (J - (t + 1)) 0 = A.take t ++ (x :: O) ++ List.replicate (J - (t + 1)) 0 := by rw [et]; simp
    have hP : (A.take t).length = t := by simp; omega
    have hWl : (x :: O).length = k + 3 := by simp [hO]
    have hWo : OkD WB (x :: O) := .cons hxb hOo
    have hUl : (A.take t ++ (x :: O) ++ List.replicate (J - (t + 1)) (0 : Int)).length = A.length := by simp; omega
    have hWv : valD WB (x :: O) = x + 4294967296 * valD WB O := rfl
    have hlt' : valD WB (x :: O) < 4294967296 * valD WB B := by rw [hWv]; omega
    obtain ⟨w0, e1⟩ : ∃ w, (x :: O).getD k 0 = w := ⟨_, rfl⟩
    obtain ⟨w1, e2⟩ : ∃ w, (x :: O).getD (k + 1) 0 = w := ⟨_, rfl⟩
    obtain ⟨w2, e3⟩ : ∃ w, (x :: O).getD (k + 2) 0 = w := ⟨_, rfl⟩
    obtain ⟨c0, e4⟩ : ∃ w, B.getD k 0 = w := ⟨_, rfl⟩
    obtain ⟨c1, e5⟩ : ∃ w, B.getD (k + 1) 0 = w := ⟨_, rfl⟩
    rw [e4, e5]
    rw [e5] at hv
    obtain ⟨y1, y2, y3, y4, y5, y6, y7, z0, z1, z2, z3, z4⟩ := window hB hBo hWl hWo hlt' e1 e2 e3 e4 e5 hv rfl rfl rfl
    have g0 := getD_mid (P := A.take t) (Z := List.replicate (J - (t + 1)) 0) hP k (show k < (x :: O).length by omega)
    have g1 := getD_mid (P := A.take t) (Z := List.replicate (J - (t + 1)) 0) hP (k + 1) (show k + 1 < (x :: O).length by omega)
    have g2 := getD_mid (P := A.take t) (Z := List.replicate (J - (t + 1)) 0) hP (k + 2) (show k + 2 < (x :: O).length by omega)
    rw [e1] at g0
    rw [e2] at g1
    rw [e3] at g2
    rw [eU]
    generalize hUe : A.take t ++ (x :: O) ++ List.replicate (J - (t + 1)) 0 = U at *
    have wi : IntKind.i64.wrap ((t : Int) + ((k + 2 : Nat) : Int)) = ((t + (k + 2) : Nat) : Int) := by rw [IntKind.wrap_i64]; omega
    have wi2 : IntKind.i64.wrap (((t + (k + 2) : Nat) : Int) - 1) = ((t + (k + 1) : Nat) : Int) := by rw [IntKind.wrap_i64]; omega
    have wi3 : IntKind.i64.wrap (((t + (k + 2) : Nat) : Int) + 1) = ((t + (k + 3) : Nat) : Int) := by rw [IntKind.wrap_i64]; omega
    have xm2 := sl_us.idxmk .u32 (S := [.arr (kRows .u32 U) (some (some 1)) false, .arr (kRows .u32 (List.replicate (t + 1) 0 ++ Q)) (some (some 1)) false]) (id := 0) (off := 0) (n := A.length) (ex := true) (L := U) (t + (k + 2)) rfl (by omega) (by omega)
    have xm1 := sl_us.idxmk .u32 (S := [.arr (kRows .u32 U) (some (some 1)) false, .arr (kRows .u32 (List.replicate (t + 1) 0 ++ Q)) (some (some 1)) false]) (id := 0) (off := 0) (n := A.length) (ex := true) (L := U) (t + (k + 1)) rfl (by omega) (by omega)
    rw [Nat.zero_add] at xm1 xm2
    have l2 : t + (k + 2) < U.length := by omega
    have l1 : t + (k + 1) < U.length := by omega
    have gk2 := kRows_get .u32 U l2
    have gk1 := kRows_get .u32 U l1
    rw [g2] at gk2
    rw [g1] at gk1
    have cw2 : IntKind.u64.wrap w2 = w2 := by rw [wU64]; omega
    have cw1 : IntKind.u64.wrap w1 = w1 := by rw [wU64]; omega
    have sw : IntKind.u64.wrap (w2 * 4294967296) = w2 * 4294967296 := by rw [wU64]; omega
    have bo := bor_high z2 z1
    obtain ⟨num, hnum⟩ : ∃ n, n = w2 * 4294967296 + w1 := ⟨_, rfl⟩
    rw [← hnum] at bo y1 y2
    have n0 : ¬ c1 = 0 := by omega
    have hn0 : 0 ≤ num := by omega
    have td : num.tdiv c1 = num / c1 := Int.tdiv_eq_ediv_of_nonneg hn0
    have tm : num.tmod c1 = num % c1 := Int.tmod_eq_emod_of_nonneg hn0
    have q0 : 0 ≤ num / c1 := Int.ediv_nonneg hn0 (by omega)
    have hde := Int.mul_ediv_add_emod num c1
    have r0 := Int.emod_nonneg num n0
    have r1 := Int.emod_lt_of_pos num (show 0 < c1 by omega)
    have q1 : num / c1 < 8589934592 := by
      rw [Int.ediv_lt_iff_lt_mul (by omega)]; omega
    obtain ⟨ga, hga⟩ : ∃ n, n = num / c1 := ⟨_, rfl⟩
    obtain ⟨ra, hra⟩ : ∃ n, n = num % c1 := ⟨_, rfl⟩
    rw [← hga, ← hra] at hde
    rw [← hga] at td q0 q1
    rw [← hra] at tm r0 r1
    have ca : IntKind.u64.wrap ga = ga := by rw [wU64]; omega
    have cr : IntKind.u64.wrap ra = ra := by rw [wU64]; omega
    have hW0 := valD_nonneg hWo
    have hV0 := valD_nonneg hBo
    have hO0 := valD_nonneg hOo
    obtain ⟨Wk, hWk⟩ : ∃ n, n = (4294967296 : Int) ^ k := ⟨_, rfl⟩
    rw [← hWk] at y1 y2 y3 y4 y5 y7
    have low0 : valD WB (x :: O) < (ga + 1) * valD WB B := by
      have k1 : (num * 4294967296 + w0 + 1) ≤ (ga + 1) * (c1 * 4294967296 + c0) := by
        have a1 : num + 1 ≤ (ga + 1) * c1 := by rw [Int.add_mul, Int.mul_comm ga c1]; omega
        have a2 : (num + 1) * 4294967296 ≤ (ga + 1) * c1 * 4294967296 := Int.mul_le_mul_of_nonneg_right a1 (by decide)
        have a3 : 0 ≤ (ga + 1) * c0 := Int.mul_nonneg (by omega) z3.1
        rw [Int.mul_add, ← Int.mul_assoc]
        omega
      have k2 := Int.mul_le_mul_of_nonneg_right k1 (Int.le_of_lt y7)
      have k3 := Int.mul_le_mul_of_nonneg_left y3 (show 0 ≤ ga + 1 by omega)
      rw [← Int.mul_assoc] at k3
      omega
    obtain ⟨g, j1, j2, j3, j4⟩ := loop_guess U (List.replicate (t + 1) 0 ++ Q) B false J (k + 2) t sh c1 c0 w0 num (valD WB (x :: O)) (valD WB B) Wk (num * 4294967296 + w0) (by omega) (by omega) (by omega) ⟨hv, z4.2⟩ z3 (by rw [show t + (k + 2) - 2 = t + k by omega]; exact g0) z0 rfl (by omega) (Int.le_of_lt y7) hV0 hW0 y2 y3 hlt' (.blk 2 :: .seq 1 2096423 :: .blk 1 :: .seq 0 131027 :: .lop 0 32756 2 :: fs) ga.toNat [(127, .undef), (134, .undef)] ga ra (.inr rfl) (by omega) ⟨by omega, by omega⟩ ⟨by omega, by omega⟩ (by rw [Int.mul_comm]; omega) low0
    have fin := guess_fin (Int.le_of_lt y7) j1.1 j1.2 j2 y1 y4 y5
    have tail : ∃ (gd : Int) (Oy : List Int), (0 ≤ gd ∧ gd < 4294967296) ∧ OkD WB Oy ∧ Oy.length = k + 2 ∧ valD WB (x :: O) = valD WB B * gd + valD WB Oy ∧ valD WB Oy < valD WB B ∧ ∀ z : PV × Store, loopAt 0 fx_mag_DivMod 0 32756 2 fs ([(4, .msl 1 0 J true), (8, .int .i64 sh), (9, .sl (kRows .u32 B) false), (10, .msl 0 0 A.length true), (11, .int .i64 (k + 2 : Nat)), (12, .int .u64 c1), (13, .int .u64 c0), (14, .int .i64 ((t : Int) - 1))]) [.arr (kRows .u32 (A.take t ++ Oy ++ List.replicate (J - t) 0)) (some (some 1)) false, .arr (kRows .u32 (List.replicate t 0 ++ gd :: Q)) (some (some 1)) false] = some z →
        exitTo 0 fx_mag_DivMod 2 (.blk 2 :: .seq 1 2096423 :: .blk 1 :: .seq 0 131027 :: .lop 0 32756 2 :: fs) [(4, .msl 1 0 J true), (8, .int .i64 sh), (9, .sl (kRows .u32 B) false), (10, .msl 0 0 U.length true), (11, .int .i64 (k + 2 : Nat)), (12, .int .u64 c1), (13, .int .u64 c0), (14, .int .i64 t), (16, .int .u64 g), (17, .undef), (127, .undef), (134, .undef)] [.arr (kRows .u32 U) (some (some 1)) false, .arr (kRows .u32 (List.replicate (t + 1) 0 ++ Q)) (some (some 1)) false] = some z := by
      rw [hUl]
      have rr : hints.refs 184 = true := by kernel_rfl
      have rs : hints.refs 185 = true := by kernel_rfl
      obtain ⟨O1, b, s1, s2, s3, s4⟩ := call_subtract B false hBo (by omega) g j1 t (by omega) false (A.take t) (x :: O) (List.replicate (J - (t + 1)) 0) hP (by omega) hWo (.arr (kRows .u32 (List.replicate (t + 1) 0 ++ Q)) (some (some 1)) false)
      rw [hUe] at s4
      have cs := callM_eq rr s4 (by simp)
      have sl : sliceO Tryz.prog 25 [.arr (kRows .u32 U) (some (some 1)) false, .arr (kRows .u32 (List.replicate (t + 1) 0 ++ Q)) (some (some 1)) false] (.msl 0 0 A.length true) (some (.int .i64 t)) (some (.int .i64 ((t + (k + 3) : Nat) : Int))) none = some (.msl 0 t (B.length + 1) false) := by
        have := slice_us (S := [.arr (kRows .u32 U) (some (some 1)) false, .arr (kRows .u32 (List.replicate (t + 1) 0 ++ Q)) (some (some 1)) false]) (id := 0) (off := 0) (n := A.length) (ex := true) (L := U) (lo := t) (hi := t + (k + 3)) (m := B.length + 1) rfl (by omega) (by omega) (by omega) (by omega)
        rw [Nat.zero_add] at this
        exact this
      have wg : IntKind.u32.wrap g = g := by rw [IntKind.wrap_u32]; omega
      have wt : IntKind.i64.wrap ((t : Int) - 1) = (t : Int) - 1 := by rw [IntKind.wrap_i64]; omega
      have o1n := valD_nonneg s1
      have o1l := valD_lt s1
      have setq : ∀ v : Int, (kRows .u32 (List.replicate (t + 1) 0 ++ Q)).set t [.int .u32 v] = kRows .u32 (List.replicate t 0 ++ v :: Q) := fun v => by
        rw [kRows_set]
        congr 1
        have e : List.replicate (t + 1) (0 : Int) ++ Q = List.replicate t 0 ++ 0 :: Q := by
          rw [List.replicate_succ', List.append_assoc]; rfl
        rw [e, List.set_append, if_neg (by simp)]
        simp
      have lenq : t < (List.replicate (t + 1) (0 : Int) ++ Q).length := by simp; omega
      have hQl : (List.replicate (t + 1) (0 : Int) ++ Q).length = J := by simp; omega
      have gq : ((kRows .u32 (List.replicate (t + 1) 0 ++ Q)).getD t []).length = 1 := by rw [kRows_get _ _ lenq]; rfl
      have xq : ∀ X : Obj, indexAddrO Tryz.prog 25 [X, .arr (kRows .u32 (List.replicate (t + 1) 0 ++ Q)) (some (some 1)) false] (.msl 1 0 J true) (.int .i64 t) = some (.mp 1 t 0) := fun X => by
        have := sl_us.idxmk .u32 (S := [X, .arr (kRows .u32 (List.replicate (t + 1) 0 ++ Q)) (some (some 1)) false]) (id := 1) (off := 0) (n := J) (ex := true) (L := List.replicate (t + 1) 0 ++ Q) t rfl (by omega) (by omega)
        rw [Nat.zero_add] at this
        exact this
      have top : ∀ Ox : List Int, OkD WB Ox → Ox.length = k + 3 → valD WB Ox < valD WB B → ∃ Oy, OkD WB Oy ∧ Oy.length = k + 2 ∧ Ox = Oy ++ [0] ∧ valD WB Oy = valD WB Ox := fun Ox ho hl hlt => by
        have e0 : (((WB : Nat) : Int)) = (4294967296 : Int) := rfl
        have hs : Ox = Ox.take (k + 2) ++ [Ox.getD (k + 2) 0] := by
          conv => lhs; rw [← List.take_append_drop (k + 2) Ox]
          congr 1
          rw [list_at Ox (by omega), List.drop_eq_nil_of_le (by omega)]
        have hy : 0 ≤ Ox.getD (k + 2) 0 := (ho.getD (by decide) (k + 2)).1
        have hok : OkD WB (Ox.take (k + 2)) := fun y hy => ho y (List.mem_of_mem_take hy)
        have hn := valD_nonneg hok
        have hlen : (Ox.take (k + 2)).length = k + 2 := by simp; omega
        have hvx : valD WB Ox = valD WB (Ox.take (k + 2)) + 4294967296 ^ (k + 2) * Ox.getD (k + 2) 0 := by
          conv => lhs; rw [hs]
          rw [valD_append, hlen, e0]
          simp [valD]
        have hBl := valD_lt hBo
        rw [hB, e0] at hBl
        have hz : Ox.getD (k + 2) 0 = 0 := by
          rcases Int.lt_or_eq_of_le hy with h | h
          · exfalso
            have := Int.mul_le_mul_of_nonneg_left (show 1 ≤ Ox.getD (k + 2) 0 by omega) (show (0 : Int) ≤ 4294967296 ^ (k + 2) from Int.le_of_lt (Int.pow_pos (by decide)))
            omega
          · exact h.symm
        rw [hz] at hs hvx
        refine ⟨_, hok, hlen, hs, by omega⟩
      have stl : ∀ Oy : List Int, A.take t ++ (Oy ++ [0]) ++ List.replicate (J - (t + 1)) 0 = A.take t ++ Oy ++ List.replicate (J - t) 0 := fun Oy => by
        have : J - t = (J - (t + 1)) + 1 := by omega
        rw [this, List.replicate_succ]
        simp
      cases b with
      | false =>
        have hR : valD WB O1 = valD WB (x :: O) - g * valD WB B := by rw [s3]; simp
        have hRl : valD WB O1 < valD WB B := by rw [Int.add_mul] at j3; omega
        obtain ⟨Oy, p1, p2, p3, p4⟩ := top O1 s1 (by omega) hRl
        refine ⟨g, Oy, j1, p1, p2, by rw [p4, hR, Int.mul_comm]; omega, by omega, fun z hz => ?_⟩
        rw [← stl, ← p3] at hz
        refine exit_run ok_mag_DivMod.good 1000 ?_
        ((repeat ((conv => lhs; whnf); simp only [go_sem, ↓reduceIte, Nat.reduceEqDiff, Nat.reduceBEq, Nat.reduceAdd, Nat.reduceMul, Nat.reduceSub, Nat.reduceLT, Nat.reduceLeDiff, reduceCtorEq, Int.reduceToNat, Int.reduceLE, Int.reduceLT, Int.reduceEq, sem_mag_DivMod, wi, wi3, sl, cs, wg, wt, xq, lenq, gq, setq])); try (conv => lhs; whnf); try rfl)
        exact hz
      | true =>
        have hR : valD WB O1 = valD WB (x :: O) - g * valD WB B + 4294967296 ^ (k + 3) := by rw [s3, hB]; simp
        have hneg : valD WB (x :: O) < g * valD WB B := by
          rw [s2, hB] at o1l
          have : (((WB : Nat) : Int)) = (4294967296 : Int) := rfl
          rw [this] at o1l
          have e3 : k + 2 + 1 = k + 3 := rfl
          rw [e3] at o1l
          omega
        have gp : 0 < g := by
          rcases Int.lt_or_eq_of_le j1.1 with h | h
          · exact h
          · rw [← h, Int.zero_mul] at hneg; omega
        obtain ⟨O2, m, u1, u2, u3, u4⟩ := call_restore B false hBo (by omega) t (by omega) false (A.take t) O1 (List.replicate (J - (t + 1)) 0) hP s2 s1 (.arr (kRows .u32 (List.replicate (t + 1) 0 ++ Q)) (some (some 1)) false)
        have cr2 := callM_eq rs u4 (by simp)
        have o2n := valD_nonneg u1
        have o2l := valD_lt u1
        have hO2 : valD WB O2 = valD WB (x :: O) - (g - 1) * valD WB B := by
          have e0 : (((WB : Nat) : Int)) = (4294967296 : Int) := rfl
          have hBl := valD_lt hBo
          rw [hB, e0] at hBl
          rw [u2, hB, e0] at o2l
          rw [hB, hR] at u3
          have p1 : (0 : Int) < 4294967296 ^ (k + 2) := Int.pow_pos (by decide)
          have p2 : (4294967296 : Int) ^ (k + 3) = 4294967296 ^ (k + 2) * 4294967296 := Int.pow_succ _ _
          have p3 : (4294967296 : Int) ^ (k + 2 + 1) = 4294967296 ^ (k + 3) := rfl
          rw [p3] at u3 o2l
          rw [Int.sub_mul, Int.one_mul]
          have hm : m = 1 := by
            rcases Int.lt_trichotomy m 1 with h | h | h
            · exfalso
              have := Int.mul_le_mul_of_nonneg_left (show m ≤ 0 by omega) (show (0 : Int) ≤ 4294967296 ^ (k + 3) by omega)
              omega
            · exact h
            · exfalso
              have := Int.mul_le_mul_of_nonneg_left (show 2 ≤ m by omega) (show (0 : Int) ≤ 4294967296 ^ (k + 3) by omega)
              omega
          rw [hm, Int.mul_one] at u3
          omega
        have hRl : valD WB O2 < valD WB B := by rw [hO2, Int.sub_mul]; omega
        obtain ⟨Oy, p1, p2, p3, p4⟩ := top O2 u1 (by omega) hRl
        have wg1 : IntKind.u64.wrap (g - 1) = g - 1 := by rw [wU64]; omega
        have wg2 : IntKind.u32.wrap (g - 1) = g - 1 := by rw [IntKind.wrap_u32]; omega
        have sl2 : sliceO Tryz.prog 25 [.arr (kRows .u32 (A.take t ++ O1 ++ List.replicate (J - (t + 1)) 0)) (some (some 1)) false, .arr (kRows .u32 (List.replicate (t + 1) 0 ++ Q)) (some (some 1)) false] (.msl 0 0 A.length true) (some (.int .i64 t)) (some (.int .i64 ((t + (k + 3) : Nat) : Int))) none = some (.msl 0 t (B.length + 1) false) := by
          have := slice_us (S := [.arr (kRows .u32 (A.take t ++ O1 ++ List.replicate (J - (t + 1)) 0)) (some (some 1)) false, .arr (kRows .u32 (List.replicate (t + 1) 0 ++ Q)) (some (some 1)) false]) (id := 0) (off := 0) (n := A.length) (ex := true) (L := A.take t ++ O1 ++ List.replicate (J - (t + 1)) 0) (lo := t) (hi := t + (k + 3)) (m := B.length + 1) rfl (by omega) (by omega) (by simp; omega) (by omega)
          rw [Nat.zero_add] at this
          exact this
        refine ⟨g - 1, Oy, ⟨by omega, by omega⟩, p1, p2, by rw [p4, hO2, Int.mul_comm]; omega, by omega, fun z hz => ?_⟩
        rw [← stl, ← p3] at hz
        refine exit_run ok_mag_DivMod.good 1000 ?_
        ((repeat ((conv => lhs; whnf); simp only [go_sem, ↓reduceIte, Nat.reduceEqDiff, Nat.reduceBEq, Nat.reduceAdd, Nat.reduceMul, Nat.reduceSub, Nat.reduceLT, Nat.reduceLeDiff, reduceCtorEq, Int.reduceToNat, Int.reduceLE, Int.reduceLT, Int.reduceEq, sem_mag_DivMod, wi, wi3, sl, sl2, cs, cr2, wg1, wg2, wt, xq, lenq, gq, setq])); try (conv => lhs; whnf); try rfl)
        exact hz
    obtain ⟨gd, Oy, t1, t2, t3, t4, t5, t6⟩ := tail
    obtain ⟨O', Q', i1, i2, i3, i4, i5, i6, i7⟩ := ih (by omega) Oy (gd :: Q) t3 t2 (by simp; omega) (.cons t1 hQo) t5 (by
      have e0 : (((WB : Nat) : Int)) = (4294967296 : Int) := rfl
      have s1 : valD WB [x] = x := by simp [valD]
      have s2 : valD WB (gd :: Q) = gd + 4294967296 * valD WB Q := rfl
      have s3 : x + 4294967296 * (valD WB B * valD WB Q + valD WB O) = valD WB B * (gd + 4294967296 * valD WB Q) + valD WB Oy := by
        rw [Int.mul_add, Int.mul_add, Int.mul_left_comm (valD WB B) 4294967296]
        omega
      rw [hval, et, valD_append, hP, e0, s1, s2, Int.pow_succ, Int.mul_assoc, Int.add_assoc, ← Int.mul_add, s3])
    refine ⟨O', Q', i1, i2, i3, i4, i5, i6, fun z hz => ?_⟩
    have key := i7 z hz
    rw [e4, e5] at key
    have inner := j4 z (t6 z key)
    rw [hUl] at inner
    refine loopAt_step ok_mag_DivMod.good 1000 ?_
    rw [ej]
    ((repeat ((conv => lhs; whnf); simp only [go_sem, ↓reduceIte, Nat.reduceEqDiff, Nat.reduceBEq, Nat.reduceAdd, Nat.reduceMul, Nat.reduceSub, Nat.reduceLT, Nat.reduceLeDiff, reduceCtorEq, Int.reduceToNat, Int.reduceLE, Int.reduceLT, Int.reduceEq, sem_mag_DivMod, c, wi, wi2, xm2, xm1, l2, l1, gk2, gk1, cw2, cw1, sw, bo, n0, td, tm, ca, cr, ← hnum])); try (conv => lhs; whnf); try rfl)
    exact inner
end
end Go.Vs
end
/- Magnitudes in the program: DivMod. -/
section
set_option linter.unusedVariables false
set_option linter.unusedSimpArgs false
set_option maxRecDepth 100000
namespace Go.Vs
open Go Go.Proofs
/-- A value that is a magnitude: its words, or nil for 0. -/
def IsMag (n : Nat) (v : PV) : Prop := v = magV n ∨ (n = 0 ∧ v = .sl [] true)
theorem IsMag.of (n : Nat) : IsMag n (magV n) := .inl rfl
theorem IsMag.nil : IsMag 0 (.sl [] true) := .inr ⟨rfl, rfl⟩
theorem IsMag.nil' {n : Nat} (h : n = 0) : IsMag n (.sl [] true) := .inr ⟨h, rfl⟩
theorem IsMag.form {n : Nat} {v : PV} (h : IsMag n v) : ∃ e, v = magE n e ∧ Plain (magE n e) := by
  rcases h with rfl | ⟨rfl, rfl⟩
  · exact ⟨false, rfl, Plain.sl _⟩
  · have : magE 0 true = .sl [] true := by unfold magE words; rw [digs_zero]; rfl
    exact ⟨true, this.symm, by rw [this]; exact Plain.nil⟩
theorem words_one {n : Nat} (h : (words n).length = 1) : words n = [(n : Int)] ∧ 0 < n ∧ n < 4294967296 := by
  obtain ⟨w, hw⟩ := List.length_eq_one_iff.1 h
  have hv := words_val n
  have hok := words_ok n
  rw [hw] at hv hok
  have hb : 0 ≤ w ∧ w < 4294967296 := hok.head
  have e : w = n := by rw [← hv]; simp [valD]
  refine ⟨by rw [hw, e], ?_, by omega⟩
  have : n ≠ 0 := fun e => by rw [e] at h; unfold words at h; rw [digs_zero] at h; simp at h
  omega
theorem fz_mag2 (S : Store) (m n : Nat) : fzPV S (.tup [magV m, magV n]) = some (.tup [magV m, magV n]) := by
  show (mapO (fzPV1 _) [magV m, magV n]).map PV.tup = _
  have f : ∀ n, fzPV1 S (magV n) = some (magV n) := fun n => fzPV_sl _ _
  simp only [mapO, f, Option.bind_some]
  rfl
theorem fz_mag2n (S : Store) (m : Nat) : fzPV S (.tup [magV m, .sl [] true]) = some (.tup [magV m, .sl [] true]) := by
  show (mapO (fzPV1 _) [magV m, .sl [] true]).map PV.tup = _
  have f : ∀ n, fzPV1 S (magV n) = some (magV n) := fun n => fzPV_sl _ _
  have f2 : fzPV1 S (.sl [] true) = some (.sl [] true) := rfl
  simp only [mapO, f, f2, Option.bind_some]
  rfl
section
attribute [local irreducible] Vs.callL Vs.callRL tyi callO callM callMV appendE storeE evLoad indexAddrO sliceO evFieldAddr evField buildO buildSliceO makeSliceO allocO boxed lenO copyE convertO indexO Vs.gc freezeAll
theorem call_DivMod_lt (m n : Nat) (e1 : Bool) (hp1 : Plain (magE m e1)) (hmn : m < n) (hm : (words m).length ≤ 1000000) (hn : (words n).length ≤ 1000000) : callL Tryz.prog hints 169 [magE m e1, magV n] = some (.tup [.sl [] true, magV m]) := by
  have hM : 3000000 ≤ maxLen := by decide
  have cc := fun S => callO_plain (S := S) (call_Cmp m n e1 false (by omega) (by omega)) (by simp [hp1]; exact Plain.sl _)
  have c : cmpN m n < 0 := by unfold cmpN; simp [hmn]
  have ap := fun S => sl_us.appNil 0 S (RowsV.sl (S := S) (kRows .u32 (words m)) e1) (kRows_ok _ _) (by rw [kRows_length]; omega) (by rw [kRows_length]; omega)
  refine FX.callL (r := (.tup [.sl [] true, .msl 0 0 (words m).length false], [.arr (kRows .u32 (words m)) (some (some 1)) false])) ok_mag_DivMod 1000 rfl rfl ?_ ?_
  · have e2 : magV n = magE n false := rfl
    rw [e2]
    unfold magE at cc ap ⊢
    ((repeat ((conv => lhs; whnf); simp only [go_sem, ↓reduceIte, Nat.reduceEqDiff, Nat.reduceBEq, Nat.reduceAdd, Nat.reduceMul, Nat.reduceSub, Nat.reduceLT, Nat.reduceLeDiff, reduceCtorEq, Int.reduceToNat, Int.reduceLE, Int.reduceLT, Int.reduceEq, sem_mag_DivMod, cc, c, ap])); try (conv => lhs; whnf); try rfl)
  · show (mapO (fzPV1 _) [.sl [] true, .msl 0 0 (words m).length false]).map PV.tup = _
    have f1 : fzPV1 [.arr (kRows .u32 (words m)) (some (some 1)) false] (.msl 0 0 (words m).length false) = some (magV m) := kRows_fz (ex := false) rfl rfl 6
    have f2 : fzPV1 [.arr (kRows .u32 (words m)) (some (some 1)) false] (.sl [] true) = some (.sl [] true) := rfl
    simp only [mapO, f1, f2, Option.bind_some]
    rfl
theorem call_DivMod_one (m n : Nat) (e1 : Bool) (hp1 : Plain (magE m e1)) (hmn : n ≤ m) (hm : (words m).length ≤ 1000000) (h1 : (words n).length = 1) : callL Tryz.prog hints 169 [magE m e1, magV n] = some (.tup [magV (m / n), magV (m % n)]) := by
  have hM : 3000000 ≤ maxLen := by decide
  obtain ⟨w1, w2, w3⟩ := words_one h1
  have cc := fun S => callO_plain (S := S) (call_Cmp m n e1 false (by omega) (by omega)) (by simp [hp1]; exact Plain.sl _)
  have c : ¬ cmpN m n < 0 := by unfold cmpN; rw [if_neg (by omega)]; split <;> omega
  have hd := fun S => callO_plain (S := S) (call_divWord m e1 n ⟨w2, w3⟩ hm) (by simp [hp1, Plain.int])
  have hr : m % n < n := Nat.mod_lt _ w2
  have hf := fun S => callO_plain (S := S) (call_From (m % n) (by omega)) (by simp [Plain.int])
  have cr : IntKind.u64.wrap ((m % n : Nat) : Int) = ((m % n : Nat) : Int) := by rw [wU64]; omega
  have e2 : magV n = magE n false := rfl
  have hl : ((words n).length : Int) = 1 := by omega
  have hg : (words n).getD 0 0 = n := by rw [w1]; rfl
  refine FX.callL (r := (.tup [magV (m / n), magV (m % n)], [])) ok_mag_DivMod 1000 rfl rfl ?_ (fz_mag2 _ _ _)
  rw [e2]
  unfold magE at cc hd ⊢
  ((repeat ((conv => lhs; whnf); simp only [go_sem, ↓reduceIte, Nat.reduceEqDiff, Nat.reduceBEq, Nat.reduceAdd, Nat.reduceMul, Nat.reduceSub, Nat.reduceLT, Nat.reduceLeDiff, reduceCtorEq, Int.reduceToNat, Int.reduceLE, Int.reduceLT, Int.reduceEq, sem_mag_DivMod, cc, c, hl, h1, hg, hd, hf, cr])); try (conv => lhs; whnf); try rfl)
theorem shift_facts {n : Nat} (hn : n ≠ 0) {k : Nat} (hk : (words n).length = k + 2) : ∃ x : Nat, x < 4294967296 ∧ (words n).getD (k + 1) 0 = x ∧ 32 - blen x ≤ 31 ∧ (words (n * 2 ^ (32 - blen x))).length = k + 2 ∧ 4294967296 ^ (k + 1) * 2147483648 ≤ n * 2 ^ (32 - blen x) := by
  obtain ⟨x, x0, x1, ex, h0, hb⟩ := words_blen hn
  have bx := (blen_le (n := x) 32).2 x1
  have bp := blen_pos x0
  have e1 : (words n).length - 1 = k + 1 := by omega
  rw [e1] at ex hb
  have hge := blen_ge hn
  have hlt := blen_lt n
  have w : (4294967296 : Nat) = 2 ^ 32 := by decide
  have w31 : (2147483648 : Nat) = 2 ^ 31 := by decide
  have g1 : 4294967296 ^ (k + 1) * 2147483648 ≤ n * 2 ^ (32 - blen x) := by
    have := Nat.mul_le_mul_right (2 ^ (32 - blen x)) hge
    rw [← Nat.pow_add] at this
    rw [w, w31, ← Nat.pow_mul, ← Nat.pow_add]
    have e : 32 * (k + 1) + 31 = blen n - 1 + (32 - blen x) := by omega
    rw [e]; exact this
  have g2 : n * 2 ^ (32 - blen x) < 4294967296 ^ (k + 2) := by
    have := (Nat.mul_lt_mul_right (show 0 < 2 ^ (32 - blen x) from Nat.pow_pos (by decide))).2 hlt
    rw [← Nat.pow_add] at this
    rw [w, ← Nat.pow_mul]
    have e : 32 * (k + 2) = blen n + (32 - blen x) := by omega
    rw [e]; exact this
  refine ⟨x, x1, ex, by omega, ?_, g1⟩
  have l1 := (digs_le WB2 (k + 2) (n * 2 ^ (32 - blen x))).2 g2
  have l2 : ¬ (digs WB (n * 2 ^ (32 - blen x))).length ≤ k + 1 := fun h => by
    have := (digs_le WB2 (k + 1) _).1 h
    have e : WB ^ (k + 1) = 4294967296 ^ (k + 1) := rfl
    rw [e] at this
    have := Nat.le_mul_of_pos_right (4294967296 ^ (k + 1)) (show 0 < 2147483648 by decide)
    omega
  show (digs WB _).length = k + 2
  omega
theorem call_DivMod_main (m n : Nat) (e1 : Bool) (hp1 : Plain (magE m e1)) (hmn : n ≤ m) (hm : (words m).length ≤ 900000) (k : Nat) (hk : (words n).length = k + 2) : ∃ r, IsMag (m % n) r ∧ callL Tryz.prog hints 169 [magE m e1, magV n] = some (.tup [magV (m / n), r]) := by
  have hM : 3000000 ≤ maxLen := by decide
  have hn0 : n ≠ 0 := fun e => by rw [e] at hk; unfold words at hk; rw [digs_zero] at hk; simp at hk
  have hm0 : m ≠ 0 := by omega
  obtain ⟨x, x1, ex, hs, hVl, hVb⟩ := shift_facts hn0 hk
  obtain ⟨s, hse⟩ : ∃ s, s = 32 - blen x := ⟨_, rfl⟩
  rw [← hse] at hs hVl hVb
  have hln : (words n).length ≤ (words m).length := digs_mono WB2 hmn
  obtain ⟨lm, hlm⟩ : ∃ l, l = (words m).length := ⟨_, rfl⟩
  have hMl : (words (m * 2 ^ s)).length ≤ lm + 1 := by
    refine (digs_le WB2 (lm + 1) _).2 ?_
    have a1 := digs_lt WB2 m
    have a2 : 2 ^ s ≤ WB := by
      have := Nat.pow_le_pow_right (n := 2) (by decide) (show s ≤ 32 by omega)
      exact this
    rw [Nat.pow_succ]
    have a3 := Nat.mul_le_mul_left (WB ^ lm) a2
    have a4 := (Nat.mul_lt_mul_right (show 0 < 2 ^ s from Nat.pow_pos (by decide))).2 a1
    have e : (digs WB m).length = lm := hlm.symm
    rw [e] at a4
    omega
  obtain ⟨A, hAe⟩ : ∃ A, A = words (m * 2 ^ s) ++ List.replicate (lm + 1 - (words (m * 2 ^ s)).length) 0 := ⟨_, rfl⟩
  have hAl : A.length = lm + 1 := by rw [hAe]; simp; omega
  have hAo : OkD WB A := by
    rw [hAe]
    exact (words_ok _).append (fun y hy => by rw [List.eq_of_mem_replicate hy]; exact ⟨Int.le_refl 0, by decide⟩)
  have hAv : valD WB A = ((m * 2 ^ s : Nat) : Int) := by
    rw [hAe, valD_append, valD_rep0, words_val]; simp
  obtain ⟨J, hJ⟩ : ∃ J, J = lm + 1 - (k + 2) := ⟨_, rfl⟩
  have hBv : valD WB (words (n * 2 ^ s)) = ((n * 2 ^ s : Nat) : Int) := words_val _
  have hdo : OkD WB (A.drop J) := fun y hy => hAo y (List.mem_of_mem_drop hy)
  have hdl : (A.drop J).length = k + 2 := by simp; omega
  have hdv : valD WB (A.drop J) < valD WB (words (n * 2 ^ s)) := by
    rw [valD_drop hAo, hAv, hBv]
    have p0 : (0 : Int) < 4294967296 ^ J := Int.pow_pos (by decide)
    rw [Int.ediv_lt_iff_lt_mul p0]
    have q : m * 2 ^ s < n * 2 ^ s * 4294967296 ^ J := by
      have a1 := digs_lt WB2 m
      have e : (digs WB m).length = lm := hlm.symm
      have e' : WB = 4294967296 := rfl
      rw [e, e'] at a1
      have a2 : 2 ^ s ≤ 2147483648 := by
        have := Nat.pow_le_pow_right (n := 2) (by decide) (show s ≤ 31 by omega)
        exact this
      have a3 := Nat.mul_le_mul_right (4294967296 ^ J) hVb
      have a4 : 4294967296 ^ (k + 1) * 2147483648 * 4294967296 ^ J = 4294967296 ^ lm * 2147483648 := by
        rw [Nat.mul_right_comm, ← Nat.pow_add]
        congr 2
        omega
      have a5 := Nat.mul_le_mul_left (4294967296 ^ lm) a2
      have a6 := (Nat.mul_lt_mul_right (show 0 < 2 ^ s from Nat.pow_pos (by decide))).2 a1
      omega
    have := Int.ofNat_lt.2 q
    rw [Int.natCast_mul (n * 2 ^ s), Int.natCast_pow] at this
    exact this
  have htop : 0 < (words (n * 2 ^ s)).getD (k + 1) 0 := by
    have h1 : n * 2 ^ s ≠ 0 := by
      have : 0 < 4294967296 ^ (k + 1) * 2147483648 := Nat.mul_pos (Nat.pow_pos (by decide)) (by decide)
      omega
    have h2 := digs_last WB2 h1
    have e : (digs WB (n * 2 ^ s)).length - 1 = k + 1 := by
      have : (digs WB (n * 2 ^ s)).length = k + 2 := hVl
      omega
    rw [e] at h2
    have h3 := ((words_ok (n * 2 ^ s)).getD (by decide) (k + 1)).1
    have h4 : (words (n * 2 ^ s)).getD (k + 1) 0 ≠ 0 := h2
    omega
  obtain ⟨O, Q, o1, o2, o3, o4, o5, o6, o7⟩ := loop_DivMod A (words (n * 2 ^ s)) J k s hVl (words_ok _) (by omega) hAo (by omega) htop [.blk 0, .seq 0 4095] J (Nat.le_refl _) (A.drop J) [] hdl hdo (by simp) (.nil _) hdv (by
    have := valD_append WB (A.take J) (A.drop J)
    rw [List.take_append_drop] at this
    have hl : (A.take J).length = J := by simp; omega
    rw [this, hl]
    have : valD WB [] = 0 := rfl
    rw [this, Int.mul_zero, Int.zero_add]
    rfl)
  rw [List.take_append_drop, Nat.sub_self] at o7
  simp only [List.replicate_zero, List.append_nil] at o7
  have hO0 := valD_nonneg o1
  have hQ0 := valD_nonneg o2
  obtain ⟨qn, hq⟩ : ∃ q : Nat, valD WB Q = q := ⟨(valD WB Q).toNat, by omega⟩
  obtain ⟨on, ho⟩ : ∃ q : Nat, valD WB O = q := ⟨(valD WB O).toNat, by omega⟩
  rw [hAv, hBv, hq, ho, ← Int.natCast_mul, ← Int.natCast_add] at o6
  rw [ho, hBv] at o5
  have o6' : m * 2 ^ s = n * 2 ^ s * qn + on := Int.ofNat.inj o6
  have o5' : on < n * 2 ^ s := Int.ofNat_lt.1 o5
  have p2 : 0 < 2 ^ s := Nat.pow_pos (by decide)
  have eq1 : qn = m / n := by
    rw [← Nat.mul_div_mul_right m n p2, o6', Nat.mul_add_div (by omega), Nat.div_eq_of_lt o5', Nat.add_zero]
  have eq2 : on = m % n * 2 ^ s := by
    rw [← Nat.mul_mod_mul_right, o6', Nat.mul_add_mod, Nat.mod_eq_of_lt o5']
  have ctq := call_Trim_ok (L := Q) (by omega) o2
  rw [hq, Int.toNat_natCast, eq1] at ctq
  have hpad : OkD WB (O ++ List.replicate J 0) := o1.append (fun y hy => by rw [List.eq_of_mem_replicate hy]; exact ⟨Int.le_refl 0, by decide⟩)
  have cto := call_Trim_ok (L := O ++ List.replicate J 0) (by simp; omega) hpad
  rw [valD_append, valD_rep0, Int.mul_zero, Int.add_zero, ho, Int.toNat_natCast, eq2] at cto
  have hol : (O ++ List.replicate J (0 : Int)).length = A.length := by simp; omega
  have c1 := callO_msl (S := [.arr (kRows .u32 (O ++ List.replicate J 0)) (some (some 1)) false, .arr (kRows .u32 Q) (some (some 1)) false]) (id := 1) (n := J) (ex := true) ctq rfl o4 (by simp)
  have c2 := callO_msl (S := [.arr (kRows .u32 (O ++ List.replicate J 0)) (some (some 1)) false, .arr (kRows .u32 Q) (some (some 1)) true]) (id := 0) (n := A.length) (ex := true) cto rfl hol (by simp)
  have hrw : (words (m % n * 2 ^ s)).length ≤ 1000000 := by
    have h1 : m % n * 2 ^ s ≤ n * 2 ^ s := Nat.mul_le_mul_right _ (Nat.le_of_lt (Nat.mod_lt _ (by omega)))
    have := digs_mono WB2 h1
    have e : (digs WB (n * 2 ^ s)).length = k + 2 := hVl
    show (digs WB _).length ≤ _
    omega
  obtain ⟨r, hr, crs⟩ : ∃ r, (r = magV (m % n) ∨ (m % n = 0 ∧ r = .sl [] true)) ∧ callL Tryz.prog hints 186 [magV (m % n * 2 ^ s), .int .i64 s] = some r := by
    have := call_Shr (m % n * 2 ^ s) false s (by omega) hrw
    rw [show s / 32 = 0 by omega, Nat.mul_div_cancel _ p2] at this
    by_cases hz : (words (m % n * 2 ^ s)).length ≤ 0
    · rw [if_pos hz] at this
      have h0 : m % n * 2 ^ s = 0 := words_len0.1 (by omega)
      have h1 : m % n = 0 := by
        rcases Nat.mul_eq_zero.1 h0 with h | h
        · exact h
        · omega
      exact ⟨_, .inr ⟨h1, rfl⟩, this⟩
    · rw [if_neg hz] at this
      exact ⟨_, .inl rfl, this⟩
  have c3 := fun S => callO_plain (S := S) crs (by simp [Plain.int]; exact Plain.sl _)
  have hfin : fzPV [.arr (kRows .u32 (O ++ List.replicate J 0)) (some (some 1)) true, .arr (kRows .u32 Q) (some (some 1)) true] (.tup [magV (m / n), r]) = some (.tup [magV (m / n), r]) := by
    rcases hr with rfl | ⟨_, rfl⟩
    · exact fz_mag2 _ _ _
    · exact fz_mag2n _ _
  refine ⟨r, hr, ?_⟩
  have key := o7 (.tup [magV (m / n), r], [.arr (kRows .u32 (O ++ List.replicate J 0)) (some (some 1)) true, .arr (kRows .u32 Q) (some (some 1)) true]) (by
    refine exit_run ok_mag_DivMod.good 1000 ?_
    ((repeat ((conv => lhs; whnf); simp only [go_sem, ↓reduceIte, Nat.reduceEqDiff, Nat.reduceBEq, Nat.reduceAdd, Nat.reduceMul, Nat.reduceSub, Nat.reduceLT, Nat.reduceLeDiff, reduceCtorEq, Int.reduceToNat, Int.reduceLE, Int.reduceLT, Int.reduceEq, sem_mag_DivMod, c1, c2, c3])); try (conv => lhs; whnf); try rfl))
  have cc := fun S => callO_plain (S := S) (call_Cmp m n e1 false (by omega) (by omega)) (by simp [hp1]; exact Plain.sl _)
  have c : ¬ cmpN m n < 0 := by unfold cmpN; rw [if_neg (by omega)]; split <;> omega
  have n1 : ¬ ((words n).length : Int) = 1 := by omega
  have wl : IntKind.i64.wrap (((words n).length : Int) - 1) = ((k + 1 : Nat) : Int) := by rw [IntKind.wrap_i64]; omega
  have xl : 0 ≤ ((k + 1 : Nat) : Int) ∧ ((k + 1 : Nat) : Int) < (words n).length := ⟨by omega, by omega⟩
  have lz := fun S => callO_plain (S := S) (call_LeadingZeros32 x x1) (by simp [Plain.int])
  rw [← hse] at lz
  have sh1 := call_Shl n false s (by omega) (by omega)
  rw [if_neg hn0] at sh1
  have sh2 := call_Shl m e1 s (by omega) (by omega)
  rw [if_neg hm0] at sh2
  have cs1 := fun S => callO_plain (S := S) sh1 (by simp [Plain.int]; exact Plain.sl _)
  have cs2 := fun S => callO_plain (S := S) sh2 (by simp [hp1, Plain.int])
  have e2 : magV n = magE n false := rfl
  refine FX.callL (r := (.tup [magV (m / n), r], [.arr (kRows .u32 (O ++ List.replicate J 0)) (some (some 1)) true, .arr (kRows .u32 Q) (some (some 1)) true])) ok_mag_DivMod 1000 rfl rfl ?_ hfin
  rw [e2]
  unfold magE at cc cs1 cs2 ⊢
  have mv1 : magV (n * 2 ^ s) = .sl (kRows .u32 (words (n * 2 ^ s))) false := rfl
  have mv2 : magV (m * 2 ^ s) = .sl (kRows .u32 (words (m * 2 ^ s))) false := rfl
  have wl1 : IntKind.i64.wrap (((words m).length : Int) + 1) = (A.length : Int) := by rw [IntKind.wrap_i64]; omega
  have mk1 := make_us 0 A.length (by omega)
  have mk2 := make_us 1 J (by omega)
  have cp := sl_us.copy (S := [.arr (kRows .u32 (List.replicate A.length 0)) (some (some 1)) false]) (id := 0) (n := A.length) (ex := true) (rows := kRows .u32 (List.replicate A.length 0)) (new := kRows .u32 (words (m * 2 ^ s))) rfl (by rw [kRows_length]; simp) (kRows_ok _ _) (RowsV.sl _ false) (kRows_ok _ _) (by rw [kRows_length]; omega)
  have ecp : kRows .u32 (words (m * 2 ^ s)) ++ (kRows .u32 (List.replicate A.length 0)).drop (kRows .u32 (words (m * 2 ^ s))).length = kRows .u32 A := by
    rw [kRows_length, kRows_drop, ← kRows_append, List.drop_replicate, hAl, ← hAe]
  rw [ecp] at cp
  have wJ : IntKind.i64.wrap ((A.length : Int) - ((k + 2 : Nat) : Int)) = (J : Int) := by rw [IntKind.wrap_i64]; omega
  have wJ1 : IntKind.i64.wrap ((J : Int) - 1) = (J : Int) - 1 := by rw [IntKind.wrap_i64]; omega
  have wk1 : IntKind.i64.wrap (((k + 2 : Nat) : Int) - 1) = ((k + 1 : Nat) : Int) := by rw [IntKind.wrap_i64]; omega
  have wk2 : IntKind.i64.wrap (((k + 2 : Nat) : Int) - 2) = (k : Int) := by rw [IntKind.wrap_i64]; omega
  have xk1 : 0 ≤ ((k + 1 : Nat) : Int) ∧ ((k + 1 : Nat) : Int) < ((k + 2 : Nat) : Int) := ⟨by omega, by omega⟩
  have xk2 : 0 ≤ (k : Int) ∧ (k : Int) < ((k + 2 : Nat) : Int) := ⟨by omega, by omega⟩
  have cv : ∀ i, IntKind.u64.wrap ((words (n * 2 ^ s)).getD i 0) = (words (n * 2 ^ s)).getD i 0 := fun i => by
    have := (words_ok (n * 2 ^ s)).getD (by decide) i
    have h2 : (words (n * 2 ^ s)).getD i 0 < 4294967296 := this.2
    rw [wU64]; omega
  ((repeat ((conv => lhs; whnf); simp only [go_sem, ↓reduceIte, Nat.reduceEqDiff, Nat.reduceBEq, Nat.reduceAdd, Nat.reduceMul, Nat.reduceSub, Nat.reduceLT, Nat.reduceLeDiff, reduceCtorEq, Int.reduceToNat, Int.reduceLE, Int.reduceLT, Int.reduceEq, sem_mag_DivMod, cc, c, n1, wl, xl, Int.toNat_natCast, ex, lz, cs1, cs2, mv1, mv2, wl1, mk1, mk2, cp, wJ, wJ1, wk1, wk2, xk1, xk2, cv, hVl])); try (conv => lhs; whnf); try rfl)
  exact key
/-- DivMod. -/
theorem call_DivMod (m n : Nat) {a : PV} (ha : IsMag m a) (hn : n ≠ 0) (hm : (words m).length ≤ 900000) (hnl : (words n).length ≤ 900000) : ∃ q r, IsMag (m / n) q ∧ IsMag (m % n) r ∧ callL Tryz.prog hints 169 [a, magV n] = some (.tup [q, r]) := by
  obtain ⟨e, rfl, hp⟩ := ha.form
  by_cases h : m < n
  · exact ⟨_, _, .nil' (Nat.div_eq_of_lt h), by rw [Nat.mod_eq_of_lt h]; exact .of m, call_DivMod_lt m n e hp h (by omega) (by omega)⟩
  · have h0 : (words n).length ≠ 0 := fun e => hn (words_len0.1 e)
    by_cases h1 : (words n).length = 1
    · exact ⟨_, _, .of _, .of _, call_DivMod_one m n e hp (by omega) (by omega) h1⟩
    · obtain ⟨r, hr, hc⟩ := call_DivMod_main m n e hp (by omega) hm ((words n).length - 2) (by omega)
      exact ⟨_, r, .of _, hr, hc⟩
end
end Go.Vs
end
/- Magnitudes in the program: calls with any form of a magnitude; combine. -/
section
set_option linter.unusedVariables false
set_option linter.unusedSimpArgs false
set_option maxRecDepth 100000
namespace Go.Vs
open Go Go.Proofs
theorem IsMag.plain {n : Nat} {v : PV} (h : IsMag n v) : Plain v := by
  obtain ⟨e, rfl, hp⟩ := h.form
  exact hp
theorem mag_Mul {m n : Nat} {a b : PV} (ha : IsMag m a) (hb : IsMag n b) (hm : (words m).length ≤ 1000000) (hn : (words n).length ≤ 1000000) : ∃ v, IsMag (m * n) v ∧ ∀ S, callO (callL Tryz.prog hints) S 116 [a, b] = some { v } := by
  obtain ⟨e1, rfl, h1⟩ := ha.form
  obtain ⟨e2, rfl, h2⟩ := hb.form
  have hc := call_Mul m n e1 e2 hm hn
  refine ⟨_, ?_, fun S => callO_plain (S := S) hc (by simp [h1, h2])⟩
  by_cases h : m = 0 ∨ n = 0
  · rw [if_pos h]; exact .nil' (by rcases h with h | h <;> simp [h])
  · rw [if_neg h]; exact .of _
theorem mag_Sub {m n : Nat} {a b : PV} (ha : IsMag m a) (hb : IsMag n b) (hmn : n ≤ m) (hm : (words m).length ≤ 1000000) (S : Store) : callO (callL Tryz.prog hints) S 167 [a, b] = some { v := magV (m - n) } := by
  obtain ⟨e1, rfl, h1⟩ := ha.form
  obtain ⟨e2, rfl, h2⟩ := hb.form
  exact callO_plain (S := S) (call_Sub m n e1 e2 hmn hm) (by simp [h1, h2])
theorem mag_Cmp {m n : Nat} {a b : PV} (ha : IsMag m a) (hb : IsMag n b) (hm : (words m).length ≤ 1000000) (hn : (words n).length ≤ 1000000) (S : Store) : callO (callL Tryz.prog hints) S 115 [a, b] = some { v := .int .i64 (cmpN m n) } := by
  have hM : 3000000 ≤ maxLen := by decide
  obtain ⟨e1, rfl, h1⟩ := ha.form
  obtain ⟨e2, rfl, h2⟩ := hb.form
  exact callO_plain (S := S) (call_Cmp m n e1 e2 (by omega) (by omega)) (by simp [h1, h2])
theorem mag_Bits {m : Nat} {a : PV} (ha : IsMag m a) (hm : (words m).length ≤ 1000000) (S : Store) : callO (callL Tryz.prog hints) S 189 [a] = some { v := .int .i64 (blen m) } := by
  obtain ⟨e1, rfl, h1⟩ := ha.form
  exact callO_plain (S := S) (call_Bits m e1 hm) (by simp [h1])
theorem mag_Small {m : Nat} {a : PV} (ha : IsMag m a) (h : m < 18446744073709551616) (S : Store) : callO (callL Tryz.prog hints) S 176 [a] = some { v := .tup [.int .u64 m, .bool true] } := by
  obtain ⟨e1, rfl, h1⟩ := ha.form
  have := call_Small m e1
  rw [if_pos h] at this
  exact callO_plain (S := S) this (by simp [h1])
theorem mag_From (n : Nat) (h : n < 18446744073709551616) (S : Store) : callO (callL Tryz.prog hints) S 170 [.int .u64 n] = some { v := magV n } := callO_plain (S := S) (call_From n h) (by simp [Plain.int])
theorem mag_Shr {m : Nat} {a : PV} (ha : IsMag m a) (k : Nat) (hk : k ≤ 2000000000) (hm : (words m).length ≤ 1000000) : ∃ v, IsMag (m / 2 ^ k) v ∧ ∀ S, callO (callL Tryz.prog hints) S 186 [a, .int .i64 k] = some { v } := by
  obtain ⟨e1, rfl, h1⟩ := ha.form
  have hc := call_Shr m e1 k hk hm
  refine ⟨_, ?_, fun S => callO_plain (S := S) hc (by simp [h1, Plain.int])⟩
  by_cases h : (words m).length ≤ k / 32
  · rw [if_pos h]
    refine .nil' (Nat.div_eq_of_lt ?_)
    have h2 := (digs_le WB2 (k / 32) m).1 h
    have h3 : WB ^ (k / 32) = 2 ^ (32 * (k / 32)) := by rw [Nat.pow_mul]
    have h4 := Nat.pow_le_pow_right (n := 2) (by decide) (show 32 * (k / 32) ≤ k by omega)
    omega
  · rw [if_neg h]; exact .of _
theorem mag_DivMod {m n : Nat} {a b : PV} (ha : IsMag m a) (hb : IsMag n b) (hn : n ≠ 0) (hm : (words m).length ≤ 900000) (hnl : (words n).length ≤ 900000) : ∃ q r, IsMag (m / n) q ∧ IsMag (m % n) r ∧ ∀ S, callO (callL Tryz.prog hints) S 169 [a, b] = some { v := .tup [q, r] } := by
  rcases hb with rfl | ⟨h, _⟩
  · obtain ⟨q, r, hq, hr, hc⟩ := call_DivMod m n ha hn hm hnl
    exact ⟨q, r, hq, hr, fun S => callO_plain (S := S) hc (by simp [ha.plain]; exact Plain.sl _)⟩
  · exact absurd h hn
theorem words_mul {m n j k : Nat} (hm : (words m).length ≤ j) (hn : (words n).length ≤ k) : (words (m * n)).length ≤ j + k := digs_mul WB2 hm hn
theorem words_small {n : Nat} (h : n < 18446744073709551616) : (words n).length ≤ 2 := (digs_le WB2 2 n).2 (by
  have : WB ^ 2 = 18446744073709551616 := by decide
  omega)
@[go_sem] theorem conv_i64_u64 (S : Store) (k : IntKind) (n : Int) : convertO Tryz.prog 2 161 S (.int k n) = some (.int .u64 (IntKind.u64.wrap n)) := by
  simp [convertO, show (tyi Tryz.prog 2).known = true by kernel_rfl, evConvert, d_u64]
@[go_sem] theorem conv_u64_i64 (S : Store) (k : IntKind) (n : Int) : convertO Tryz.prog 161 2 S (.int k n) = some (.int .i64 (IntKind.i64.wrap n)) := by
  simp [convertO, known_u64, evConvert, show (tyi Tryz.prog 2).d = .int .i64 by kernel_rfl]
section
attribute [local irreducible] Vs.callL Vs.callRL tyi callO callM callMV appendE storeE evLoad indexAddrO sliceO evFieldAddr evField buildO buildSliceO makeSliceO allocO boxed lenO copyE convertO indexO Vs.gc freezeAll
noncomputable def fx_mag_combine : FX := ⟨Tryz.f190, hints.of 190, []⟩
theorem ok_mag_combine : fx_mag_combine.ok 190 := ⟨by kernel_rfl, of_decide_eq_true (by kernel_rfl), by kernel_rfl, by kernel_rfl, by kernel_rfl, by kernel_rfl⟩
theorem sem_mag_combine (b0 : Nat) (m : Md) (fs : List Fr) (e : Env) (S : Store) : sem b0 fx_mag_combine m fs e S = run b0 fx_mag_combine 1000 m fs e S := (sem_eq _ _ _ _ _ _).trans (run_sem b0 fx_mag_combine ok_mag_combine.good 1000 m fs e S).symm
theorem call_combine {m n : Nat} {a b : PV} (ha : IsMag m a) (hb : IsMag n b) (p q : Int) (hm : (words m).length ≤ 900000) (hn : (words n).length ≤ 900000) (hp : -4294967296 ≤ p ∧ p ≤ 4294967296) (hq : -4294967296 ≤ q ∧ q ≤ 4294967296) (hs : (p ≤ 0 ∧ 0 ≤ q) ∨ (0 ≤ p ∧ q ≤ 0)) (h0 : 0 ≤ p * m + q * n) : callL Tryz.prog hints 190 [a, b, .int .i64 p, .int .i64 q] = some (magV (p * m + q * n).toNat) := by
  refine FX.callL (r := (magV (p * m + q * n).toNat, [])) ok_mag_combine 1000 rfl rfl ?_ (fzPV_sl _ _)
  by_cases c : p < 0 ∨ 0 < q
  · have hs' : p ≤ 0 ∧ 0 ≤ q := by omega
    obtain ⟨P, hP⟩ : ∃ P : Nat, p = -(P : Int) := ⟨(-p).toNat, by omega⟩
    obtain ⟨Q, hQ⟩ : ∃ Q : Nat, q = Q := ⟨q.toNat, by omega⟩
    subst hP hQ
    obtain ⟨v1, i1, c1⟩ := mag_Mul hb (IsMag.of Q) (by omega) (Nat.le_trans (words_small (by omega)) (by decide))
    obtain ⟨v2, i2, c2⟩ := mag_Mul ha (IsMag.of P) (by omega) (Nat.le_trans (words_small (by omega)) (by decide))
    have e1 : -(P : Int) * m = -((m * P : Nat) : Int) := by rw [Int.natCast_mul, Int.neg_mul, Int.mul_comm]
    have e2 : (Q : Int) * n = ((n * Q : Nat) : Int) := by rw [Int.natCast_mul, Int.mul_comm]
    rw [e1, e2] at h0 ⊢
    have hle : m * P ≤ n * Q := by omega
    have sb := mag_Sub i1 i2 hle (Nat.le_trans (words_mul hn (words_small (n := Q) (by omega))) (by decide))
    have er : (-((m * P : Nat) : Int) + ((n * Q : Nat) : Int)).toNat = n * Q - m * P := by omega
    rw [er]
    have f1 := mag_From Q (by omega)
    have f2 := mag_From P (by omega)
    have k1 : IntKind.u64.wrap (Q : Int) = Q := by rw [wU64]; omega
    have k2 : IntKind.u64.wrap (P : Int) = P := by rw [wU64]; omega
    have k3 : IntKind.i64.wrap (P : Int) = P := by rw [IntKind.wrap_i64]; omega
    have k4 : IntKind.i64.wrap (0 - -(P : Int)) = P := by rw [show (0 : Int) - -(P : Int) = P by omega]; exact k3
    by_cases cp : -(P : Int) < 0
    · have cp' : 0 < P := by omega
      ((repeat ((conv => lhs; whnf); simp only [go_sem, ↓reduceIte, Nat.reduceEqDiff, Nat.reduceBEq, Nat.reduceAdd, Nat.reduceMul, Nat.reduceSub, Nat.reduceLT, Nat.reduceLeDiff, reduceCtorEq, Int.reduceToNat, Int.reduceLE, Int.reduceLT, Int.reduceEq, sem_mag_combine, cp, cp', f1, f2, k1, k2, k3, k4, c1, c2, sb])); try (conv => lhs; whnf); try rfl)
    · have cq : (0 : Int) < Q := by omega
      have cp' : ¬ 0 < P := by omega
      have cq' : 0 < Q := by omega
      ((repeat ((conv => lhs; whnf); simp only [go_sem, ↓reduceIte, Nat.reduceEqDiff, Nat.reduceBEq, Nat.reduceAdd, Nat.reduceMul, Nat.reduceSub, Nat.reduceLT, Nat.reduceLeDiff, reduceCtorEq, Int.reduceToNat, Int.reduceLE, Int.reduceLT, Int.reduceEq, sem_mag_combine, cp, cp', cq, cq', f1, f2, k1, k2, k3, k4, c1, c2, sb])); try (conv => lhs; whnf); try rfl)
  · have n1 : ¬ p < 0 := by omega
    have n2 : ¬ 0 < q := by omega
    obtain ⟨P, hP⟩ : ∃ P : Nat, p = P := ⟨p.toNat, by omega⟩
    obtain ⟨Q, hQ⟩ : ∃ Q : Nat, q = -(Q : Int) := ⟨(-q).toNat, by omega⟩
    subst hP hQ
    obtain ⟨v1, i1, c1⟩ := mag_Mul ha (IsMag.of P) (by omega) (Nat.le_trans (words_small (by omega)) (by decide))
    obtain ⟨v2, i2, c2⟩ := mag_Mul hb (IsMag.of Q) (by omega) (Nat.le_trans (words_small (by omega)) (by decide))
    have e1 : (P : Int) * m = ((m * P : Nat) : Int) := by rw [Int.natCast_mul, Int.mul_comm]
    have e2 : -(Q : Int) * n = -((n * Q : Nat) : Int) := by rw [Int.natCast_mul, Int.neg_mul, Int.mul_comm]
    rw [e1, e2] at h0 ⊢
    have hle : n * Q ≤ m * P := by omega
    have sb := mag_Sub i1 i2 hle (Nat.le_trans (words_mul hm (words_small (n := P) (by omega))) (by decide))
    have er : (((m * P : Nat) : Int) + -((n * Q : Nat) : Int)).toNat = m * P - n * Q := by omega
    rw [er]
    have f1 := mag_From P (by omega)
    have f2 := mag_From Q (by omega)
    have k1 : IntKind.u64.wrap (Q : Int) = Q := by rw [wU64]; omega
    have k2 : IntKind.u64.wrap (P : Int) = P := by rw [wU64]; omega
    have k3 : IntKind.i64.wrap (Q : Int) = Q := by rw [IntKind.wrap_i64]; omega
    have k4 : IntKind.i64.wrap (0 - -(Q : Int)) = Q := by rw [show (0 : Int) - -(Q : Int) = Q by omega]; exact k3
    ((repeat ((conv => lhs; whnf); simp only [go_sem, ↓reduceIte, Nat.reduceEqDiff, Nat.reduceBEq, Nat.reduceAdd, Nat.reduceMul, Nat.reduceSub, Nat.reduceLT, Nat.reduceLeDiff, reduceCtorEq, Int.reduceToNat, Int.reduceLE, Int.reduceLT, Int.reduceEq, sem_mag_combine, n1, n2, f1, f2, k1, k2, k3, k4, c1, c2, sb])); try (conv => lhs; whnf); try rfl)
end
end Go.Vs
end
