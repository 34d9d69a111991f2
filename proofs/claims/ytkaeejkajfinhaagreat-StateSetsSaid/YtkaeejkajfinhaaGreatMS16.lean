/- Magnitudes in the program: subtract, restore (over the caller's array). -/

import Derived.Test.YtkaeejkajfinhaaGreatMS15
section
set_option linter.unusedVariables false
set_option linter.unusedSimpArgs false
set_option maxRecDepth 100000
namespace Go.Vs
open Go Go.Proofs
section
attribute [local irreducible] Vs.callL Vs.callRL tyi callO callM callMV appendE storeE evLoad indexAddrO sliceO evFieldAddr evField buildO buildSliceO makeSliceO allocO boxed lenO copyE convertO indexO Vs.gc freezeAll
noncomputable def fx_mag_subtract : FX := ⟨Tryz.f184, hints.of 184, []⟩
theorem ok_mag_subtract : fx_mag_subtract.ok 184 := ⟨by kernel_rfl, of_decide_eq_true (by kernel_rfl), by kernel_rfl, by kernel_rfl, by kernel_rfl, by kernel_rfl⟩
theorem sem_mag_subtract (b0 : Nat) (m : Md) (fs : List Fr) (e : Env) (S : Store) : sem b0 fx_mag_subtract m fs e S = run b0 fx_mag_subtract 1000 m fs e S := (sem_eq _ _ _ _ _ _).trans (run_sem b0 fx_mag_subtract ok_mag_subtract.good 1000 m fs e S).symm
theorem loop_subtract (B : List Int) (e2 : Bool) (hB : OkD WB B) (hb : B.length ≤ 1000000) (q : Int) (hq : 0 ≤ q ∧ q < 4294967296) (off : Nat) (ho : off ≤ 1000000) (ex : Bool) (P Z : List Int) (hP : P.length = off) (X : Obj) (fs : List Fr) : ∀ (r i : Nat), i + r = B.length → ∀ (D W : List Int) (c b : Int), D.length = i → W.length = r + 1 → OkD WB D → OkD WB W → (0 ≤ c ∧ c < 4294967296) → (b = 0 ∨ b = 1) →
    ∃ (O : List Int) (w c' b' : Int), OkD WB O ∧ O.length = B.length ∧ (0 ≤ w ∧ w < 4294967296) ∧ (0 ≤ c' ∧ c' < 4294967296) ∧ (b' = 0 ∨ b' = 1) ∧ (4294967296 : Int) ^ B.length * (w - c' - b') + valD WB O = valD WB D + (4294967296 : Int) ^ i * (valD WB W - q * valD WB (B.drop i) - c - b) ∧ ∀ z : PV × Store, exitTo 2 fx_mag_subtract 0 fs [(0, .msl 0 off (B.length + 1) ex), (1, .sl (kRows .u32 B) e2), (2, .undef), (7, .int .u64 c'), (8, .int .u64 b'), (13, .undef), (14, .undef), (15, .undef), (16, .undef)] [.arr (kRows .u32 (P ++ (O ++ [w]) ++ Z)) (some (some 1)) false, X] = some z →
    loopAt 2 fx_mag_subtract 0 116 2 fs [(0, .msl 0 off (B.length + 1) ex), (1, .sl (kRows .u32 B) e2), (2, .int .u64 q), (7, .int .u64 c), (8, .int .u64 b), (13, .sl (kRows .u32 B) e2), (14, .int .i64 B.length), (15, .int .i64 i)] [.arr (kRows .u32 (P ++ (D ++ W) ++ Z)) (some (some 1)) false, X] = some z := by
  have hM : 3000000 ≤ maxLen := by decide
  intro r
  induction r with
  | zero =>
    intro i hi D W c b hD hW hDo hWo hc hb
    obtain ⟨w, rfl⟩ : ∃ w, W = [w] := List.length_eq_one_iff.1 (by omega)
    have hi : i = B.length := by omega
    subst hi
    have h1 : ¬ ((B.length : Nat) : Int) < (B.length : Int) := by omega
    refine ⟨D, w, c, b, hDo, hD, hWo.head, hc, hb, ?_, fun z hz => ?_⟩
    · rw [List.drop_length]
      have e1 : valD WB [w] = w := by simp [valD]
      have e2 : valD WB [] = 0 := rfl
      rw [e1, e2, Int.mul_zero, Int.sub_zero, Int.add_comm]
    · refine loopAt_step ok_mag_subtract.good 1000 ?_
      ((repeat ((conv => lhs; whnf); simp only [go_sem, ↓reduceIte, Nat.reduceEqDiff, Nat.reduceBEq, Nat.reduceAdd, Nat.reduceMul, Nat.reduceSub, Nat.reduceLT, Nat.reduceLeDiff, reduceCtorEq, Int.reduceToNat, Int.reduceLE, Int.reduceLT, Int.reduceEq, sem_mag_subtract, h1])); try (conv => lhs; whnf); try rfl)
      exact hz
  | succ r ih =>
    intro i hi D W c b hD hW hDo hWo hc hb'
    have h1 : (i : Int) < (B.length : Int) := by omega
    have w1 := wrap_succ (i := i) (n := B.length) (by omega) (by omega)
    have x1 : 0 ≤ (i : Int) ∧ (i : Int) < (B.length : Int) := ⟨by omega, h1⟩
    obtain ⟨u, W', rfl⟩ : ∃ u W', W = u :: W' := by
      cases W with
      | nil => simp at hW
      | cons u W' => exact ⟨u, W', rfl⟩
    have hx := hB.getD (by decide) i
    have hx' : B.getD i 0 < 4294967296 := hx.2
    have hu : 0 ≤ u ∧ u < 4294967296 := hWo.head
    have hy0 : 0 ≤ q * B.getD i 0 := Int.mul_nonneg hq.1 hx.1
    have hy1 : q * B.getD i 0 ≤ 4294967295 * 4294967295 :=
      Int.le_trans (Int.mul_le_mul_of_nonneg_right (show q ≤ 4294967295 by omega) hx.1) (Int.mul_le_mul_of_nonneg_left (by omega) (by decide))
    obtain ⟨y, hy⟩ : ∃ y, y = q * B.getD i 0 := ⟨_, rfl⟩
    rw [← hy] at hy0 hy1
    obtain ⟨lo, hlo⟩ : ∃ lo, lo = (c + y) % 4294967296 := ⟨_, rfl⟩
    obtain ⟨up, hup⟩ : ∃ up, up = (c + y) / 4294967296 := ⟨_, rfl⟩
    obtain ⟨d, hd⟩ : ∃ d, d = (u - lo - b) % 4294967296 := ⟨_, rfl⟩
    obtain ⟨t, ht⟩ : ∃ t, t = (((u - lo - b) % 18446744073709551616) / 9223372036854775808) := ⟨_, rfl⟩
    have ht1 : t = 0 ∨ t = 1 := by omega
    have hd2 : u - lo - b = d - 4294967296 * t := by omega
    have hcy : c + y = lo + 4294967296 * up := by omega
    have hupb : 0 ≤ up ∧ up < 4294967296 := by omega
    obtain ⟨O, w, c', b', o1, o2, o3, o4, o5, o6, o7⟩ := ih (i + 1) (by omega) (D ++ [d]) W' up t (by simp [hD]) (by simpa using hW) (hDo.append (.cons ⟨by omega, by show d < ((4294967296 : Nat) : Int); omega⟩ (.nil _))) hWo.tail hupb ht1
    refine ⟨O, w, c', b', o1, o2, o3, o4, o5, ?_, fun z hz => ?_⟩
    · have e0 : (((WB : Nat) : Int)) = (4294967296 : Int) := rfl
      have e1 : valD WB [d] = d := by simp [valD]
      have e2 : valD WB (u :: W') = u + 4294967296 * valD WB W' := rfl
      have e3 : valD WB (B.drop i) = B.getD i 0 + 4294967296 * valD WB (B.drop (i + 1)) := by rw [list_at B (by omega)]; rfl
      rw [o6, valD_append, hD, e0, e1, e2, e3, Int.pow_succ, Int.mul_assoc, Int.add_assoc, ← Int.mul_add]
      congr 2
      rw [Int.mul_add q, ← hy, Int.mul_left_comm q]
      omega
    · have key := o7 z hz
      have cB : IntKind.u64.wrap (B.getD i 0) = B.getD i 0 := by rw [wU64]; omega
      have cy : IntKind.u64.wrap (q * B.getD i 0) = y := by rw [← hy, wU64]; omega
      have ccy : IntKind.u64.wrap (c + y) = c + y := by rw [wU64]; omega
      have cu : IntKind.u64.wrap u = u := by rw [wU64]; omega
      have c32 : IntKind.u32.wrap (c + y) = lo := by rw [IntKind.wrap_u32, hlo]
      have c64 : IntKind.u64.wrap lo = lo := by rw [wU64]; omega
      have s1 : IntKind.u64.wrap (IntKind.u64.wrap (u - lo) - b) = (u - lo - b) % 18446744073709551616 := by rw [wU64, wU64]; omega
      have s2 : IntKind.u32.wrap ((u - lo - b) % 18446744073709551616) = d := by rw [IntKind.wrap_u32]; omega
      have s3 : (u - lo - b) % 18446744073709551616 / 9223372036854775808 = t := ht.symm
      have s4 : IntKind.u64.wrap t = t := by rw [wU64]; omega
      have s5 : (c + y) / 4294967296 = up := hup.symm
      have s6 : IntKind.u64.wrap up = up := by rw [wU64]; omega
      have len : off + i < (P ++ (D ++ u :: W') ++ Z).length := by simp; omega
      have hl : off + (B.length + 1) ≤ (P ++ (D ++ u :: W') ++ Z).length := by simp at hW ⊢; omega
      have get : (P ++ (D ++ u :: W') ++ Z).getD (off + i) 0 = u := by
        have e : P ++ (D ++ u :: W') ++ Z = (P ++ D) ++ u :: (W' ++ Z) := by simp
        rw [e, ← hP, ← hD, ← List.length_append]; simp [List.getD_eq_getElem?_getD]
      have gk := kRows_get .u32 (P ++ (D ++ u :: W') ++ Z) len
      rw [get] at gk
      have xm := sl_us.idxmk .u32 (S := [.arr (kRows .u32 (P ++ (D ++ u :: W') ++ Z)) (some (some 1)) false, X]) (id := 0) (off := off) (n := B.length + 1) (ex := ex) (L := P ++ (D ++ u :: W') ++ Z) i rfl hl (by omega)
      have set : (kRows .u32 (P ++ (D ++ u :: W') ++ Z)).set (off + i) [.int .u32 d] = kRows .u32 (P ++ (D ++ [d] ++ W') ++ Z) := by
        rw [kRows_set]
        congr 1
        have e : P ++ (D ++ u :: W') ++ Z = (P ++ D) ++ u :: (W' ++ Z) := by simp
        rw [e, ← hP, ← hD, ← List.length_append, List.set_append, if_neg (by omega), Nat.sub_self, List.set_cons_zero]
        simp
      refine loopAt_step ok_mag_subtract.good 1000 ?_
      ((repeat ((conv => lhs; whnf); simp only [go_sem, ↓reduceIte, Nat.reduceEqDiff, Nat.reduceBEq, Nat.reduceAdd, Nat.reduceMul, Nat.reduceSub, Nat.reduceLT, Nat.reduceLeDiff, reduceCtorEq, Int.reduceToNat, Int.reduceLE, Int.reduceLT, Int.reduceEq, sem_mag_subtract, h1, x1, Int.toNat_natCast, cB, cy, ccy, cu, c32, c64, s1, s2, s3, s4, s5, s6, len, gk, xm, set, w1])); try (conv => lhs; whnf); try rfl)
      exact key
theorem call_subtract (B : List Int) (e2 : Bool) (hB : OkD WB B) (hb : B.length ≤ 1000000) (q : Int) (hq : 0 ≤ q ∧ q < 4294967296) (off : Nat) (ho : off ≤ 1000000) (ex : Bool) (P W Z : List Int) (hP : P.length = off) (hW : W.length = B.length + 1) (hWo : OkD WB W) (X : Obj) :
    ∃ (O : List Int) (b : Bool), OkD WB O ∧ O.length = B.length + 1 ∧ valD WB O = valD WB W - q * valD WB B + (4294967296 : Int) ^ (B.length + 1) * (if b then 1 else 0) ∧
    callRL Tryz.prog hints 184 [.msl 0 off (B.length + 1) ex, .sl (kRows .u32 B) e2, .int .u64 q] [.arr (kRows .u32 (P ++ W ++ Z)) (some (some 1)) false, X] = some (.bool b, [.arr (kRows .u32 (P ++ O ++ Z)) (some (some 1)) false, X]) := by
  have hM : 3000000 ≤ maxLen := by decide
  obtain ⟨O, w, c, b, o1, o2, o3, o4, o5, o6, o7⟩ := loop_subtract B e2 hB hb q hq off ho ex P Z hP X [.blk 0, .seq 0 15] B.length 0 (by omega) [] W 0 0 rfl hW (.nil _) hWo ⟨by omega, by omega⟩ (.inl rfl)
  have e0 : (((WB : Nat) : Int)) = (4294967296 : Int) := rfl
  obtain ⟨d, hd⟩ : ∃ d, d = (w - c - b) % 4294967296 := ⟨_, rfl⟩
  obtain ⟨t, ht⟩ : ∃ t, t = (((w - c - b) % 18446744073709551616) / 9223372036854775808) := ⟨_, rfl⟩
  have ht1 : t = 0 ∨ t = 1 := by omega
  have hd2 : w - c - b = d - 4294967296 * t := by omega
  refine ⟨O ++ [d], decide (t = 1), o1.append (.cons ⟨by omega, by show d < ((4294967296 : Nat) : Int); omega⟩ (.nil _)), by simp [o2], ?_, ?_⟩
  · rw [hd2] at o6
    have e1 : valD WB [d] = d := by simp [valD]
    have et : (if decide (t = 1) = true then (1 : Int) else 0) = t := by
      rcases ht1 with h | h <;> simp [h]
    rw [valD_append, o2, e0, e1, et, Int.pow_succ, Int.mul_assoc]
    rw [Int.mul_sub] at o6
    have ev : valD WB [] = 0 := rfl
    simp only [List.drop_zero, ev, Int.pow_zero, Int.one_mul, Int.sub_zero] at o6
    omega
  · have cw : IntKind.u64.wrap w = w := by rw [wU64]; omega
    have s1 : IntKind.u64.wrap (IntKind.u64.wrap (w - c) - b) = (w - c - b) % 18446744073709551616 := by rw [wU64, wU64]; omega
    have s2 : IntKind.u32.wrap ((w - c - b) % 18446744073709551616) = d := by rw [IntKind.wrap_u32]; omega
    have s3 : (w - c - b) % 18446744073709551616 / 9223372036854775808 = t := ht.symm
    have s4 : IntKind.u64.wrap t = t := by rw [wU64]; omega
    have len : off + B.length < (P ++ (O ++ [w]) ++ Z).length := by simp; omega
    have hl : off + (B.length + 1) ≤ (P ++ (O ++ [w]) ++ Z).length := by simp; omega
    have get : (P ++ (O ++ [w]) ++ Z).getD (off + B.length) 0 = w := by
      have e : P ++ (O ++ [w]) ++ Z = (P ++ O) ++ w :: Z := by simp
      rw [e, ← hP, ← o2, ← List.length_append]; simp [List.getD_eq_getElem?_getD]
    have gk := kRows_get .u32 (P ++ (O ++ [w]) ++ Z) len
    rw [get] at gk
    have xm := sl_us.idxmk .u32 (S := [.arr (kRows .u32 (P ++ (O ++ [w]) ++ Z)) (some (some 1)) false, X]) (id := 0) (off := off) (n := B.length + 1) (ex := ex) (L := P ++ (O ++ [w]) ++ Z) B.length rfl hl (by omega)
    have set : (kRows .u32 (P ++ (O ++ [w]) ++ Z)).set (off + B.length) [.int .u32 d] = kRows .u32 (P ++ (O ++ [d]) ++ Z) := by
      rw [kRows_set]
      congr 1
      have e : P ++ (O ++ [w]) ++ Z = (P ++ O) ++ w :: Z := by simp
      rw [e, ← hP, ← o2, ← List.length_append, List.set_append, if_neg (by omega), Nat.sub_self, List.set_cons_zero]
      simp
    have key := o7 (.bool (decide (t = 1)), [.arr (kRows .u32 (P ++ (O ++ [d]) ++ Z)) (some (some 1)) false, X]) (by
      refine exit_run ok_mag_subtract.good 1000 ?_
      ((repeat ((conv => lhs; whnf); simp only [go_sem, ↓reduceIte, Nat.reduceEqDiff, Nat.reduceBEq, Nat.reduceAdd, Nat.reduceMul, Nat.reduceSub, Nat.reduceLT, Nat.reduceLeDiff, reduceCtorEq, Int.reduceToNat, Int.reduceLE, Int.reduceLT, Int.reduceEq, sem_mag_subtract, cw, s1, s2, s3, s4, len, gk, xm, set])); try (conv => lhs; whnf); try rfl))
    refine FX.callRL (r := (.bool (decide (t = 1)), [.arr (kRows .u32 (P ++ (O ++ [d]) ++ Z)) (some (some 1)) false, X])) ok_mag_subtract 1000 rfl rfl ?_
    have key' : loopAt 2 fx_mag_subtract 0 116 2 [.blk 0, .seq 0 15] [(0, .msl 0 off (B.length + 1) ex), (1, .sl (kRows .u32 B) e2), (2, .int .u64 q), (7, .int .u64 0), (8, .int .u64 0), (13, .sl (kRows .u32 B) e2), (14, .int .i64 B.length), (15, .int .i64 0)] [.arr (kRows .u32 (P ++ W ++ Z)) (some (some 1)) false, X] = _ := key
    ((repeat ((conv => lhs; whnf); simp only [go_sem, ↓reduceIte, Nat.reduceEqDiff, Nat.reduceBEq, Nat.reduceAdd, Nat.reduceMul, Nat.reduceSub, Nat.reduceLT, Nat.reduceLeDiff, reduceCtorEq, Int.reduceToNat, Int.reduceLE, Int.reduceLT, Int.reduceEq, sem_mag_subtract])); try (conv => lhs; whnf); try rfl)
    exact key'
end
section
attribute [local irreducible] Vs.callL Vs.callRL tyi callO callM callMV appendE storeE evLoad indexAddrO sliceO evFieldAddr evField buildO buildSliceO makeSliceO allocO boxed lenO copyE convertO indexO Vs.gc freezeAll
noncomputable def fx_mag_restore : FX := ⟨Tryz.f185, hints.of 185, []⟩
theorem ok_mag_restore : fx_mag_restore.ok 185 := ⟨by kernel_rfl, of_decide_eq_true (by kernel_rfl), by kernel_rfl, by kernel_rfl, by kernel_rfl, by kernel_rfl⟩
theorem sem_mag_restore (b0 : Nat) (m : Md) (fs : List Fr) (e : Env) (S : Store) : sem b0 fx_mag_restore m fs e S = run b0 fx_mag_restore 1000 m fs e S := (sem_eq _ _ _ _ _ _).trans (run_sem b0 fx_mag_restore ok_mag_restore.good 1000 m fs e S).symm
theorem loop_restore (B : List Int) (e2 : Bool) (hB : OkD WB B) (hb : B.length ≤ 1000000) (off : Nat) (ho : off ≤ 1000000) (ex : Bool) (P Z : List Int) (hP : P.length = off) (X : Obj) (fs : List Fr) : ∀ (r i : Nat), i + r = B.length → ∀ (D W : List Int) (c : Int), D.length = i → W.length = r + 1 → OkD WB D → OkD WB W → (c = 0 ∨ c = 1) →
    ∃ (O : List Int) (w c' : Int), OkD WB O ∧ O.length = B.length ∧ (0 ≤ w ∧ w < 4294967296) ∧ (c' = 0 ∨ c' = 1) ∧ (4294967296 : Int) ^ B.length * (w + c') + valD WB O = valD WB D + (4294967296 : Int) ^ i * (valD WB W + valD WB (B.drop i) + c) ∧ ∀ z : PV × Store, exitTo 2 fx_mag_restore 0 fs [(0, .msl 0 off (B.length + 1) ex), (1, .sl (kRows .u32 B) e2), (4, .int .u64 c'), (7, .undef), (8, .undef), (9, .undef), (10, .undef)] [.arr (kRows .u32 (P ++ (O ++ [w]) ++ Z)) (some (some 1)) false, X] = some z →
    loopAt 2 fx_mag_restore 0 52 2 fs [(0, .msl 0 off (B.length + 1) ex), (1, .sl (kRows .u32 B) e2), (4, .int .u64 c), (7, .sl (kRows .u32 B) e2), (8, .int .i64 B.length), (9, .int .i64 i)] [.arr (kRows .u32 (P ++ (D ++ W) ++ Z)) (some (some 1)) false, X] = some z := by
  have hM : 3000000 ≤ maxLen := by decide
  intro r
  induction r with
  | zero =>
    intro i hi D W c hD hW hDo hWo hc
    obtain ⟨w, rfl⟩ : ∃ w, W = [w] := List.length_eq_one_iff.1 (by omega)
    have hi : i = B.length := by omega
    subst hi
    have h1 : ¬ ((B.length : Nat) : Int) < (B.length : Int) := by omega
    refine ⟨D, w, c, hDo, hD, hWo.head, hc, ?_, fun z hz => ?_⟩
    · rw [List.drop_length]
      have e1 : valD WB [w] = w := by simp [valD]
      have e2 : valD WB [] = 0 := rfl
      rw [e1, e2, Int.add_zero, Int.add_comm]
    · refine loopAt_step ok_mag_restore.good 1000 ?_
      ((repeat ((conv => lhs; whnf); simp only [go_sem, ↓reduceIte, Nat.reduceEqDiff, Nat.reduceBEq, Nat.reduceAdd, Nat.reduceMul, Nat.reduceSub, Nat.reduceLT, Nat.reduceLeDiff, reduceCtorEq, Int.reduceToNat, Int.reduceLE, Int.reduceLT, Int.reduceEq, sem_mag_restore, h1])); try (conv => lhs; whnf); try rfl)
      exact hz
  | succ r ih =>
    intro i hi D W c hD hW hDo hWo hc
    have h1 : (i : Int) < (B.length : Int) := by omega
    have w1 := wrap_succ (i := i) (n := B.length) (by omega) (by omega)
    have x1 : 0 ≤ (i : Int) ∧ (i : Int) < (B.length : Int) := ⟨by omega, h1⟩
    obtain ⟨u, W', rfl⟩ : ∃ u W', W = u :: W' := by
      cases W with
      | nil => simp at hW
      | cons u W' => exact ⟨u, W', rfl⟩
    have hx := hB.getD (by decide) i
    have hx' : B.getD i 0 < 4294967296 := hx.2
    have hu : 0 ≤ u ∧ u < 4294967296 := hWo.head
    obtain ⟨y, hy⟩ : ∃ y, y = B.getD i 0 := ⟨_, rfl⟩
    rw [← hy] at hx hx'
    obtain ⟨lo, hlo⟩ : ∃ lo, lo = (c + (u + y)) % 4294967296 := ⟨_, rfl⟩
    obtain ⟨up, hup⟩ : ∃ up, up = (c + (u + y)) / 4294967296 := ⟨_, rfl⟩
    have hcy : c + (u + y) = lo + 4294967296 * up := by omega
    have hupb : up = 0 ∨ up = 1 := by omega
    obtain ⟨O, w, c', o1, o2, o3, o4, o6, o7⟩ := ih (i + 1) (by omega) (D ++ [lo]) W' up (by simp [hD]) (by simpa using hW) (hDo.append (.cons ⟨by omega, by show lo < ((4294967296 : Nat) : Int); omega⟩ (.nil _))) hWo.tail hupb
    refine ⟨O, w, c', o1, o2, o3, o4, ?_, fun z hz => ?_⟩
    · have e0 : (((WB : Nat) : Int)) = (4294967296 : Int) := rfl
      have e1 : valD WB [lo] = lo := by simp [valD]
      have e2 : valD WB (u :: W') = u + 4294967296 * valD WB W' := rfl
      have e3 : valD WB (B.drop i) = B.getD i 0 + 4294967296 * valD WB (B.drop (i + 1)) := by rw [list_at B (by omega)]; rfl
      rw [o6, valD_append, hD, e0, e1, e2, e3, Int.pow_succ, Int.mul_assoc, Int.add_assoc, ← Int.mul_add]
      congr 2
      omega
    · have key := o7 z hz
      have cy : IntKind.u64.wrap y = y := by rw [wU64]; omega
      have cu : IntKind.u64.wrap u = u := by rw [wU64]; omega
      have cuy : IntKind.u64.wrap (u + y) = u + y := by rw [wU64]; omega
      have ccy : IntKind.u64.wrap (c + (u + y)) = c + (u + y) := by rw [wU64]; omega
      have c32 : IntKind.u32.wrap (c + (u + y)) = lo := by rw [IntKind.wrap_u32, hlo]
      have s5 : (c + (u + y)) / 4294967296 = up := hup.symm
      have s6 : IntKind.u64.wrap up = up := by rw [wU64]; omega
      have len : off + i < (P ++ (D ++ u :: W') ++ Z).length := by simp; omega
      have hl : off + (B.length + 1) ≤ (P ++ (D ++ u :: W') ++ Z).length := by simp at hW ⊢; omega
      have get : (P ++ (D ++ u :: W') ++ Z).getD (off + i) 0 = u := by
        have e : P ++ (D ++ u :: W') ++ Z = (P ++ D) ++ u :: (W' ++ Z) := by simp
        rw [e, ← hP, ← hD, ← List.length_append]; simp [List.getD_eq_getElem?_getD]
      have gk := kRows_get .u32 (P ++ (D ++ u :: W') ++ Z) len
      rw [get] at gk
      have xm := sl_us.idxmk .u32 (S := [.arr (kRows .u32 (P ++ (D ++ u :: W') ++ Z)) (some (some 1)) false, X]) (id := 0) (off := off) (n := B.length + 1) (ex := ex) (L := P ++ (D ++ u :: W') ++ Z) i rfl hl (by omega)
      have set : (kRows .u32 (P ++ (D ++ u :: W') ++ Z)).set (off + i) [.int .u32 lo] = kRows .u32 (P ++ (D ++ [lo] ++ W') ++ Z) := by
        rw [kRows_set]
        congr 1
        have e : P ++ (D ++ u :: W') ++ Z = (P ++ D) ++ u :: (W' ++ Z) := by simp
        rw [e, ← hP, ← hD, ← List.length_append, List.set_append, if_neg (by omega), Nat.sub_self, List.set_cons_zero]
        simp
      refine loopAt_step ok_mag_restore.good 1000 ?_
      ((repeat ((conv => lhs; whnf); simp only [go_sem, ↓reduceIte, Nat.reduceEqDiff, Nat.reduceBEq, Nat.reduceAdd, Nat.reduceMul, Nat.reduceSub, Nat.reduceLT, Nat.reduceLeDiff, reduceCtorEq, Int.reduceToNat, Int.reduceLE, Int.reduceLT, Int.reduceEq, sem_mag_restore, h1, x1, Int.toNat_natCast, ← hy, cy, cu, cuy, ccy, c32, s5, s6, len, gk, xm, set, w1])); try (conv => lhs; whnf); try rfl)
      exact key
theorem call_restore (B : List Int) (e2 : Bool) (hB : OkD WB B) (hb : B.length ≤ 1000000) (off : Nat) (ho : off ≤ 1000000) (ex : Bool) (P W Z : List Int) (hP : P.length = off) (hW : W.length = B.length + 1) (hWo : OkD WB W) (X : Obj) :
    ∃ (O : List Int) (t : Int), OkD WB O ∧ O.length = B.length + 1 ∧ (4294967296 : Int) ^ (B.length + 1) * t + valD WB O = valD WB W + valD WB B ∧
    callRL Tryz.prog hints 185 [.msl 0 off (B.length + 1) ex, .sl (kRows .u32 B) e2] [.arr (kRows .u32 (P ++ W ++ Z)) (some (some 1)) false, X] = some (.tup [], [.arr (kRows .u32 (P ++ O ++ Z)) (some (some 1)) false, X]) := by
  have hM : 3000000 ≤ maxLen := by decide
  obtain ⟨O, w, c, o1, o2, o3, o4, o6, o7⟩ := loop_restore B e2 hB hb off ho ex P Z hP X [.blk 0, .seq 0 7] B.length 0 (by omega) [] W 0 rfl hW (.nil _) hWo (.inl rfl)
  have e0 : (((WB : Nat) : Int)) = (4294967296 : Int) := rfl
  obtain ⟨d, hd⟩ : ∃ d, d = (w + c) % 4294967296 := ⟨_, rfl⟩
  obtain ⟨t, ht⟩ : ∃ t, t = (w + c) / 4294967296 := ⟨_, rfl⟩
  have hd2 : w + c = d + 4294967296 * t := by omega
  refine ⟨O ++ [d], t, o1.append (.cons ⟨by omega, by show d < ((4294967296 : Nat) : Int); omega⟩ (.nil _)), by simp [o2], ?_, ?_⟩
  · rw [hd2] at o6
    have e1 : valD WB [d] = d := by simp [valD]
    rw [valD_append, o2, e0, e1, Int.pow_succ, Int.mul_assoc]
    rw [Int.mul_add] at o6
    have ev : valD WB [] = 0 := rfl
    simp only [List.drop_zero, ev, Int.pow_zero, Int.one_mul, Int.zero_add, Int.add_zero] at o6
    omega
  · have cc : IntKind.u32.wrap c = c := by rw [IntKind.wrap_u32]; omega
    have s2 : IntKind.u32.wrap (w + c) = d := by rw [IntKind.wrap_u32]; omega
    have len : off + B.length < (P ++ (O ++ [w]) ++ Z).length := by simp; omega
    have hl : off + (B.length + 1) ≤ (P ++ (O ++ [w]) ++ Z).length := by simp; omega
    have get : (P ++ (O ++ [w]) ++ Z).getD (off + B.length) 0 = w := by
      have e : P ++ (O ++ [w]) ++ Z = (P ++ O) ++ w :: Z := by simp
      rw [e, ← hP, ← o2, ← List.length_append]; simp [List.getD_eq_getElem?_getD]
    have gk := kRows_get .u32 (P ++ (O ++ [w]) ++ Z) len
    rw [get] at gk
    have xm := sl_us.idxmk .u32 (S := [.arr (kRows .u32 (P ++ (O ++ [w]) ++ Z)) (some (some 1)) false, X]) (id := 0) (off := off) (n := B.length + 1) (ex := ex) (L := P ++ (O ++ [w]) ++ Z) B.length rfl hl (by omega)
    have set : (kRows .u32 (P ++ (O ++ [w]) ++ Z)).set (off + B.length) [.int .u32 d] = kRows .u32 (P ++ (O ++ [d]) ++ Z) := by
      rw [kRows_set]
      congr 1
      have e : P ++ (O ++ [w]) ++ Z = (P ++ O) ++ w :: Z := by simp
      rw [e, ← hP, ← o2, ← List.length_append, List.set_append, if_neg (by omega), Nat.sub_self, List.set_cons_zero]
      simp
    have key := o7 (.tup [], [.arr (kRows .u32 (P ++ (O ++ [d]) ++ Z)) (some (some 1)) false, X]) (by
      refine exit_run ok_mag_restore.good 1000 ?_
      ((repeat ((conv => lhs; whnf); simp only [go_sem, ↓reduceIte, Nat.reduceEqDiff, Nat.reduceBEq, Nat.reduceAdd, Nat.reduceMul, Nat.reduceSub, Nat.reduceLT, Nat.reduceLeDiff, reduceCtorEq, Int.reduceToNat, Int.reduceLE, Int.reduceLT, Int.reduceEq, sem_mag_restore, cc, s2, len, gk, xm, set])); try (conv => lhs; whnf); try rfl))
    refine FX.callRL (r := (.tup [], [.arr (kRows .u32 (P ++ (O ++ [d]) ++ Z)) (some (some 1)) false, X])) ok_mag_restore 1000 rfl rfl ?_
    have key' : loopAt 2 fx_mag_restore 0 52 2 [.blk 0, .seq 0 7] [(0, .msl 0 off (B.length + 1) ex), (1, .sl (kRows .u32 B) e2), (4, .int .u64 0), (7, .sl (kRows .u32 B) e2), (8, .int .i64 B.length), (9, .int .i64 0)] [.arr (kRows .u32 (P ++ W ++ Z)) (some (some 1)) false, X] = _ := key
    ((repeat ((conv => lhs; whnf); simp only [go_sem, ↓reduceIte, Nat.reduceEqDiff, Nat.reduceBEq, Nat.reduceAdd, Nat.reduceMul, Nat.reduceSub, Nat.reduceLT, Nat.reduceLeDiff, reduceCtorEq, Int.reduceToNat, Int.reduceLE, Int.reduceLT, Int.reduceEq, sem_mag_restore])); try (conv => lhs; whnf); try rfl)
    exact key'
end
end Go.Vs
end
/- Magnitudes in the program: DivMod, a digit's guess. -/
section
set_option linter.unusedVariables false
set_option linter.unusedSimpArgs false
set_option maxRecDepth 100000
namespace Go.Vs
open Go Go.Proofs
/-! ### Plain laws -/
theorem guess_step {W V Wk T v1 v0 g r num u2 : Int} (hWk : 0 ≤ Wk) (hT : T = num * 4294967296 + u2) (hW : W < (T + 1) * Wk) (hV : (v1 * 4294967296 + v0) * Wk ≤ V) (hg : 0 ≤ g) (e : g * v1 + r = num) (h : r * 4294967296 + u2 < g * v0) : W < g * V := by
  have h1 : T + 1 ≤ g * (v1 * 4294967296 + v0) := by
    rw [Int.mul_add, ← Int.mul_assoc, hT, ← e, Int.add_mul]
    omega
  have h2 : (T + 1) * Wk ≤ g * (v1 * 4294967296 + v0) * Wk := Int.mul_le_mul_of_nonneg_right h1 hWk
  have h3 : g * ((v1 * 4294967296 + v0) * Wk) ≤ g * V := Int.mul_le_mul_of_nonneg_left hV hg
  rw [← Int.mul_assoc] at h3
  omega
theorem guess_big {W V g : Int} (hV : 0 ≤ V) (hWV : W < 4294967296 * V) (h : 4294967296 ≤ g) : W < g * V := by
  have := Int.mul_le_mul_of_nonneg_right h hV
  omega
theorem guess_fin {W V Wk T t g : Int} (hWk : 0 ≤ Wk) (hg : 0 ≤ g) (hg2 : g < 4294967296) (h : g * t ≤ T) (hW : T * Wk ≤ W) (hV : V ≤ t * Wk + Wk) (hV2 : 4294967296 * Wk ≤ V) : g * V ≤ W + V := by
  have h1 : g * V ≤ g * (t * Wk + Wk) := Int.mul_le_mul_of_nonneg_left hV hg
  have h2 : g * t * Wk ≤ T * Wk := Int.mul_le_mul_of_nonneg_right h hWk
  have h3 : g * Wk ≤ 4294967296 * Wk := Int.mul_le_mul_of_nonneg_right (by omega) hWk
  rw [Int.mul_add, ← Int.mul_assoc] at h1
  omega
theorem guess_out {v1 v0 g r num u2 T : Int} (hT : T = num * 4294967296 + u2) (hu : 0 ≤ u2) (hv1 : 0 < v1) (hv0 : 0 ≤ v0 ∧ v0 < 4294967296) (hn : num < v1 * 4294967296 + 4294967296) (hg : 0 ≤ g) (e : g * v1 + r = num) (h : 4294967296 ≤ r) : g < 4294967296 ∧ g * (v1 * 4294967296 + v0) ≤ T := by
  have h1 : g < 4294967296 := by
    have a : g * v1 < 4294967296 * v1 := by rw [Int.mul_comm 4294967296 v1]; omega
    exact Int.lt_of_mul_lt_mul_right a (Int.le_of_lt hv1)
  refine ⟨h1, ?_⟩
  have a1 : g * v0 ≤ 4294967295 * v0 := Int.mul_le_mul_of_nonneg_right (by omega) hv0.1
  rw [Int.mul_add, ← Int.mul_assoc, hT, ← e, Int.add_mul]
  omega
theorem guess_ok {v1 v0 g r num u2 T : Int} (hT : T = num * 4294967296 + u2) (e : g * v1 + r = num) (h : g * v0 ≤ r * 4294967296 + u2) : g * (v1 * 4294967296 + v0) ≤ T := by
  rw [Int.mul_add, ← Int.mul_assoc, hT, ← e, Int.add_mul]
  omega
section
attribute [local irreducible] Vs.callL Vs.callRL tyi callO callM callMV appendE storeE evLoad indexAddrO sliceO evFieldAddr evField buildO buildSliceO makeSliceO allocO boxed lenO copyE convertO indexO Vs.gc freezeAll
noncomputable def fx_mag_DivMod : FX := ⟨Tryz.f169, hints.of 169, []⟩
theorem ok_mag_DivMod : fx_mag_DivMod.ok 169 := ⟨by kernel_rfl, of_decide_eq_true (by kernel_rfl), by kernel_rfl, by kernel_rfl, by kernel_rfl, by kernel_rfl⟩
theorem sem_mag_DivMod (b0 : Nat) (m : Md) (fs : List Fr) (e : Env) (S : Store) : sem b0 fx_mag_DivMod m fs e S = run b0 fx_mag_DivMod 1000 m fs e S := (sem_eq _ _ _ _ _ _).trans (run_sem b0 fx_mag_DivMod ok_mag_DivMod.good 1000 m fs e S).symm
theorem loop_guess (U Q B : List Int) (e2 : Bool) (J k j : Nat) (sh : Int) (v1 v0 u2 num W V Wk T : Int) (hU : U.length ≤ 2000000) (hjk : j + k < U.length) (hk : 2 ≤ k) (hv1 : 0 < v1 ∧ v1 < 4294967296) (hv0 : 0 ≤ v0 ∧ v0 < 4294967296) (hu2 : U.getD (j + k - 2) 0 = u2) (hu : 0 ≤ u2 ∧ u2 < 4294967296)
    (hT : T = num * 4294967296 + u2) (hn : num < v1 * 4294967296 + 4294967296) (hWk : 0 ≤ Wk) (hV0 : 0 ≤ V) (hW0 : 0 ≤ W) (hW : W < (T + 1) * Wk) (hV : (v1 * 4294967296 + v0) * Wk ≤ V) (hWV : W < 4294967296 * V) (fs : List Fr) : ∀ (f : Nat) (tl : Env) (g r : Int), (tl = [] ∨ tl = [(127, .undef), (134, .undef)]) → g ≤ f → (0 ≤ g ∧ g < 9223372036854775808) → (0 ≤ r ∧ r < 4294967296) → g * v1 + r = num → W < (g + 1) * V →
    ∃ g' : Int, (0 ≤ g' ∧ g' < 4294967296) ∧ g' * (v1 * 4294967296 + v0) ≤ T ∧ W < (g' + 1) * V ∧ ∀ z : PV × Store, exitTo 0 fx_mag_DivMod 2 fs [(4, .msl 1 0 J true), (8, .int .i64 sh), (9, .sl (kRows .u32 B) e2), (10, .msl 0 0 U.length true), (11, .int .i64 k), (12, .int .u64 v1), (13, .int .u64 v0), (14, .int .i64 j), (16, .int .u64 g'), (17, .undef), (127, .undef), (134, .undef)] [.arr (kRows .u32 U) (some (some 1)) false, .arr (kRows .u32 Q) (some (some 1)) false] = some z →
    loopAt 0 fx_mag_DivMod 2 8385688 2 fs ([(4, .msl 1 0 J true), (8, .int .i64 sh), (9, .sl (kRows .u32 B) e2), (10, .msl 0 0 U.length true), (11, .int .i64 k), (12, .int .u64 v1), (13, .int .u64 v0), (14, .int .i64 j), (16, .int .u64 g), (17, .int .u64 r)] ++ tl) [.arr (kRows .u32 U) (some (some 1)) false, .arr (kRows .u32 Q) (some (some 1)) false] = some z := by
  have hM : 3000000 ≤ maxLen := by decide
  intro f
  have wi : IntKind.i64.wrap ((j : Int) + (k : Int)) = ((j + k : Nat) : Int) := by rw [IntKind.wrap_i64]; omega
  have wi2 : IntKind.i64.wrap (((j + k : Nat) : Int) - 2) = ((j + k - 2 : Nat) : Int) := by rw [IntKind.wrap_i64]; omega
  have xm := sl_us.idxmk .u32 (S := [.arr (kRows .u32 U) (some (some 1)) false, .arr (kRows .u32 Q) (some (some 1)) false]) (id := 0) (off := 0) (n := U.length) (ex := true) (L := U) (j + k - 2) rfl (by omega) (by omega)
  rw [Nat.zero_add] at xm
  have len : j + k - 2 < U.length := by omega
  have gk := kRows_get .u32 U len
  rw [hu2] at gk
  have cu : IntKind.u64.wrap u2 = u2 := by rw [wU64]; omega
  have stepw : ∀ g r : Int, (0 < g ∧ g < 9223372036854775808) → (0 ≤ r ∧ r < 4294967296) → IntKind.u64.wrap (g - 1) = g - 1 ∧ IntKind.u64.wrap (r + v1) = r + v1 ∧ IntKind.u64.wrap (r * 4294967296) = r * 4294967296 ∧ bor .u64 (r * 4294967296) u2 = r * 4294967296 + u2 := fun g r hg hr => by
    refine ⟨by rw [wU64]; omega, by rw [wU64]; omega, by rw [wU64]; omega, bor_high hr hu⟩
  have stepv : ∀ g r : Int, g * v1 + r = num → (g - 1) * v1 + (r + v1) = num := fun g r e => by rw [Int.sub_mul]; omega
  have fin : ∀ (tl : Env) (g r : Int), (tl = [] ∨ tl = [(127, .undef), (134, .undef)]) → (0 ≤ g ∧ g < 9223372036854775808) → (0 ≤ r ∧ r < 4294967296) → g * v1 + r = num → W < (g + 1) * V → ¬ 4294967296 ≤ g → ¬ r * 4294967296 + u2 < g * v0 → ∃ g' : Int, (0 ≤ g' ∧ g' < 4294967296) ∧ g' * (v1 * 4294967296 + v0) ≤ T ∧ W < (g' + 1) * V ∧ ∀ z : PV × Store, exitTo 0 fx_mag_DivMod 2 fs [(4, .msl 1 0 J true), (8, .int .i64 sh), (9, .sl (kRows .u32 B) e2), (10, .msl 0 0 U.length true), (11, .int .i64 k), (12, .int .u64 v1), (13, .int .u64 v0), (14, .int .i64 j), (16, .int .u64 g'), (17, .undef), (127, .undef), (134, .undef)] [.arr (kRows .u32 U) (some (some 1)) false, .arr (kRows .u32 Q) (some (some 1)) false] = some z →
    loopAt 0 fx_mag_DivMod 2 8385688 2 fs ([(4, .msl 1 0 J true), (8, .int .i64 sh), (9, .sl (kRows .u32 B) e2), (10, .msl 0 0 U.length true), (11, .int .i64 k), (12, .int .u64 v1), (13, .int .u64 v0), (14, .int .i64 j), (16, .int .u64 g), (17, .int .u64 r)] ++ tl) [.arr (kRows .u32 U) (some (some 1)) false, .arr (kRows .u32 Q) (some (some 1)) false] = some z := by
    intro tl g r htl hg hr e hlow c1 c2
    have sh := bor_high (h := r) (l := u2) hr hu
    have sw : IntKind.u64.wrap (r * 4294967296) = r * 4294967296 := by rw [wU64]; omega
    have y0 : 0 ≤ g * v0 := Int.mul_nonneg hg.1 hv0.1
    have y1 : g * v0 ≤ 4294967295 * 4294967295 :=
      Int.le_trans (Int.mul_le_mul_of_nonneg_right (show g ≤ 4294967295 by omega) hv0.1) (Int.mul_le_mul_of_nonneg_left (by omega) (by decide))
    have yw : IntKind.u64.wrap (g * v0) = g * v0 := by rw [wU64]; omega
    refine ⟨g, ⟨hg.1, by omega⟩, guess_ok hT e (by omega), hlow, fun z hz => ?_⟩
    refine loopAt_step ok_mag_DivMod.good 1000 ?_
    rcases htl with rfl | rfl
    all_goals
      simp only [List.append_nil, List.cons_append, List.nil_append]
      ((repeat ((conv => lhs; whnf); simp only [go_sem, ↓reduceIte, Nat.reduceEqDiff, Nat.reduceBEq, Nat.reduceAdd, Nat.reduceMul, Nat.reduceSub, Nat.reduceLT, Nat.reduceLeDiff, reduceCtorEq, Int.reduceToNat, Int.reduceLE, Int.reduceLT, Int.reduceEq, sem_mag_DivMod, c1, c2, wi, wi2, xm, len, gk, cu, sh, sw, yw])); try (conv => lhs; whnf); try rfl)
      exact hz
  have brk : ∀ (tl : Env) (g r : Int), (tl = [] ∨ tl = [(127, .undef), (134, .undef)]) → (0 < g ∧ g < 9223372036854775808) → (0 ≤ r ∧ r < 4294967296) → g * v1 + r = num → W < g * V → 4294967296 ≤ g ∨ (¬ 4294967296 ≤ g ∧ r * 4294967296 + u2 < g * v0) → 4294967296 ≤ r + v1 → ∃ g' : Int, (0 ≤ g' ∧ g' < 4294967296) ∧ g' * (v1 * 4294967296 + v0) ≤ T ∧ W < (g' + 1) * V ∧ ∀ z : PV × Store, exitTo 0 fx_mag_DivMod 2 fs [(4, .msl 1 0 J true), (8, .int .i64 sh), (9, .sl (kRows .u32 B) e2), (10, .msl 0 0 U.length true), (11, .int .i64 k), (12, .int .u64 v1), (13, .int .u64 v0), (14, .int .i64 j), (16, .int .u64 g'), (17, .undef), (127, .undef), (134, .undef)] [.arr (kRows .u32 U) (some (some 1)) false, .arr (kRows .u32 Q) (some (some 1)) false] = some z →
    loopAt 0 fx_mag_DivMod 2 8385688 2 fs ([(4, .msl 1 0 J true), (8, .int .i64 sh), (9, .sl (kRows .u32 B) e2), (10, .msl 0 0 U.length true), (11, .int .i64 k), (12, .int .u64 v1), (13, .int .u64 v0), (14, .int .i64 j), (16, .int .u64 g), (17, .int .u64 r)] ++ tl) [.arr (kRows .u32 U) (some (some 1)) false, .arr (kRows .u32 Q) (some (some 1)) false] = some z := by
    intro tl g r htl hg hr e hlow hc hr2
    obtain ⟨g1, g2⟩ := guess_out hT hu.1 hv1.1 hv0 hn (show 0 ≤ g - 1 by omega) (stepv g r e) hr2
    obtain ⟨s1, s2, s3, s4⟩ := stepw g r hg hr
    refine ⟨g - 1, ⟨by omega, g1⟩, g2, by rw [Int.sub_add_cancel]; exact hlow, fun z hz => ?_⟩
    refine loopAt_step ok_mag_DivMod.good 1000 ?_
    rcases hc with c1 | ⟨c1, c2⟩
    · rcases htl with rfl | rfl
      all_goals
        simp only [List.append_nil, List.cons_append, List.nil_append]
        ((repeat ((conv => lhs; whnf); simp only [go_sem, ↓reduceIte, Nat.reduceEqDiff, Nat.reduceBEq, Nat.reduceAdd, Nat.reduceMul, Nat.reduceSub, Nat.reduceLT, Nat.reduceLeDiff, reduceCtorEq, Int.reduceToNat, Int.reduceLE, Int.reduceLT, Int.reduceEq, sem_mag_DivMod, c1, s1, s2, hr2])); try (conv => lhs; whnf); try rfl)
        exact hz
    · have y0 : 0 ≤ g * v0 := Int.mul_nonneg (by omega) hv0.1
      have y1 : g * v0 ≤ 4294967295 * 4294967295 :=
        Int.le_trans (Int.mul_le_mul_of_nonneg_right (show g ≤ 4294967295 by omega) hv0.1) (Int.mul_le_mul_of_nonneg_left (by omega) (by decide))
      have yw : IntKind.u64.wrap (g * v0) = g * v0 := by rw [wU64]; omega
      rcases htl with rfl | rfl
      all_goals
        simp only [List.append_nil, List.cons_append, List.nil_append]
        ((repeat ((conv => lhs; whnf); simp only [go_sem, ↓reduceIte, Nat.reduceEqDiff, Nat.reduceBEq, Nat.reduceAdd, Nat.reduceMul, Nat.reduceSub, Nat.reduceLT, Nat.reduceLeDiff, reduceCtorEq, Int.reduceToNat, Int.reduceLE, Int.reduceLT, Int.reduceEq, sem_mag_DivMod, c1, c2, wi, wi2, xm, len, gk, cu, s3, s4, yw, s1, s2, hr2])); try (conv => lhs; whnf); try rfl)
        exact hz
  have cont : ∀ (tl : Env) (g r : Int) (z : PV × Store), (tl = [] ∨ tl = [(127, .undef), (134, .undef)]) → (0 < g ∧ g < 9223372036854775808) → (0 ≤ r ∧ r < 4294967296) → 4294967296 ≤ g ∨ (¬ 4294967296 ≤ g ∧ r * 4294967296 + u2 < g * v0) → ¬ 4294967296 ≤ r + v1 → loopAt 0 fx_mag_DivMod 2 8385688 2 fs [(4, .msl 1 0 J true), (8, .int .i64 sh), (9, .sl (kRows .u32 B) e2), (10, .msl 0 0 U.length true), (11, .int .i64 k), (12, .int .u64 v1), (13, .int .u64 v0), (14, .int .i64 j), (16, .int .u64 (g - 1)), (17, .int .u64 (r + v1)), (127, .undef), (134, .undef)] [.arr (kRows .u32 U) (some (some 1)) false, .arr (kRows .u32 Q) (some (some 1)) false] = some z →
    loopAt 0 fx_mag_DivMod 2 8385688 2 fs ([(4, .msl 1 0 J true), (8, .int .i64 sh), (9, .sl (kRows .u32 B) e2), (10, .msl 0 0 U.length true), (11, .int .i64 k), (12, .int .u64 v1), (13, .int .u64 v0), (14, .int .i64 j), (16, .int .u64 g), (17, .int .u64 r)] ++ tl) [.arr (kRows .u32 U) (some (some 1)) false, .arr (kRows .u32 Q) (some (some 1)) false] = some z := by
    intro tl g r z htl hg hr hc hr2 hz
    obtain ⟨s1, s2, s3, s4⟩ := stepw g r hg hr
    refine loopAt_step ok_mag_DivMod.good 1000 ?_
    rcases hc with c1 | ⟨c1, c2⟩
    · rcases htl with rfl | rfl
      all_goals
        simp only [List.append_nil, List.cons_append, List.nil_append]
        ((repeat ((conv => lhs; whnf); simp only [go_sem, ↓reduceIte, Nat.reduceEqDiff, Nat.reduceBEq, Nat.reduceAdd, Nat.reduceMul, Nat.reduceSub, Nat.reduceLT, Nat.reduceLeDiff, reduceCtorEq, Int.reduceToNat, Int.reduceLE, Int.reduceLT, Int.reduceEq, sem_mag_DivMod, c1, s1, s2, hr2])); try (conv => lhs; whnf); try rfl)
        exact hz
    · have y0 : 0 ≤ g * v0 := Int.mul_nonneg (by omega) hv0.1
      have y1 : g * v0 ≤ 4294967295 * 4294967295 :=
        Int.le_trans (Int.mul_le_mul_of_nonneg_right (show g ≤ 4294967295 by omega) hv0.1) (Int.mul_le_mul_of_nonneg_left (by omega) (by decide))
      have yw : IntKind.u64.wrap (g * v0) = g * v0 := by rw [wU64]; omega
      rcases htl with rfl | rfl
      all_goals
        simp only [List.append_nil, List.cons_append, List.nil_append]
        ((repeat ((conv => lhs; whnf); simp only [go_sem, ↓reduceIte, Nat.reduceEqDiff, Nat.reduceBEq, Nat.reduceAdd, Nat.reduceMul, Nat.reduceSub, Nat.reduceLT, Nat.reduceLeDiff, reduceCtorEq, Int.reduceToNat, Int.reduceLE, Int.reduceLT, Int.reduceEq, sem_mag_DivMod, c1, c2, wi, wi2, xm, len, gk, cu, s3, s4, yw, s1, s2, hr2])); try (conv => lhs; whnf); try rfl)
        exact hz
  induction f with
  | zero =>
    intro tl g r htl hf hg hr e hlow
    have : g = 0 := by omega
    subst this
    exact fin tl 0 r htl hg hr e hlow (by decide) (by rw [Int.zero_mul]; omega)
  | succ f ih =>
    intro tl g r htl hf hg hr e hlow
    by_cases hc : 4294967296 ≤ g ∨ (¬ 4294967296 ≤ g ∧ r * 4294967296 + u2 < g * v0)
    · have low : W < g * V := by
        rcases hc with c1 | ⟨c1, c2⟩
        · exact guess_big hV0 hWV c1
        · exact guess_step hWk hT hW hV hg.1 e c2
      have g0 : 0 < g := by
        rcases Int.lt_or_eq_of_le hg.1 with h | h
        · exact h
        · rw [← h, Int.zero_mul] at low; omega
      by_cases hr2 : 4294967296 ≤ r + v1
      · exact brk tl g r htl ⟨g0, hg.2⟩ hr e low hc hr2
      · obtain ⟨g', i1, i2, i3, i4⟩ := ih [(127, .undef), (134, .undef)] (g - 1) (r + v1) (.inr rfl) (by omega) ⟨by omega, by omega⟩ ⟨by omega, by omega⟩ (stepv g r e) (by rw [Int.sub_add_cancel]; exact low)
        exact ⟨g', i1, i2, i3, fun z hz => cont tl g r z htl ⟨g0, hg.2⟩ hr hc hr2 (i4 z hz)⟩
    · exact fin tl g r htl hg hr e hlow (fun c => hc (.inl c)) (fun c => hc (.inr ⟨fun c1 => hc (.inl c1), c⟩))
end
end Go.Vs
end
