
import Derived.Test.YtkaeejkajfinhaaGreatMI15
section
set_option linter.unusedVariables false
set_option linter.unusedSimpArgs false
set_option maxRecDepth 100000
namespace Go.Vs
open Go Go.Proofs
section
attribute [local irreducible] Vs.callL Vs.callRL tyi callO callM callMV appendE storeE evLoad indexAddrO sliceO evFieldAddr evField buildO buildSliceO makeSliceO allocO boxed lenO copyE convertO indexO Vs.gc freezeAll
noncomputable def fx184_ : FX := ⟨Tryz.f184, hints.of 184, []⟩
theorem ok184_ : fx184_.ok 184 := ⟨by kernel_rfl, of_decide_eq_true (by kernel_rfl), by kernel_rfl, by kernel_rfl, by kernel_rfl, by kernel_rfl⟩
theorem sem184_ (b0 : Nat) (m : Md) (fs : List Fr) (e : Env) (S : Store) : sem b0 fx184_ m fs e S = run b0 fx184_ 1000 m fs e S := (sem_eq _ _ _ _ _ _).trans (run_sem b0 fx184_ ok184_.good 1000 m fs e S).symm
theorem loop_subtract (B : List Int) (e2 : Bool) (hB : OkD WB B) (hb : B.length ≤ 1000000) (q : Int) (hq : 0 ≤ q ∧ q < 4294967296) (off : Nat) (ho : off ≤ 1000000) (ex : Bool) (P Z : List Int) (hP : P.length = off) (X : Obj) (fs : List Fr) : ∀ (r i : Nat), i + r = B.length → ∀ (D W : List Int) (c b : Int), D.length = i → W.length = r + 1 → OkD WB D → OkD WB W → (0 ≤ c ∧ c < 4294967296) → (b = 0 ∨ b = 1) →
    ∃ (O : List Int) (w c' b' : Int), OkD WB O ∧ O.length = B.length ∧ (0 ≤ w ∧ w < 4294967296) ∧ (0 ≤ c' ∧ c' < 4294967296) ∧ (b' = 0 ∨ b' = 1) ∧ (4294967296 : Int) ^ B.length * (w - c' - b') + valD WB O = valD WB D + (4294967296 : Int) ^ i * (valD WB W - q * valD WB (B.drop i) - c - b) ∧ ∀ z : PV × Store, exitTo 2 fx184_ 0 fs [(0, .msl 0 off (B.length + 1) ex), (1, .sl (kRows .u32 B) e2), (2, .undef), (7, .int .u64 c'), (8, .int .u64 b'), (13, .undef), (14, .undef), (15, .undef), (16, .undef)] [.arr (kRows .u32 (P ++ (O ++ [w]) ++ Z)) (some (some 1)) false, X] = some z →
    loopAt 2 fx184_ 0 116 2 fs [(0, .msl 0 off (B.length + 1) ex), (1, .sl (kRows .u32 B) e2), (2, .int .u64 q), (7, .int .u64 c), (8, .int .u64 b), (13, .sl (kRows .u32 B) e2), (14, .int .i64 B.length), (15, .int .i64 i)] [.arr (kRows .u32 (P ++ (D ++ W) ++ Z)) (some (some 1)) false, X] = some z := by
  have hM : 3000000 ≤ maxLen := by decide
  intro r
  induction r with
  | zero =>
    intro i hi D W c b hD hW hDo hWo hc hb
    obtain ⟨w, rfl⟩ : ∃ w, W = [w] := List.length_eq_one_iff.1 (by omega)
    have hi : i = B.length := by omega
    subst hi
    have h1 : ¬ ((B.length : Nat) : Int) < (B.length : Int) := by omega
    refine ⟨D, w, c, b, hDo, hD, hWo.head, hc, hb, ?_, fun z hz => ?_⟩
    · rw [List.drop_length]
      have e1 : valD WB [w] = w := by simp [valD]
      have e2 : valD WB [] = 0 := rfl
      rw [e1, e2, Int.mul_zero, Int.sub_zero, Int.add_comm]
    · refine loopAt_step ok184_.good 1000 ?_
      ((repeat ((conv => lhs; whnf); simp only [go_sem, simprocAttr, sem184_, h1])); try (conv => lhs; whnf); try rfl)
      exact hz
  | succ r ih =>
    intro i hi D W c b hD hW hDo hWo hc hb'
    have h1 : (i : Int) < (B.length : Int) := by omega
    have w1 := wrap_succ (i := i) (n := B.length) (by omega) (by omega)
    have x1 : 0 ≤ (i : Int) ∧ (i : Int) < (B.length : Int) := ⟨by omega, h1⟩
    obtain ⟨u, W', rfl⟩ : ∃ u W', W = u :: W' := by
      cases W with
      | nil => simp at hW
      | cons u W' => exact ⟨u, W', rfl⟩
    have hx := hB.getD (by decide) i
    have hx' : B.getD i 0 < 4294967296 := hx.2
    have hu : 0 ≤ u ∧ u < 4294967296 := hWo.head
    have hy0 : 0 ≤ q * B.getD i 0 := Int.mul_nonneg hq.1 hx.1
    have hy1 : q * B.getD i 0 ≤ 4294967295 * 4294967295 :=
      Int.le_trans (Int.mul_le_mul_of_nonneg_right (show q ≤ 4294967295 by omega) hx.1) (Int.mul_le_mul_of_nonneg_left (by omega) (by decide))
    obtain ⟨y, hy⟩ : ∃ y, y = q * B.getD i 0 := ⟨_, rfl⟩
    rw [← hy] at hy0 hy1
    obtain ⟨lo, hlo⟩ : ∃ lo, lo = (c + y) % 4294967296 := ⟨_, rfl⟩
    obtain ⟨up, hup⟩ : ∃ up, up = (c + y) / 4294967296 := ⟨_, rfl⟩
    obtain ⟨d, hd⟩ : ∃ d, d = (u - lo - b) % 4294967296 := ⟨_, rfl⟩
    obtain ⟨t, ht⟩ : ∃ t, t = (((u - lo - b) % 18446744073709551616) / 9223372036854775808) := ⟨_, rfl⟩
    have ht1 : t = 0 ∨ t = 1 := by omega
    have hd2 : u - lo - b = d - 4294967296 * t := by omega
    have hcy : c + y = lo + 4294967296 * up := by omega
    have hupb : 0 ≤ up ∧ up < 4294967296 := by omega
    obtain ⟨O, w, c', b', o1, o2, o3, o4, o5, o6, o7⟩ := ih (i + 1) (by omega) (D ++ [d]) W' up t (by simp [hD]) (by simpa using hW) (hDo.append (.cons ⟨by omega, by show d < ((4294967296 : Nat) : Int); omega⟩ (.nil _))) hWo.tail hupb ht1
    refine ⟨O, w, c', b', o1, o2, o3, o4, o5, ?_, fun z hz => ?_⟩
    · have e0 : (((WB : Nat) : Int)) = (4294967296 : Int) := rfl
      have e1 : valD WB [d] = d := by simp [valD]
      have e2 : valD WB (u :: W') = u + 4294967296 * valD WB W' := rfl
      have e3 : valD WB (B.drop i) = B.getD i 0 + 4294967296 * valD WB (B.drop (i + 1)) := by rw [list_at B (by omega)]; rfl
      rw [o6, valD_append, hD, e0, e1, e2, e3, Int.pow_succ, Int.mul_assoc, Int.add_assoc, ← Int.mul_add]
      congr 2
      rw [Int.mul_add q, ← hy, Int.mul_left_comm q]
      omega
    · have key := o7 z hz
      have cB : IntKind.u64.wrap (B.getD i 0) = B.getD i 0 := by rw [wU64]; omega
      have cy : IntKind.u64.wrap (q * B.getD i 0) = y := by rw [← hy, wU64]; omega
      have ccy : IntKind.u64.wrap (c + y) = c + y := by rw [wU64]; omega
      have cu : IntKind.u64.wrap u = u := by rw [wU64]; omega
      have c32 : IntKind.u32.wrap (c + y) = lo := by rw [IntKind.wrap_u32, hlo]
      have c64 : IntKind.u64.wrap lo = lo := by rw [wU64]; omega
      have s1 : IntKind.u64.wrap (IntKind.u64.wrap (u - lo) - b) = (u - lo - b) % 18446744073709551616 := by rw [wU64, wU64]; omega
      have s2 : IntKind.u32.wrap ((u - lo - b) % 18446744073709551616) = d := by rw [IntKind.wrap_u32]; omega
      have s3 : (u - lo - b) % 18446744073709551616 / 9223372036854775808 = t := ht.symm
      have s4 : IntKind.u64.wrap t = t := by rw [wU64]; omega
      have s5 : (c + y) / 4294967296 = up := hup.symm
      have s6 : IntKind.u64.wrap up = up := by rw [wU64]; omega
      have len : off + i < (P ++ (D ++ u :: W') ++ Z).length := by simp; omega
      have hl : off + (B.length + 1) ≤ (P ++ (D ++ u :: W') ++ Z).length := by simp at hW ⊢; omega
      have get : (P ++ (D ++ u :: W') ++ Z).getD (off + i) 0 = u := by
        have e : P ++ (D ++ u :: W') ++ Z = (P ++ D) ++ u :: (W' ++ Z) := by simp
        rw [e, ← hP, ← hD, ← List.length_append]; simp [List.getD_eq_getElem?_getD]
      have gk := kRows_get .u32 (P ++ (D ++ u :: W') ++ Z) len
      rw [get] at gk
      have xm := sl_us.idxmk .u32 (S := [.arr (kRows .u32 (P ++ (D ++ u :: W') ++ Z)) (some (some 1)) false, X]) (id := 0) (off := off) (n := B.length + 1) (ex := ex) (L := P ++ (D ++ u :: W') ++ Z) i rfl hl (by omega)
      have set : (kRows .u32 (P ++ (D ++ u :: W') ++ Z)).set (off + i) [.int .u32 d] = kRows .u32 (P ++ (D ++ [d] ++ W') ++ Z) := by
        rw [kRows_set]
        congr 1
        have e : P ++ (D ++ u :: W') ++ Z = (P ++ D) ++ u :: (W' ++ Z) := by simp
        rw [e, ← hP, ← hD, ← List.length_append, List.set_append, if_neg (by omega), Nat.sub_self, List.set_cons_zero]
        simp
      refine loopAt_step ok184_.good 1000 ?_
      ((repeat ((conv => lhs; whnf); simp only [go_sem, simprocAttr, sem184_, h1, x1, Int.toNat_natCast, cB, cy, ccy, cu, c32, c64, s1, s2, s3, s4, s5, s6, len, gk, xm, set, w1])); try (conv => lhs; whnf); try rfl)
      exact key
theorem call_subtract (B : List Int) (e2 : Bool) (hB : OkD WB B) (hb : B.length ≤ 1000000) (q : Int) (hq : 0 ≤ q ∧ q < 4294967296) (off : Nat) (ho : off ≤ 1000000) (ex : Bool) (P W Z : List Int) (hP : P.length = off) (hW : W.length = B.length + 1) (hWo : OkD WB W) (X : Obj) :
    ∃ (O : List Int) (b : Bool), OkD WB O ∧ O.length = B.length + 1 ∧ valD WB O = valD WB W - q * valD WB B + (4294967296 : Int) ^ (B.length + 1) * (if b then 1 else 0) ∧
    callRL Tryz.prog hints 184 [.msl 0 off (B.length + 1) ex, .sl (kRows .u32 B) e2, .int .u64 q] [.arr (kRows .u32 (P ++ W ++ Z)) (some (some 1)) false, X] = some (.bool b, [.arr (kRows .u32 (P ++ O ++ Z)) (some (some 1)) false, X]) := by
  have hM : 3000000 ≤ maxLen := by decide
  obtain ⟨O, w, c, b, o1, o2, o3, o4, o5, o6, o7⟩ := loop_subtract B e2 hB hb q hq off ho ex P Z hP X [.blk 0, .seq 0 15] B.length 0 (by omega) [] W 0 0 rfl hW (.nil _) hWo ⟨by omega, by omega⟩ (.inl rfl)
  have e0 : (((WB : Nat) : Int)) = (4294967296 : Int) := rfl
  obtain ⟨d, hd⟩ : ∃ d, d = (w - c - b) % 4294967296 := ⟨_, rfl⟩
  obtain ⟨t, ht⟩ : ∃ t, t = (((w - c - b) % 18446744073709551616) / 9223372036854775808) := ⟨_, rfl⟩
  have ht1 : t = 0 ∨ t = 1 := by omega
  have hd2 : w - c - b = d - 4294967296 * t := by omega
  refine ⟨O ++ [d], decide (t = 1), o1.append (.cons ⟨by omega, by show d < ((4294967296 : Nat) : Int); omega⟩ (.nil _)), by simp [o2], ?_, ?_⟩
  · rw [hd2] at o6
    have e1 : valD WB [d] = d := by simp [valD]
    have et : (if decide (t = 1) = true then (1 : Int) else 0) = t := by
      rcases ht1 with h | h <;> simp [h]
    rw [valD_append, o2, e0, e1, et, Int.pow_succ, Int.mul_assoc]
    rw [Int.mul_sub] at o6
    have ev : valD WB [] = 0 := rfl
    simp only [List.drop_zero, ev, Int.pow_zero, Int.one_mul, Int.sub_zero] at o6
    omega
  · have cw : IntKind.u64.wrap w = w := by rw [wU64]; omega
    have s1 : IntKind.u64.wrap (IntKind.u64.wrap (w - c) - b) = (w - c - b) % 18446744073709551616 := by rw [wU64, wU64]; omega
    have s2 : IntKind.u32.wrap ((w - c - b) % 18446744073709551616) = d := by rw [IntKind.wrap_u32]; omega
    have s3 : (w - c - b) % 18446744073709551616 / 9223372036854775808 = t := ht.symm
    have s4 : IntKind.u64.wrap t = t := by rw [wU64]; omega
    have len : off + B.length < (P ++ (O ++ [w]) ++ Z).length := by simp; omega
    have hl : off + (B.length + 1) ≤ (P ++ (O ++ [w]) ++ Z).length := by simp; omega
    have get : (P ++ (O ++ [w]) ++ Z).getD (off + B.length) 0 = w := by
      have e : P ++ (O ++ [w]) ++ Z = (P ++ O) ++ w :: Z := by simp
      rw [e, ← hP, ← o2, ← List.length_append]; simp [List.getD_eq_getElem?_getD]
    have gk := kRows_get .u32 (P ++ (O ++ [w]) ++ Z) len
    rw [get] at gk
    have xm := sl_us.idxmk .u32 (S := [.arr (kRows .u32 (P ++ (O ++ [w]) ++ Z)) (some (some 1)) false, X]) (id := 0) (off := off) (n := B.length + 1) (ex := ex) (L := P ++ (O ++ [w]) ++ Z) B.length rfl hl (by omega)
    have set : (kRows .u32 (P ++ (O ++ [w]) ++ Z)).set (off + B.length) [.int .u32 d] = kRows .u32 (P ++ (O ++ [d]) ++ Z) := by
      rw [kRows_set]
      congr 1
      have e : P ++ (O ++ [w]) ++ Z = (P ++ O) ++ w :: Z := by simp
      rw [e, ← hP, ← o2, ← List.length_append, List.set_append, if_neg (by omega), Nat.sub_self, List.set_cons_zero]
      simp
    have key := o7 (.bool (decide (t = 1)), [.arr (kRows .u32 (P ++ (O ++ [d]) ++ Z)) (some (some 1)) false, X]) (by
      refine exit_run ok184_.good 1000 ?_
      ((repeat ((conv => lhs; whnf); simp only [go_sem, simprocAttr, sem184_, cw, s1, s2, s3, s4, len, gk, xm, set])); try (conv => lhs; whnf); try rfl))
    refine FX.callRL (r := (.bool (decide (t = 1)), [.arr (kRows .u32 (P ++ (O ++ [d]) ++ Z)) (some (some 1)) false, X])) ok184_ 1000 rfl rfl ?_
    have key' : loopAt 2 fx184_ 0 116 2 [.blk 0, .seq 0 15] [(0, .msl 0 off (B.length + 1) ex), (1, .sl (kRows .u32 B) e2), (2, .int .u64 q), (7, .int .u64 0), (8, .int .u64 0), (13, .sl (kRows .u32 B) e2), (14, .int .i64 B.length), (15, .int .i64 0)] [.arr (kRows .u32 (P ++ W ++ Z)) (some (some 1)) false, X] = _ := key
    ((repeat ((conv => lhs; whnf); simp only [go_sem, simprocAttr, sem184_])); try (conv => lhs; whnf); try rfl)
    exact key'
end
section
attribute [local irreducible] Vs.callL Vs.callRL tyi callO callM callMV appendE storeE evLoad indexAddrO sliceO evFieldAddr evField buildO buildSliceO makeSliceO allocO boxed lenO copyE convertO indexO Vs.gc freezeAll
noncomputable def fx185_ : FX := ⟨Tryz.f185, hints.of 185, []⟩
theorem ok185_ : fx185_.ok 185 := ⟨by kernel_rfl, of_decide_eq_true (by kernel_rfl), by kernel_rfl, by kernel_rfl, by kernel_rfl, by kernel_rfl⟩
theorem sem185_ (b0 : Nat) (m : Md) (fs : List Fr) (e : Env) (S : Store) : sem b0 fx185_ m fs e S = run b0 fx185_ 1000 m fs e S := (sem_eq _ _ _ _ _ _).trans (run_sem b0 fx185_ ok185_.good 1000 m fs e S).symm
theorem loop_restore (B : List Int) (e2 : Bool) (hB : OkD WB B) (hb : B.length ≤ 1000000) (off : Nat) (ho : off ≤ 1000000) (ex : Bool) (P Z : List Int) (hP : P.length = off) (X : Obj) (fs : List Fr) : ∀ (r i : Nat), i + r = B.length → ∀ (D W : List Int) (c : Int), D.length = i → W.length = r + 1 → OkD WB D → OkD WB W → (c = 0 ∨ c = 1) →
    ∃ (O : List Int) (w c' : Int), OkD WB O ∧ O.length = B.length ∧ (0 ≤ w ∧ w < 4294967296) ∧ (c' = 0 ∨ c' = 1) ∧ (4294967296 : Int) ^ B.length * (w + c') + valD WB O = valD WB D + (4294967296 : Int) ^ i * (valD WB W + valD WB (B.drop i) + c) ∧ ∀ z : PV × Store, exitTo 2 fx185_ 0 fs [(0, .msl 0 off (B.length + 1) ex), (1, .sl (kRows .u32 B) e2), (4, .int .u64 c'), (7, .undef), (8, .undef), (9, .undef), (10, .undef)] [.arr (kRows .u32 (P ++ (O ++ [w]) ++ Z)) (some (some 1)) false, X] = some z →
    loopAt 2 fx185_ 0 52 2 fs [(0, .msl 0 off (B.length + 1) ex), (1, .sl (kRows .u32 B) e2), (4, .int .u64 c), (7, .sl (kRows .u32 B) e2), (8, .int .i64 B.length), (9, .int .i64 i)] [.arr (kRows .u32 (P ++ (D ++ W) ++ Z)) (some (some 1)) false, X] = some z := by
  have hM : 3000000 ≤ maxLen := by decide
  intro r
  induction r with
  | zero =>
    intro i hi D W c hD hW hDo hWo hc
    obtain ⟨w, rfl⟩ : ∃ w, W = [w] := List.length_eq_one_iff.1 (by omega)
    have hi : i = B.length := by omega
    subst hi
    have h1 : ¬ ((B.length : Nat) : Int) < (B.length : Int) := by omega
    refine ⟨D, w, c, hDo, hD, hWo.head, hc, ?_, fun z hz => ?_⟩
    · rw [List.drop_length]
      have e1 : valD WB [w] = w := by simp [valD]
      have e2 : valD WB [] = 0 := rfl
      rw [e1, e2, Int.add_zero, Int.add_comm]
    · refine loopAt_step ok185_.good 1000 ?_
      ((repeat ((conv => lhs; whnf); simp only [go_sem, simprocAttr, sem185_, h1])); try (conv => lhs; whnf); try rfl)
      exact hz
  | succ r ih =>
    intro i hi D W c hD hW hDo hWo hc
    have h1 : (i : Int) < (B.length : Int) := by omega
    have w1 := wrap_succ (i := i) (n := B.length) (by omega) (by omega)
    have x1 : 0 ≤ (i : Int) ∧ (i : Int) < (B.length : Int) := ⟨by omega, h1⟩
    obtain ⟨u, W', rfl⟩ : ∃ u W', W = u :: W' := by
      cases W with
      | nil => simp at hW
      | cons u W' => exact ⟨u, W', rfl⟩
    have hx := hB.getD (by decide) i
    have hx' : B.getD i 0 < 4294967296 := hx.2
    have hu : 0 ≤ u ∧ u < 4294967296 := hWo.head
    obtain ⟨y, hy⟩ : ∃ y, y = B.getD i 0 := ⟨_, rfl⟩
    rw [← hy] at hx hx'
    obtain ⟨lo, hlo⟩ : ∃ lo, lo = (c + (u + y)) % 4294967296 := ⟨_, rfl⟩
    obtain ⟨up, hup⟩ : ∃ up, up = (c + (u + y)) / 4294967296 := ⟨_, rfl⟩
    have hcy : c + (u + y) = lo + 4294967296 * up := by omega
    have hupb : up = 0 ∨ up = 1 := by omega
    obtain ⟨O, w, c', o1, o2, o3, o4, o6, o7⟩ := ih (i + 1) (by omega) (D ++ [lo]) W' up (by simp [hD]) (by simpa using hW) (hDo.append (.cons ⟨by omega, by show lo < ((4294967296 : Nat) : Int); omega⟩ (.nil _))) hWo.tail hupb
    refine ⟨O, w, c', o1, o2, o3, o4, ?_, fun z hz => ?_⟩
    · have e0 : (((WB : Nat) : Int)) = (4294967296 : Int) := rfl
      have e1 : valD WB [lo] = lo := by simp [valD]
      have e2 : valD WB (u :: W') = u + 4294967296 * valD WB W' := rfl
      have e3 : valD WB (B.drop i) = B.getD i 0 + 4294967296 * valD WB (B.drop (i + 1)) := by rw [list_at B (by omega)]; rfl
      rw [o6, valD_append, hD, e0, e1, e2, e3, Int.pow_succ, Int.mul_assoc, Int.add_assoc, ← Int.mul_add]
      congr 2
      omega
    · have key := o7 z hz
      have cy : IntKind.u64.wrap y = y := by rw [wU64]; omega
      have cu : IntKind.u64.wrap u = u := by rw [wU64]; omega
      have cuy : IntKind.u64.wrap (u + y) = u + y := by rw [wU64]; omega
      have ccy : IntKind.u64.wrap (c + (u + y)) = c + (u + y) := by rw [wU64]; omega
      have c32 : IntKind.u32.wrap (c + (u + y)) = lo := by rw [IntKind.wrap_u32, hlo]
      have s5 : (c + (u + y)) / 4294967296 = up := hup.symm
      have s6 : IntKind.u64.wrap up = up := by rw [wU64]; omega
      have len : off + i < (P ++ (D ++ u :: W') ++ Z).length := by simp; omega
      have hl : off + (B.length + 1) ≤ (P ++ (D ++ u :: W') ++ Z).length := by simp at hW ⊢; omega
      have get : (P ++ (D ++ u :: W') ++ Z).getD (off + i) 0 = u := by
        have e : P ++ (D ++ u :: W') ++ Z = (P ++ D) ++ u :: (W' ++ Z) := by simp
        rw [e, ← hP, ← hD, ← List.length_append]; simp [List.getD_eq_getElem?_getD]
      have gk := kRows_get .u32 (P ++ (D ++ u :: W') ++ Z) len
      rw [get] at gk
      have xm := sl_us.idxmk .u32 (S := [.arr (kRows .u32 (P ++ (D ++ u :: W') ++ Z)) (some (some 1)) false, X]) (id := 0) (off := off) (n := B.length + 1) (ex := ex) (L := P ++ (D ++ u :: W') ++ Z) i rfl hl (by omega)
      have set : (kRows .u32 (P ++ (D ++ u :: W') ++ Z)).set (off + i) [.int .u32 lo] = kRows .u32 (P ++ (D ++ [lo] ++ W') ++ Z) := by
        rw [kRows_set]
        congr 1
        have e : P ++ (D ++ u :: W') ++ Z = (P ++ D) ++ u :: (W' ++ Z) := by simp
        rw [e, ← hP, ← hD, ← List.length_append, List.set_append, if_neg (by omega), Nat.sub_self, List.set_cons_zero]
        simp
      refine loopAt_step ok185_.good 1000 ?_
      ((repeat ((conv => lhs; whnf); simp only [go_sem, simprocAttr, sem185_, h1, x1, Int.toNat_natCast, ← hy, cy, cu, cuy, ccy, c32, s5, s6, len, gk, xm, set, w1])); try (conv => lhs; whnf); try rfl)
      exact key
theorem call_restore (B : List Int) (e2 : Bool) (hB : OkD WB B) (hb : B.length ≤ 1000000) (off : Nat) (ho : off ≤ 1000000) (ex : Bool) (P W Z : List Int) (hP : P.length = off) (hW : W.length = B.length + 1) (hWo : OkD WB W) (X : Obj) :
    ∃ (O : List Int) (t : Int), OkD WB O ∧ O.length = B.length + 1 ∧ (4294967296 : Int) ^ (B.length + 1) * t + valD WB O = valD WB W + valD WB B ∧
    callRL Tryz.prog hints 185 [.msl 0 off (B.length + 1) ex, .sl (kRows .u32 B) e2] [.arr (kRows .u32 (P ++ W ++ Z)) (some (some 1)) false, X] = some (.tup [], [.arr (kRows .u32 (P ++ O ++ Z)) (some (some 1)) false, X]) := by
  have hM : 3000000 ≤ maxLen := by decide
  obtain ⟨O, w, c, o1, o2, o3, o4, o6, o7⟩ := loop_restore B e2 hB hb off ho ex P Z hP X [.blk 0, .seq 0 7] B.length 0 (by omega) [] W 0 rfl hW (.nil _) hWo (.inl rfl)
  have e0 : (((WB : Nat) : Int)) = (4294967296 : Int) := rfl
  obtain ⟨d, hd⟩ : ∃ d, d = (w + c) % 4294967296 := ⟨_, rfl⟩
  obtain ⟨t, ht⟩ : ∃ t, t = (w + c) / 4294967296 := ⟨_, rfl⟩
  have hd2 : w + c = d + 4294967296 * t := by omega
  refine ⟨O ++ [d], t, o1.append (.cons ⟨by omega, by show d < ((4294967296 : Nat) : Int); omega⟩ (.nil _)), by simp [o2], ?_, ?_⟩
  · rw [hd2] at o6
    have e1 : valD WB [d] = d := by simp [valD]
    rw [valD_append, o2, e0, e1, Int.pow_succ, Int.mul_assoc]
    rw [Int.mul_add] at o6
    have ev : valD WB [] = 0 := rfl
    simp only [List.drop_zero, ev, Int.pow_zero, Int.one_mul, Int.zero_add, Int.add_zero] at o6
    omega
  · have cc : IntKind.u32.wrap c = c := by rw [IntKind.wrap_u32]; omega
    have s2 : IntKind.u32.wrap (w + c) = d := by rw [IntKind.wrap_u32]; omega
    have len : off + B.length < (P ++ (O ++ [w]) ++ Z).length := by simp; omega
    have hl : off + (B.length + 1) ≤ (P ++ (O ++ [w]) ++ Z).length := by simp; omega
    have get : (P ++ (O ++ [w]) ++ Z).getD (off + B.length) 0 = w := by
      have e : P ++ (O ++ [w]) ++ Z = (P ++ O) ++ w :: Z := by simp
      rw [e, ← hP, ← o2, ← List.length_append]; simp [List.getD_eq_getElem?_getD]
    have gk := kRows_get .u32 (P ++ (O ++ [w]) ++ Z) len
    rw [get] at gk
    have xm := sl_us.idxmk .u32 (S := [.arr (kRows .u32 (P ++ (O ++ [w]) ++ Z)) (some (some 1)) false, X]) (id := 0) (off := off) (n := B.length + 1) (ex := ex) (L := P ++ (O ++ [w]) ++ Z) B.length rfl hl (by omega)
    have set : (kRows .u32 (P ++ (O ++ [w]) ++ Z)).set (off + B.length) [.int .u32 d] = kRows .u32 (P ++ (O ++ [d]) ++ Z) := by
      rw [kRows_set]
      congr 1
      have e : P ++ (O ++ [w]) ++ Z = (P ++ O) ++ w :: Z := by simp
      rw [e, ← hP, ← o2, ← List.length_append, List.set_append, if_neg (by omega), Nat.sub_self, List.set_cons_zero]
      simp
    have key := o7 (.tup [], [.arr (kRows .u32 (P ++ (O ++ [d]) ++ Z)) (some (some 1)) false, X]) (by
      refine exit_run ok185_.good 1000 ?_
      ((repeat ((conv => lhs; whnf); simp only [go_sem, simprocAttr, sem185_, cc, s2, len, gk, xm, set])); try (conv => lhs; whnf); try rfl))
    refine FX.callRL (r := (.tup [], [.arr (kRows .u32 (P ++ (O ++ [d]) ++ Z)) (some (some 1)) false, X])) ok185_ 1000 rfl rfl ?_
    have key' : loopAt 2 fx185_ 0 52 2 [.blk 0, .seq 0 7] [(0, .msl 0 off (B.length + 1) ex), (1, .sl (kRows .u32 B) e2), (4, .int .u64 0), (7, .sl (kRows .u32 B) e2), (8, .int .i64 B.length), (9, .int .i64 0)] [.arr (kRows .u32 (P ++ W ++ Z)) (some (some 1)) false, X] = _ := key
    ((repeat ((conv => lhs; whnf); simp only [go_sem, simprocAttr, sem185_])); try (conv => lhs; whnf); try rfl)
    exact key'
end
end Go.Vs
end
section
set_option linter.unusedVariables false
set_option linter.unusedSimpArgs false
set_option maxRecDepth 100000
namespace Go.Vs
open Go Go.Proofs
theorem guess_step {W V Wk T v1 v0 g r num u2 : Int} (hWk : 0 ≤ Wk) (hT : T = num * 4294967296 + u2) (hW : W < (T + 1) * Wk) (hV : (v1 * 4294967296 + v0) * Wk ≤ V) (hg : 0 ≤ g) (e : g * v1 + r = num) (h : r * 4294967296 + u2 < g * v0) : W < g * V := by
  have h1 : T + 1 ≤ g * (v1 * 4294967296 + v0) := by
    rw [Int.mul_add, ← Int.mul_assoc, hT, ← e, Int.add_mul]
    omega
  have h2 : (T + 1) * Wk ≤ g * (v1 * 4294967296 + v0) * Wk := Int.mul_le_mul_of_nonneg_right h1 hWk
  have h3 : g * ((v1 * 4294967296 + v0) * Wk) ≤ g * V := Int.mul_le_mul_of_nonneg_left hV hg
  rw [← Int.mul_assoc] at h3
  omega
theorem guess_big {W V g : Int} (hV : 0 ≤ V) (hWV : W < 4294967296 * V) (h : 4294967296 ≤ g) : W < g * V := by
  have := Int.mul_le_mul_of_nonneg_right h hV
  omega
theorem guess_fin {W V Wk T t g : Int} (hWk : 0 ≤ Wk) (hg : 0 ≤ g) (hg2 : g < 4294967296) (h : g * t ≤ T) (hW : T * Wk ≤ W) (hV : V ≤ t * Wk + Wk) (hV2 : 4294967296 * Wk ≤ V) : g * V ≤ W + V := by
  have h1 : g * V ≤ g * (t * Wk + Wk) := Int.mul_le_mul_of_nonneg_left hV hg
  have h2 : g * t * Wk ≤ T * Wk := Int.mul_le_mul_of_nonneg_right h hWk
  have h3 : g * Wk ≤ 4294967296 * Wk := Int.mul_le_mul_of_nonneg_right (by omega) hWk
  rw [Int.mul_add, ← Int.mul_assoc] at h1
  omega
theorem guess_out {v1 v0 g r num u2 T : Int} (hT : T = num * 4294967296 + u2) (hu : 0 ≤ u2) (hv1 : 0 < v1) (hv0 : 0 ≤ v0 ∧ v0 < 4294967296) (hn : num < v1 * 4294967296 + 4294967296) (hg : 0 ≤ g) (e : g * v1 + r = num) (h : 4294967296 ≤ r) : g < 4294967296 ∧ g * (v1 * 4294967296 + v0) ≤ T := by
  have h1 : g < 4294967296 := by
    have a : g * v1 < 4294967296 * v1 := by rw [Int.mul_comm 4294967296 v1]; omega
    exact Int.lt_of_mul_lt_mul_right a (Int.le_of_lt hv1)
  refine ⟨h1, ?_⟩
  have a1 : g * v0 ≤ 4294967295 * v0 := Int.mul_le_mul_of_nonneg_right (by omega) hv0.1
  rw [Int.mul_add, ← Int.mul_assoc, hT, ← e, Int.add_mul]
  omega
theorem guess_ok {v1 v0 g r num u2 T : Int} (hT : T = num * 4294967296 + u2) (e : g * v1 + r = num) (h : g * v0 ≤ r * 4294967296 + u2) : g * (v1 * 4294967296 + v0) ≤ T := by
  rw [Int.mul_add, ← Int.mul_assoc, hT, ← e, Int.add_mul]
  omega
section
attribute [local irreducible] Vs.callL Vs.callRL tyi callO callM callMV appendE storeE evLoad indexAddrO sliceO evFieldAddr evField buildO buildSliceO makeSliceO allocO boxed lenO copyE convertO indexO Vs.gc freezeAll
noncomputable def fx169_ : FX := ⟨Tryz.f169, hints.of 169, []⟩
theorem ok169_ : fx169_.ok 169 := ⟨by kernel_rfl, of_decide_eq_true (by kernel_rfl), by kernel_rfl, by kernel_rfl, by kernel_rfl, by kernel_rfl⟩
theorem sem169_ (b0 : Nat) (m : Md) (fs : List Fr) (e : Env) (S : Store) : sem b0 fx169_ m fs e S = run b0 fx169_ 1000 m fs e S := (sem_eq _ _ _ _ _ _).trans (run_sem b0 fx169_ ok169_.good 1000 m fs e S).symm
theorem loop_guess (U Q B : List Int) (e2 : Bool) (J k j : Nat) (sh : Int) (v1 v0 u2 num W V Wk T : Int) (hU : U.length ≤ 2000000) (hjk : j + k < U.length) (hk : 2 ≤ k) (hv1 : 0 < v1 ∧ v1 < 4294967296) (hv0 : 0 ≤ v0 ∧ v0 < 4294967296) (hu2 : U.getD (j + k - 2) 0 = u2) (hu : 0 ≤ u2 ∧ u2 < 4294967296)
    (hT : T = num * 4294967296 + u2) (hn : num < v1 * 4294967296 + 4294967296) (hWk : 0 ≤ Wk) (hV0 : 0 ≤ V) (hW0 : 0 ≤ W) (hW : W < (T + 1) * Wk) (hV : (v1 * 4294967296 + v0) * Wk ≤ V) (hWV : W < 4294967296 * V) (fs : List Fr) : ∀ (f : Nat) (tl : Env) (g r : Int), (tl = [] ∨ tl = [(127, .undef), (134, .undef)]) → g ≤ f → (0 ≤ g ∧ g < 9223372036854775808) → (0 ≤ r ∧ r < 4294967296) → g * v1 + r = num → W < (g + 1) * V →
    ∃ g' : Int, (0 ≤ g' ∧ g' < 4294967296) ∧ g' * (v1 * 4294967296 + v0) ≤ T ∧ W < (g' + 1) * V ∧ ∀ z : PV × Store, exitTo 0 fx169_ 2 fs [(4, .msl 1 0 J true), (8, .int .i64 sh), (9, .sl (kRows .u32 B) e2), (10, .msl 0 0 U.length true), (11, .int .i64 k), (12, .int .u64 v1), (13, .int .u64 v0), (14, .int .i64 j), (16, .int .u64 g'), (17, .undef), (127, .undef), (134, .undef)] [.arr (kRows .u32 U) (some (some 1)) false, .arr (kRows .u32 Q) (some (some 1)) false] = some z →
    loopAt 0 fx169_ 2 8385688 2 fs ([(4, .msl 1 0 J true), (8, .int .i64 sh), (9, .sl (kRows .u32 B) e2), (10, .msl 0 0 U.length true), (11, .int .i64 k), (12, .int .u64 v1), (13, .int .u64 v0), (14, .int .i64 j), (16, .int .u64 g), (17, .int .u64 r)] ++ tl) [.arr (kRows .u32 U) (some (some 1)) false, .arr (kRows .u32 Q) (some (some 1)) false] = some z := by
  have hM : 3000000 ≤ maxLen := by decide
  intro f
  have wi : IntKind.i64.wrap ((j : Int) + (k : Int)) = ((j + k : Nat) : Int) := by rw [IntKind.wrap_i64]; omega
  have wi2 : IntKind.i64.wrap (((j + k : Nat) : Int) - 2) = ((j + k - 2 : Nat) : Int) := by rw [IntKind.wrap_i64]; omega
  have xm := sl_us.idxmk .u32 (S := [.arr (kRows .u32 U) (some (some 1)) false, .arr (kRows .u32 Q) (some (some 1)) false]) (id := 0) (off := 0) (n := U.length) (ex := true) (L := U) (j + k - 2) rfl (by omega) (by omega)
  rw [Nat.zero_add] at xm
  have len : j + k - 2 < U.length := by omega
  have gk := kRows_get .u32 U len
  rw [hu2] at gk
  have cu : IntKind.u64.wrap u2 = u2 := by rw [wU64]; omega
  have stepw : ∀ g r : Int, (0 < g ∧ g < 9223372036854775808) → (0 ≤ r ∧ r < 4294967296) → IntKind.u64.wrap (g - 1) = g - 1 ∧ IntKind.u64.wrap (r + v1) = r + v1 ∧ IntKind.u64.wrap (r * 4294967296) = r * 4294967296 ∧ bor .u64 (r * 4294967296) u2 = r * 4294967296 + u2 := fun g r hg hr => by
    refine ⟨by rw [wU64]; omega, by rw [wU64]; omega, by rw [wU64]; omega, bor_high hr hu⟩
  have stepv : ∀ g r : Int, g * v1 + r = num → (g - 1) * v1 + (r + v1) = num := fun g r e => by rw [Int.sub_mul]; omega
  have fin : ∀ (tl : Env) (g r : Int), (tl = [] ∨ tl = [(127, .undef), (134, .undef)]) → (0 ≤ g ∧ g < 9223372036854775808) → (0 ≤ r ∧ r < 4294967296) → g * v1 + r = num → W < (g + 1) * V → ¬ 4294967296 ≤ g → ¬ r * 4294967296 + u2 < g * v0 → ∃ g' : Int, (0 ≤ g' ∧ g' < 4294967296) ∧ g' * (v1 * 4294967296 + v0) ≤ T ∧ W < (g' + 1) * V ∧ ∀ z : PV × Store, exitTo 0 fx169_ 2 fs [(4, .msl 1 0 J true), (8, .int .i64 sh), (9, .sl (kRows .u32 B) e2), (10, .msl 0 0 U.length true), (11, .int .i64 k), (12, .int .u64 v1), (13, .int .u64 v0), (14, .int .i64 j), (16, .int .u64 g'), (17, .undef), (127, .undef), (134, .undef)] [.arr (kRows .u32 U) (some (some 1)) false, .arr (kRows .u32 Q) (some (some 1)) false] = some z →
    loopAt 0 fx169_ 2 8385688 2 fs ([(4, .msl 1 0 J true), (8, .int .i64 sh), (9, .sl (kRows .u32 B) e2), (10, .msl 0 0 U.length true), (11, .int .i64 k), (12, .int .u64 v1), (13, .int .u64 v0), (14, .int .i64 j), (16, .int .u64 g), (17, .int .u64 r)] ++ tl) [.arr (kRows .u32 U) (some (some 1)) false, .arr (kRows .u32 Q) (some (some 1)) false] = some z := by
    intro tl g r htl hg hr e hlow c1 c2
    have sh := bor_high (h := r) (l := u2) hr hu
    have sw : IntKind.u64.wrap (r * 4294967296) = r * 4294967296 := by rw [wU64]; omega
    have y0 : 0 ≤ g * v0 := Int.mul_nonneg hg.1 hv0.1
    have y1 : g * v0 ≤ 4294967295 * 4294967295 :=
      Int.le_trans (Int.mul_le_mul_of_nonneg_right (show g ≤ 4294967295 by omega) hv0.1) (Int.mul_le_mul_of_nonneg_left (by omega) (by decide))
    have yw : IntKind.u64.wrap (g * v0) = g * v0 := by rw [wU64]; omega
    refine ⟨g, ⟨hg.1, by omega⟩, guess_ok hT e (by omega), hlow, fun z hz => ?_⟩
    refine loopAt_step ok169_.good 1000 ?_
    rcases htl with rfl | rfl
    all_goals
      simp only [List.append_nil, List.cons_append, List.nil_append]
      ((repeat ((conv => lhs; whnf); simp only [go_sem, simprocAttr, sem169_, c1, c2, wi, wi2, xm, len, gk, cu, sh, sw, yw])); try (conv => lhs; whnf); try rfl)
      exact hz
  have brk : ∀ (tl : Env) (g r : Int), (tl = [] ∨ tl = [(127, .undef), (134, .undef)]) → (0 < g ∧ g < 9223372036854775808) → (0 ≤ r ∧ r < 4294967296) → g * v1 + r = num → W < g * V → 4294967296 ≤ g ∨ (¬ 4294967296 ≤ g ∧ r * 4294967296 + u2 < g * v0) → 4294967296 ≤ r + v1 → ∃ g' : Int, (0 ≤ g' ∧ g' < 4294967296) ∧ g' * (v1 * 4294967296 + v0) ≤ T ∧ W < (g' + 1) * V ∧ ∀ z : PV × Store, exitTo 0 fx169_ 2 fs [(4, .msl 1 0 J true), (8, .int .i64 sh), (9, .sl (kRows .u32 B) e2), (10, .msl 0 0 U.length true), (11, .int .i64 k), (12, .int .u64 v1), (13, .int .u64 v0), (14, .int .i64 j), (16, .int .u64 g'), (17, .undef), (127, .undef), (134, .undef)] [.arr (kRows .u32 U) (some (some 1)) false, .arr (kRows .u32 Q) (some (some 1)) false] = some z →
    loopAt 0 fx169_ 2 8385688 2 fs ([(4, .msl 1 0 J true), (8, .int .i64 sh), (9, .sl (kRows .u32 B) e2), (10, .msl 0 0 U.length true), (11, .int .i64 k), (12, .int .u64 v1), (13, .int .u64 v0), (14, .int .i64 j), (16, .int .u64 g), (17, .int .u64 r)] ++ tl) [.arr (kRows .u32 U) (some (some 1)) false, .arr (kRows .u32 Q) (some (some 1)) false] = some z := by
    intro tl g r htl hg hr e hlow hc hr2
    obtain ⟨g1, g2⟩ := guess_out hT hu.1 hv1.1 hv0 hn (show 0 ≤ g - 1 by omega) (stepv g r e) hr2
    obtain ⟨s1, s2, s3, s4⟩ := stepw g r hg hr
    refine ⟨g - 1, ⟨by omega, g1⟩, g2, by rw [Int.sub_add_cancel]; exact hlow, fun z hz => ?_⟩
    refine loopAt_step ok169_.good 1000 ?_
    rcases hc with c1 | ⟨c1, c2⟩
    · rcases htl with rfl | rfl
      all_goals
        simp only [List.append_nil, List.cons_append, List.nil_append]
        ((repeat ((conv => lhs; whnf); simp only [go_sem, simprocAttr, sem169_, c1, s1, s2, hr2])); try (conv => lhs; whnf); try rfl)
        exact hz
    · have y0 : 0 ≤ g * v0 := Int.mul_nonneg (by omega) hv0.1
      have y1 : g * v0 ≤ 4294967295 * 4294967295 :=
        Int.le_trans (Int.mul_le_mul_of_nonneg_right (show g ≤ 4294967295 by omega) hv0.1) (Int.mul_le_mul_of_nonneg_left (by omega) (by decide))
      have yw : IntKind.u64.wrap (g * v0) = g * v0 := by rw [wU64]; omega
      rcases htl with rfl | rfl
      all_goals
        simp only [List.append_nil, List.cons_append, List.nil_append]
        ((repeat ((conv => lhs; whnf); simp only [go_sem, simprocAttr, sem169_, c1, c2, wi, wi2, xm, len, gk, cu, s3, s4, yw, s1, s2, hr2])); try (conv => lhs; whnf); try rfl)
        exact hz
  have cont : ∀ (tl : Env) (g r : Int) (z : PV × Store), (tl = [] ∨ tl = [(127, .undef), (134, .undef)]) → (0 < g ∧ g < 9223372036854775808) → (0 ≤ r ∧ r < 4294967296) → 4294967296 ≤ g ∨ (¬ 4294967296 ≤ g ∧ r * 4294967296 + u2 < g * v0) → ¬ 4294967296 ≤ r + v1 → loopAt 0 fx169_ 2 8385688 2 fs [(4, .msl 1 0 J true), (8, .int .i64 sh), (9, .sl (kRows .u32 B) e2), (10, .msl 0 0 U.length true), (11, .int .i64 k), (12, .int .u64 v1), (13, .int .u64 v0), (14, .int .i64 j), (16, .int .u64 (g - 1)), (17, .int .u64 (r + v1)), (127, .undef), (134, .undef)] [.arr (kRows .u32 U) (some (some 1)) false, .arr (kRows .u32 Q) (some (some 1)) false] = some z →
    loopAt 0 fx169_ 2 8385688 2 fs ([(4, .msl 1 0 J true), (8, .int .i64 sh), (9, .sl (kRows .u32 B) e2), (10, .msl 0 0 U.length true), (11, .int .i64 k), (12, .int .u64 v1), (13, .int .u64 v0), (14, .int .i64 j), (16, .int .u64 g), (17, .int .u64 r)] ++ tl) [.arr (kRows .u32 U) (some (some 1)) false, .arr (kRows .u32 Q) (some (some 1)) false] = some z := by
    intro tl g r z htl hg hr hc hr2 hz
    obtain ⟨s1, s2, s3, s4⟩ := stepw g r hg hr
    refine loopAt_step ok169_.good 1000 ?_
    rcases hc with c1 | ⟨c1, c2⟩
    · rcases htl with rfl | rfl
      all_goals
        simp only [List.append_nil, List.cons_append, List.nil_append]
        ((repeat ((conv => lhs; whnf); simp only [go_sem, simprocAttr, sem169_, c1, s1, s2, hr2])); try (conv => lhs; whnf); try rfl)
        exact hz
    · have y0 : 0 ≤ g * v0 := Int.mul_nonneg (by omega) hv0.1
      have y1 : g * v0 ≤ 4294967295 * 4294967295 :=
        Int.le_trans (Int.mul_le_mul_of_nonneg_right (show g ≤ 4294967295 by omega) hv0.1) (Int.mul_le_mul_of_nonneg_left (by omega) (by decide))
      have yw : IntKind.u64.wrap (g * v0) = g * v0 := by rw [wU64]; omega
      rcases htl with rfl | rfl
      all_goals
        simp only [List.append_nil, List.cons_append, List.nil_append]
        ((repeat ((conv => lhs; whnf); simp only [go_sem, simprocAttr, sem169_, c1, c2, wi, wi2, xm, len, gk, cu, s3, s4, yw, s1, s2, hr2])); try (conv => lhs; whnf); try rfl)
        exact hz
  induction f with
  | zero =>
    intro tl g r htl hf hg hr e hlow
    have : g = 0 := by omega
    subst this
    exact fin tl 0 r htl hg hr e hlow (by decide) (by rw [Int.zero_mul]; omega)
  | succ f ih =>
    intro tl g r htl hf hg hr e hlow
    by_cases hc : 4294967296 ≤ g ∨ (¬ 4294967296 ≤ g ∧ r * 4294967296 + u2 < g * v0)
    · have low : W < g * V := by
        rcases hc with c1 | ⟨c1, c2⟩
        · exact guess_big hV0 hWV c1
        · exact guess_step hWk hT hW hV hg.1 e c2
      have g0 : 0 < g := by
        rcases Int.lt_or_eq_of_le hg.1 with h | h
        · exact h
        · rw [← h, Int.zero_mul] at low; omega
      by_cases hr2 : 4294967296 ≤ r + v1
      · exact brk tl g r htl ⟨g0, hg.2⟩ hr e low hc hr2
      · obtain ⟨g', i1, i2, i3, i4⟩ := ih [(127, .undef), (134, .undef)] (g - 1) (r + v1) (.inr rfl) (by omega) ⟨by omega, by omega⟩ ⟨by omega, by omega⟩ (stepv g r e) (by rw [Int.sub_add_cancel]; exact low)
        exact ⟨g', i1, i2, i3, fun z hz => cont tl g r z htl ⟨g0, hg.2⟩ hr hc hr2 (i4 z hz)⟩
    · exact fin tl g r htl hg hr e hlow (fun c => hc (.inl c)) (fun c => hc (.inr ⟨fun c1 => hc (.inl c1), c⟩))
end
end Go.Vs
end
section
set_option linter.unusedVariables false
set_option linter.unusedSimpArgs false
set_option maxRecDepth 100000
namespace Go.Vs
open Go Go.Proofs
theorem callM_eq {S : Store} {f : FuncId} {l : List PV} {v : PV} {S' : Store} (hr : hints.refs f = true) (hc : callRL Tryz.prog hints f l S = some (v, S')) (hl : S.length ≤ S'.length) (hcl : closedS S = true := by first | rfl | simp [closedS, kRows_refs, rowsRefs_cons, rowsRefs_nil, refsL_cons, refsL_nil, refs_int]) (hb : belowL S.length l = true := by first | rfl | simp [belowL, refsL_cons, refsL_nil, refs_int, refs_sl, refs_msl, refs_mp, refs_bool, refs_str]) (hrd : hints.reads f = false := by rfl) : callM Tryz.prog hints S f l = some { v, S := S' } := by
  simp only [callM, hr, if_true, hc, Option.bind_some]
  rw [if_pos ⟨hl, hcl, hb, fun h => by rw [hrd] at h; cases h⟩]
theorem snoc2 {L : List Int} {k : Nat} (h : L.length = k + 2) : ∃ lo : List Int, lo.length = k ∧ L = lo ++ [L.getD k 0, L.getD (k + 1) 0] := by
  refine ⟨L.take k, by simp; omega, ?_⟩
  conv => lhs; rw [← List.take_append_drop k L]
  congr 1
  rw [list_at L (by omega), list_at L (by omega), List.drop_eq_nil_of_le (by omega)]
theorem snoc3 {L : List Int} {k : Nat} (h : L.length = k + 3) : ∃ lo : List Int, lo.length = k ∧ L = lo ++ [L.getD k 0, L.getD (k + 1) 0, L.getD (k + 2) 0] := by
  refine ⟨L.take k, by simp; omega, ?_⟩
  conv => lhs; rw [← List.take_append_drop k L]
  congr 1
  rw [list_at L (by omega), list_at L (by omega), list_at L (by omega), List.drop_eq_nil_of_le (by omega)]
theorem getD_mid {P W Z : List Int} {j : Nat} (hP : P.length = j) (i : Nat) (hi : i < W.length) : (P ++ W ++ Z).getD (j + i) 0 = W.getD i 0 := by
  subst hP
  rw [List.append_assoc]
  simp only [List.getD_eq_getElem?_getD]
  rw [List.getElem?_append_right (by omega), Nat.add_sub_cancel_left, List.getElem?_append_left hi]
theorem window {W B : List Int} {k : Nat} {T t Wk w0 w1 w2 c0 c1 : Int} (hB : B.length = k + 2) (hBo : OkD WB B) (hW : W.length = k + 3) (hWo : OkD WB W) (hlt : valD WB W < 4294967296 * valD WB B)
    (e1 : W.getD k 0 = w0) (e2 : W.getD (k + 1) 0 = w1) (e3 : W.getD (k + 2) 0 = w2) (e4 : B.getD k 0 = c0) (e5 : B.getD (k + 1) 0 = c1) (hv : 0 < c1)
    (hT : T = (w2 * 4294967296 + w1) * 4294967296 + w0) (ht : t = c1 * 4294967296 + c0) (hk : Wk = (4294967296 : Int) ^ k) :
    T * Wk ≤ valD WB W ∧ valD WB W < (T + 1) * Wk ∧ t * Wk ≤ valD WB B ∧ valD WB B ≤ t * Wk + Wk ∧ 4294967296 * Wk ≤ valD WB B ∧ w2 ≤ c1 ∧ 0 < Wk ∧ (0 ≤ w0 ∧ w0 < 4294967296) ∧ (0 ≤ w1 ∧ w1 < 4294967296) ∧ (0 ≤ w2 ∧ w2 < 4294967296) ∧ (0 ≤ c0 ∧ c0 < 4294967296) ∧ (0 ≤ c1 ∧ c1 < 4294967296) := by
  have e0 : (((WB : Nat) : Int)) = (4294967296 : Int) := rfl
  have p0 : 0 < Wk := by rw [hk]; exact Int.pow_pos (by decide)
  obtain ⟨lo, l1, l2⟩ := snoc3 hW
  obtain ⟨ld, d1, d2⟩ := snoc2 hB
  have a0 : 0 ≤ W.getD k 0 ∧ W.getD k 0 < 4294967296 := hWo.getD (by decide) _
  have a1 : 0 ≤ W.getD (k + 1) 0 ∧ W.getD (k + 1) 0 < 4294967296 := hWo.getD (by decide) _
  have a2 : 0 ≤ W.getD (k + 2) 0 ∧ W.getD (k + 2) 0 < 4294967296 := hWo.getD (by decide) _
  have b0 : 0 ≤ B.getD k 0 ∧ B.getD k 0 < 4294967296 := hBo.getD (by decide) _
  have b1 : 0 ≤ B.getD (k + 1) 0 ∧ B.getD (k + 1) 0 < 4294967296 := hBo.getD (by decide) _
  have lok : OkD WB lo := fun y hy => hWo y (by rw [l2]; simp [hy])
  have dok : OkD WB ld := fun y hy => hBo y (by rw [d2]; simp [hy])
  have h1 := valD_lt lok
  have h2 := valD_nonneg lok
  have h3 := valD_lt dok
  have h4 := valD_nonneg dok
  rw [l1, e0, ← hk] at h1
  rw [d1, e0, ← hk] at h3
  rw [e1] at a0 l2
  rw [e2] at a1 l2
  rw [e3] at a2 l2
  rw [e4] at b0 d2
  rw [e5] at b1 d2
  have vW : valD WB W = valD WB lo + Wk * T := by
    rw [l2, valD_append, l1, e0, hk]
    congr 2
    show w0 + 4294967296 * (w1 + 4294967296 * (w2 + 4294967296 * 0)) = T
    omega
  have vB : valD WB B = valD WB ld + Wk * t := by
    rw [d2, valD_append, d1, e0, hk]
    congr 2
    show c0 + 4294967296 * (c1 + 4294967296 * 0) = t
    omega
  have c1' : T * Wk = Wk * T := Int.mul_comm _ _
  have c2' : t * Wk = Wk * t := Int.mul_comm _ _
  have c3' : (T + 1) * Wk = Wk * T + Wk := by rw [Int.add_mul, c1', Int.one_mul]
  have p1 : 4294967296 * Wk ≤ t * Wk := Int.mul_le_mul_of_nonneg_right (by omega) (Int.le_of_lt p0)
  refine ⟨by omega, by rw [vW, c3']; omega, by omega, by omega, by omega, ?_, p0, a0, a1, a2, b0, b1⟩
  by_cases h : w2 ≤ c1
  · exact h
  · exfalso
    have g1 : (t + 1) * 4294967296 * Wk ≤ T * Wk := Int.mul_le_mul_of_nonneg_right (by omega) (Int.le_of_lt p0)
    have g2 : (t + 1) * 4294967296 * Wk = 4294967296 * (Wk * t + Wk) := by
      rw [Int.mul_comm _ 4294967296, Int.mul_assoc, Int.add_mul, Int.one_mul, Int.mul_comm t Wk]
    omega
section
attribute [local irreducible] Vs.callL Vs.callRL tyi callO callM callMV appendE storeE evLoad indexAddrO sliceO evFieldAddr evField buildO buildSliceO makeSliceO allocO boxed lenO copyE convertO indexO Vs.gc freezeAll
theorem slice_us {S : Store} {id off n : Nat} {ex : Bool} {L : List Int} {lo hi m : Nat} (hS : rowsAt S id = some (kRows .u32 L)) (h1 : lo ≤ hi) (h2 : hi ≤ n) (h3 : off + n ≤ L.length) (hm : hi - lo = m) : sliceO Tryz.prog 25 S (.msl id off n ex) (some (.int .i64 (lo : Nat))) (some (.int .i64 (hi : Nat))) none = some (.msl id (off + lo) m false) := by
  have b : ∀ (d n : Nat), bound d (some (.int .i64 (n : Int))) = some n := fun d n => by simp [bound]
  have b0 : ∀ d : Nat, bound d none = some d := fun d => rfl
  simp only [sliceO, sl_us.el, sl_us.is, sl_us.k, sl_us.s, evSlice, sl_us.d, b, b0, hS, kRows_ok, kRows_length]
  subst hm
  have k1 : rowsOK 1 (kRows .u32 L) = true := kRows_ok _ _
  have k2 : off + n ≤ (kRows .u32 L).length := by rw [kRows_length]; exact h3
  simp [h1, h2, k1, k2]
set_option maxHeartbeats 2000000 in
theorem loop_DivMod (A B : List Int) (J k : Nat) (sh : Int) (hB : B.length = k + 2) (hBo : OkD WB B) (hA : A.length = J + k + 2) (hAo : OkD WB A) (hAl : A.length ≤ 1000000) (hv : 0 < B.getD (k + 1) 0) (fs : List Fr) : ∀ (t : Nat), t ≤ J → ∀ (O Q : List Int), O.length = k + 2 → OkD WB O → Q.length + t = J → OkD WB Q → valD WB O < valD WB B → valD WB A = valD WB (A.take t) + (4294967296 : Int) ^ t * (valD WB B * valD WB Q + valD WB O) →
    ∃ (O' Q' : List Int), OkD WB O' ∧ OkD WB Q' ∧ O'.length = k + 2 ∧ Q'.length = J ∧ valD WB O' < valD WB B ∧ valD WB A = valD WB B * valD WB Q' + valD WB O' ∧ ∀ z : PV × Store, exitTo 0 fx169_ 0 fs [(4, .msl 1 0 J true), (8, .int .i64 sh), (9, .undef), (10, .msl 0 0 A.length true), (11, .undef), (12, .undef), (13, .undef), (14, .undef), (83, .undef)] [.arr (kRows .u32 (O' ++ List.replicate J 0)) (some (some 1)) false, .arr (kRows .u32 Q') (some (some 1)) false] = some z →
    loopAt 0 fx169_ 0 32756 2 fs ([(4, .msl 1 0 J true), (8, .int .i64 sh), (9, .sl (kRows .u32 B) false), (10, .msl 0 0 A.length true), (11, .int .i64 (k + 2 : Nat)), (12, .int .u64 (B.getD (k + 1) 0)), (13, .int .u64 (B.getD k 0)), (14, .int .i64 ((t : Int) - 1))]) [.arr (kRows .u32 (A.take t ++ O ++ List.replicate (J - t) 0)) (some (some 1)) false, .arr (kRows .u32 (List.replicate t 0 ++ Q)) (some (some 1)) false] = some z := by
  have hM : 3000000 ≤ maxLen := by decide
  intro t
  induction t with
  | zero =>
    intro ht O Q hO hOo hQ hQo hlt hval
    refine ⟨O, Q, hOo, hQo, hO, by omega, hlt, by simpa [valD] using hval, fun z hz => ?_⟩
    refine loopAt_step ok169_.good 1000 ?_
    simp only [List.take_zero, List.nil_append, List.replicate_zero, Nat.sub_zero]
    have c : ¬ (0 : Int) ≤ ((0 : Nat) : Int) - 1 := by omega
    ((repeat ((conv => lhs; whnf); simp only [go_sem, simprocAttr, sem169_, c])); try (conv => lhs; whnf); try rfl)
    exact hz
  | succ t ih =>
    intro ht O Q hO hOo hQ hQo hlt hval
    have ej : ((t + 1 : Nat) : Int) - 1 = (t : Int) := by omega
    have c : (0 : Int) ≤ (t : Int) := by omega
    obtain ⟨x, hx⟩ : ∃ x, x = A.getD t 0 := ⟨_, rfl⟩
    have hxb : 0 ≤ x ∧ x < 4294967296 := by rw [hx]; exact hAo.getD (by decide) t
    have et : A.take (t + 1) = A.take t ++ [x] := by
      rw [List.take_add_one]
      have : A[t]? = some (A.getD t 0) := by rw [List.getElem?_eq_getElem (by omega)]; simp [List.getD_eq_getElem?_getD, show t < A.length by omega]
      rw [this, hx]; rfl
    have eU : A.take (t + 1) ++ O ++ List.replicate (J - (t + 1)) 0 = A.take t ++ (x :: O) ++ List.replicate (J - (t + 1)) 0 := by rw [et]; simp
    have hP : (A.take t).length = t := by simp; omega
    have hWl : (x :: O).length = k + 3 := by simp [hO]
    have hWo : OkD WB (x :: O) := .cons hxb hOo
    have hUl : (A.take t ++ (x :: O) ++ List.replicate (J - (t + 1)) (0 : Int)).length = A.length := by simp; omega
    have hWv : valD WB (x :: O) = x + 4294967296 * valD WB O := rfl
    have hlt' : valD WB (x :: O) < 4294967296 * valD WB B := by rw [hWv]; omega
    obtain ⟨w0, e1⟩ : ∃ w, (x :: O).getD k 0 = w := ⟨_, rfl⟩
    obtain ⟨w1, e2⟩ : ∃ w, (x :: O).getD (k + 1) 0 = w := ⟨_, rfl⟩
    obtain ⟨w2, e3⟩ : ∃ w, (x :: O).getD (k + 2) 0 = w := ⟨_, rfl⟩
    obtain ⟨c0, e4⟩ : ∃ w, B.getD k 0 = w := ⟨_, rfl⟩
    obtain ⟨c1, e5⟩ : ∃ w, B.getD (k + 1) 0 = w := ⟨_, rfl⟩
    rw [e4, e5]
    rw [e5] at hv
    obtain ⟨y1, y2, y3, y4, y5, y6, y7, z0, z1, z2, z3, z4⟩ := window hB hBo hWl hWo hlt' e1 e2 e3 e4 e5 hv rfl rfl rfl
    have g0 := getD_mid (P := A.take t) (Z := List.replicate (J - (t + 1)) 0) hP k (show k < (x :: O).length by omega)
    have g1 := getD_mid (P := A.take t) (Z := List.replicate (J - (t + 1)) 0) hP (k + 1) (show k + 1 < (x :: O).length by omega)
    have g2 := getD_mid (P := A.take t) (Z := List.replicate (J - (t + 1)) 0) hP (k + 2) (show k + 2 < (x :: O).length by omega)
    rw [e1] at g0
    rw [e2] at g1
    rw [e3] at g2
    rw [eU]
    generalize hUe : A.take t ++ (x :: O) ++ List.replicate (J - (t + 1)) 0 = U at *
    have wi : IntKind.i64.wrap ((t : Int) + ((k + 2 : Nat) : Int)) = ((t + (k + 2) : Nat) : Int) := by rw [IntKind.wrap_i64]; omega
    have wi2 : IntKind.i64.wrap (((t + (k + 2) : Nat) : Int) - 1) = ((t + (k + 1) : Nat) : Int) := by rw [IntKind.wrap_i64]; omega
    have wi3 : IntKind.i64.wrap (((t + (k + 2) : Nat) : Int) + 1) = ((t + (k + 3) : Nat) : Int) := by rw [IntKind.wrap_i64]; omega
    have xm2 := sl_us.idxmk .u32 (S := [.arr (kRows .u32 U) (some (some 1)) false, .arr (kRows .u32 (List.replicate (t + 1) 0 ++ Q)) (some (some 1)) false]) (id := 0) (off := 0) (n := A.length) (ex := true) (L := U) (t + (k + 2)) rfl (by omega) (by omega)
    have xm1 := sl_us.idxmk .u32 (S := [.arr (kRows .u32 U) (some (some 1)) false, .arr (kRows .u32 (List.replicate (t + 1) 0 ++ Q)) (some (some 1)) false]) (id := 0) (off := 0) (n := A.length) (ex := true) (L := U) (t + (k + 1)) rfl (by omega) (by omega)
    rw [Nat.zero_add] at xm1 xm2
    have l2 : t + (k + 2) < U.length := by omega
    have l1 : t + (k + 1) < U.length := by omega
    have gk2 := kRows_get .u32 U l2
    have gk1 := kRows_get .u32 U l1
    rw [g2] at gk2
    rw [g1] at gk1
    have cw2 : IntKind.u64.wrap w2 = w2 := by rw [wU64]; omega
    have cw1 : IntKind.u64.wrap w1 = w1 := by rw [wU64]; omega
    have sw : IntKind.u64.wrap (w2 * 4294967296) = w2 * 4294967296 := by rw [wU64]; omega
    have bo := bor_high z2 z1
    obtain ⟨num, hnum⟩ : ∃ n, n = w2 * 4294967296 + w1 := ⟨_, rfl⟩
    rw [← hnum] at bo y1 y2
    have n0 : ¬ c1 = 0 := by omega
    have hn0 : 0 ≤ num := by omega
    have td : num.tdiv c1 = num / c1 := Int.tdiv_eq_ediv_of_nonneg hn0
    have tm : num.tmod c1 = num % c1 := Int.tmod_eq_emod_of_nonneg hn0
    have q0 : 0 ≤ num / c1 := Int.ediv_nonneg hn0 (by omega)
    have hde := Int.mul_ediv_add_emod num c1
    have r0 := Int.emod_nonneg num n0
    have r1 := Int.emod_lt_of_pos num (show 0 < c1 by omega)
    have q1 : num / c1 < 8589934592 := by
      rw [Int.ediv_lt_iff_lt_mul (by omega)]; omega
    obtain ⟨ga, hga⟩ : ∃ n, n = num / c1 := ⟨_, rfl⟩
    obtain ⟨ra, hra⟩ : ∃ n, n = num % c1 := ⟨_, rfl⟩
    rw [← hga, ← hra] at hde
    rw [← hga] at td q0 q1
    rw [← hra] at tm r0 r1
    have ca : IntKind.u64.wrap ga = ga := by rw [wU64]; omega
    have cr : IntKind.u64.wrap ra = ra := by rw [wU64]; omega
    have hW0 := valD_nonneg hWo
    have hV0 := valD_nonneg hBo
    have hO0 := valD_nonneg hOo
    obtain ⟨Wk, hWk⟩ : ∃ n, n = (4294967296 : Int) ^ k := ⟨_, rfl⟩
    rw [← hWk] at y1 y2 y3 y4 y5 y7
    have low0 : valD WB (x :: O) < (ga + 1) * valD WB B := by
      have k1 : (num * 4294967296 + w0 + 1) ≤ (ga + 1) * (c1 * 4294967296 + c0) := by
        have a1 : num + 1 ≤ (ga + 1) * c1 := by rw [Int.add_mul, Int.mul_comm ga c1]; omega
        have a2 : (num + 1) * 4294967296 ≤ (ga + 1) * c1 * 4294967296 := Int.mul_le_mul_of_nonneg_right a1 (by decide)
        have a3 : 0 ≤ (ga + 1) * c0 := Int.mul_nonneg (by omega) z3.1
        rw [Int.mul_add, ← Int.mul_assoc]
        omega
      have k2 := Int.mul_le_mul_of_nonneg_right k1 (Int.le_of_lt y7)
      have k3 := Int.mul_le_mul_of_nonneg_left y3 (show 0 ≤ ga + 1 by omega)
      rw [← Int.mul_assoc] at k3
      omega
    obtain ⟨g, j1, j2, j3, j4⟩ := loop_guess U (List.replicate (t + 1) 0 ++ Q) B false J (k + 2) t sh c1 c0 w0 num (valD WB (x :: O)) (valD WB B) Wk (num * 4294967296 + w0) (by omega) (by omega) (by omega) ⟨hv, z4.2⟩ z3 (by rw [show t + (k + 2) - 2 = t + k by omega]; exact g0) z0 rfl (by omega) (Int.le_of_lt y7) hV0 hW0 y2 y3 hlt' (.blk 2 :: .seq 1 2096423 :: .blk 1 :: .seq 0 131027 :: .lop 0 32756 2 :: fs) ga.toNat [(127, .undef), (134, .undef)] ga ra (.inr rfl) (by omega) ⟨by omega, by omega⟩ ⟨by omega, by omega⟩ (by rw [Int.mul_comm]; omega) low0
    have fin := guess_fin (Int.le_of_lt y7) j1.1 j1.2 j2 y1 y4 y5
    have tail : ∃ (gd : Int) (Oy : List Int), (0 ≤ gd ∧ gd < 4294967296) ∧ OkD WB Oy ∧ Oy.length = k + 2 ∧ valD WB (x :: O) = valD WB B * gd + valD WB Oy ∧ valD WB Oy < valD WB B ∧ ∀ z : PV × Store, loopAt 0 fx169_ 0 32756 2 fs ([(4, .msl 1 0 J true), (8, .int .i64 sh), (9, .sl (kRows .u32 B) false), (10, .msl 0 0 A.length true), (11, .int .i64 (k + 2 : Nat)), (12, .int .u64 c1), (13, .int .u64 c0), (14, .int .i64 ((t : Int) - 1))]) [.arr (kRows .u32 (A.take t ++ Oy ++ List.replicate (J - t) 0)) (some (some 1)) false, .arr (kRows .u32 (List.replicate t 0 ++ gd :: Q)) (some (some 1)) false] = some z →
        exitTo 0 fx169_ 2 (.blk 2 :: .seq 1 2096423 :: .blk 1 :: .seq 0 131027 :: .lop 0 32756 2 :: fs) [(4, .msl 1 0 J true), (8, .int .i64 sh), (9, .sl (kRows .u32 B) false), (10, .msl 0 0 U.length true), (11, .int .i64 (k + 2 : Nat)), (12, .int .u64 c1), (13, .int .u64 c0), (14, .int .i64 t), (16, .int .u64 g), (17, .undef), (127, .undef), (134, .undef)] [.arr (kRows .u32 U) (some (some 1)) false, .arr (kRows .u32 (List.replicate (t + 1) 0 ++ Q)) (some (some 1)) false] = some z := by
      rw [hUl]
      have rr : hints.refs 184 = true := by kernel_rfl
      have rs : hints.refs 185 = true := by kernel_rfl
      obtain ⟨O1, b, s1, s2, s3, s4⟩ := call_subtract B false hBo (by omega) g j1 t (by omega) false (A.take t) (x :: O) (List.replicate (J - (t + 1)) 0) hP (by omega) hWo (.arr (kRows .u32 (List.replicate (t + 1) 0 ++ Q)) (some (some 1)) false)
      rw [hUe] at s4
      have cs := callM_eq rr s4 (by simp)
      have sl : sliceO Tryz.prog 25 [.arr (kRows .u32 U) (some (some 1)) false, .arr (kRows .u32 (List.replicate (t + 1) 0 ++ Q)) (some (some 1)) false] (.msl 0 0 A.length true) (some (.int .i64 t)) (some (.int .i64 ((t + (k + 3) : Nat) : Int))) none = some (.msl 0 t (B.length + 1) false) := by
        have := slice_us (S := [.arr (kRows .u32 U) (some (some 1)) false, .arr (kRows .u32 (List.replicate (t + 1) 0 ++ Q)) (some (some 1)) false]) (id := 0) (off := 0) (n := A.length) (ex := true) (L := U) (lo := t) (hi := t + (k + 3)) (m := B.length + 1) rfl (by omega) (by omega) (by omega) (by omega)
        rw [Nat.zero_add] at this
        exact this
      have wg : IntKind.u32.wrap g = g := by rw [IntKind.wrap_u32]; omega
      have wt : IntKind.i64.wrap ((t : Int) - 1) = (t : Int) - 1 := by rw [IntKind.wrap_i64]; omega
      have o1n := valD_nonneg s1
      have o1l := valD_lt s1
      have setq : ∀ v : Int, (kRows .u32 (List.replicate (t + 1) 0 ++ Q)).set t [.int .u32 v] = kRows .u32 (List.replicate t 0 ++ v :: Q) := fun v => by
        rw [kRows_set]
        congr 1
        have e : List.replicate (t + 1) (0 : Int) ++ Q = List.replicate t 0 ++ 0 :: Q := by
          rw [List.replicate_succ', List.append_assoc]; rfl
        rw [e, List.set_append, if_neg (by simp)]
        simp
      have lenq : t < (List.replicate (t + 1) (0 : Int) ++ Q).length := by simp; omega
      have hQl : (List.replicate (t + 1) (0 : Int) ++ Q).length = J := by simp; omega
      have gq : ((kRows .u32 (List.replicate (t + 1) 0 ++ Q)).getD t []).length = 1 := by rw [kRows_get _ _ lenq]; rfl
      have xq : ∀ X : Obj, indexAddrO Tryz.prog 25 [X, .arr (kRows .u32 (List.replicate (t + 1) 0 ++ Q)) (some (some 1)) false] (.msl 1 0 J true) (.int .i64 t) = some (.mp 1 t 0) := fun X => by
        have := sl_us.idxmk .u32 (S := [X, .arr (kRows .u32 (List.replicate (t + 1) 0 ++ Q)) (some (some 1)) false]) (id := 1) (off := 0) (n := J) (ex := true) (L := List.replicate (t + 1) 0 ++ Q) t rfl (by omega) (by omega)
        rw [Nat.zero_add] at this
        exact this
      have top : ∀ Ox : List Int, OkD WB Ox → Ox.length = k + 3 → valD WB Ox < valD WB B → ∃ Oy, OkD WB Oy ∧ Oy.length = k + 2 ∧ Ox = Oy ++ [0] ∧ valD WB Oy = valD WB Ox := fun Ox ho hl hlt => by
        have e0 : (((WB : Nat) : Int)) = (4294967296 : Int) := rfl
        have hs : Ox = Ox.take (k + 2) ++ [Ox.getD (k + 2) 0] := by
          conv => lhs; rw [← List.take_append_drop (k + 2) Ox]
          congr 1
          rw [list_at Ox (by omega), List.drop_eq_nil_of_le (by omega)]
        have hy : 0 ≤ Ox.getD (k + 2) 0 := (ho.getD (by decide) (k + 2)).1
        have hok : OkD WB (Ox.take (k + 2)) := fun y hy => ho y (List.mem_of_mem_take hy)
        have hn := valD_nonneg hok
        have hlen : (Ox.take (k + 2)).length = k + 2 := by simp; omega
        have hvx : valD WB Ox = valD WB (Ox.take (k + 2)) + 4294967296 ^ (k + 2) * Ox.getD (k + 2) 0 := by
          conv => lhs; rw [hs]
          rw [valD_append, hlen, e0]
          simp [valD]
        have hBl := valD_lt hBo
        rw [hB, e0] at hBl
        have hz : Ox.getD (k + 2) 0 = 0 := by
          rcases Int.lt_or_eq_of_le hy with h | h
          · exfalso
            have := Int.mul_le_mul_of_nonneg_left (show 1 ≤ Ox.getD (k + 2) 0 by omega) (show (0 : Int) ≤ 4294967296 ^ (k + 2) from Int.le_of_lt (Int.pow_pos (by decide)))
            omega
          · exact h.symm
        rw [hz] at hs hvx
        refine ⟨_, hok, hlen, hs, by omega⟩
      have stl : ∀ Oy : List Int, A.take t ++ (Oy ++ [0]) ++ List.replicate (J - (t + 1)) 0 = A.take t ++ Oy ++ List.replicate (J - t) 0 := fun Oy => by
        have : J - t = (J - (t + 1)) + 1 := by omega
        rw [this, List.replicate_succ]
        simp
      cases b with
      | false =>
        have hR : valD WB O1 = valD WB (x :: O) - g * valD WB B := by rw [s3]; simp
        have hRl : valD WB O1 < valD WB B := by rw [Int.add_mul] at j3; omega
        obtain ⟨Oy, p1, p2, p3, p4⟩ := top O1 s1 (by omega) hRl
        refine ⟨g, Oy, j1, p1, p2, by rw [p4, hR, Int.mul_comm]; omega, by omega, fun z hz => ?_⟩
        rw [← stl, ← p3] at hz
        refine exit_run ok169_.good 1000 ?_
        ((repeat ((conv => lhs; whnf); simp only [go_sem, simprocAttr, sem169_, wi, wi3, sl, cs, wg, wt, xq, lenq, gq, setq])); try (conv => lhs; whnf); try rfl)
        exact hz
      | true =>
        have hR : valD WB O1 = valD WB (x :: O) - g * valD WB B + 4294967296 ^ (k + 3) := by rw [s3, hB]; simp
        have hneg : valD WB (x :: O) < g * valD WB B := by
          rw [s2, hB] at o1l
          have : (((WB : Nat) : Int)) = (4294967296 : Int) := rfl
          rw [this] at o1l
          have e3 : k + 2 + 1 = k + 3 := rfl
          rw [e3] at o1l
          omega
        have gp : 0 < g := by
          rcases Int.lt_or_eq_of_le j1.1 with h | h
          · exact h
          · rw [← h, Int.zero_mul] at hneg; omega
        obtain ⟨O2, m, u1, u2, u3, u4⟩ := call_restore B false hBo (by omega) t (by omega) false (A.take t) O1 (List.replicate (J - (t + 1)) 0) hP s2 s1 (.arr (kRows .u32 (List.replicate (t + 1) 0 ++ Q)) (some (some 1)) false)
        have cr2 := callM_eq rs u4 (by simp)
        have o2n := valD_nonneg u1
        have o2l := valD_lt u1
        have hO2 : valD WB O2 = valD WB (x :: O) - (g - 1) * valD WB B := by
          have e0 : (((WB : Nat) : Int)) = (4294967296 : Int) := rfl
          have hBl := valD_lt hBo
          rw [hB, e0] at hBl
          rw [u2, hB, e0] at o2l
          rw [hB, hR] at u3
          have p1 : (0 : Int) < 4294967296 ^ (k + 2) := Int.pow_pos (by decide)
          have p2 : (4294967296 : Int) ^ (k + 3) = 4294967296 ^ (k + 2) * 4294967296 := Int.pow_succ _ _
          have p3 : (4294967296 : Int) ^ (k + 2 + 1) = 4294967296 ^ (k + 3) := rfl
          rw [p3] at u3 o2l
          rw [Int.sub_mul, Int.one_mul]
          have hm : m = 1 := by
            rcases Int.lt_trichotomy m 1 with h | h | h
            · exfalso
              have := Int.mul_le_mul_of_nonneg_left (show m ≤ 0 by omega) (show (0 : Int) ≤ 4294967296 ^ (k + 3) by omega)
              omega
            · exact h
            · exfalso
              have := Int.mul_le_mul_of_nonneg_left (show 2 ≤ m by omega) (show (0 : Int) ≤ 4294967296 ^ (k + 3) by omega)
              omega
          rw [hm, Int.mul_one] at u3
          omega
        have hRl : valD WB O2 < valD WB B := by rw [hO2, Int.sub_mul]; omega
        obtain ⟨Oy, p1, p2, p3, p4⟩ := top O2 u1 (by omega) hRl
        have wg1 : IntKind.u64.wrap (g - 1) = g - 1 := by rw [wU64]; omega
        have wg2 : IntKind.u32.wrap (g - 1) = g - 1 := by rw [IntKind.wrap_u32]; omega
        have sl2 : sliceO Tryz.prog 25 [.arr (kRows .u32 (A.take t ++ O1 ++ List.replicate (J - (t + 1)) 0)) (some (some 1)) false, .arr (kRows .u32 (List.replicate (t + 1) 0 ++ Q)) (some (some 1)) false] (.msl 0 0 A.length true) (some (.int .i64 t)) (some (.int .i64 ((t + (k + 3) : Nat) : Int))) none = some (.msl 0 t (B.length + 1) false) := by
          have := slice_us (S := [.arr (kRows .u32 (A.take t ++ O1 ++ List.replicate (J - (t + 1)) 0)) (some (some 1)) false, .arr (kRows .u32 (List.replicate (t + 1) 0 ++ Q)) (some (some 1)) false]) (id := 0) (off := 0) (n := A.length) (ex := true) (L := A.take t ++ O1 ++ List.replicate (J - (t + 1)) 0) (lo := t) (hi := t + (k + 3)) (m := B.length + 1) rfl (by omega) (by omega) (by simp; omega) (by omega)
          rw [Nat.zero_add] at this
          exact this
        refine ⟨g - 1, Oy, ⟨by omega, by omega⟩, p1, p2, by rw [p4, hO2, Int.mul_comm]; omega, by omega, fun z hz => ?_⟩
        rw [← stl, ← p3] at hz
        refine exit_run ok169_.good 1000 ?_
        ((repeat ((conv => lhs; whnf); simp only [go_sem, simprocAttr, sem169_, wi, wi3, sl, sl2, cs, cr2, wg1, wg2, wt, xq, lenq, gq, setq])); try (conv => lhs; whnf); try rfl)
        exact hz
    obtain ⟨gd, Oy, t1, t2, t3, t4, t5, t6⟩ := tail
    obtain ⟨O', Q', i1, i2, i3, i4, i5, i6, i7⟩ := ih (by omega) Oy (gd :: Q) t3 t2 (by simp; omega) (.cons t1 hQo) t5 (by
      have e0 : (((WB : Nat) : Int)) = (4294967296 : Int) := rfl
      have s1 : valD WB [x] = x := by simp [valD]
      have s2 : valD WB (gd :: Q) = gd + 4294967296 * valD WB Q := rfl
      have s3 : x + 4294967296 * (valD WB B * valD WB Q + valD WB O) = valD WB B * (gd + 4294967296 * valD WB Q) + valD WB Oy := by
        rw [Int.mul_add, Int.mul_add, Int.mul_left_comm (valD WB B) 4294967296]
        omega
      rw [hval, et, valD_append, hP, e0, s1, s2, Int.pow_succ, Int.mul_assoc, Int.add_assoc, ← Int.mul_add, s3])
    refine ⟨O', Q', i1, i2, i3, i4, i5, i6, fun z hz => ?_⟩
    have key := i7 z hz
    rw [e4, e5] at key
    have inner := j4 z (t6 z key)
    rw [hUl] at inner
    refine loopAt_step ok169_.good 1000 ?_
    rw [ej]
    ((repeat ((conv => lhs; whnf); simp only [go_sem, simprocAttr, sem169_, c, wi, wi2, xm2, xm1, l2, l1, gk2, gk1, cw2, cw1, sw, bo, n0, td, tm, ca, cr, ← hnum])); try (conv => lhs; whnf); try rfl)
    exact inner
end
end Go.Vs
end
