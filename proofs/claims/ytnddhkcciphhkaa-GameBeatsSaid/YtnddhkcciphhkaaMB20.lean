/- The reference's ranks: what they are. -/

import Derived.Test.YtnddhkcciphhkaaMB16
import Derived.Test.YtnddhkcciphhkaaMB19
section
set_option linter.unusedVariables false
set_option linter.unusedSimpArgs false
namespace Go.Vs
open Go Go.Proofs
theorem loop58_2 (g : Game) (hg : g.good) : ∀ (m r : Nat), r + m = g.owner.length + 1 → ∀ (S : Store) (o : Nat), FS g o (Rk.lvl g.toG r) S → (r ≠ 0 → 2 ≤ o) → 2 ≤ S.length →
    ∃ S' o', F58.L2 0 2 (.mp 0 0 0) (.int .i64 g.owner.length) (.msl o 0 g.owner.length true) (.int .i64 (r + 1 : Nat)) S = some (.msl o' 0 g.owner.length true, S') ∧ FS g o' (Rk.lvl g.toG (g.owner.length + 1)) S' := by
  have hN := hg.n
  have hm4 : (4000 : Nat) ≤ maxLen := by decide
  have w2 := wrap_succ (i := g.owner.length) (n := g.owner.length + 1) (by omega) (by omega)
  intro m
  induction m with
  | zero =>
    intro r hr S o h ho hS
    obtain rfl : r = g.owner.length + 1 := by omega
    have c1 : ¬ ((g.owner.length + 1 + 1 : Nat) : Int) ≤ ((g.owner.length + 1 : Nat) : Int) := by omega
    refine ⟨S, o, F58.L2_step ?_, h⟩
    have s1 : ∀ K : KT, execL (F58.C 0) 2 F58.c130 K (F58.ee6 (.mp 0 0 0) (.int .i64 g.owner.length) (.msl o 0 g.owner.length true) (.int .i64 (g.owner.length + 1 + 1 : Nat))) S = K .normal (F58.ee15 (.mp 0 0 0) (.int .i64 g.owner.length) (.msl o 0 g.owner.length true) (.int .i64 (g.owner.length + 1 + 1 : Nat)) (.bool false)) S := fun K => by
      simp only [go_sem, ↓reduceIte, Nat.reduceEqDiff, Nat.reduceBEq, Nat.reduceAdd, Nat.reduceMul, Nat.reduceSub, Nat.reduceLT, Nat.reduceLeDiff, reduceCtorEq, Int.reduceToNat, Int.reduceLE, Int.reduceLT, Int.reduceEq, withV_any, w2, c1]
    have e1 : Vs.gc 2 (F58.ee15 .undef .undef (.msl o 0 g.owner.length true) .undef .undef) S = S := gc_no (t := 4) (v := .msl o 0 g.owner.length true) (by simp [F58.ee15]) (r := o) (by simp [PV.refs]) (ho (by omega))
    simp only [F58.B2_eq, s1, F58.k132_n, condC_false, F58.k31_exit, F58.k24_x1, e1, F58.k21_exit, if_true, F58.k14_n, F58.g15, withV_any, F58.k13_n, F58.k0_ret16]
  | succ m hm =>
    intro r hr S o h ho hS
    have c1 : ((r + 1 : Nat) : Int) ≤ ((g.owner.length + 1 : Nat) : Int) := by omega
    have w1 := wrap_succ (i := r + 1) (n := r + 2) (by omega) (by omega)
    have hol := (List.getElem?_eq_some_iff.1 h.pR).1
    have m2 := makeSlice22 S.length g.owner.length (by omega)
    have e0 : List.replicate g.owner.length [PV.int .i64 0] = intRows (zint g.owner.length) := zint_rows _
    rw [e0] at m2
    have hz : (zint g.owner.length).length = g.owner.length := by simp [zint]
    have hS1 : (S ++ [Obj.arr (intRows (zint g.owner.length)) (some (some 1)) false])[S.length]? = some (.arr (intRows (zint g.owner.length)) (some (some 1)) false) := by simp
    have hFo : FS g o (Rk.lvl g.toG r) (S ++ [Obj.arr (intRows (zint g.owner.length)) (some (some 1)) false]) := ⟨by rw [List.getElem?_append_left (by omega)]; exact h.p0, by rw [List.getElem?_append_left hol]; exact h.pR, h.len⟩
    have hIo : Ints (S ++ [Obj.arr (intRows (zint g.owner.length)) (some (some 1)) false]) (.msl o 0 g.owner.length true) (Rk.lvl g.toG r) := by
      have := Ints.msl o (Rk.lvl g.toG r) true _ _ hFo.pR
      rwa [h.len] at this
    have cp := copyE22 (ex := true) hS1 (by rw [intRows_length, hz]) (intRows_ok _) hIo (by rw [h.len]; exact Nat.le_refl _)
    have e3 : intRows (Rk.lvl g.toG r) ++ (intRows (zint g.owner.length)).drop (Rk.lvl g.toG r).length = intRows (Rk.lvl g.toG r) := by
      rw [h.len, List.drop_of_length_le (by rw [intRows_length, hz]; exact Nat.le_refl _), List.append_nil]
    rw [e3] at cp
    have hS2w : FS g S.length (Rk.lvl g.toG r) ((S ++ [Obj.arr (intRows (zint g.owner.length)) (some (some 1)) false]).set S.length (.arr (intRows (Rk.lvl g.toG r)) (some (some 1)) false)) := ⟨by rw [List.getElem?_set_ne (by omega)]; exact hFo.p0, by rw [List.getElem?_set_self (by simp)], h.len⟩
    have hS2o : FS g o (Rk.lvl g.toG r) ((S ++ [Obj.arr (intRows (zint g.owner.length)) (some (some 1)) false]).set S.length (.arr (intRows (Rk.lvl g.toG r)) (some (some 1)) false)) := ⟨hS2w.p0, by rw [List.getElem?_set_ne (by omega)]; exact hFo.pR, h.len⟩
    have hl2 : ((S ++ [Obj.arr (intRows (zint g.owner.length)) (some (some 1)) false]).set S.length (.arr (intRows (Rk.lvl g.toG r)) (some (some 1)) false)).length = S.length + 1 := by simp
    generalize (S ++ [Obj.arr (intRows (zint g.owner.length)) (some (some 1)) false]).set S.length (.arr (intRows (Rk.lvl g.toG r)) (some (some 1)) false) = S2 at *
    obtain ⟨S3, a1, a2, a3⟩ := loop58_4 g hg 2 S2.length o S.length (by omega) (by omega) ((r + 1 : Nat) : Int) (Rk.lvl g.toG r) g.owner.length 0 (by omega) S2 (Rk.lvl g.toG r) rfl hS2o hS2w
    have er : rnd g.toG ((r + 1 : Nat) : Int) (Rk.lvl g.toG r) g.owner.length 0 (Rk.lvl g.toG r) = Rk.lvl g.toG (r + 1) := by
      have := rnd_round g.toG ((r + 1 : Nat) : Int) (Rk.lvl g.toG r)
      rw [h.len] at this
      rw [this]
      rfl
    rw [er] at a2
    obtain ⟨S', o', b1, b2⟩ := hm (r + 1) (by omega) S3 S.length a2 (fun _ => hS) (by omega)
    refine ⟨S', o', F58.L2_step ?_, b2⟩
    have s1 : ∀ K : KT, execL (F58.C 0) 2 F58.c130 K (F58.ee6 (.mp 0 0 0) (.int .i64 g.owner.length) (.msl o 0 g.owner.length true) (.int .i64 (r + 1 : Nat))) S = K .normal (F58.ee15 (.mp 0 0 0) (.int .i64 g.owner.length) (.msl o 0 g.owner.length true) (.int .i64 (r + 1 : Nat)) (.bool true)) S := fun K => by
      simp only [go_sem, ↓reduceIte, Nat.reduceEqDiff, Nat.reduceBEq, Nat.reduceAdd, Nat.reduceMul, Nat.reduceSub, Nat.reduceLT, Nat.reduceLeDiff, reduceCtorEq, Int.reduceToNat, Int.reduceLE, Int.reduceLT, Int.reduceEq, withV_any, w2, c1]
    have s2 : ∀ K : KT, execL (F58.C 0) 3 F58.c34 K (F58.ee15 (.mp 0 0 0) (.int .i64 g.owner.length) (.msl o 0 g.owner.length true) (.int .i64 (r + 1 : Nat)) (.bool true)) S = K .normal (F58.ee7 (.mp 0 0 0) (.int .i64 g.owner.length) (.msl o 0 g.owner.length true) (.int .i64 (r + 1 : Nat)) (.msl S.length 0 g.owner.length true)) (S ++ [Obj.arr (intRows (zint g.owner.length)) (some (some 1)) false]) := fun K => by
      simp only [go_sem, ↓reduceIte, Nat.reduceEqDiff, Nat.reduceBEq, Nat.reduceAdd, Nat.reduceMul, Nat.reduceSub, Nat.reduceLT, Nat.reduceLeDiff, reduceCtorEq, Int.reduceToNat, Int.reduceLE, Int.reduceLT, Int.reduceEq, withV_any, m2]
    have s3 : ∀ K : KT, execL (F58.C 0) 3 F58.c36 K (F58.ee7 (.mp 0 0 0) (.int .i64 g.owner.length) (.msl o 0 g.owner.length true) (.int .i64 (r + 1 : Nat)) (.msl S.length 0 g.owner.length true)) (S ++ [Obj.arr (intRows (zint g.owner.length)) (some (some 1)) false]) = K .normal (F58.ee7 (.mp 0 0 0) (.int .i64 g.owner.length) (.msl o 0 g.owner.length true) (.int .i64 (r + 1 : Nat)) (.msl S.length 0 g.owner.length true)) S2 := fun K => by
      simp only [F58.g128, withV_any, cp, withS, Option.bind_some]
    have s4 : ∀ (K : KT) (S : Store) (x4 : PV), execL (F58.C 0) 2 F58.c28 K (F58.ee6 (.mp 0 0 0) (.int .i64 g.owner.length) x4 (.int .i64 (r + 1 : Nat))) S = K .normal (F58.ee6 (.mp 0 0 0) (.int .i64 g.owner.length) x4 (.int .i64 (r + 1 + 1 : Nat))) S := fun K S x4 => by
      simp only [go_sem, ↓reduceIte, Nat.reduceEqDiff, Nat.reduceBEq, Nat.reduceAdd, Nat.reduceMul, Nat.reduceSub, Nat.reduceLT, Nat.reduceLeDiff, reduceCtorEq, Int.reduceToNat, Int.reduceLE, Int.reduceLT, Int.reduceEq, withV_any, w1]
    have e1 : ∀ x6 : PV, Vs.gc 2 (F58.ee6 (.mp 0 0 0) (.int .i64 g.owner.length) (.msl S.length 0 g.owner.length true) x6) S3 = S3 := fun x6 => gc_no (t := 4) (v := .msl S.length 0 g.owner.length true) (by simp [F58.ee6]) (r := S.length) (by simp [PV.refs]) hS
    have key := a3 _ (by
      simp only [F58.k40_n, F58.g41, withV_any, F58.k33_n, F58.k29_n, s4, F58.k24_n, e1]
      exact b1)
    simp only [Int.natCast_zero] at key
    simp only [F58.B2_eq, s1, F58.k132_n, condC_true, F58.k31_n, s2, F58.k127_n, s3, F58.k42_n, F58.g126, withV_any, F58.k45_n]
    exact key
def ini (g : Game) : Nat → Nat → List Int → List Int
  | 0, _, R => R
  | m + 1, i, R => ini g m (i + 1) (R.set i (if g.goal.getD i false = true then 0 else -1))
theorem ini_len (g : Game) : ∀ (m i : Nat) (R : List Int), (ini g m i R).length = R.length
  | 0, _, _ => rfl
  | m + 1, i, R => by rw [ini, ini_len g m, List.length_set]
theorem ini_get (g : Game) : ∀ (m i : Nat) (R : List Int), i + m = R.length → ∀ j, j < R.length → (ini g m i R).getD j 0 = if i ≤ j then (if g.goal.getD j false = true then 0 else -1) else R.getD j 0
  | 0, i, R, hi, j, hj => by rw [ini, if_neg (by omega)]
  | m + 1, i, R, hi, j, hj => by
    rw [ini, ini_get g m (i + 1) _ (by rw [List.length_set]; omega) j (by rw [List.length_set]; exact hj), getD_set' hj]
    by_cases e : i = j
    · subst e
      rw [if_neg (by omega), if_pos rfl, if_pos (Nat.le_refl _)]
    · by_cases e3 : i ≤ j
      · rw [if_pos (by omega), if_pos e3]
      · rw [if_neg (by omega), if_neg e, if_neg e3]
theorem ini_all (g : Game) : ini g g.owner.length 0 (zint g.owner.length) = Rk.lvl g.toG 0 := by
  have hz : (zint g.owner.length).length = g.owner.length := by simp [zint]
  apply List.ext_getElem (by rw [ini_len, hz, Rk.lvl_length]; rfl)
  intro j h1 h2
  have hj : j < (zint g.owner.length).length := by rw [ini_len] at h1; exact h1
  have := ini_get g g.owner.length 0 (zint g.owner.length) (by rw [hz]; omega) j hj
  rw [if_pos (Nat.zero_le _), List.getD_eq_getElem?_getD, List.getElem?_eq_getElem h1, Option.getD_some] at this
  rw [this]
  simp [Rk.lvl, Rk.initR, Game.toG]
theorem loop58_0 (g : Game) (hg : g.good) : ∀ (m i : Nat), i + m = g.owner.length → ∀ R : List Int, R.length = g.owner.length → ∀ z : PV × Store, F58.k16 0 .normal (F58.ee4 (.mp 0 0 0) (.int .i64 g.owner.length) (.msl 1 0 g.owner.length true) .undef .undef) [.arr [g.cells] none false, .arr (intRows (ini g m i R)) (some (some 1)) false] = some z →
    F58.L0 0 2 (.mp 0 0 0) (.int .i64 g.owner.length) (.msl 1 0 g.owner.length true) (.int .i64 i) [.arr [g.cells] none false, .arr (intRows R) (some (some 1)) false] = some z := by
  have hN := hg.n
  have hm4 : (4000 : Nat) ≤ maxLen := by decide
  have full : ∀ (e : Env) (a b : Obj), Vs.gc 2 e [a, b] = [a, b] := fun e a b => gc_full e [a, b]
  intro m
  induction m with
  | zero =>
    intro i hi R hR z hz
    have c1 : ¬ (i : Int) < (g.owner.length : Int) := by omega
    refine F58.L0_step ?_
    have s1 : ∀ (K : KT) (S : Store), execL (F58.C 0) 0 F58.c168 K (F58.ee3 (.mp 0 0 0) (.int .i64 g.owner.length) (.msl 1 0 g.owner.length true) (.int .i64 i)) S = K .normal (F58.ee4 (.mp 0 0 0) (.int .i64 g.owner.length) (.msl 1 0 g.owner.length true) (.int .i64 i) (.bool false)) S := fun K S => by
      simp only [go_sem, ↓reduceIte, Nat.reduceEqDiff, Nat.reduceBEq, Nat.reduceAdd, Nat.reduceMul, Nat.reduceSub, Nat.reduceLT, Nat.reduceLeDiff, reduceCtorEq, Int.reduceToNat, Int.reduceLE, Int.reduceLT, Int.reduceEq, withV_any, c1]
    simp only [F58.B0_eq, s1, F58.k170_n, condC_false, F58.k153_exit, F58.k146_x1, F58.k143_exit, if_true, full]
    exact hz
  | succ m hm =>
    intro i hi R hR z hz
    have c1 : (i : Int) < (g.owner.length : Int) := by omega
    have w1 := wrap_succ (i := i) (n := g.owner.length) (by omega) (by omega)
    have hiR : i < R.length := by omega
    have h4 : 0 ≤ (i : Int) ∧ (i : Int) < (g.goal.length : Int) := ⟨by omega, by rw [hg.l]; exact c1⟩
    have p1 : ∀ L : List Int, ([.arr [g.cells] none false, .arr (intRows L) (some (some 1)) false] : Store)[1]? = some (.arr (intRows L) (some (some 1)) false) := fun L => rfl
    have x1 : ∀ L : List Int, L.length = g.owner.length → indexAddrO Try.prog 22 [.arr [g.cells] none false, .arr (intRows L) (some (some 1)) false] (.msl 1 0 g.owner.length true) (.int .i64 i) = some (.mp 1 i 0) := fun L hL => idx22m i (rowsAt_of (p1 L)) (by rw [intRows_length, hL]) (intRows_ok L) (by omega)
    have st1 := storeInt (j := i) (-1) (p1 R) hiR
    have st2 := storeInt (j := i) 0 (p1 (R.set i (-1))) (by rw [List.length_set]; exact hiR)
    simp only [List.set_cons_succ, List.set_cons_zero, List.set_set] at st1 st2
    rw [ini] at hz
    have s1 : ∀ (K : KT) (S : Store), execL (F58.C 0) 0 F58.c168 K (F58.ee3 (.mp 0 0 0) (.int .i64 g.owner.length) (.msl 1 0 g.owner.length true) (.int .i64 i)) S = K .normal (F58.ee4 (.mp 0 0 0) (.int .i64 g.owner.length) (.msl 1 0 g.owner.length true) (.int .i64 i) (.bool true)) S := fun K S => by
      simp only [go_sem, ↓reduceIte, Nat.reduceEqDiff, Nat.reduceBEq, Nat.reduceAdd, Nat.reduceMul, Nat.reduceSub, Nat.reduceLT, Nat.reduceLeDiff, reduceCtorEq, Int.reduceToNat, Int.reduceLE, Int.reduceLT, Int.reduceEq, withV_any, c1]
    have s2g : ∀ (K : KT) (S0 S1 : Store), indexAddrO Try.prog 22 S0 (.msl 1 0 g.owner.length true) (.int .i64 i) = some (.mp 1 i 0) → storeE (tyi Try.prog 3) S0 (.mp 1 i 0) (.int .i64 (-1)) = some { v := .skip, S := S1 } → execL (F58.C 0) 1 F58.c156 K (F58.ee4 (.mp 0 0 0) (.int .i64 g.owner.length) (.msl 1 0 g.owner.length true) (.int .i64 i) (.bool true)) S0 = K .normal (F58.ee3 (.mp 0 0 0) (.int .i64 g.owner.length) (.msl 1 0 g.owner.length true) (.int .i64 i)) S1 := fun K S0 S1 hx hs => by
      simp only [storeE_eq, known3, if_true, size3] at hs
      simp only [go_sem, ↓reduceIte, Nat.reduceEqDiff, Nat.reduceBEq, Nat.reduceAdd, Nat.reduceMul, Nat.reduceSub, Nat.reduceLT, Nat.reduceLeDiff, reduceCtorEq, Int.reduceToNat, Int.reduceLE, Int.reduceLT, Int.reduceEq, withV_any, hx, hs]
    have s4g : ∀ (K : KT) (S0 S1 : Store), indexAddrO Try.prog 22 S0 (.msl 1 0 g.owner.length true) (.int .i64 i) = some (.mp 1 i 0) → storeE (tyi Try.prog 3) S0 (.mp 1 i 0) (.int .i64 0) = some { v := .skip, S := S1 } → execL (F58.C 0) 1 F58.c161 K (F58.ee5 (.mp 0 0 0) (.int .i64 g.owner.length) (.msl 1 0 g.owner.length true) (.int .i64 i) (.bool true)) S0 = K .normal (F58.ee5 (.mp 0 0 0) (.int .i64 g.owner.length) (.msl 1 0 g.owner.length true) (.int .i64 i) (.bool true)) S1 := fun K S0 S1 hx hs => by
      simp only [storeE_eq, known3, if_true, size3] at hs
      simp only [go_sem, ↓reduceIte, Nat.reduceEqDiff, Nat.reduceBEq, Nat.reduceAdd, Nat.reduceMul, Nat.reduceSub, Nat.reduceLT, Nat.reduceLeDiff, reduceCtorEq, Int.reduceToNat, Int.reduceLE, Int.reduceLT, Int.reduceEq, withV_any, hx, hs]
    have s2 : ∀ (K : KT), execL (F58.C 0) 1 F58.c156 K (F58.ee4 (.mp 0 0 0) (.int .i64 g.owner.length) (.msl 1 0 g.owner.length true) (.int .i64 i) (.bool true)) [.arr [g.cells] none false, .arr (intRows R) (some (some 1)) false] = K .normal (F58.ee3 (.mp 0 0 0) (.int .i64 g.owner.length) (.msl 1 0 g.owner.length true) (.int .i64 i)) [.arr [g.cells] none false, .arr (intRows (R.set i (-1))) (some (some 1)) false] := fun K => s2g K _ _ (x1 R hR) st1
    have s3 : ∀ (K : KT), execL (F58.C 0) 1 F58.c158 K (F58.ee3 (.mp 0 0 0) (.int .i64 g.owner.length) (.msl 1 0 g.owner.length true) (.int .i64 i)) [.arr [g.cells] none false, .arr (intRows (R.set i (-1))) (some (some 1)) false] = K .normal (F58.ee5 (.mp 0 0 0) (.int .i64 g.owner.length) (.msl 1 0 g.owner.length true) (.int .i64 i) (.bool (g.goal.getD i false))) [.arr [g.cells] none false, .arr (intRows (R.set i (-1))) (some (some 1)) false] := fun K => by
      simp only [go_sem, ↓reduceIte, Nat.reduceEqDiff, Nat.reduceBEq, Nat.reduceAdd, Nat.reduceMul, Nat.reduceSub, Nat.reduceLT, Nat.reduceLeDiff, reduceCtorEq, Int.reduceToNat, Int.reduceLE, Int.reduceLT, Int.reduceEq, withV_any, h4, Int.toNat_natCast]
    have s9 : ∀ (K : KT) (S : Store) (a : PV), execL (F58.C 0) 0 F58.c150 K (F58.ee5 (.mp 0 0 0) (.int .i64 g.owner.length) (.msl 1 0 g.owner.length true) (.int .i64 i) a) S = K .normal (F58.ee3 (.mp 0 0 0) (.int .i64 g.owner.length) (.msl 1 0 g.owner.length true) (.int .i64 (i + 1 : Nat))) S := fun K S a => by
      simp only [go_sem, ↓reduceIte, Nat.reduceEqDiff, Nat.reduceBEq, Nat.reduceAdd, Nat.reduceMul, Nat.reduceSub, Nat.reduceLT, Nat.reduceLeDiff, reduceCtorEq, Int.reduceToNat, Int.reduceLE, Int.reduceLT, Int.reduceEq, withV_any, w1]
    refine F58.L0_step ?_
    cases hgo : g.goal.getD i false with
    | true =>
      rw [hgo, if_pos rfl] at hz
      rw [hgo] at s3
      have := hm (i + 1) (by omega) (R.set i 0) (by rw [List.length_set]; exact hR) z hz
      have s4 : ∀ (K : KT), execL (F58.C 0) 1 F58.c161 K (F58.ee5 (.mp 0 0 0) (.int .i64 g.owner.length) (.msl 1 0 g.owner.length true) (.int .i64 i) (.bool true)) [.arr [g.cells] none false, .arr (intRows (R.set i (-1))) (some (some 1)) false] = K .normal (F58.ee5 (.mp 0 0 0) (.int .i64 g.owner.length) (.msl 1 0 g.owner.length true) (.int .i64 i) (.bool true)) [.arr [g.cells] none false, .arr (intRows (R.set i 0)) (some (some 1)) false] := fun K => s4g K _ _ (x1 (R.set i (-1)) (by rw [List.length_set]; exact hR)) st2
      simp only [F58.B0_eq, s1, F58.k170_n, condC_true, F58.k153_n, s2, F58.k165_n, s3, F58.k160_n, s4, F58.k155_n, F58.k151_n, s9, F58.k146_n, full]
      exact this
    | false =>
      rw [hgo, if_neg (by simp)] at hz
      rw [hgo] at s3
      have := hm (i + 1) (by omega) (R.set i (-1)) (by rw [List.length_set]; exact hR) z hz
      simp only [F58.B0_eq, s1, F58.k170_n, condC_true, F58.k153_n, s2, F58.k165_n, s3, F58.k160_n, condC_false, F58.k155_n, F58.k151_n, s9, F58.k146_n, full]
      exact this
theorem call58 (g : Game) (hg : g.good) : callL Try.prog hints 58 [.agg g.cells] = some (.sl (intRows (Rk.lvl g.toG (g.owner.length + 1))) false) := by
  have hN := hg.n
  have hz : (zint g.owner.length).length = g.owner.length := by simp [zint]
  have hl0 : (Rk.lvl g.toG 0).length = g.owner.length := by rw [Rk.lvl_length]; rfl
  obtain ⟨S', o', b1, b2⟩ := loop58_2 g hg (g.owner.length + 1) 0 (by omega) [.arr [g.cells] none false, .arr (intRows (Rk.lvl g.toG 0)) (some (some 1)) false] 1 ⟨rfl, rfl, hl0⟩ (fun h => absurd rfl h) (by simp)
  have key := loop58_0 g hg g.owner.length 0 (by omega) (zint g.owner.length) hz (.msl o' 0 g.owner.length true, S') (by
    rw [ini_all]
    simp only [F58.k16_n, F58.g137, withV_any, F58.k19_n]
    exact b1)
  have hfz : fzPV S' (.msl o' 0 g.owner.length true) = some (.sl (intRows (Rk.lvl g.toG (g.owner.length + 1))) false) := by
    have := (Ints.msl o' (Rk.lvl g.toG (g.owner.length + 1)) true (some (some 1)) false b2.pR).fz 6
    rw [b2.len] at this
    exact this
  refine F58.call (r := (.msl o' 0 g.owner.length true, S')) ?_ hfz
  have m2 := fun id => makeSlice22 id g.owner.length (by omega)
  have s0 : ∀ K : KT, execL (F58.C 0) 0 F58.c1 K [(0, .agg g.cells)] [] = K .normal (F58.ee0 (.mp 0 0 0)) [.arr [g.cells] none false] := fun K => by
    simp only [go_sem, ↓reduceIte, Nat.reduceEqDiff, Nat.reduceBEq, Nat.reduceAdd, Nat.reduceMul, Nat.reduceSub, Nat.reduceLT, Nat.reduceLeDiff, reduceCtorEq, Int.reduceToNat, Int.reduceLE, Int.reduceLT, Int.reduceEq, withV_any]
  have s1 : ∀ K : KT, execL (F58.C 0) 0 F58.c3 K (F58.ee0 (.mp 0 0 0)) [.arr [g.cells] none false] = K .normal (F58.ee1 (.mp 0 0 0) (.int .i64 g.owner.length)) [.arr [g.cells] none false] := fun K => by
    simp only [go_sem, ↓reduceIte, Nat.reduceEqDiff, Nat.reduceBEq, Nat.reduceAdd, Nat.reduceMul, Nat.reduceSub, Nat.reduceLT, Nat.reduceLeDiff, reduceCtorEq, Int.reduceToNat, Int.reduceLE, Int.reduceLT, Int.reduceEq, withV_any]
  have s2 : ∀ K : KT, execL (F58.C 0) 0 F58.c5 K (F58.ee1 (.mp 0 0 0) (.int .i64 g.owner.length)) [.arr [g.cells] none false] = K .normal (F58.ee2 (.mp 0 0 0) (.int .i64 g.owner.length) (.msl 1 0 g.owner.length true)) [.arr [g.cells] none false, .arr (intRows (zint g.owner.length)) (some (some 1)) false] := fun K => by
    rw [← zint_rows]
    simp only [go_sem, ↓reduceIte, Nat.reduceEqDiff, Nat.reduceBEq, Nat.reduceAdd, Nat.reduceMul, Nat.reduceSub, Nat.reduceLT, Nat.reduceLeDiff, reduceCtorEq, Int.reduceToNat, Int.reduceLE, Int.reduceLT, Int.reduceEq, withV_any, m2]
  simp only [Int.natCast_zero] at key
  simp only [F58.E_eq, s0, F58.k178_n, s1, F58.k176_n, s2, F58.k138_n, F58.g175, withV_any, F58.k141_n, List.length_cons, List.length_nil, Nat.zero_add, Nat.reduceAdd]
  exact key
end Go.Vs
end
/- game.Check: what it returns. -/
section
set_option linter.unusedVariables false
set_option linter.unusedSimpArgs false
namespace Go.Vs
open Go Go.Proofs
theorem gc_one (e : Env) (o : Obj) : Vs.gc 1 e [o] = [o] := by
  unfold Vs.gc
  split <;> rfl
theorem wrap_down {k : Nat} (h : 0 < k) (hn : k ≤ maxLen) : IntKind.i64.wrap ((k : Int) - 1) = ((k - 1 : Nat) : Int) := by
  have := maxLen_le
  rw [IntKind.wrap_i64]; omega
theorem loop17_4 (g : Game) (hg : g.ok) (i : Nat) (hi : i < g.moves.length) (hl : (g.moves.getD i []).length ≤ maxLen) {z : PV × Store} : ∀ (m k : Nat), k + m = (g.moves.getD i []).length →
    (movesFrom g.owner.length (g.moves.getD i []) m k = true → F17.k39 0 1 .normal (F17.ee10 (.mp 0 0 0) (.int .i64 g.owner.length) .undef (.int .i64 g.owner.length) (.int .i64 i) .undef .undef .undef .undef) [.arr [g.cells] none false] = some z) → (movesFrom g.owner.length (g.moves.getD i []) m k = false → z = (.int .i64 3, [.arr [g.cells] none false])) →
    F17.L4 0 1 1 (.mp 0 0 0) (.int .i64 g.owner.length) (.int .i64 i) (.int .i64 g.owner.length) (.int .i64 i) (.sl (intRows (g.moves.getD i [])) false) (.int .i64 (g.moves.getD i []).length) (.int .i64 k) [.arr [g.cells] none false] = some z := by
  have h4 : 0 ≤ (i : Int) ∧ (i : Int) < (g.moves.length : Int) := ⟨by omega, by omega⟩
  intro m
  induction m with
  | zero =>
    intro k hk h1 h2
    have c1 : ¬ (k : Int) < ((g.moves.getD i []).length : Int) := by omega
    refine F17.L4_step ?_
    have s1 : ∀ (K : KT) (S : Store), execL (F17.C 0) 4 F17.c52 K (F17.ee9 (.mp 0 0 0) (.int .i64 g.owner.length) (.int .i64 i) (.int .i64 g.owner.length) (.int .i64 i) (.sl (intRows (g.moves.getD i [])) false) (.int .i64 (g.moves.getD i []).length) (.int .i64 k)) S = K .normal (F17.ee10 (.mp 0 0 0) (.int .i64 g.owner.length) (.int .i64 i) (.int .i64 g.owner.length) (.int .i64 i) (.sl (intRows (g.moves.getD i [])) false) (.int .i64 (g.moves.getD i []).length) (.int .i64 k) (.bool false)) S := fun K S => by
      simp only [go_sem, ↓reduceIte, Nat.reduceEqDiff, Nat.reduceBEq, Nat.reduceAdd, Nat.reduceMul, Nat.reduceSub, Nat.reduceLT, Nat.reduceLeDiff, reduceCtorEq, Int.reduceToNat, Int.reduceLE, Int.reduceLT, Int.reduceEq, c1]
    simp only [F17.B4_eq, s1, F17.k78_n, condC_false, F17.k60_exit, F17.k51_x1, F17.k48_exit, if_true, gc_one]
    exact h1 rfl
  | succ m hm =>
    intro k hk h1 h2
    have c1 : (k : Int) < ((g.moves.getD i []).length : Int) := by omega
    have w1 := wrap_succ (i := k) (n := (g.moves.getD i []).length) (by omega) hl
    have h5 : 0 ≤ (k : Int) ∧ (k : Int) < ((g.moves.getD i []).length : Int) := ⟨by omega, c1⟩
    have s1 : ∀ (K : KT) (S : Store), execL (F17.C 0) 4 F17.c52 K (F17.ee9 (.mp 0 0 0) (.int .i64 g.owner.length) (.int .i64 i) (.int .i64 g.owner.length) (.int .i64 i) (.sl (intRows (g.moves.getD i [])) false) (.int .i64 (g.moves.getD i []).length) (.int .i64 k)) S = K .normal (F17.ee10 (.mp 0 0 0) (.int .i64 g.owner.length) (.int .i64 i) (.int .i64 g.owner.length) (.int .i64 i) (.sl (intRows (g.moves.getD i [])) false) (.int .i64 (g.moves.getD i []).length) (.int .i64 k) (.bool true)) S := fun K S => by
      simp only [go_sem, ↓reduceIte, Nat.reduceEqDiff, Nat.reduceBEq, Nat.reduceAdd, Nat.reduceMul, Nat.reduceSub, Nat.reduceLT, Nat.reduceLeDiff, reduceCtorEq, Int.reduceToNat, Int.reduceLE, Int.reduceLT, Int.reduceEq, c1]
    have s2 : ∀ (K : KT), execL (F17.C 0) 5 F17.c63 K (F17.ee10 (.mp 0 0 0) (.int .i64 g.owner.length) (.int .i64 i) (.int .i64 g.owner.length) (.int .i64 i) (.sl (intRows (g.moves.getD i [])) false) (.int .i64 (g.moves.getD i []).length) (.int .i64 k) (.bool true)) [.arr [g.cells] none false] = K .normal (F17.ee6 (.mp 0 0 0) (.int .i64 g.owner.length) (.int .i64 i) (.int .i64 k) (.int .i64 ((g.moves.getD i []).getD k 0)) (.int .i64 g.owner.length) (.int .i64 i) (.sl (intRows (g.moves.getD i [])) false) (.int .i64 (g.moves.getD i []).length) (.int .i64 k)) [.arr [g.cells] none false] := fun K => by
      simp only [go_sem, ↓reduceIte, Nat.reduceEqDiff, Nat.reduceBEq, Nat.reduceAdd, Nat.reduceMul, Nat.reduceSub, Nat.reduceLT, Nat.reduceLeDiff, reduceCtorEq, Int.reduceToNat, Int.reduceLE, Int.reduceLT, Int.reduceEq, withV_any, h5, Int.toNat_natCast]
    have s3 : ∀ (K : KT), execL (F17.C 0) 5 F17.c65 K (F17.ee6 (.mp 0 0 0) (.int .i64 g.owner.length) (.int .i64 i) (.int .i64 k) (.int .i64 ((g.moves.getD i []).getD k 0)) (.int .i64 g.owner.length) (.int .i64 i) (.sl (intRows (g.moves.getD i [])) false) (.int .i64 (g.moves.getD i []).length) (.int .i64 k)) [.arr [g.cells] none false] = K .normal (F17.ee11 (.mp 0 0 0) (.int .i64 g.owner.length) (.int .i64 i) (.int .i64 g.owner.length) (.int .i64 i) (.sl (intRows (g.moves.getD i [])) false) (.int .i64 (g.moves.getD i []).length) (.int .i64 k) (.bool (moveBad g.owner.length (g.moves.getD i []) k))) [.arr [g.cells] none false] := fun K => by
      by_cases b1 : (g.moves.getD i []).getD k 0 < 0
      · have e : moveBad g.owner.length (g.moves.getD i []) k = true := by simp only [moveBad, b1, decide_true, Bool.true_or]
        rw [e]
        simp only [go_sem, ↓reduceIte, Nat.reduceEqDiff, Nat.reduceBEq, Nat.reduceAdd, Nat.reduceMul, Nat.reduceSub, Nat.reduceLT, Nat.reduceLeDiff, reduceCtorEq, Int.reduceToNat, Int.reduceLE, Int.reduceLT, Int.reduceEq, withV_any, b1]
      · by_cases b2 : (g.owner.length : Int) ≤ (g.moves.getD i []).getD k 0
        · have e : moveBad g.owner.length (g.moves.getD i []) k = true := by simp only [moveBad, b2, decide_true, Bool.true_or, Bool.or_true]
          rw [e]
          simp only [go_sem, ↓reduceIte, Nat.reduceEqDiff, Nat.reduceBEq, Nat.reduceAdd, Nat.reduceMul, Nat.reduceSub, Nat.reduceLT, Nat.reduceLeDiff, reduceCtorEq, Int.reduceToNat, Int.reduceLE, Int.reduceLT, Int.reduceEq, withV_any, b1, b2]
        · by_cases b3 : 0 < k
          · have b3' : 0 < (k : Int) := by omega
            have w2 := wrap_down b3 (by omega)
            have h6 : 0 ≤ ((k - 1 : Nat) : Int) ∧ ((k - 1 : Nat) : Int) < ((g.moves.getD i []).length : Int) := ⟨by omega, by omega⟩
            by_cases b4 : (g.moves.getD i []).getD k 0 ≤ (g.moves.getD i []).getD (k - 1) 0
            · have e : moveBad g.owner.length (g.moves.getD i []) k = true := by simp only [moveBad, b3, b4, decide_true, Bool.and_self, Bool.or_true]
              rw [e]
              simp only [go_sem, ↓reduceIte, Nat.reduceEqDiff, Nat.reduceBEq, Nat.reduceAdd, Nat.reduceMul, Nat.reduceSub, Nat.reduceLT, Nat.reduceLeDiff, reduceCtorEq, Int.reduceToNat, Int.reduceLE, Int.reduceLT, Int.reduceEq, withV_any, b1, b2, b3', w2, h4, h6, Int.toNat_natCast, b4]
            · have e : moveBad g.owner.length (g.moves.getD i []) k = false := by simp only [moveBad, b1, b2, b4, decide_false, Bool.and_false, Bool.or_self]
              rw [e]
              simp only [go_sem, ↓reduceIte, Nat.reduceEqDiff, Nat.reduceBEq, Nat.reduceAdd, Nat.reduceMul, Nat.reduceSub, Nat.reduceLT, Nat.reduceLeDiff, reduceCtorEq, Int.reduceToNat, Int.reduceLE, Int.reduceLT, Int.reduceEq, withV_any, b1, b2, b3', w2, h4, h6, Int.toNat_natCast, b4]
          · have b3' : ¬ 0 < (k : Int) := by omega
            have e : moveBad g.owner.length (g.moves.getD i []) k = false := by simp only [moveBad, b1, b2, b3, decide_false, Bool.false_and, Bool.or_self]
            rw [e]
            simp only [go_sem, ↓reduceIte, Nat.reduceEqDiff, Nat.reduceBEq, Nat.reduceAdd, Nat.reduceMul, Nat.reduceSub, Nat.reduceLT, Nat.reduceLeDiff, reduceCtorEq, Int.reduceToNat, Int.reduceLE, Int.reduceLT, Int.reduceEq, withV_any, b1, b2, b3']
    have s9 : ∀ (K : KT) (S : Store) (x : PV), execL (F17.C 0) 4 F17.c57 K (F17.ee11 (.mp 0 0 0) (.int .i64 g.owner.length) (.int .i64 i) (.int .i64 g.owner.length) (.int .i64 i) (.sl (intRows (g.moves.getD i [])) false) (.int .i64 (g.moves.getD i []).length) (.int .i64 k) x) S = K .normal (F17.ee9 (.mp 0 0 0) (.int .i64 g.owner.length) (.int .i64 i) (.int .i64 g.owner.length) (.int .i64 i) (.sl (intRows (g.moves.getD i [])) false) (.int .i64 (g.moves.getD i []).length) (.int .i64 (k + 1 : Nat))) S := fun K S x => by
      simp only [go_sem, ↓reduceIte, Nat.reduceEqDiff, Nat.reduceBEq, Nat.reduceAdd, Nat.reduceMul, Nat.reduceSub, Nat.reduceLT, Nat.reduceLeDiff, reduceCtorEq, Int.reduceToNat, Int.reduceLE, Int.reduceLT, Int.reduceEq, withV_any, w1]
    refine F17.L4_step ?_
    cases hb : moveBad g.owner.length (g.moves.getD i []) k with
    | true =>
      rw [hb] at s3
      have hz := h2 (by simp only [movesFrom, hb]; rfl)
      rw [hz]
      simp only [F17.B4_eq, s1, F17.k78_n, condC_true, F17.k60_n, s2, F17.k75_n, s3, F17.k67_n, F17.g74, withV_any, F17.k73_n, F17.k62_ret, F17.k58_ret, F17.k51_ret, F17.k48_ret, F17.k39_ret, F17.k35_ret, F17.k28_ret, F17.k25_ret, F17.k18_ret, F17.k0_ret16]
    | false =>
      rw [hb] at s3
      have hmf : movesFrom g.owner.length (g.moves.getD i []) (m + 1) k = movesFrom g.owner.length (g.moves.getD i []) m (k + 1) := by simp only [movesFrom, hb, Bool.not_false, Bool.true_and]
      rw [hmf] at h1 h2
      have := hm (k + 1) (by omega) h1 h2
      simp only [F17.B4_eq, s1, F17.k78_n, condC_true, F17.k60_n, s2, F17.k75_n, s3, F17.k67_n, condC_false, F17.k62_n, F17.k58_n, s9, F17.k51_n, gc_one]
      exact this
theorem loop17_2 (g : Game) (hg : g.ok) (hm : g.moves.length = g.owner.length) (hN : g.owner.length ≤ 400) (hl : ∀ l ∈ g.moves, l.length ≤ maxLen) : ∀ (m i : Nat), i + m = g.owner.length →
    F17.L2 0 1 (.mp 0 0 0) (.int .i64 g.owner.length) (.int .i64 g.owner.length) (.int .i64 i) [.arr [g.cells] none false] = some (.int .i64 (if g.posFrom m i = true then 0 else 3), [.arr [g.cells] none false]) := by
  have hm4 : (4000 : Nat) ≤ maxLen := by decide
  intro m
  induction m with
  | zero =>
    intro i hi
    have c1 : ¬ (i : Int) < (g.owner.length : Int) := by omega
    refine F17.L2_step ?_
    have s1 : ∀ (K : KT) (S : Store), execL (F17.C 0) 2 F17.c29 K (F17.ee14 (.mp 0 0 0) (.int .i64 g.owner.length) (.int .i64 g.owner.length) (.int .i64 i)) S = K .normal (F17.ee15 (.mp 0 0 0) (.int .i64 g.owner.length) (.int .i64 g.owner.length) (.int .i64 i) (.bool false)) S := fun K S => by
      simp only [go_sem, ↓reduceIte, Nat.reduceEqDiff, Nat.reduceBEq, Nat.reduceAdd, Nat.reduceMul, Nat.reduceSub, Nat.reduceLT, Nat.reduceLeDiff, reduceCtorEq, Int.reduceToNat, Int.reduceLE, Int.reduceLT, Int.reduceEq, c1]
    simp only [F17.B2_eq, s1, F17.k98_n, condC_false, F17.k37_exit, F17.k28_x1, gc_one, F17.k25_exit, if_true, F17.k18_n, F17.g19, withV_any, F17.k17_n, F17.k0_ret16, Game.posFrom]
  | succ m ih =>
    intro i hi
    have c1 : (i : Int) < (g.owner.length : Int) := by omega
    have w1 := wrap_succ (i := i) (n := g.owner.length) (by omega) (by omega)
    have h4 : 0 ≤ (i : Int) ∧ (i : Int) < (g.moves.length : Int) := ⟨by omega, by omega⟩
    have h5 : 0 ≤ (i : Int) ∧ (i : Int) < (g.owner.length : Int) := ⟨by omega, c1⟩
    have s1 : ∀ (K : KT) (S : Store), execL (F17.C 0) 2 F17.c29 K (F17.ee14 (.mp 0 0 0) (.int .i64 g.owner.length) (.int .i64 g.owner.length) (.int .i64 i)) S = K .normal (F17.ee15 (.mp 0 0 0) (.int .i64 g.owner.length) (.int .i64 g.owner.length) (.int .i64 i) (.bool true)) S := fun K S => by
      simp only [go_sem, ↓reduceIte, Nat.reduceEqDiff, Nat.reduceBEq, Nat.reduceAdd, Nat.reduceMul, Nat.reduceSub, Nat.reduceLT, Nat.reduceLeDiff, reduceCtorEq, Int.reduceToNat, Int.reduceLE, Int.reduceLT, Int.reduceEq, c1]
    have s2 : ∀ (K : KT) (S : Store), execL (F17.C 0) 3 F17.c40 K (F17.ee15 (.mp 0 0 0) (.int .i64 g.owner.length) (.int .i64 g.owner.length) (.int .i64 i) (.bool true)) S = K .normal (F17.ee7 (.mp 0 0 0) (.int .i64 g.owner.length) (.int .i64 i) (.int .i64 g.owner.length) (.int .i64 i)) S := fun K S => by
      simp only [go_sem, ↓reduceIte, Nat.reduceEqDiff, Nat.reduceBEq, Nat.reduceAdd, Nat.reduceMul, Nat.reduceSub, Nat.reduceLT, Nat.reduceLeDiff, reduceCtorEq, Int.reduceToNat, Int.reduceLE, Int.reduceLT, Int.reduceEq, withV_any]
    have s3 : ∀ (K : KT), execL (F17.C 0) 3 F17.c86 K (F17.ee7 (.mp 0 0 0) (.int .i64 g.owner.length) (.int .i64 i) (.int .i64 g.owner.length) (.int .i64 i)) [.arr [g.cells] none false] = K .normal (F17.ee8 (.mp 0 0 0) (.int .i64 g.owner.length) (.int .i64 i) (.int .i64 g.owner.length) (.int .i64 i) (.bool (!(decide (g.owner.getD i 0 = 0) || decide (g.owner.getD i 0 = 1))))) [.arr [g.cells] none false] := fun K => by
      by_cases b1 : g.owner.getD i 0 = 0
      · simp only [go_sem, ↓reduceIte, Nat.reduceEqDiff, Nat.reduceBEq, Nat.reduceAdd, Nat.reduceMul, Nat.reduceSub, Nat.reduceLT, Nat.reduceLeDiff, reduceCtorEq, Int.reduceToNat, Int.reduceLE, Int.reduceLT, Int.reduceEq, withV_any, h5, Int.toNat_natCast, b1, decide_true, Bool.true_or, Bool.not_true]
      · by_cases b2 : g.owner.getD i 0 = 1
        · simp only [go_sem, ↓reduceIte, Nat.reduceEqDiff, Nat.reduceBEq, Nat.reduceAdd, Nat.reduceMul, Nat.reduceSub, Nat.reduceLT, Nat.reduceLeDiff, reduceCtorEq, Int.reduceToNat, Int.reduceLE, Int.reduceLT, Int.reduceEq, withV_any, h5, Int.toNat_natCast, b1, b2, decide_true, decide_false, Bool.or_true, Bool.not_true, Bool.not_false]
        · simp only [go_sem, ↓reduceIte, Nat.reduceEqDiff, Nat.reduceBEq, Nat.reduceAdd, Nat.reduceMul, Nat.reduceSub, Nat.reduceLT, Nat.reduceLeDiff, reduceCtorEq, Int.reduceToNat, Int.reduceLE, Int.reduceLT, Int.reduceEq, withV_any, h5, Int.toNat_natCast, b1, b2, decide_false, Bool.or_self, Bool.not_false]
    have hpos : g.posFrom (m + 1) i = (g.posOK i && g.posFrom m (i + 1)) := rfl
    refine F17.L2_step ?_
    cases hb : (decide (g.owner.getD i 0 = 0) || decide (g.owner.getD i 0 = 1)) with
    | false =>
      rw [hb] at s3
      have e : g.posFrom (m + 1) i = false := by rw [hpos, Game.posOK, hb]; rfl
      rw [e, if_neg (by simp)]
      simp only [F17.B2_eq, s1, F17.k98_n, condC_true, F17.k37_n, s2, F17.k85_n, s3, Bool.not_false, F17.k88_n, condC_true, F17.g95, withV_any, F17.k94_n, F17.k83_ret, F17.k39_ret, F17.k35_ret, F17.k28_ret, F17.k25_ret, F17.k18_ret, F17.k0_ret16]
    | true =>
      rw [hb] at s3
      have e : g.posFrom (m + 1) i = (movesOK g.owner.length (g.moves.getD i []) && g.posFrom m (i + 1)) := by rw [hpos, Game.posOK, hb, Bool.true_and]
      rw [e]
      have s4 : ∀ (K : KT), execL (F17.C 0) 3 F17.c44 K (F17.ee8 (.mp 0 0 0) (.int .i64 g.owner.length) (.int .i64 i) (.int .i64 g.owner.length) (.int .i64 i) (.bool false)) [.arr [g.cells] none false] = K .normal (F17.ee9 (.mp 0 0 0) (.int .i64 g.owner.length) (.int .i64 i) (.int .i64 g.owner.length) (.int .i64 i) (.sl (intRows (g.moves.getD i [])) false) (.int .i64 (g.moves.getD i []).length) (.int .i64 (0 : Nat))) [.arr [g.cells] none false] := fun K => by
        simp only [go_sem, ↓reduceIte, Nat.reduceEqDiff, Nat.reduceBEq, Nat.reduceAdd, Nat.reduceMul, Nat.reduceSub, Nat.reduceLT, Nat.reduceLeDiff, reduceCtorEq, Int.reduceToNat, Int.reduceLE, Int.reduceLT, Int.reduceEq, withV_any, h4, Int.toNat_natCast, Int.natCast_zero]
      have s5 : ∀ (K : KT) (S : Store), execL (F17.C 0) 2 F17.c34 K (F17.ee10 (.mp 0 0 0) (.int .i64 g.owner.length) .undef (.int .i64 g.owner.length) (.int .i64 i) .undef .undef .undef .undef) S = K .normal (F17.ee14 (.mp 0 0 0) (.int .i64 g.owner.length) (.int .i64 g.owner.length) (.int .i64 (i + 1 : Nat))) S := fun K S => by
        simp only [go_sem, ↓reduceIte, Nat.reduceEqDiff, Nat.reduceBEq, Nat.reduceAdd, Nat.reduceMul, Nat.reduceSub, Nat.reduceLT, Nat.reduceLeDiff, reduceCtorEq, Int.reduceToNat, Int.reduceLE, Int.reduceLT, Int.reduceEq, withV_any, w1]
      have key := loop17_4 g hg i (by omega) (hl _ (paths_mem (by omega))) (z := (.int .i64 (if (movesOK g.owner.length (g.moves.getD i []) && g.posFrom m (i + 1)) = true then 0 else 3), [.arr [g.cells] none false])) (g.moves.getD i []).length 0 (by omega) (fun ht => by
          have ht' : movesOK g.owner.length (g.moves.getD i []) = true := ht
          simp only [F17.k39_n, F17.k35_n, s5, F17.k28_n, gc_one, ht', Bool.true_and]
          exact ih (i + 1) (by omega)) (fun hf => by
          have hf' : movesOK g.owner.length (g.moves.getD i []) = false := hf
          rw [hf', Bool.false_and]; rfl)
      simp only [F17.B2_eq, s1, F17.k98_n, condC_true, F17.k37_n, s2, F17.k85_n, s3, Bool.not_true, F17.k88_n, condC_false, F17.k83_n, s4, F17.k46_n, List.length_cons, List.length_nil, Nat.zero_add]
      exact key
theorem call17 (g : Game) (hg : g.ok) : callL Try.prog hints 17 [.agg g.cells] = some (.int .i64 g.check) := by
  refine F17.call (r := (.int .i64 g.check, [.arr [g.cells] none false])) ?_ rfl
  have s0 : ∀ K : KT, execL (F17.C 0) 0 F17.c1 K [(0, .agg g.cells)] [] = K .normal (F17.ee0 (.mp 0 0 0)) [.arr [g.cells] none false] := fun K => by
    simp only [go_sem, ↓reduceIte, Nat.reduceEqDiff, Nat.reduceBEq, Nat.reduceAdd, Nat.reduceMul, Nat.reduceSub, Nat.reduceLT, Nat.reduceLeDiff, reduceCtorEq, Int.reduceToNat, Int.reduceLE, Int.reduceLT, Int.reduceEq, withV_any]
  have s1 : ∀ K : KT, execL (F17.C 0) 0 F17.c131 K (F17.ee1 (.mp 0 0 0) (.int .i64 0)) [.arr [g.cells] none false] = K .normal (F17.ee4 (.mp 0 0 0) (.int .i64 0) (.sl (pathRows g.moves) false) (.int .i64 g.moves.length) (.int .i64 (0 : Nat))) [.arr [g.cells] none false] := fun K => by
    simp only [go_sem, ↓reduceIte, Nat.reduceEqDiff, Nat.reduceBEq, Nat.reduceAdd, Nat.reduceMul, Nat.reduceSub, Nat.reduceLT, Nat.reduceLeDiff, reduceCtorEq, Int.reduceToNat, Int.reduceLE, Int.reduceLT, Int.reduceEq, withV_any, Game.drop1, Vs.part23, Int.natCast_zero]
  have key := sum17 g hg (z := (.int .i64 g.check, [.arr [g.cells] none false])) g.moves.length 0 (by omega) 0 (by
    rw [List.drop_zero]
    have s2 : ∀ K : KT, execL (F17.C 0) 0 F17.c7 K (F17.ee5 (.mp 0 0 0) (.int .i64 (sumLens 0 g.moves)) .undef .undef .undef .undef) [.arr [g.cells] none false] = K .normal (F17.ee3 (.mp 0 0 0) (.int .i64 (sumLens 0 g.moves)) (.int .i64 g.owner.length)) [.arr [g.cells] none false] := fun K => by
      simp only [go_sem, ↓reduceIte, Nat.reduceEqDiff, Nat.reduceBEq, Nat.reduceAdd, Nat.reduceMul, Nat.reduceSub, Nat.reduceLT, Nat.reduceLeDiff, reduceCtorEq, Int.reduceToNat, Int.reduceLE, Int.reduceLT, Int.reduceEq, withV_any]
    by_cases big : 400 < g.owner.length ∨ 400 < g.moves.length ∨ 400 < g.goal.length ∨ 4000 < sumLens 0 g.moves
    · have s3 : ∀ K : KT, execL (F17.C 0) 0 F17.c117 K (F17.ee3 (.mp 0 0 0) (.int .i64 (sumLens 0 g.moves)) (.int .i64 g.owner.length)) [.arr [g.cells] none false] = K .normal (F17.ee12 (.mp 0 0 0) (.int .i64 g.owner.length) (.bool true)) [.arr [g.cells] none false] := fun K => by
        by_cases b1 : (400 : Int) < (g.owner.length : Int)
        · simp only [go_sem, ↓reduceIte, Nat.reduceEqDiff, Nat.reduceBEq, Nat.reduceAdd, Nat.reduceMul, Nat.reduceSub, Nat.reduceLT, Nat.reduceLeDiff, reduceCtorEq, Int.reduceToNat, Int.reduceLE, Int.reduceLT, Int.reduceEq, withV_any, b1]
        · by_cases b2 : (400 : Int) < (g.moves.length : Int)
          · simp only [go_sem, ↓reduceIte, Nat.reduceEqDiff, Nat.reduceBEq, Nat.reduceAdd, Nat.reduceMul, Nat.reduceSub, Nat.reduceLT, Nat.reduceLeDiff, reduceCtorEq, Int.reduceToNat, Int.reduceLE, Int.reduceLT, Int.reduceEq, withV_any, b1, Game.drop1, Vs.part23, b2]
          · by_cases b3 : (400 : Int) < (g.goal.length : Int)
            · simp only [go_sem, ↓reduceIte, Nat.reduceEqDiff, Nat.reduceBEq, Nat.reduceAdd, Nat.reduceMul, Nat.reduceSub, Nat.reduceLT, Nat.reduceLeDiff, reduceCtorEq, Int.reduceToNat, Int.reduceLE, Int.reduceLT, Int.reduceEq, withV_any, b1, Game.drop1, Vs.part23, b2, Game.drop2, Vs.part24, b3]
            · have b4 : (4000 : Int) < sumLens 0 g.moves := by omega
              simp only [go_sem, ↓reduceIte, Nat.reduceEqDiff, Nat.reduceBEq, Nat.reduceAdd, Nat.reduceMul, Nat.reduceSub, Nat.reduceLT, Nat.reduceLeDiff, reduceCtorEq, Int.reduceToNat, Int.reduceLE, Int.reduceLT, Int.reduceEq, withV_any, b1, Game.drop1, Vs.part23, b2, Game.drop2, Vs.part24, b3, b4]
      have e : g.check = 2 := by unfold Game.check; rw [if_pos big]
      rw [e]
      simp only [F17.k128_n, s2, F17.k116_n, s3, F17.k119_n, condC_true, F17.g126, withV_any, F17.k125_n, F17.k104_ret, F17.k0_ret16]
    · have n1 : ¬ (400 : Int) < (g.owner.length : Int) := by omega
      have n2 : ¬ (400 : Int) < (g.moves.length : Int) := by omega
      have n3 : ¬ (400 : Int) < (g.goal.length : Int) := by omega
      have n4 : ¬ (4000 : Int) < sumLens 0 g.moves := by omega
      have s3 : ∀ K : KT, execL (F17.C 0) 0 F17.c117 K (F17.ee3 (.mp 0 0 0) (.int .i64 (sumLens 0 g.moves)) (.int .i64 g.owner.length)) [.arr [g.cells] none false] = K .normal (F17.ee12 (.mp 0 0 0) (.int .i64 g.owner.length) (.bool false)) [.arr [g.cells] none false] := fun K => by
        simp only [go_sem, ↓reduceIte, Nat.reduceEqDiff, Nat.reduceBEq, Nat.reduceAdd, Nat.reduceMul, Nat.reduceSub, Nat.reduceLT, Nat.reduceLeDiff, reduceCtorEq, Int.reduceToNat, Int.reduceLE, Int.reduceLT, Int.reduceEq, withV_any, n1, Game.drop1, Vs.part23, n2, Game.drop2, Vs.part24, n3, n4]
      by_cases bad : g.moves.length ≠ g.owner.length ∨ g.goal.length ≠ g.owner.length
      · have s4 : ∀ K : KT, execL (F17.C 0) 0 F17.c105 K (F17.ee12 (.mp 0 0 0) (.int .i64 g.owner.length) (.bool false)) [.arr [g.cells] none false] = K .normal (F17.ee13 (.mp 0 0 0) (.int .i64 g.owner.length) (.bool true)) [.arr [g.cells] none false] := fun K => by
          by_cases b1 : (g.moves.length : Int) = (g.owner.length : Int)
          · have b2 : ¬ (g.goal.length : Int) = (g.owner.length : Int) := by omega
            simp only [go_sem, ↓reduceIte, Nat.reduceEqDiff, Nat.reduceBEq, Nat.reduceAdd, Nat.reduceMul, Nat.reduceSub, Nat.reduceLT, Nat.reduceLeDiff, reduceCtorEq, Int.reduceToNat, Int.reduceLE, Int.reduceLT, Int.reduceEq, withV_any, Game.drop1, Vs.part23, b1, Game.drop2, Vs.part24, b2, decide_true, decide_false, Bool.not_true, Bool.not_false]
          · simp only [go_sem, ↓reduceIte, Nat.reduceEqDiff, Nat.reduceBEq, Nat.reduceAdd, Nat.reduceMul, Nat.reduceSub, Nat.reduceLT, Nat.reduceLeDiff, reduceCtorEq, Int.reduceToNat, Int.reduceLE, Int.reduceLT, Int.reduceEq, withV_any, Game.drop1, Vs.part23, b1, decide_false, Bool.not_false]
        have e : g.check = 3 := by unfold Game.check; rw [if_neg big, if_pos bad]
        rw [e]
        simp only [F17.k128_n, s2, F17.k116_n, s3, F17.k119_n, condC_false, F17.k104_n, s4, F17.k107_n, condC_true, F17.g114, withV_any, F17.k113_n, F17.k20_ret, F17.k0_ret16]
      · have b1 : (g.moves.length : Int) = (g.owner.length : Int) := by omega
        have b2 : (g.goal.length : Int) = (g.owner.length : Int) := by omega
        have s4 : ∀ K : KT, execL (F17.C 0) 0 F17.c105 K (F17.ee12 (.mp 0 0 0) (.int .i64 g.owner.length) (.bool false)) [.arr [g.cells] none false] = K .normal (F17.ee13 (.mp 0 0 0) (.int .i64 g.owner.length) (.bool false)) [.arr [g.cells] none false] := fun K => by
          simp only [go_sem, ↓reduceIte, Nat.reduceEqDiff, Nat.reduceBEq, Nat.reduceAdd, Nat.reduceMul, Nat.reduceSub, Nat.reduceLT, Nat.reduceLeDiff, reduceCtorEq, Int.reduceToNat, Int.reduceLE, Int.reduceLT, Int.reduceEq, withV_any, Game.drop1, Vs.part23, b1, Game.drop2, Vs.part24, b2, decide_true, Bool.not_true]
        have e : g.check = (if g.posFrom g.owner.length 0 = true then 0 else 3) := by unfold Game.check; rw [if_neg big, if_neg bad]
        rw [e]
        have l2 := loop17_2 g hg (by omega) (by omega) hg.each g.owner.length 0 (by omega)
        simp only [Int.natCast_zero] at l2
        simp only [F17.k128_n, s2, F17.k116_n, s3, F17.k119_n, condC_false, F17.k104_n, s4, F17.k107_n, F17.k20_n, F17.g103, withV_any, F17.k23_n, List.length_cons, List.length_nil, Nat.zero_add]
        exact l2)
  simp only [F17.E_eq, s0, F17.k161_n, F17.g162, withV_any, F17.k130_n, s1, F17.k133_n, List.length_cons, List.length_nil, Nat.zero_add]
  exact key
end Go.Vs
end
