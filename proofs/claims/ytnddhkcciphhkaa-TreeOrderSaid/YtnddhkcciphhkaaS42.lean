/- Printed by a program of mine (stage1.py): the functions 68, 69, 70, 71, 35, 43, 44, 45, 42, 46, 47, 9, piece by piece. -/
import Derived.Test.YtnddhkcciphhkaaVs40
set_option linter.unusedVariables false
set_option linter.unusedSimpArgs false
namespace Go.Vs
open Go Go.Proofs

/-! ### tree.less -/
namespace F68
def hint : Hint := { keep := [0, 2, 3], loops := [] }
noncomputable def C (b : Nat) : Ctx := ctxL Try.prog hints b hint
noncomputable def code : Code := Try.f68.body.get rfl
noncomputable def k0 (b : Nat) : KT := endC Try.prog Try.f68
def ee (x0 x2 x3 : PV) : Env := [(0, x0), (2, x2), (3, x3)]
@[go_sem] theorem gc_ee (n : Nat) (x0 x2 x3 : PV) (S : Store) : gc n (ee x0 x2 x3) S = gc n [(0, x0), (2, x2), (3, x3)] S := nr (rfl)
@[go_sem] theorem k0_ret (b : Nat) (x0 x2 x3 : PV) (S : Store) : k0 b .ret (ee x0 x2 x3) S = some (x2, S) := nr (by kernel_rfl)
@[go_sem] theorem k0_n (b : Nat) (x0 x2 x3 : PV) (S : Store) : k0 b .normal (ee x0 x2 x3) S = some (x2, S) := nr (by kernel_rfl)
noncomputable def c1 : Code := at0 code
noncomputable def c2 : Code := at1 code
theorem code_h : code = .seq c1 c2 := by kernel_rfl
noncomputable def c3 : Code := at0 c2
noncomputable def c4 : Code := at1 c2
theorem c2_h : c2 = .seq c3 c4 := by kernel_rfl
noncomputable def c5 : Code := at0 c4
noncomputable def c6 : Code := at1 c4
theorem c4_h : c4 = .seq c5 c6 := by kernel_rfl
noncomputable def k7 (b : Nat) : KT := seqC (fun e S => execL (C b) 0 c6 (k0 b) e S) (k0 b)
@[go_sem] theorem k7_n (b : Nat) (x0 x2 x3 : PV) (S : Store) : k7 b .normal (ee x0 x2 x3) S =
  (k0 b) .ret (ee x0 x2 x3) S := nr ((show k7 b .normal (ee x0 x2 x3) S = execL (C b) 0 c6 (k0 b) (ee x0 x2 x3) S from seqC_n _ _ _ _).trans (execL_ret (by kernel_rfl)))
@[go_sem] theorem k7_ret (b : Nat) (e : Env) (S : Store) : k7 b .ret e S = (k0 b) .ret e S := nr (seqC_r _ _ _ _)
@[go_sem] theorem k7_exit (b : Nat) (i : Nat) (e : Env) (S : Store) : k7 b (.exit i) e S = (k0 b) (.exit i) e S := nr (seqC_x _ _ _ _ _)
theorem k7_l (b : Nat) : seqC (fun e S => execL (C b) 0 c6 (k0 b) e S) (k0 b) = k7 b := rfl
noncomputable def k8 (b : Nat) : KT := seqC (fun e S => execL (C b) 0 c5 (k7 b) e S) (k0 b)
@[go_sem] theorem g9 (b : Nat) (K : KT) (x0 x2 x3 : PV) (S : Store) : execL (C b) 0 c5 K (ee x0 x2 x3) S =
  withV (some (.int .i64 1)) fun x2 =>
    K .normal (ee x0 x2 x3) S := nr (by kernel_rfl)
@[go_sem] theorem k8_n (b : Nat) (e : Env) (S : Store) : k8 b .normal e S = execL (C b) 0 c5 (k7 b) e S := nr (seqC_n _ _ _ _)
@[go_sem] theorem k8_ret (b : Nat) (e : Env) (S : Store) : k8 b .ret e S = (k0 b) .ret e S := nr (seqC_r _ _ _ _)
@[go_sem] theorem k8_exit (b : Nat) (i : Nat) (e : Env) (S : Store) : k8 b (.exit i) e S = (k0 b) (.exit i) e S := nr (seqC_x _ _ _ _ _)
theorem k8_l (b : Nat) : seqC (fun e S => execL (C b) 0 c4 (k0 b) e S) (k0 b) = k8 b := link_seq c4_h (k7_l b)
noncomputable def k10 (b : Nat) : KT := seqC (fun e S => execL (C b) 0 c3 (k8 b) e S) (k0 b)
noncomputable def c11 : Code := at0 c3
noncomputable def c12 : Code := at1 c3
theorem c3_h : c3 = .seq c11 c12 := by kernel_rfl
noncomputable def k13 (b : Nat) : KT := seqC (fun e S => execL (C b) 0 c12 (k8 b) e S) (k8 b)
noncomputable def c14 : Code := atT c12
noncomputable def c15 : Code := atF c12
theorem c12_h : c12 = .cond (.tmp 3) c14 c15 := by kernel_rfl
noncomputable def c17 : Code := at0 c14
noncomputable def c18 : Code := at1 c14
theorem c14_h : c14 = .seq c17 c18 := by kernel_rfl
noncomputable def k19 (b : Nat) : KT := seqC (fun e S => execL (C b) 0 c18 (k8 b) e S) (k8 b)
@[go_sem] theorem k19_n (b : Nat) (x0 x2 x3 : PV) (S : Store) : k19 b .normal (ee x0 x2 x3) S =
  (k8 b) .ret (ee x0 x2 x3) S := nr ((show k19 b .normal (ee x0 x2 x3) S = execL (C b) 0 c18 (k8 b) (ee x0 x2 x3) S from seqC_n _ _ _ _).trans (execL_ret (by kernel_rfl)))
@[go_sem] theorem k19_ret (b : Nat) (e : Env) (S : Store) : k19 b .ret e S = (k8 b) .ret e S := nr (seqC_r _ _ _ _)
@[go_sem] theorem k19_exit (b : Nat) (i : Nat) (e : Env) (S : Store) : k19 b (.exit i) e S = (k8 b) (.exit i) e S := nr (seqC_x _ _ _ _ _)
theorem k19_l (b : Nat) : seqC (fun e S => execL (C b) 0 c18 (k8 b) e S) (k8 b) = k19 b := rfl
@[go_sem] theorem g20 (b : Nat) (K : KT) (x0 x2 x3 : PV) (S : Store) : execL (C b) 0 c17 K (ee x0 x2 x3) S =
  withV (some (.int .i64 (-1))) fun x2 =>
    K .normal (ee x0 x2 x3) S := nr (by kernel_rfl)
noncomputable def E16 (b : Nat) (x0 x2 x3 : PV) (S : Store) : RT := execL (C b) 0 c14 (k8 b) (ee x0 x2 x3) S
@[go_sem] theorem E16_eq (b : Nat) (x0 x2 x3 : PV) (S : Store) : E16 b x0 x2 x3 S =
  execL (C b) 0 c17 (k19 b) (ee x0 x2 x3) S := nr ((enter_seq c14_h (k19_l b)).trans (rfl))
@[go_sem] theorem k13_n (b : Nat) (x0 x2 x3 : PV) (S : Store) : k13 b .normal (ee x0 x2 x3) S =
  condC x3 (E16 b x0 x2 x3 S)
    ((k8 b) .normal (ee x0 x2 x3) S) := nr ((show k13 b .normal (ee x0 x2 x3) S = execL (C b) 0 c12 (k8 b) (ee x0 x2 x3) S from seqC_n _ _ _ _).trans (execL_cond c12_h (rfl) (execL_skip (by kernel_rfl)) rfl))
@[go_sem] theorem k13_ret (b : Nat) (e : Env) (S : Store) : k13 b .ret e S = (k8 b) .ret e S := nr (seqC_r _ _ _ _)
@[go_sem] theorem k13_exit (b : Nat) (i : Nat) (e : Env) (S : Store) : k13 b (.exit i) e S = (k8 b) (.exit i) e S := nr (seqC_x _ _ _ _ _)
theorem k13_l (b : Nat) : seqC (fun e S => execL (C b) 0 c12 (k8 b) e S) (k8 b) = k13 b := rfl
@[go_sem] theorem g21 (b : Nat) (K : KT) (x0 x2 x3 : PV) (S : Store) : execL (C b) 0 c11 K (ee x0 x2 x3) S =
  withV (some x0) fun x3 =>
    K .normal (ee x0 x2 x3) S := nr (by kernel_rfl)
@[go_sem] theorem k10_n (b : Nat) (x0 x2 x3 : PV) (S : Store) : k10 b .normal (ee x0 x2 x3) S =
  execL (C b) 0 c11 (k13 b) (ee x0 x2 x3) S := nr ((show k10 b .normal (ee x0 x2 x3) S = execL (C b) 0 c3 (k8 b) (ee x0 x2 x3) S from seqC_n _ _ _ _).trans ((enter_seq c3_h (k13_l b)).trans (rfl)))
@[go_sem] theorem k10_ret (b : Nat) (e : Env) (S : Store) : k10 b .ret e S = (k0 b) .ret e S := nr (seqC_r _ _ _ _)
@[go_sem] theorem k10_exit (b : Nat) (i : Nat) (e : Env) (S : Store) : k10 b (.exit i) e S = (k0 b) (.exit i) e S := nr (seqC_x _ _ _ _ _)
theorem k10_l (b : Nat) : seqC (fun e S => execL (C b) 0 c2 (k0 b) e S) (k0 b) = k10 b := link_seq c2_h (k8_l b)
@[go_sem] theorem g22 (b : Nat) (K : KT) (x0 : PV) (S : Store) : execL (C b) 0 c1 K [(0, x0)] S =
  withV (some (.int .i64 0)) fun x2 =>
    K .normal (ee x0 x2 .undef) S := nr (by kernel_rfl)
noncomputable def E (b : Nat) (x0 : PV) (S : Store) : RT := execL (C b) 0 code (k0 b) [(0, x0)] S
@[go_sem] theorem E_eq (b : Nat) (x0 : PV) (S : Store) : E b x0 S =
  execL (C b) 0 c1 (k10 b) [(0, x0)] S := nr ((enter_seq code_h (k10_l b)).trans (rfl))
theorem callR {x0 : PV} {S : Store} {r : PV × Store} (h : E S.length x0 S = some r) : callRL Try.prog hints 68 [x0] S = some r := callRL_of (fn := Try.f68) (c := code) (by kernel_rfl) (by kernel_rfl) (by decide) (by kernel_rfl) (Nat.le_of_ble_eq_true (by kernel_rfl)) h
theorem call {x0 : PV} {r : PV × Store} {v : PV} (h : E 0 x0 [] = some r) (hv : fzPV r.2 r.1 = some v) : callL Try.prog hints 68 [x0] = some v := callL_of (fn := Try.f68) (c := code) (by kernel_rfl) (by kernel_rfl) (by decide) (by kernel_rfl) (Nat.le_of_ble_eq_true (by kernel_rfl)) h hv
end F68
/-! ### tree.words -/
namespace F69
def hint : Hint := { keep := [0, 1, 4, 5, 10, 21, 32], loops := [(0, { live := [0, 1, 5], after := [], own := [], fz := [] })] }
noncomputable def C (b : Nat) : Ctx := ctxL Try.prog hints b hint
noncomputable def code : Code := Try.f69.body.get rfl
noncomputable def k0 (b : Nat) : KT := endC Try.prog Try.f69
def ee (x0 x1 x4 x5 x10 x21 x32 : PV) : Env := [(0, x0), (1, x1), (4, x4), (5, x5), (10, x10), (21, x21), (32, x32)]
@[go_sem] theorem gc_ee (n : Nat) (x0 x1 x4 x5 x10 x21 x32 : PV) (S : Store) : gc n (ee x0 x1 x4 x5 x10 x21 x32) S = gc n [(0, x0), (1, x1), (4, x4), (5, x5), (10, x10), (21, x21), (32, x32)] S := nr (rfl)
@[go_sem] theorem k0_ret (b : Nat) (x0 x1 x4 x5 x10 x21 x32 : PV) (S : Store) : k0 b .ret (ee x0 x1 x4 x5 x10 x21 x32) S = some (x4, S) := nr (by kernel_rfl)
@[go_sem] theorem k0_n (b : Nat) (x0 x1 x4 x5 x10 x21 x32 : PV) (S : Store) : k0 b .normal (ee x0 x1 x4 x5 x10 x21 x32) S = some (x4, S) := nr (by kernel_rfl)
noncomputable def c1 : Code := at0 code
noncomputable def c2 : Code := at1 code
theorem code_h : code = .seq c1 c2 := by kernel_rfl
noncomputable def c3 : Code := at0 c2
noncomputable def c4 : Code := at1 c2
theorem c2_h : c2 = .seq c3 c4 := by kernel_rfl
noncomputable def c5 : Code := at0 c4
noncomputable def c6 : Code := at1 c4
theorem c4_h : c4 = .seq c5 c6 := by kernel_rfl
noncomputable def c7 : Code := at0 c6
noncomputable def c8 : Code := at1 c6
theorem c6_h : c6 = .seq c7 c8 := by kernel_rfl
noncomputable def k9 (b : Nat) : KT := seqC (fun e S => execL (C b) 0 c8 (k0 b) e S) (k0 b)
@[go_sem] theorem k9_n (b : Nat) (x0 x1 x4 x5 x10 x21 x32 : PV) (S : Store) : k9 b .normal (ee x0 x1 x4 x5 x10 x21 x32) S =
  (k0 b) .ret (ee x0 x1 x4 x5 x10 x21 x32) S := nr ((show k9 b .normal (ee x0 x1 x4 x5 x10 x21 x32) S = execL (C b) 0 c8 (k0 b) (ee x0 x1 x4 x5 x10 x21 x32) S from seqC_n _ _ _ _).trans (execL_ret (by kernel_rfl)))
@[go_sem] theorem k9_ret (b : Nat) (e : Env) (S : Store) : k9 b .ret e S = (k0 b) .ret e S := nr (seqC_r _ _ _ _)
@[go_sem] theorem k9_exit (b : Nat) (i : Nat) (e : Env) (S : Store) : k9 b (.exit i) e S = (k0 b) (.exit i) e S := nr (seqC_x _ _ _ _ _)
theorem k9_l (b : Nat) : seqC (fun e S => execL (C b) 0 c8 (k0 b) e S) (k0 b) = k9 b := rfl
noncomputable def k10 (b : Nat) : KT := seqC (fun e S => execL (C b) 0 c7 (k9 b) e S) (k0 b)
@[go_sem] theorem g11 (b : Nat) (K : KT) (x0 x1 x4 x5 x10 x21 x32 : PV) (S : Store) : execL (C b) 0 c7 K (ee x0 x1 x4 x5 x10 x21 x32) S =
  withV (some (.int .i64 0)) fun x4 =>
    K .normal (ee x0 x1 x4 x5 x10 x21 x32) S := nr (by kernel_rfl)
@[go_sem] theorem k10_n (b : Nat) (e : Env) (S : Store) : k10 b .normal e S = execL (C b) 0 c7 (k9 b) e S := nr (seqC_n _ _ _ _)
@[go_sem] theorem k10_ret (b : Nat) (e : Env) (S : Store) : k10 b .ret e S = (k0 b) .ret e S := nr (seqC_r _ _ _ _)
@[go_sem] theorem k10_exit (b : Nat) (i : Nat) (e : Env) (S : Store) : k10 b (.exit i) e S = (k0 b) (.exit i) e S := nr (seqC_x _ _ _ _ _)
theorem k10_l (b : Nat) : seqC (fun e S => execL (C b) 0 c6 (k0 b) e S) (k0 b) = k10 b := link_seq c6_h (k9_l b)
noncomputable def k12 (b : Nat) : KT := seqC (fun e S => execL (C b) 0 c5 (k10 b) e S) (k0 b)
noncomputable def c13 : Code := at0 c5
noncomputable def c14 : Code := at1 c5
theorem c5_h : c5 = .seq c13 c14 := by kernel_rfl
noncomputable def k15 (b : Nat) : KT := seqC (fun e S => execL (C b) 0 c14 (k10 b) e S) (k10 b)
noncomputable def c16 : Code := atB c14
theorem c14_h : c14 = .block 0 c16 := by kernel_rfl
noncomputable def k17 (b : Nat) : KT := blockC 0 (k10 b)
@[go_sem] theorem k17_n (b : Nat) (e : Env) (S : Store) : k17 b .normal e S = (k10 b) .normal e S := nr (blockC_n _ _ _ _)
@[go_sem] theorem k17_ret (b : Nat) (e : Env) (S : Store) : k17 b .ret e S = (k10 b) .ret e S := nr (blockC_r _ _ _ _)
@[go_sem] theorem k17_exit (b : Nat) (i : Nat) (e : Env) (S : Store) : k17 b (.exit i) e S = if i = 0 then (k10 b) .normal e S else (k10 b) (.exit i) e S := nr (blockC_x _ _ _ _ _)
noncomputable def c18 : Code := atL c16
noncomputable def k19 (b n0 : Nat) : KT := afterC 0 n0 [] (k17 b)
noncomputable def L0g (b n0 : Nat) (e : Env) (S : Store) : RT := loopL (fun K e S => execL (C b) 0 c18 K e S) (normG [0, 1, 5] [] n0) (k19 b n0) e S
noncomputable def L0 (b n0 : Nat) (x0 x1 x4 x5 x10 x21 x32 : PV) (S : Store) : RT := L0g b n0 (ee x0 x1 x4 x5 x10 x21 x32) S
noncomputable def k20 (b n0 : Nat) : KT := stepC (normG [0, 1, 5] [] n0) (k19 b n0) (L0g b n0)
@[go_sem] theorem k20_n (b n0 : Nat) (x0 x1 x4 x5 x10 x21 x32 : PV) (S : Store) : k20 b n0 .normal (ee x0 x1 x4 x5 x10 x21 x32) S = L0 b n0 x0 x1 .undef x5 .undef .undef .undef (gc n0 (ee x0 x1 .undef x5 .undef .undef .undef) S) := nr (by kernel_rfl)
@[go_sem] theorem k20_ret (b n0 : Nat) (e : Env) (S : Store) : k20 b n0 .ret e S = (k17 b) .ret e S := nr ((show k20 b n0 .ret e S = (k19 b n0) .ret e S from stepC_r _ _ _ _ _).trans (afterC_r _ _ _ _ _ _))
@[go_sem] theorem k20_x (b n0 : Nat) (x0 x1 x4 x5 x10 x21 x32 : PV) (S : Store) : k20 b n0 (.exit 0) (ee x0 x1 x4 x5 x10 x21 x32) S = (k17 b) (.exit 0) (ee .undef .undef .undef .undef .undef .undef .undef) (gc n0 (ee .undef .undef .undef .undef .undef .undef .undef) S) := nr ((show k20 b n0 (.exit 0) (ee x0 x1 x4 x5 x10 x21 x32) S = (k19 b n0) (.exit 0) (ee x0 x1 x4 x5 x10 x21 x32) S from stepC_x _ _ _ _ _ _).trans ((show (k19 b n0) (.exit 0) (ee x0 x1 x4 x5 x10 x21 x32) S = _ from afterC_x _ _ _ _ _ _ _).trans (if_pos rfl)))
theorem k20_o (b n0 : Nat) (i : Nat) (e : Env) (S : Store) (h : i ≠ 0) : k20 b n0 (.exit i) e S = (k17 b) (.exit i) e S := (show k20 b n0 (.exit i) e S = (k19 b n0) (.exit i) e S from stepC_x _ _ _ _ _ _).trans ((show (k19 b n0) (.exit i) e S = _ from afterC_x _ _ _ _ _ _ _).trans (if_neg h))
noncomputable def c21 : Code := at0 c18
noncomputable def c22 : Code := at1 c18
theorem c18_h : c18 = .seq c21 c22 := by kernel_rfl
noncomputable def c23 : Code := at0 c22
noncomputable def c24 : Code := at1 c22
theorem c22_h : c22 = .seq c23 c24 := by kernel_rfl
noncomputable def k25 (b n0 : Nat) : KT := seqC (fun e S => execL (C b) 0 c24 (k20 b n0) e S) (k20 b n0)
@[go_sem] theorem g26 (b : Nat) (K : KT) (x0 x1 x4 x5 x10 x21 x32 : PV) (S : Store) : execL (C b) 0 c24 K (ee x0 x1 x4 x5 x10 x21 x32) S =
  withV (some x5) fun x22 =>
    withV (evBin .sub (tyi Try.prog 3) x22 (.int .i64 1)) fun x23 =>
    withV (some x23) fun x5 =>
    K .normal (ee x0 x1 x4 x5 x10 x21 x32) S := nr (by kernel_rfl)
@[go_sem] theorem k25_n (b n0 : Nat) (e : Env) (S : Store) : k25 b n0 .normal e S = execL (C b) 0 c24 (k20 b n0) e S := nr (seqC_n _ _ _ _)
@[go_sem] theorem k25_ret (b n0 : Nat) (e : Env) (S : Store) : k25 b n0 .ret e S = (k20 b n0) .ret e S := nr (seqC_r _ _ _ _)
@[go_sem] theorem k25_exit (b n0 : Nat) (i : Nat) (e : Env) (S : Store) : k25 b n0 (.exit i) e S = (k20 b n0) (.exit i) e S := nr (seqC_x _ _ _ _ _)
theorem k25_l (b n0 : Nat) : seqC (fun e S => execL (C b) 0 c24 (k20 b n0) e S) (k20 b n0) = k25 b n0 := rfl
noncomputable def k27 (b n0 : Nat) : KT := seqC (fun e S => execL (C b) 0 c23 (k25 b n0) e S) (k20 b n0)
noncomputable def c28 : Code := atB c23
theorem c23_h : c23 = .block 1 c28 := by kernel_rfl
noncomputable def k29 (b n0 : Nat) : KT := blockC 1 (k25 b n0)
@[go_sem] theorem k29_n (b n0 : Nat) (e : Env) (S : Store) : k29 b n0 .normal e S = (k25 b n0) .normal e S := nr (blockC_n _ _ _ _)
@[go_sem] theorem k29_ret (b n0 : Nat) (e : Env) (S : Store) : k29 b n0 .ret e S = (k25 b n0) .ret e S := nr (blockC_r _ _ _ _)
@[go_sem] theorem k29_exit (b n0 : Nat) (i : Nat) (e : Env) (S : Store) : k29 b n0 (.exit i) e S = if i = 1 then (k25 b n0) .normal e S else (k25 b n0) (.exit i) e S := nr (blockC_x _ _ _ _ _)
noncomputable def c30 : Code := at0 c28
noncomputable def c31 : Code := at1 c28
theorem c28_h : c28 = .seq c30 c31 := by kernel_rfl
noncomputable def k32 (b n0 : Nat) : KT := seqC (fun e S => execL (C b) 1 c31 (k29 b n0) e S) (k29 b n0)
noncomputable def c33 : Code := atT c31
noncomputable def c34 : Code := atF c31
theorem c31_h : c31 = .cond (.tmp 32) c33 c34 := by kernel_rfl
noncomputable def c36 : Code := at0 c33
noncomputable def c37 : Code := at1 c33
theorem c33_h : c33 = .seq c36 c37 := by kernel_rfl
noncomputable def k38 (b n0 : Nat) : KT := seqC (fun e S => execL (C b) 1 c37 (k29 b n0) e S) (k29 b n0)
@[go_sem] theorem k38_n (b n0 : Nat) (x0 x1 x4 x5 x10 x21 x32 : PV) (S : Store) : k38 b n0 .normal (ee x0 x1 x4 x5 x10 x21 x32) S =
  (k29 b n0) .ret (ee x0 x1 x4 x5 x10 x21 x32) S := nr ((show k38 b n0 .normal (ee x0 x1 x4 x5 x10 x21 x32) S = execL (C b) 1 c37 (k29 b n0) (ee x0 x1 x4 x5 x10 x21 x32) S from seqC_n _ _ _ _).trans (execL_ret (by kernel_rfl)))
@[go_sem] theorem k38_ret (b n0 : Nat) (e : Env) (S : Store) : k38 b n0 .ret e S = (k29 b n0) .ret e S := nr (seqC_r _ _ _ _)
@[go_sem] theorem k38_exit (b n0 : Nat) (i : Nat) (e : Env) (S : Store) : k38 b n0 (.exit i) e S = (k29 b n0) (.exit i) e S := nr (seqC_x _ _ _ _ _)
theorem k38_l (b n0 : Nat) : seqC (fun e S => execL (C b) 1 c37 (k29 b n0) e S) (k29 b n0) = k38 b n0 := rfl
@[go_sem] theorem g39 (b : Nat) (K : KT) (x0 x1 x4 x5 x10 x21 x32 : PV) (S : Store) : execL (C b) 1 c36 K (ee x0 x1 x4 x5 x10 x21 x32) S =
  withV (some x0) fun x33 =>
    withV (some x5) fun x34 =>
    withV (indexAddrO Try.prog 49 S x33 x34) fun x35 =>
    withV (evLoad (tyi Try.prog 76) S x35) fun x36 =>
    withV (some x1) fun x37 =>
    withV (some x5) fun x38 =>
    withV (indexAddrO Try.prog 49 S x37 x38) fun x39 =>
    withV (evLoad (tyi Try.prog 76) S x39) fun x40 =>
    withV (evBin .lss (tyi Try.prog 76) x36 x40) fun x41 =>
    withN (callO (callL Try.prog hints) S 68 [x41]) S fun x42 S =>
    withV (some x42) fun x4 =>
    K .normal (ee x0 x1 x4 x5 x10 x21 x32) S := nr (by kernel_rfl)
noncomputable def E35 (b n0 : Nat) (x0 x1 x4 x5 x10 x21 x32 : PV) (S : Store) : RT := execL (C b) 1 c33 (k29 b n0) (ee x0 x1 x4 x5 x10 x21 x32) S
@[go_sem] theorem E35_eq (b n0 : Nat) (x0 x1 x4 x5 x10 x21 x32 : PV) (S : Store) : E35 b n0 x0 x1 x4 x5 x10 x21 x32 S =
  execL (C b) 1 c36 (k38 b n0) (ee x0 x1 x4 x5 x10 x21 x32) S := nr ((enter_seq c33_h (k38_l b n0)).trans (rfl))
@[go_sem] theorem k32_n (b n0 : Nat) (x0 x1 x4 x5 x10 x21 x32 : PV) (S : Store) : k32 b n0 .normal (ee x0 x1 x4 x5 x10 x21 x32) S =
  condC x32 (E35 b n0 x0 x1 x4 x5 x10 x21 x32 S)
    ((k29 b n0) .normal (ee x0 x1 x4 x5 x10 x21 x32) S) := nr ((show k32 b n0 .normal (ee x0 x1 x4 x5 x10 x21 x32) S = execL (C b) 1 c31 (k29 b n0) (ee x0 x1 x4 x5 x10 x21 x32) S from seqC_n _ _ _ _).trans (execL_cond c31_h (rfl) (execL_skip (by kernel_rfl)) rfl))
@[go_sem] theorem k32_ret (b n0 : Nat) (e : Env) (S : Store) : k32 b n0 .ret e S = (k29 b n0) .ret e S := nr (seqC_r _ _ _ _)
@[go_sem] theorem k32_exit (b n0 : Nat) (i : Nat) (e : Env) (S : Store) : k32 b n0 (.exit i) e S = (k29 b n0) (.exit i) e S := nr (seqC_x _ _ _ _ _)
theorem k32_l (b n0 : Nat) : seqC (fun e S => execL (C b) 1 c31 (k29 b n0) e S) (k29 b n0) = k32 b n0 := rfl
@[go_sem] theorem g40 (b : Nat) (K : KT) (x0 x1 x4 x5 x10 x21 x32 : PV) (S : Store) : execL (C b) 1 c30 K (ee x0 x1 x4 x5 x10 x21 x32) S =
  withV (some x0) fun x24 =>
    withV (some x5) fun x25 =>
    withV (indexAddrO Try.prog 49 S x24 x25) fun x26 =>
    withV (evLoad (tyi Try.prog 76) S x26) fun x27 =>
    withV (some x1) fun x28 =>
    withV (some x5) fun x29 =>
    withV (indexAddrO Try.prog 49 S x28 x29) fun x30 =>
    withV (evLoad (tyi Try.prog 76) S x30) fun x31 =>
    withV (evBin .neq (tyi Try.prog 76) x27 x31) fun x32 =>
    K .normal (ee x0 x1 x4 x5 x10 x21 x32) S := nr (by kernel_rfl)
@[go_sem] theorem k27_n (b n0 : Nat) (x0 x1 x4 x5 x10 x21 x32 : PV) (S : Store) : k27 b n0 .normal (ee x0 x1 x4 x5 x10 x21 x32) S =
  execL (C b) 1 c30 (k32 b n0) (ee x0 x1 x4 x5 x10 x21 x32) S := nr ((show k27 b n0 .normal (ee x0 x1 x4 x5 x10 x21 x32) S = execL (C b) 0 c23 (k25 b n0) (ee x0 x1 x4 x5 x10 x21 x32) S from seqC_n _ _ _ _).trans ((show execL (C b) 0 c23 (k25 b n0) (ee x0 x1 x4 x5 x10 x21 x32) S = execL (C b) 1 c28 (k29 b n0) (ee x0 x1 x4 x5 x10 x21 x32) S from execL_block c23_h).trans ((enter_seq c28_h (k32_l b n0)).trans (rfl))))
@[go_sem] theorem k27_ret (b n0 : Nat) (e : Env) (S : Store) : k27 b n0 .ret e S = (k20 b n0) .ret e S := nr (seqC_r _ _ _ _)
@[go_sem] theorem k27_exit (b n0 : Nat) (i : Nat) (e : Env) (S : Store) : k27 b n0 (.exit i) e S = (k20 b n0) (.exit i) e S := nr (seqC_x _ _ _ _ _)
theorem k27_l (b n0 : Nat) : seqC (fun e S => execL (C b) 0 c22 (k20 b n0) e S) (k20 b n0) = k27 b n0 := link_seq c22_h (k25_l b n0)
noncomputable def c41 : Code := at0 c21
noncomputable def c42 : Code := at1 c21
theorem c21_h : c21 = .seq c41 c42 := by kernel_rfl
noncomputable def k43 (b n0 : Nat) : KT := seqC (fun e S => execL (C b) 0 c42 (k27 b n0) e S) (k27 b n0)
noncomputable def c44 : Code := atT c42
noncomputable def c45 : Code := atF c42
theorem c42_h : c42 = .cond (.tmp 21) c44 c45 := by kernel_rfl
@[go_sem] theorem k43_n (b n0 : Nat) (x0 x1 x4 x5 x10 x21 x32 : PV) (S : Store) : k43 b n0 .normal (ee x0 x1 x4 x5 x10 x21 x32) S =
  condC x21 ((k27 b n0) .normal (ee x0 x1 x4 x5 x10 x21 x32) S)
    ((k27 b n0) (.exit 0) (ee x0 x1 x4 x5 x10 x21 x32) S) := nr ((show k43 b n0 .normal (ee x0 x1 x4 x5 x10 x21 x32) S = execL (C b) 0 c42 (k27 b n0) (ee x0 x1 x4 x5 x10 x21 x32) S from seqC_n _ _ _ _).trans (execL_cond c42_h (execL_skip (by kernel_rfl)) (execL_exit (by kernel_rfl)) rfl))
@[go_sem] theorem k43_ret (b n0 : Nat) (e : Env) (S : Store) : k43 b n0 .ret e S = (k27 b n0) .ret e S := nr (seqC_r _ _ _ _)
@[go_sem] theorem k43_exit (b n0 : Nat) (i : Nat) (e : Env) (S : Store) : k43 b n0 (.exit i) e S = (k27 b n0) (.exit i) e S := nr (seqC_x _ _ _ _ _)
theorem k43_l (b n0 : Nat) : seqC (fun e S => execL (C b) 0 c42 (k27 b n0) e S) (k27 b n0) = k43 b n0 := rfl
@[go_sem] theorem g46 (b : Nat) (K : KT) (x0 x1 x4 x5 x10 x21 x32 : PV) (S : Store) : execL (C b) 0 c41 K (ee x0 x1 x4 x5 x10 x21 x32) S =
  withV (some x5) fun x20 =>
    withV (evBin .geq (tyi Try.prog 3) x20 (.int .i64 0)) fun x21 =>
    K .normal (ee x0 x1 x4 x5 x10 x21 x32) S := nr (by kernel_rfl)
noncomputable def B0 (b n0 : Nat) (x0 x1 x4 x5 x10 x21 x32 : PV) (S : Store) : RT := execL (C b) 0 c18 (k20 b n0) (ee x0 x1 x4 x5 x10 x21 x32) S
@[go_sem] theorem B0_eq (b n0 : Nat) (x0 x1 x4 x5 x10 x21 x32 : PV) (S : Store) : B0 b n0 x0 x1 x4 x5 x10 x21 x32 S =
  execL (C b) 0 c41 (k43 b n0) (ee x0 x1 x4 x5 x10 x21 x32) S := nr ((enter_seq c18_h (k27_l b n0)).trans ((enter_seq c21_h (k43_l b n0)).trans (rfl)))
theorem L0_step {b n0 : Nat} {x0 x1 x4 x5 x10 x21 x32 : PV} {S : Store} {z : PV × Store} (h : B0 b n0 x0 x1 x4 x5 x10 x21 x32 S = some z) : L0 b n0 x0 x1 x4 x5 x10 x21 x32 S = some z := loopL_step h
theorem L0_in (b : Nat) (x0 x1 x4 x5 x10 x21 x32 : PV) (S : Store) : execL (C b) 0 c16 (k17 b) (ee x0 x1 x4 x5 x10 x21 x32) S = L0 b (List.length S) x0 x1 .undef x5 .undef .undef .undef S := by kernel_rfl
@[go_sem] theorem k15_n (b : Nat) (x0 x1 x4 x5 x10 x21 x32 : PV) (S : Store) : k15 b .normal (ee x0 x1 x4 x5 x10 x21 x32) S =
  L0 b (List.length S) x0 x1 .undef x5 .undef .undef .undef S := nr ((show k15 b .normal (ee x0 x1 x4 x5 x10 x21 x32) S = execL (C b) 0 c14 (k10 b) (ee x0 x1 x4 x5 x10 x21 x32) S from seqC_n _ _ _ _).trans ((show execL (C b) 0 c14 (k10 b) (ee x0 x1 x4 x5 x10 x21 x32) S = execL (C b) 0 c16 (k17 b) (ee x0 x1 x4 x5 x10 x21 x32) S from execL_block c14_h).trans (L0_in b x0 x1 x4 x5 x10 x21 x32 S)))
@[go_sem] theorem k15_ret (b : Nat) (e : Env) (S : Store) : k15 b .ret e S = (k10 b) .ret e S := nr (seqC_r _ _ _ _)
@[go_sem] theorem k15_exit (b : Nat) (i : Nat) (e : Env) (S : Store) : k15 b (.exit i) e S = (k10 b) (.exit i) e S := nr (seqC_x _ _ _ _ _)
theorem k15_l (b : Nat) : seqC (fun e S => execL (C b) 0 c14 (k10 b) e S) (k10 b) = k15 b := rfl
@[go_sem] theorem g48 (b : Nat) (K : KT) (x0 x1 x4 x5 x10 x21 x32 : PV) (S : Store) : execL (C b) 0 c13 K (ee x0 x1 x4 x5 x10 x21 x32) S =
  withV (some x0) fun x17 =>
    withV (lenO (tyi Try.prog 49) x17) fun x18 =>
    withV (evBin .sub (tyi Try.prog 3) x18 (.int .i64 1)) fun x19 =>
    withV (some x19) fun x5 =>
    K .normal (ee x0 x1 x4 x5 x10 x21 x32) S := nr (by kernel_rfl)
@[go_sem] theorem k12_n (b : Nat) (x0 x1 x4 x5 x10 x21 x32 : PV) (S : Store) : k12 b .normal (ee x0 x1 x4 x5 x10 x21 x32) S =
  execL (C b) 0 c13 (k15 b) (ee x0 x1 x4 x5 x10 x21 x32) S := nr ((show k12 b .normal (ee x0 x1 x4 x5 x10 x21 x32) S = execL (C b) 0 c5 (k10 b) (ee x0 x1 x4 x5 x10 x21 x32) S from seqC_n _ _ _ _).trans ((enter_seq c5_h (k15_l b)).trans (rfl)))
@[go_sem] theorem k12_ret (b : Nat) (e : Env) (S : Store) : k12 b .ret e S = (k0 b) .ret e S := nr (seqC_r _ _ _ _)
@[go_sem] theorem k12_exit (b : Nat) (i : Nat) (e : Env) (S : Store) : k12 b (.exit i) e S = (k0 b) (.exit i) e S := nr (seqC_x _ _ _ _ _)
theorem k12_l (b : Nat) : seqC (fun e S => execL (C b) 0 c4 (k0 b) e S) (k0 b) = k12 b := link_seq c4_h (k10_l b)
noncomputable def k49 (b : Nat) : KT := seqC (fun e S => execL (C b) 0 c3 (k12 b) e S) (k0 b)
noncomputable def c50 : Code := at0 c3
noncomputable def c51 : Code := at1 c3
theorem c3_h : c3 = .seq c50 c51 := by kernel_rfl
noncomputable def k52 (b : Nat) : KT := seqC (fun e S => execL (C b) 0 c51 (k12 b) e S) (k12 b)
noncomputable def c53 : Code := atT c51
noncomputable def c54 : Code := atF c51
theorem c51_h : c51 = .cond (.tmp 10) c53 c54 := by kernel_rfl
noncomputable def c56 : Code := at0 c53
noncomputable def c57 : Code := at1 c53
theorem c53_h : c53 = .seq c56 c57 := by kernel_rfl
noncomputable def k58 (b : Nat) : KT := seqC (fun e S => execL (C b) 0 c57 (k12 b) e S) (k12 b)
@[go_sem] theorem k58_n (b : Nat) (x0 x1 x4 x5 x10 x21 x32 : PV) (S : Store) : k58 b .normal (ee x0 x1 x4 x5 x10 x21 x32) S =
  (k12 b) .ret (ee x0 x1 x4 x5 x10 x21 x32) S := nr ((show k58 b .normal (ee x0 x1 x4 x5 x10 x21 x32) S = execL (C b) 0 c57 (k12 b) (ee x0 x1 x4 x5 x10 x21 x32) S from seqC_n _ _ _ _).trans (execL_ret (by kernel_rfl)))
@[go_sem] theorem k58_ret (b : Nat) (e : Env) (S : Store) : k58 b .ret e S = (k12 b) .ret e S := nr (seqC_r _ _ _ _)
@[go_sem] theorem k58_exit (b : Nat) (i : Nat) (e : Env) (S : Store) : k58 b (.exit i) e S = (k12 b) (.exit i) e S := nr (seqC_x _ _ _ _ _)
theorem k58_l (b : Nat) : seqC (fun e S => execL (C b) 0 c57 (k12 b) e S) (k12 b) = k58 b := rfl
@[go_sem] theorem g59 (b : Nat) (K : KT) (x0 x1 x4 x5 x10 x21 x32 : PV) (S : Store) : execL (C b) 0 c56 K (ee x0 x1 x4 x5 x10 x21 x32) S =
  withV (some x0) fun x11 =>
    withV (lenO (tyi Try.prog 49) x11) fun x12 =>
    withV (some x1) fun x13 =>
    withV (lenO (tyi Try.prog 49) x13) fun x14 =>
    withV (evBin .lss (tyi Try.prog 3) x12 x14) fun x15 =>
    withN (callO (callL Try.prog hints) S 68 [x15]) S fun x16 S =>
    withV (some x16) fun x4 =>
    K .normal (ee x0 x1 x4 x5 x10 x21 x32) S := nr (by kernel_rfl)
noncomputable def E55 (b : Nat) (x0 x1 x4 x5 x10 x21 x32 : PV) (S : Store) : RT := execL (C b) 0 c53 (k12 b) (ee x0 x1 x4 x5 x10 x21 x32) S
@[go_sem] theorem E55_eq (b : Nat) (x0 x1 x4 x5 x10 x21 x32 : PV) (S : Store) : E55 b x0 x1 x4 x5 x10 x21 x32 S =
  execL (C b) 0 c56 (k58 b) (ee x0 x1 x4 x5 x10 x21 x32) S := nr ((enter_seq c53_h (k58_l b)).trans (rfl))
@[go_sem] theorem k52_n (b : Nat) (x0 x1 x4 x5 x10 x21 x32 : PV) (S : Store) : k52 b .normal (ee x0 x1 x4 x5 x10 x21 x32) S =
  condC x10 (E55 b x0 x1 x4 x5 x10 x21 x32 S)
    ((k12 b) .normal (ee x0 x1 x4 x5 x10 x21 x32) S) := nr ((show k52 b .normal (ee x0 x1 x4 x5 x10 x21 x32) S = execL (C b) 0 c51 (k12 b) (ee x0 x1 x4 x5 x10 x21 x32) S from seqC_n _ _ _ _).trans (execL_cond c51_h (rfl) (execL_skip (by kernel_rfl)) rfl))
@[go_sem] theorem k52_ret (b : Nat) (e : Env) (S : Store) : k52 b .ret e S = (k12 b) .ret e S := nr (seqC_r _ _ _ _)
@[go_sem] theorem k52_exit (b : Nat) (i : Nat) (e : Env) (S : Store) : k52 b (.exit i) e S = (k12 b) (.exit i) e S := nr (seqC_x _ _ _ _ _)
theorem k52_l (b : Nat) : seqC (fun e S => execL (C b) 0 c51 (k12 b) e S) (k12 b) = k52 b := rfl
@[go_sem] theorem g60 (b : Nat) (K : KT) (x0 x1 x4 x5 x10 x21 x32 : PV) (S : Store) : execL (C b) 0 c50 K (ee x0 x1 x4 x5 x10 x21 x32) S =
  withV (some x0) fun x6 =>
    withV (lenO (tyi Try.prog 49) x6) fun x7 =>
    withV (some x1) fun x8 =>
    withV (lenO (tyi Try.prog 49) x8) fun x9 =>
    withV (evBin .neq (tyi Try.prog 3) x7 x9) fun x10 =>
    K .normal (ee x0 x1 x4 x5 x10 x21 x32) S := nr (by kernel_rfl)
@[go_sem] theorem k49_n (b : Nat) (x0 x1 x4 x5 x10 x21 x32 : PV) (S : Store) : k49 b .normal (ee x0 x1 x4 x5 x10 x21 x32) S =
  execL (C b) 0 c50 (k52 b) (ee x0 x1 x4 x5 x10 x21 x32) S := nr ((show k49 b .normal (ee x0 x1 x4 x5 x10 x21 x32) S = execL (C b) 0 c3 (k12 b) (ee x0 x1 x4 x5 x10 x21 x32) S from seqC_n _ _ _ _).trans ((enter_seq c3_h (k52_l b)).trans (rfl)))
@[go_sem] theorem k49_ret (b : Nat) (e : Env) (S : Store) : k49 b .ret e S = (k0 b) .ret e S := nr (seqC_r _ _ _ _)
@[go_sem] theorem k49_exit (b : Nat) (i : Nat) (e : Env) (S : Store) : k49 b (.exit i) e S = (k0 b) (.exit i) e S := nr (seqC_x _ _ _ _ _)
theorem k49_l (b : Nat) : seqC (fun e S => execL (C b) 0 c2 (k0 b) e S) (k0 b) = k49 b := link_seq c2_h (k12_l b)
@[go_sem] theorem g61 (b : Nat) (K : KT) (x0 x1 : PV) (S : Store) : execL (C b) 0 c1 K [(0, x0), (1, x1)] S =
  withV (some (.int .i64 0)) fun x4 =>
    K .normal (ee x0 x1 x4 .undef .undef .undef .undef) S := nr (by kernel_rfl)
noncomputable def E (b : Nat) (x0 x1 : PV) (S : Store) : RT := execL (C b) 0 code (k0 b) [(0, x0), (1, x1)] S
@[go_sem] theorem E_eq (b : Nat) (x0 x1 : PV) (S : Store) : E b x0 x1 S =
  execL (C b) 0 c1 (k49 b) [(0, x0), (1, x1)] S := nr ((enter_seq code_h (k49_l b)).trans (rfl))
theorem callR {x0 x1 : PV} {S : Store} {r : PV × Store} (h : E S.length x0 x1 S = some r) : callRL Try.prog hints 69 [x0, x1] S = some r := callRL_of (fn := Try.f69) (c := code) (by kernel_rfl) (by kernel_rfl) (by decide) (by kernel_rfl) (Nat.le_of_ble_eq_true (by kernel_rfl)) h
theorem call {x0 x1 : PV} {r : PV × Store} {v : PV} (h : E 0 x0 x1 [] = some r) (hv : fzPV r.2 r.1 = some v) : callL Try.prog hints 69 [x0, x1] = some v := callL_of (fn := Try.f69) (c := code) (by kernel_rfl) (by kernel_rfl) (by decide) (by kernel_rfl) (Nat.le_of_ble_eq_true (by kernel_rfl)) h hv
end F69
/-! ### isochroneref08.less -/
namespace F70
def hint : Hint := { keep := [0, 1, 4, 7, 10], loops := [] }
noncomputable def C (b : Nat) : Ctx := ctxL Try.prog hints b hint
noncomputable def code : Code := Try.f70.body.get rfl
noncomputable def k0 (b : Nat) : KT := endC Try.prog Try.f70
def ee (x0 x1 x4 x7 x10 : PV) : Env := [(0, x0), (1, x1), (4, x4), (7, x7), (10, x10)]
@[go_sem] theorem gc_ee (n : Nat) (x0 x1 x4 x7 x10 : PV) (S : Store) : gc n (ee x0 x1 x4 x7 x10) S = gc n [(0, x0), (1, x1), (4, x4), (7, x7), (10, x10)] S := nr (rfl)
@[go_sem] theorem k0_ret (b : Nat) (x0 x1 x4 x7 x10 : PV) (S : Store) : k0 b .ret (ee x0 x1 x4 x7 x10) S = some (x4, S) := nr (by kernel_rfl)
@[go_sem] theorem k0_n (b : Nat) (x0 x1 x4 x7 x10 : PV) (S : Store) : k0 b .normal (ee x0 x1 x4 x7 x10) S = some (x4, S) := nr (by kernel_rfl)
noncomputable def c1 : Code := at0 code
noncomputable def c2 : Code := at1 code
theorem code_h : code = .seq c1 c2 := by kernel_rfl
noncomputable def c3 : Code := at0 c2
noncomputable def c4 : Code := at1 c2
theorem c2_h : c2 = .seq c3 c4 := by kernel_rfl
noncomputable def c5 : Code := at0 c4
noncomputable def c6 : Code := at1 c4
theorem c4_h : c4 = .seq c5 c6 := by kernel_rfl
noncomputable def c7 : Code := at0 c6
noncomputable def c8 : Code := at1 c6
theorem c6_h : c6 = .seq c7 c8 := by kernel_rfl
noncomputable def k9 (b : Nat) : KT := seqC (fun e S => execL (C b) 0 c8 (k0 b) e S) (k0 b)
@[go_sem] theorem k9_n (b : Nat) (x0 x1 x4 x7 x10 : PV) (S : Store) : k9 b .normal (ee x0 x1 x4 x7 x10) S =
  (k0 b) .ret (ee x0 x1 x4 x7 x10) S := nr ((show k9 b .normal (ee x0 x1 x4 x7 x10) S = execL (C b) 0 c8 (k0 b) (ee x0 x1 x4 x7 x10) S from seqC_n _ _ _ _).trans (execL_ret (by kernel_rfl)))
@[go_sem] theorem k9_ret (b : Nat) (e : Env) (S : Store) : k9 b .ret e S = (k0 b) .ret e S := nr (seqC_r _ _ _ _)
@[go_sem] theorem k9_exit (b : Nat) (i : Nat) (e : Env) (S : Store) : k9 b (.exit i) e S = (k0 b) (.exit i) e S := nr (seqC_x _ _ _ _ _)
theorem k9_l (b : Nat) : seqC (fun e S => execL (C b) 0 c8 (k0 b) e S) (k0 b) = k9 b := rfl
noncomputable def k10 (b : Nat) : KT := seqC (fun e S => execL (C b) 0 c7 (k9 b) e S) (k0 b)
@[go_sem] theorem g11 (b : Nat) (K : KT) (x0 x1 x4 x7 x10 : PV) (S : Store) : execL (C b) 0 c7 K (ee x0 x1 x4 x7 x10) S =
  withV (some (.int .i64 0)) fun x4 =>
    K .normal (ee x0 x1 x4 x7 x10) S := nr (by kernel_rfl)
@[go_sem] theorem k10_n (b : Nat) (e : Env) (S : Store) : k10 b .normal e S = execL (C b) 0 c7 (k9 b) e S := nr (seqC_n _ _ _ _)
@[go_sem] theorem k10_ret (b : Nat) (e : Env) (S : Store) : k10 b .ret e S = (k0 b) .ret e S := nr (seqC_r _ _ _ _)
@[go_sem] theorem k10_exit (b : Nat) (i : Nat) (e : Env) (S : Store) : k10 b (.exit i) e S = (k0 b) (.exit i) e S := nr (seqC_x _ _ _ _ _)
theorem k10_l (b : Nat) : seqC (fun e S => execL (C b) 0 c6 (k0 b) e S) (k0 b) = k10 b := link_seq c6_h (k9_l b)
noncomputable def k12 (b : Nat) : KT := seqC (fun e S => execL (C b) 0 c5 (k10 b) e S) (k0 b)
noncomputable def c13 : Code := at0 c5
noncomputable def c14 : Code := at1 c5
theorem c5_h : c5 = .seq c13 c14 := by kernel_rfl
noncomputable def k15 (b : Nat) : KT := seqC (fun e S => execL (C b) 0 c14 (k10 b) e S) (k10 b)
noncomputable def c16 : Code := atT c14
noncomputable def c17 : Code := atF c14
theorem c14_h : c14 = .cond (.tmp 10) c16 c17 := by kernel_rfl
noncomputable def c19 : Code := at0 c16
noncomputable def c20 : Code := at1 c16
theorem c16_h : c16 = .seq c19 c20 := by kernel_rfl
noncomputable def k21 (b : Nat) : KT := seqC (fun e S => execL (C b) 0 c20 (k10 b) e S) (k10 b)
@[go_sem] theorem k21_n (b : Nat) (x0 x1 x4 x7 x10 : PV) (S : Store) : k21 b .normal (ee x0 x1 x4 x7 x10) S =
  (k10 b) .ret (ee x0 x1 x4 x7 x10) S := nr ((show k21 b .normal (ee x0 x1 x4 x7 x10) S = execL (C b) 0 c20 (k10 b) (ee x0 x1 x4 x7 x10) S from seqC_n _ _ _ _).trans (execL_ret (by kernel_rfl)))
@[go_sem] theorem k21_ret (b : Nat) (e : Env) (S : Store) : k21 b .ret e S = (k10 b) .ret e S := nr (seqC_r _ _ _ _)
@[go_sem] theorem k21_exit (b : Nat) (i : Nat) (e : Env) (S : Store) : k21 b (.exit i) e S = (k10 b) (.exit i) e S := nr (seqC_x _ _ _ _ _)
theorem k21_l (b : Nat) : seqC (fun e S => execL (C b) 0 c20 (k10 b) e S) (k10 b) = k21 b := rfl
@[go_sem] theorem g22 (b : Nat) (K : KT) (x0 x1 x4 x7 x10 : PV) (S : Store) : execL (C b) 0 c19 K (ee x0 x1 x4 x7 x10) S =
  withV (some (.int .i64 1)) fun x4 =>
    K .normal (ee x0 x1 x4 x7 x10) S := nr (by kernel_rfl)
noncomputable def E18 (b : Nat) (x0 x1 x4 x7 x10 : PV) (S : Store) : RT := execL (C b) 0 c16 (k10 b) (ee x0 x1 x4 x7 x10) S
@[go_sem] theorem E18_eq (b : Nat) (x0 x1 x4 x7 x10 : PV) (S : Store) : E18 b x0 x1 x4 x7 x10 S =
  execL (C b) 0 c19 (k21 b) (ee x0 x1 x4 x7 x10) S := nr ((enter_seq c16_h (k21_l b)).trans (rfl))
@[go_sem] theorem k15_n (b : Nat) (x0 x1 x4 x7 x10 : PV) (S : Store) : k15 b .normal (ee x0 x1 x4 x7 x10) S =
  condC x10 (E18 b x0 x1 x4 x7 x10 S)
    ((k10 b) .normal (ee x0 x1 x4 x7 x10) S) := nr ((show k15 b .normal (ee x0 x1 x4 x7 x10) S = execL (C b) 0 c14 (k10 b) (ee x0 x1 x4 x7 x10) S from seqC_n _ _ _ _).trans (execL_cond c14_h (rfl) (execL_skip (by kernel_rfl)) rfl))
@[go_sem] theorem k15_ret (b : Nat) (e : Env) (S : Store) : k15 b .ret e S = (k10 b) .ret e S := nr (seqC_r _ _ _ _)
@[go_sem] theorem k15_exit (b : Nat) (i : Nat) (e : Env) (S : Store) : k15 b (.exit i) e S = (k10 b) (.exit i) e S := nr (seqC_x _ _ _ _ _)
theorem k15_l (b : Nat) : seqC (fun e S => execL (C b) 0 c14 (k10 b) e S) (k10 b) = k15 b := rfl
@[go_sem] theorem g23 (b : Nat) (K : KT) (x0 x1 x4 x7 x10 : PV) (S : Store) : execL (C b) 0 c13 K (ee x0 x1 x4 x7 x10) S =
  withV (some x0) fun x8 =>
    withV (some x1) fun x9 =>
    withV (evBin .gtr (tyi Try.prog 3) x8 x9) fun x10 =>
    K .normal (ee x0 x1 x4 x7 x10) S := nr (by kernel_rfl)
@[go_sem] theorem k12_n (b : Nat) (x0 x1 x4 x7 x10 : PV) (S : Store) : k12 b .normal (ee x0 x1 x4 x7 x10) S =
  execL (C b) 0 c13 (k15 b) (ee x0 x1 x4 x7 x10) S := nr ((show k12 b .normal (ee x0 x1 x4 x7 x10) S = execL (C b) 0 c5 (k10 b) (ee x0 x1 x4 x7 x10) S from seqC_n _ _ _ _).trans ((enter_seq c5_h (k15_l b)).trans (rfl)))
@[go_sem] theorem k12_ret (b : Nat) (e : Env) (S : Store) : k12 b .ret e S = (k0 b) .ret e S := nr (seqC_r _ _ _ _)
@[go_sem] theorem k12_exit (b : Nat) (i : Nat) (e : Env) (S : Store) : k12 b (.exit i) e S = (k0 b) (.exit i) e S := nr (seqC_x _ _ _ _ _)
theorem k12_l (b : Nat) : seqC (fun e S => execL (C b) 0 c4 (k0 b) e S) (k0 b) = k12 b := link_seq c4_h (k10_l b)
noncomputable def k24 (b : Nat) : KT := seqC (fun e S => execL (C b) 0 c3 (k12 b) e S) (k0 b)
noncomputable def c25 : Code := at0 c3
noncomputable def c26 : Code := at1 c3
theorem c3_h : c3 = .seq c25 c26 := by kernel_rfl
noncomputable def k27 (b : Nat) : KT := seqC (fun e S => execL (C b) 0 c26 (k12 b) e S) (k12 b)
noncomputable def c28 : Code := atT c26
noncomputable def c29 : Code := atF c26
theorem c26_h : c26 = .cond (.tmp 7) c28 c29 := by kernel_rfl
noncomputable def c31 : Code := at0 c28
noncomputable def c32 : Code := at1 c28
theorem c28_h : c28 = .seq c31 c32 := by kernel_rfl
noncomputable def k33 (b : Nat) : KT := seqC (fun e S => execL (C b) 0 c32 (k12 b) e S) (k12 b)
@[go_sem] theorem k33_n (b : Nat) (x0 x1 x4 x7 x10 : PV) (S : Store) : k33 b .normal (ee x0 x1 x4 x7 x10) S =
  (k12 b) .ret (ee x0 x1 x4 x7 x10) S := nr ((show k33 b .normal (ee x0 x1 x4 x7 x10) S = execL (C b) 0 c32 (k12 b) (ee x0 x1 x4 x7 x10) S from seqC_n _ _ _ _).trans (execL_ret (by kernel_rfl)))
@[go_sem] theorem k33_ret (b : Nat) (e : Env) (S : Store) : k33 b .ret e S = (k12 b) .ret e S := nr (seqC_r _ _ _ _)
@[go_sem] theorem k33_exit (b : Nat) (i : Nat) (e : Env) (S : Store) : k33 b (.exit i) e S = (k12 b) (.exit i) e S := nr (seqC_x _ _ _ _ _)
theorem k33_l (b : Nat) : seqC (fun e S => execL (C b) 0 c32 (k12 b) e S) (k12 b) = k33 b := rfl
@[go_sem] theorem g34 (b : Nat) (K : KT) (x0 x1 x4 x7 x10 : PV) (S : Store) : execL (C b) 0 c31 K (ee x0 x1 x4 x7 x10) S =
  withV (some (.int .i64 (-1))) fun x4 =>
    K .normal (ee x0 x1 x4 x7 x10) S := nr (by kernel_rfl)
noncomputable def E30 (b : Nat) (x0 x1 x4 x7 x10 : PV) (S : Store) : RT := execL (C b) 0 c28 (k12 b) (ee x0 x1 x4 x7 x10) S
@[go_sem] theorem E30_eq (b : Nat) (x0 x1 x4 x7 x10 : PV) (S : Store) : E30 b x0 x1 x4 x7 x10 S =
  execL (C b) 0 c31 (k33 b) (ee x0 x1 x4 x7 x10) S := nr ((enter_seq c28_h (k33_l b)).trans (rfl))
@[go_sem] theorem k27_n (b : Nat) (x0 x1 x4 x7 x10 : PV) (S : Store) : k27 b .normal (ee x0 x1 x4 x7 x10) S =
  condC x7 (E30 b x0 x1 x4 x7 x10 S)
    ((k12 b) .normal (ee x0 x1 x4 x7 x10) S) := nr ((show k27 b .normal (ee x0 x1 x4 x7 x10) S = execL (C b) 0 c26 (k12 b) (ee x0 x1 x4 x7 x10) S from seqC_n _ _ _ _).trans (execL_cond c26_h (rfl) (execL_skip (by kernel_rfl)) rfl))
@[go_sem] theorem k27_ret (b : Nat) (e : Env) (S : Store) : k27 b .ret e S = (k12 b) .ret e S := nr (seqC_r _ _ _ _)
@[go_sem] theorem k27_exit (b : Nat) (i : Nat) (e : Env) (S : Store) : k27 b (.exit i) e S = (k12 b) (.exit i) e S := nr (seqC_x _ _ _ _ _)
theorem k27_l (b : Nat) : seqC (fun e S => execL (C b) 0 c26 (k12 b) e S) (k12 b) = k27 b := rfl
@[go_sem] theorem g35 (b : Nat) (K : KT) (x0 x1 x4 x7 x10 : PV) (S : Store) : execL (C b) 0 c25 K (ee x0 x1 x4 x7 x10) S =
  withV (some x0) fun x5 =>
    withV (some x1) fun x6 =>
    withV (evBin .lss (tyi Try.prog 3) x5 x6) fun x7 =>
    K .normal (ee x0 x1 x4 x7 x10) S := nr (by kernel_rfl)
@[go_sem] theorem k24_n (b : Nat) (x0 x1 x4 x7 x10 : PV) (S : Store) : k24 b .normal (ee x0 x1 x4 x7 x10) S =
  execL (C b) 0 c25 (k27 b) (ee x0 x1 x4 x7 x10) S := nr ((show k24 b .normal (ee x0 x1 x4 x7 x10) S = execL (C b) 0 c3 (k12 b) (ee x0 x1 x4 x7 x10) S from seqC_n _ _ _ _).trans ((enter_seq c3_h (k27_l b)).trans (rfl)))
@[go_sem] theorem k24_ret (b : Nat) (e : Env) (S : Store) : k24 b .ret e S = (k0 b) .ret e S := nr (seqC_r _ _ _ _)
@[go_sem] theorem k24_exit (b : Nat) (i : Nat) (e : Env) (S : Store) : k24 b (.exit i) e S = (k0 b) (.exit i) e S := nr (seqC_x _ _ _ _ _)
theorem k24_l (b : Nat) : seqC (fun e S => execL (C b) 0 c2 (k0 b) e S) (k0 b) = k24 b := link_seq c2_h (k12_l b)
@[go_sem] theorem g36 (b : Nat) (K : KT) (x0 x1 : PV) (S : Store) : execL (C b) 0 c1 K [(0, x0), (1, x1)] S =
  withV (some (.int .i64 0)) fun x4 =>
    K .normal (ee x0 x1 x4 .undef .undef) S := nr (by kernel_rfl)
noncomputable def E (b : Nat) (x0 x1 : PV) (S : Store) : RT := execL (C b) 0 code (k0 b) [(0, x0), (1, x1)] S
@[go_sem] theorem E_eq (b : Nat) (x0 x1 : PV) (S : Store) : E b x0 x1 S =
  execL (C b) 0 c1 (k24 b) [(0, x0), (1, x1)] S := nr ((enter_seq code_h (k24_l b)).trans (rfl))
theorem callR {x0 x1 : PV} {S : Store} {r : PV × Store} (h : E S.length x0 x1 S = some r) : callRL Try.prog hints 70 [x0, x1] S = some r := callRL_of (fn := Try.f70) (c := code) (by kernel_rfl) (by kernel_rfl) (by decide) (by kernel_rfl) (Nat.le_of_ble_eq_true (by kernel_rfl)) h
theorem call {x0 x1 : PV} {r : PV × Store} {v : PV} (h : E 0 x0 x1 [] = some r) (hv : fzPV r.2 r.1 = some v) : callL Try.prog hints 70 [x0, x1] = some v := callL_of (fn := Try.f70) (c := code) (by kernel_rfl) (by kernel_rfl) (by decide) (by kernel_rfl) (Nat.le_of_ble_eq_true (by kernel_rfl)) h hv
end F70
/-! ### isochroneref08.words -/
namespace F71
def hint : Hint := { keep := [0, 1, 4, 5, 10, 15, 20, 31, 40], loops := [(0, { live := [0, 1, 5], after := [], own := [], fz := [] })] }
noncomputable def C (b : Nat) : Ctx := ctxL Try.prog hints b hint
noncomputable def code : Code := Try.f71.body.get rfl
noncomputable def k0 (b : Nat) : KT := endC Try.prog Try.f71
def ee (x0 x1 x4 x5 x10 x15 x20 x31 x40 : PV) : Env := [(0, x0), (1, x1), (4, x4), (5, x5), (10, x10), (15, x15), (20, x20), (31, x31), (40, x40)]
@[go_sem] theorem gc_ee (n : Nat) (x0 x1 x4 x5 x10 x15 x20 x31 x40 : PV) (S : Store) : gc n (ee x0 x1 x4 x5 x10 x15 x20 x31 x40) S = gc n [(0, x0), (1, x1), (4, x4), (5, x5), (10, x10), (15, x15), (20, x20), (31, x31), (40, x40)] S := nr (rfl)
@[go_sem] theorem k0_ret (b : Nat) (x0 x1 x4 x5 x10 x15 x20 x31 x40 : PV) (S : Store) : k0 b .ret (ee x0 x1 x4 x5 x10 x15 x20 x31 x40) S = some (x4, S) := nr (by kernel_rfl)
@[go_sem] theorem k0_n (b : Nat) (x0 x1 x4 x5 x10 x15 x20 x31 x40 : PV) (S : Store) : k0 b .normal (ee x0 x1 x4 x5 x10 x15 x20 x31 x40) S = some (x4, S) := nr (by kernel_rfl)
noncomputable def c1 : Code := at0 code
noncomputable def c2 : Code := at1 code
theorem code_h : code = .seq c1 c2 := by kernel_rfl
noncomputable def c3 : Code := at0 c2
noncomputable def c4 : Code := at1 c2
theorem c2_h : c2 = .seq c3 c4 := by kernel_rfl
noncomputable def c5 : Code := at0 c4
noncomputable def c6 : Code := at1 c4
theorem c4_h : c4 = .seq c5 c6 := by kernel_rfl
noncomputable def c7 : Code := at0 c6
noncomputable def c8 : Code := at1 c6
theorem c6_h : c6 = .seq c7 c8 := by kernel_rfl
noncomputable def k9 (b : Nat) : KT := seqC (fun e S => execL (C b) 0 c8 (k0 b) e S) (k0 b)
@[go_sem] theorem k9_n (b : Nat) (x0 x1 x4 x5 x10 x15 x20 x31 x40 : PV) (S : Store) : k9 b .normal (ee x0 x1 x4 x5 x10 x15 x20 x31 x40) S =
  (k0 b) .ret (ee x0 x1 x4 x5 x10 x15 x20 x31 x40) S := nr ((show k9 b .normal (ee x0 x1 x4 x5 x10 x15 x20 x31 x40) S = execL (C b) 0 c8 (k0 b) (ee x0 x1 x4 x5 x10 x15 x20 x31 x40) S from seqC_n _ _ _ _).trans (execL_ret (by kernel_rfl)))
@[go_sem] theorem k9_ret (b : Nat) (e : Env) (S : Store) : k9 b .ret e S = (k0 b) .ret e S := nr (seqC_r _ _ _ _)
@[go_sem] theorem k9_exit (b : Nat) (i : Nat) (e : Env) (S : Store) : k9 b (.exit i) e S = (k0 b) (.exit i) e S := nr (seqC_x _ _ _ _ _)
theorem k9_l (b : Nat) : seqC (fun e S => execL (C b) 0 c8 (k0 b) e S) (k0 b) = k9 b := rfl
noncomputable def k10 (b : Nat) : KT := seqC (fun e S => execL (C b) 0 c7 (k9 b) e S) (k0 b)
@[go_sem] theorem g11 (b : Nat) (K : KT) (x0 x1 x4 x5 x10 x15 x20 x31 x40 : PV) (S : Store) : execL (C b) 0 c7 K (ee x0 x1 x4 x5 x10 x15 x20 x31 x40) S =
  withV (some (.int .i64 0)) fun x4 =>
    K .normal (ee x0 x1 x4 x5 x10 x15 x20 x31 x40) S := nr (by kernel_rfl)
@[go_sem] theorem k10_n (b : Nat) (e : Env) (S : Store) : k10 b .normal e S = execL (C b) 0 c7 (k9 b) e S := nr (seqC_n _ _ _ _)
@[go_sem] theorem k10_ret (b : Nat) (e : Env) (S : Store) : k10 b .ret e S = (k0 b) .ret e S := nr (seqC_r _ _ _ _)
@[go_sem] theorem k10_exit (b : Nat) (i : Nat) (e : Env) (S : Store) : k10 b (.exit i) e S = (k0 b) (.exit i) e S := nr (seqC_x _ _ _ _ _)
theorem k10_l (b : Nat) : seqC (fun e S => execL (C b) 0 c6 (k0 b) e S) (k0 b) = k10 b := link_seq c6_h (k9_l b)
noncomputable def k12 (b : Nat) : KT := seqC (fun e S => execL (C b) 0 c5 (k10 b) e S) (k0 b)
noncomputable def c13 : Code := at0 c5
noncomputable def c14 : Code := at1 c5
theorem c5_h : c5 = .seq c13 c14 := by kernel_rfl
noncomputable def k15 (b : Nat) : KT := seqC (fun e S => execL (C b) 0 c14 (k10 b) e S) (k10 b)
noncomputable def c16 : Code := atB c14
theorem c14_h : c14 = .block 0 c16 := by kernel_rfl
noncomputable def k17 (b : Nat) : KT := blockC 0 (k10 b)
@[go_sem] theorem k17_n (b : Nat) (e : Env) (S : Store) : k17 b .normal e S = (k10 b) .normal e S := nr (blockC_n _ _ _ _)
@[go_sem] theorem k17_ret (b : Nat) (e : Env) (S : Store) : k17 b .ret e S = (k10 b) .ret e S := nr (blockC_r _ _ _ _)
@[go_sem] theorem k17_exit (b : Nat) (i : Nat) (e : Env) (S : Store) : k17 b (.exit i) e S = if i = 0 then (k10 b) .normal e S else (k10 b) (.exit i) e S := nr (blockC_x _ _ _ _ _)
noncomputable def c18 : Code := atL c16
noncomputable def k19 (b n0 : Nat) : KT := afterC 0 n0 [] (k17 b)
noncomputable def L0g (b n0 : Nat) (e : Env) (S : Store) : RT := loopL (fun K e S => execL (C b) 0 c18 K e S) (normG [0, 1, 5] [] n0) (k19 b n0) e S
noncomputable def L0 (b n0 : Nat) (x0 x1 x4 x5 x10 x15 x20 x31 x40 : PV) (S : Store) : RT := L0g b n0 (ee x0 x1 x4 x5 x10 x15 x20 x31 x40) S
noncomputable def k20 (b n0 : Nat) : KT := stepC (normG [0, 1, 5] [] n0) (k19 b n0) (L0g b n0)
@[go_sem] theorem k20_n (b n0 : Nat) (x0 x1 x4 x5 x10 x15 x20 x31 x40 : PV) (S : Store) : k20 b n0 .normal (ee x0 x1 x4 x5 x10 x15 x20 x31 x40) S = L0 b n0 x0 x1 .undef x5 .undef .undef .undef .undef .undef (gc n0 (ee x0 x1 .undef x5 .undef .undef .undef .undef .undef) S) := nr (by kernel_rfl)
@[go_sem] theorem k20_ret (b n0 : Nat) (e : Env) (S : Store) : k20 b n0 .ret e S = (k17 b) .ret e S := nr ((show k20 b n0 .ret e S = (k19 b n0) .ret e S from stepC_r _ _ _ _ _).trans (afterC_r _ _ _ _ _ _))
@[go_sem] theorem k20_x (b n0 : Nat) (x0 x1 x4 x5 x10 x15 x20 x31 x40 : PV) (S : Store) : k20 b n0 (.exit 0) (ee x0 x1 x4 x5 x10 x15 x20 x31 x40) S = (k17 b) (.exit 0) (ee .undef .undef .undef .undef .undef .undef .undef .undef .undef) (gc n0 (ee .undef .undef .undef .undef .undef .undef .undef .undef .undef) S) := nr ((show k20 b n0 (.exit 0) (ee x0 x1 x4 x5 x10 x15 x20 x31 x40) S = (k19 b n0) (.exit 0) (ee x0 x1 x4 x5 x10 x15 x20 x31 x40) S from stepC_x _ _ _ _ _ _).trans ((show (k19 b n0) (.exit 0) (ee x0 x1 x4 x5 x10 x15 x20 x31 x40) S = _ from afterC_x _ _ _ _ _ _ _).trans (if_pos rfl)))
theorem k20_o (b n0 : Nat) (i : Nat) (e : Env) (S : Store) (h : i ≠ 0) : k20 b n0 (.exit i) e S = (k17 b) (.exit i) e S := (show k20 b n0 (.exit i) e S = (k19 b n0) (.exit i) e S from stepC_x _ _ _ _ _ _).trans ((show (k19 b n0) (.exit i) e S = _ from afterC_x _ _ _ _ _ _ _).trans (if_neg h))
noncomputable def c21 : Code := at0 c18
noncomputable def c22 : Code := at1 c18
theorem c18_h : c18 = .seq c21 c22 := by kernel_rfl
noncomputable def c23 : Code := at0 c22
noncomputable def c24 : Code := at1 c22
theorem c22_h : c22 = .seq c23 c24 := by kernel_rfl
noncomputable def k25 (b n0 : Nat) : KT := seqC (fun e S => execL (C b) 0 c24 (k20 b n0) e S) (k20 b n0)
@[go_sem] theorem g26 (b : Nat) (K : KT) (x0 x1 x4 x5 x10 x15 x20 x31 x40 : PV) (S : Store) : execL (C b) 0 c24 K (ee x0 x1 x4 x5 x10 x15 x20 x31 x40) S =
  withV (some x5) fun x21 =>
    withV (evBin .sub (tyi Try.prog 3) x21 (.int .i64 1)) fun x22 =>
    withV (some x22) fun x5 =>
    K .normal (ee x0 x1 x4 x5 x10 x15 x20 x31 x40) S := nr (by kernel_rfl)
@[go_sem] theorem k25_n (b n0 : Nat) (e : Env) (S : Store) : k25 b n0 .normal e S = execL (C b) 0 c24 (k20 b n0) e S := nr (seqC_n _ _ _ _)
@[go_sem] theorem k25_ret (b n0 : Nat) (e : Env) (S : Store) : k25 b n0 .ret e S = (k20 b n0) .ret e S := nr (seqC_r _ _ _ _)
@[go_sem] theorem k25_exit (b n0 : Nat) (i : Nat) (e : Env) (S : Store) : k25 b n0 (.exit i) e S = (k20 b n0) (.exit i) e S := nr (seqC_x _ _ _ _ _)
theorem k25_l (b n0 : Nat) : seqC (fun e S => execL (C b) 0 c24 (k20 b n0) e S) (k20 b n0) = k25 b n0 := rfl
noncomputable def k27 (b n0 : Nat) : KT := seqC (fun e S => execL (C b) 0 c23 (k25 b n0) e S) (k20 b n0)
noncomputable def c28 : Code := atB c23
theorem c23_h : c23 = .block 1 c28 := by kernel_rfl
noncomputable def k29 (b n0 : Nat) : KT := blockC 1 (k25 b n0)
@[go_sem] theorem k29_n (b n0 : Nat) (e : Env) (S : Store) : k29 b n0 .normal e S = (k25 b n0) .normal e S := nr (blockC_n _ _ _ _)
@[go_sem] theorem k29_ret (b n0 : Nat) (e : Env) (S : Store) : k29 b n0 .ret e S = (k25 b n0) .ret e S := nr (blockC_r _ _ _ _)
@[go_sem] theorem k29_exit (b n0 : Nat) (i : Nat) (e : Env) (S : Store) : k29 b n0 (.exit i) e S = if i = 1 then (k25 b n0) .normal e S else (k25 b n0) (.exit i) e S := nr (blockC_x _ _ _ _ _)
noncomputable def c30 : Code := at0 c28
noncomputable def c31 : Code := at1 c28
theorem c28_h : c28 = .seq c30 c31 := by kernel_rfl
noncomputable def k32 (b n0 : Nat) : KT := seqC (fun e S => execL (C b) 1 c31 (k29 b n0) e S) (k29 b n0)
noncomputable def c33 : Code := atT c31
noncomputable def c34 : Code := atF c31
theorem c31_h : c31 = .cond (.tmp 31) c33 c34 := by kernel_rfl
noncomputable def c36 : Code := at0 c33
noncomputable def c37 : Code := at1 c33
theorem c33_h : c33 = .seq c36 c37 := by kernel_rfl
noncomputable def c38 : Code := at0 c37
noncomputable def c39 : Code := at1 c37
theorem c37_h : c37 = .seq c38 c39 := by kernel_rfl
noncomputable def k40 (b n0 : Nat) : KT := seqC (fun e S => execL (C b) 1 c39 (k29 b n0) e S) (k29 b n0)
@[go_sem] theorem k40_n (b n0 : Nat) (x0 x1 x4 x5 x10 x15 x20 x31 x40 : PV) (S : Store) : k40 b n0 .normal (ee x0 x1 x4 x5 x10 x15 x20 x31 x40) S =
  (k29 b n0) .ret (ee x0 x1 x4 x5 x10 x15 x20 x31 x40) S := nr ((show k40 b n0 .normal (ee x0 x1 x4 x5 x10 x15 x20 x31 x40) S = execL (C b) 1 c39 (k29 b n0) (ee x0 x1 x4 x5 x10 x15 x20 x31 x40) S from seqC_n _ _ _ _).trans (execL_ret (by kernel_rfl)))
@[go_sem] theorem k40_ret (b n0 : Nat) (e : Env) (S : Store) : k40 b n0 .ret e S = (k29 b n0) .ret e S := nr (seqC_r _ _ _ _)
@[go_sem] theorem k40_exit (b n0 : Nat) (i : Nat) (e : Env) (S : Store) : k40 b n0 (.exit i) e S = (k29 b n0) (.exit i) e S := nr (seqC_x _ _ _ _ _)
theorem k40_l (b n0 : Nat) : seqC (fun e S => execL (C b) 1 c39 (k29 b n0) e S) (k29 b n0) = k40 b n0 := rfl
noncomputable def k41 (b n0 : Nat) : KT := seqC (fun e S => execL (C b) 1 c38 (k40 b n0) e S) (k29 b n0)
@[go_sem] theorem g42 (b : Nat) (K : KT) (x0 x1 x4 x5 x10 x15 x20 x31 x40 : PV) (S : Store) : execL (C b) 1 c38 K (ee x0 x1 x4 x5 x10 x15 x20 x31 x40) S =
  withV (some (.int .i64 1)) fun x4 =>
    K .normal (ee x0 x1 x4 x5 x10 x15 x20 x31 x40) S := nr (by kernel_rfl)
@[go_sem] theorem k41_n (b n0 : Nat) (e : Env) (S : Store) : k41 b n0 .normal e S = execL (C b) 1 c38 (k40 b n0) e S := nr (seqC_n _ _ _ _)
@[go_sem] theorem k41_ret (b n0 : Nat) (e : Env) (S : Store) : k41 b n0 .ret e S = (k29 b n0) .ret e S := nr (seqC_r _ _ _ _)
@[go_sem] theorem k41_exit (b n0 : Nat) (i : Nat) (e : Env) (S : Store) : k41 b n0 (.exit i) e S = (k29 b n0) (.exit i) e S := nr (seqC_x _ _ _ _ _)
theorem k41_l (b n0 : Nat) : seqC (fun e S => execL (C b) 1 c37 (k29 b n0) e S) (k29 b n0) = k41 b n0 := link_seq c37_h (k40_l b n0)
noncomputable def c43 : Code := at0 c36
noncomputable def c44 : Code := at1 c36
theorem c36_h : c36 = .seq c43 c44 := by kernel_rfl
noncomputable def k45 (b n0 : Nat) : KT := seqC (fun e S => execL (C b) 1 c44 (k41 b n0) e S) (k41 b n0)
noncomputable def c46 : Code := atT c44
noncomputable def c47 : Code := atF c44
theorem c44_h : c44 = .cond (.tmp 40) c46 c47 := by kernel_rfl
noncomputable def c49 : Code := at0 c46
noncomputable def c50 : Code := at1 c46
theorem c46_h : c46 = .seq c49 c50 := by kernel_rfl
noncomputable def k51 (b n0 : Nat) : KT := seqC (fun e S => execL (C b) 1 c50 (k41 b n0) e S) (k41 b n0)
@[go_sem] theorem k51_n (b n0 : Nat) (x0 x1 x4 x5 x10 x15 x20 x31 x40 : PV) (S : Store) : k51 b n0 .normal (ee x0 x1 x4 x5 x10 x15 x20 x31 x40) S =
  (k41 b n0) .ret (ee x0 x1 x4 x5 x10 x15 x20 x31 x40) S := nr ((show k51 b n0 .normal (ee x0 x1 x4 x5 x10 x15 x20 x31 x40) S = execL (C b) 1 c50 (k41 b n0) (ee x0 x1 x4 x5 x10 x15 x20 x31 x40) S from seqC_n _ _ _ _).trans (execL_ret (by kernel_rfl)))
@[go_sem] theorem k51_ret (b n0 : Nat) (e : Env) (S : Store) : k51 b n0 .ret e S = (k41 b n0) .ret e S := nr (seqC_r _ _ _ _)
@[go_sem] theorem k51_exit (b n0 : Nat) (i : Nat) (e : Env) (S : Store) : k51 b n0 (.exit i) e S = (k41 b n0) (.exit i) e S := nr (seqC_x _ _ _ _ _)
theorem k51_l (b n0 : Nat) : seqC (fun e S => execL (C b) 1 c50 (k41 b n0) e S) (k41 b n0) = k51 b n0 := rfl
@[go_sem] theorem g52 (b : Nat) (K : KT) (x0 x1 x4 x5 x10 x15 x20 x31 x40 : PV) (S : Store) : execL (C b) 1 c49 K (ee x0 x1 x4 x5 x10 x15 x20 x31 x40) S =
  withV (some (.int .i64 (-1))) fun x4 =>
    K .normal (ee x0 x1 x4 x5 x10 x15 x20 x31 x40) S := nr (by kernel_rfl)
noncomputable def E48 (b n0 : Nat) (x0 x1 x4 x5 x10 x15 x20 x31 x40 : PV) (S : Store) : RT := execL (C b) 1 c46 (k41 b n0) (ee x0 x1 x4 x5 x10 x15 x20 x31 x40) S
@[go_sem] theorem E48_eq (b n0 : Nat) (x0 x1 x4 x5 x10 x15 x20 x31 x40 : PV) (S : Store) : E48 b n0 x0 x1 x4 x5 x10 x15 x20 x31 x40 S =
  execL (C b) 1 c49 (k51 b n0) (ee x0 x1 x4 x5 x10 x15 x20 x31 x40) S := nr ((enter_seq c46_h (k51_l b n0)).trans (rfl))
@[go_sem] theorem k45_n (b n0 : Nat) (x0 x1 x4 x5 x10 x15 x20 x31 x40 : PV) (S : Store) : k45 b n0 .normal (ee x0 x1 x4 x5 x10 x15 x20 x31 x40) S =
  condC x40 (E48 b n0 x0 x1 x4 x5 x10 x15 x20 x31 x40 S)
    ((k41 b n0) .normal (ee x0 x1 x4 x5 x10 x15 x20 x31 x40) S) := nr ((show k45 b n0 .normal (ee x0 x1 x4 x5 x10 x15 x20 x31 x40) S = execL (C b) 1 c44 (k41 b n0) (ee x0 x1 x4 x5 x10 x15 x20 x31 x40) S from seqC_n _ _ _ _).trans (execL_cond c44_h (rfl) (execL_skip (by kernel_rfl)) rfl))
@[go_sem] theorem k45_ret (b n0 : Nat) (e : Env) (S : Store) : k45 b n0 .ret e S = (k41 b n0) .ret e S := nr (seqC_r _ _ _ _)
@[go_sem] theorem k45_exit (b n0 : Nat) (i : Nat) (e : Env) (S : Store) : k45 b n0 (.exit i) e S = (k41 b n0) (.exit i) e S := nr (seqC_x _ _ _ _ _)
theorem k45_l (b n0 : Nat) : seqC (fun e S => execL (C b) 1 c44 (k41 b n0) e S) (k41 b n0) = k45 b n0 := rfl
@[go_sem] theorem g53 (b : Nat) (K : KT) (x0 x1 x4 x5 x10 x15 x20 x31 x40 : PV) (S : Store) : execL (C b) 1 c43 K (ee x0 x1 x4 x5 x10 x15 x20 x31 x40) S =
  withV (some x0) fun x32 =>
    withV (some x5) fun x33 =>
    withV (indexAddrO Try.prog 49 S x32 x33) fun x34 =>
    withV (evLoad (tyi Try.prog 76) S x34) fun x35 =>
    withV (some x1) fun x36 =>
    withV (some x5) fun x37 =>
    withV (indexAddrO Try.prog 49 S x36 x37) fun x38 =>
    withV (evLoad (tyi Try.prog 76) S x38) fun x39 =>
    withV (evBin .lss (tyi Try.prog 76) x35 x39) fun x40 =>
    K .normal (ee x0 x1 x4 x5 x10 x15 x20 x31 x40) S := nr (by kernel_rfl)
noncomputable def E35 (b n0 : Nat) (x0 x1 x4 x5 x10 x15 x20 x31 x40 : PV) (S : Store) : RT := execL (C b) 1 c33 (k29 b n0) (ee x0 x1 x4 x5 x10 x15 x20 x31 x40) S
@[go_sem] theorem E35_eq (b n0 : Nat) (x0 x1 x4 x5 x10 x15 x20 x31 x40 : PV) (S : Store) : E35 b n0 x0 x1 x4 x5 x10 x15 x20 x31 x40 S =
  execL (C b) 1 c43 (k45 b n0) (ee x0 x1 x4 x5 x10 x15 x20 x31 x40) S := nr ((enter_seq c33_h (k41_l b n0)).trans ((enter_seq c36_h (k45_l b n0)).trans (rfl)))
@[go_sem] theorem k32_n (b n0 : Nat) (x0 x1 x4 x5 x10 x15 x20 x31 x40 : PV) (S : Store) : k32 b n0 .normal (ee x0 x1 x4 x5 x10 x15 x20 x31 x40) S =
  condC x31 (E35 b n0 x0 x1 x4 x5 x10 x15 x20 x31 x40 S)
    ((k29 b n0) .normal (ee x0 x1 x4 x5 x10 x15 x20 x31 x40) S) := nr ((show k32 b n0 .normal (ee x0 x1 x4 x5 x10 x15 x20 x31 x40) S = execL (C b) 1 c31 (k29 b n0) (ee x0 x1 x4 x5 x10 x15 x20 x31 x40) S from seqC_n _ _ _ _).trans (execL_cond c31_h (rfl) (execL_skip (by kernel_rfl)) rfl))
@[go_sem] theorem k32_ret (b n0 : Nat) (e : Env) (S : Store) : k32 b n0 .ret e S = (k29 b n0) .ret e S := nr (seqC_r _ _ _ _)
@[go_sem] theorem k32_exit (b n0 : Nat) (i : Nat) (e : Env) (S : Store) : k32 b n0 (.exit i) e S = (k29 b n0) (.exit i) e S := nr (seqC_x _ _ _ _ _)
theorem k32_l (b n0 : Nat) : seqC (fun e S => execL (C b) 1 c31 (k29 b n0) e S) (k29 b n0) = k32 b n0 := rfl
@[go_sem] theorem g54 (b : Nat) (K : KT) (x0 x1 x4 x5 x10 x15 x20 x31 x40 : PV) (S : Store) : execL (C b) 1 c30 K (ee x0 x1 x4 x5 x10 x15 x20 x31 x40) S =
  withV (some x0) fun x23 =>
    withV (some x5) fun x24 =>
    withV (indexAddrO Try.prog 49 S x23 x24) fun x25 =>
    withV (evLoad (tyi Try.prog 76) S x25) fun x26 =>
    withV (some x1) fun x27 =>
    withV (some x5) fun x28 =>
    withV (indexAddrO Try.prog 49 S x27 x28) fun x29 =>
    withV (evLoad (tyi Try.prog 76) S x29) fun x30 =>
    withV (evBin .neq (tyi Try.prog 76) x26 x30) fun x31 =>
    K .normal (ee x0 x1 x4 x5 x10 x15 x20 x31 x40) S := nr (by kernel_rfl)
@[go_sem] theorem k27_n (b n0 : Nat) (x0 x1 x4 x5 x10 x15 x20 x31 x40 : PV) (S : Store) : k27 b n0 .normal (ee x0 x1 x4 x5 x10 x15 x20 x31 x40) S =
  execL (C b) 1 c30 (k32 b n0) (ee x0 x1 x4 x5 x10 x15 x20 x31 x40) S := nr ((show k27 b n0 .normal (ee x0 x1 x4 x5 x10 x15 x20 x31 x40) S = execL (C b) 0 c23 (k25 b n0) (ee x0 x1 x4 x5 x10 x15 x20 x31 x40) S from seqC_n _ _ _ _).trans ((show execL (C b) 0 c23 (k25 b n0) (ee x0 x1 x4 x5 x10 x15 x20 x31 x40) S = execL (C b) 1 c28 (k29 b n0) (ee x0 x1 x4 x5 x10 x15 x20 x31 x40) S from execL_block c23_h).trans ((enter_seq c28_h (k32_l b n0)).trans (rfl))))
@[go_sem] theorem k27_ret (b n0 : Nat) (e : Env) (S : Store) : k27 b n0 .ret e S = (k20 b n0) .ret e S := nr (seqC_r _ _ _ _)
@[go_sem] theorem k27_exit (b n0 : Nat) (i : Nat) (e : Env) (S : Store) : k27 b n0 (.exit i) e S = (k20 b n0) (.exit i) e S := nr (seqC_x _ _ _ _ _)
theorem k27_l (b n0 : Nat) : seqC (fun e S => execL (C b) 0 c22 (k20 b n0) e S) (k20 b n0) = k27 b n0 := link_seq c22_h (k25_l b n0)
noncomputable def c55 : Code := at0 c21
noncomputable def c56 : Code := at1 c21
theorem c21_h : c21 = .seq c55 c56 := by kernel_rfl
noncomputable def k57 (b n0 : Nat) : KT := seqC (fun e S => execL (C b) 0 c56 (k27 b n0) e S) (k27 b n0)
noncomputable def c58 : Code := atT c56
noncomputable def c59 : Code := atF c56
theorem c56_h : c56 = .cond (.tmp 20) c58 c59 := by kernel_rfl
@[go_sem] theorem k57_n (b n0 : Nat) (x0 x1 x4 x5 x10 x15 x20 x31 x40 : PV) (S : Store) : k57 b n0 .normal (ee x0 x1 x4 x5 x10 x15 x20 x31 x40) S =
  condC x20 ((k27 b n0) .normal (ee x0 x1 x4 x5 x10 x15 x20 x31 x40) S)
    ((k27 b n0) (.exit 0) (ee x0 x1 x4 x5 x10 x15 x20 x31 x40) S) := nr ((show k57 b n0 .normal (ee x0 x1 x4 x5 x10 x15 x20 x31 x40) S = execL (C b) 0 c56 (k27 b n0) (ee x0 x1 x4 x5 x10 x15 x20 x31 x40) S from seqC_n _ _ _ _).trans (execL_cond c56_h (execL_skip (by kernel_rfl)) (execL_exit (by kernel_rfl)) rfl))
@[go_sem] theorem k57_ret (b n0 : Nat) (e : Env) (S : Store) : k57 b n0 .ret e S = (k27 b n0) .ret e S := nr (seqC_r _ _ _ _)
@[go_sem] theorem k57_exit (b n0 : Nat) (i : Nat) (e : Env) (S : Store) : k57 b n0 (.exit i) e S = (k27 b n0) (.exit i) e S := nr (seqC_x _ _ _ _ _)
theorem k57_l (b n0 : Nat) : seqC (fun e S => execL (C b) 0 c56 (k27 b n0) e S) (k27 b n0) = k57 b n0 := rfl
@[go_sem] theorem g60 (b : Nat) (K : KT) (x0 x1 x4 x5 x10 x15 x20 x31 x40 : PV) (S : Store) : execL (C b) 0 c55 K (ee x0 x1 x4 x5 x10 x15 x20 x31 x40) S =
  withV (some x5) fun x19 =>
    withV (evBin .geq (tyi Try.prog 3) x19 (.int .i64 0)) fun x20 =>
    K .normal (ee x0 x1 x4 x5 x10 x15 x20 x31 x40) S := nr (by kernel_rfl)
noncomputable def B0 (b n0 : Nat) (x0 x1 x4 x5 x10 x15 x20 x31 x40 : PV) (S : Store) : RT := execL (C b) 0 c18 (k20 b n0) (ee x0 x1 x4 x5 x10 x15 x20 x31 x40) S
@[go_sem] theorem B0_eq (b n0 : Nat) (x0 x1 x4 x5 x10 x15 x20 x31 x40 : PV) (S : Store) : B0 b n0 x0 x1 x4 x5 x10 x15 x20 x31 x40 S =
  execL (C b) 0 c55 (k57 b n0) (ee x0 x1 x4 x5 x10 x15 x20 x31 x40) S := nr ((enter_seq c18_h (k27_l b n0)).trans ((enter_seq c21_h (k57_l b n0)).trans (rfl)))
theorem L0_step {b n0 : Nat} {x0 x1 x4 x5 x10 x15 x20 x31 x40 : PV} {S : Store} {z : PV × Store} (h : B0 b n0 x0 x1 x4 x5 x10 x15 x20 x31 x40 S = some z) : L0 b n0 x0 x1 x4 x5 x10 x15 x20 x31 x40 S = some z := loopL_step h
theorem L0_in (b : Nat) (x0 x1 x4 x5 x10 x15 x20 x31 x40 : PV) (S : Store) : execL (C b) 0 c16 (k17 b) (ee x0 x1 x4 x5 x10 x15 x20 x31 x40) S = L0 b (List.length S) x0 x1 .undef x5 .undef .undef .undef .undef .undef S := by kernel_rfl
@[go_sem] theorem k15_n (b : Nat) (x0 x1 x4 x5 x10 x15 x20 x31 x40 : PV) (S : Store) : k15 b .normal (ee x0 x1 x4 x5 x10 x15 x20 x31 x40) S =
  L0 b (List.length S) x0 x1 .undef x5 .undef .undef .undef .undef .undef S := nr ((show k15 b .normal (ee x0 x1 x4 x5 x10 x15 x20 x31 x40) S = execL (C b) 0 c14 (k10 b) (ee x0 x1 x4 x5 x10 x15 x20 x31 x40) S from seqC_n _ _ _ _).trans ((show execL (C b) 0 c14 (k10 b) (ee x0 x1 x4 x5 x10 x15 x20 x31 x40) S = execL (C b) 0 c16 (k17 b) (ee x0 x1 x4 x5 x10 x15 x20 x31 x40) S from execL_block c14_h).trans (L0_in b x0 x1 x4 x5 x10 x15 x20 x31 x40 S)))
@[go_sem] theorem k15_ret (b : Nat) (e : Env) (S : Store) : k15 b .ret e S = (k10 b) .ret e S := nr (seqC_r _ _ _ _)
@[go_sem] theorem k15_exit (b : Nat) (i : Nat) (e : Env) (S : Store) : k15 b (.exit i) e S = (k10 b) (.exit i) e S := nr (seqC_x _ _ _ _ _)
theorem k15_l (b : Nat) : seqC (fun e S => execL (C b) 0 c14 (k10 b) e S) (k10 b) = k15 b := rfl
@[go_sem] theorem g62 (b : Nat) (K : KT) (x0 x1 x4 x5 x10 x15 x20 x31 x40 : PV) (S : Store) : execL (C b) 0 c13 K (ee x0 x1 x4 x5 x10 x15 x20 x31 x40) S =
  withV (some x0) fun x16 =>
    withV (lenO (tyi Try.prog 49) x16) fun x17 =>
    withV (evBin .sub (tyi Try.prog 3) x17 (.int .i64 1)) fun x18 =>
    withV (some x18) fun x5 =>
    K .normal (ee x0 x1 x4 x5 x10 x15 x20 x31 x40) S := nr (by kernel_rfl)
@[go_sem] theorem k12_n (b : Nat) (x0 x1 x4 x5 x10 x15 x20 x31 x40 : PV) (S : Store) : k12 b .normal (ee x0 x1 x4 x5 x10 x15 x20 x31 x40) S =
  execL (C b) 0 c13 (k15 b) (ee x0 x1 x4 x5 x10 x15 x20 x31 x40) S := nr ((show k12 b .normal (ee x0 x1 x4 x5 x10 x15 x20 x31 x40) S = execL (C b) 0 c5 (k10 b) (ee x0 x1 x4 x5 x10 x15 x20 x31 x40) S from seqC_n _ _ _ _).trans ((enter_seq c5_h (k15_l b)).trans (rfl)))
@[go_sem] theorem k12_ret (b : Nat) (e : Env) (S : Store) : k12 b .ret e S = (k0 b) .ret e S := nr (seqC_r _ _ _ _)
@[go_sem] theorem k12_exit (b : Nat) (i : Nat) (e : Env) (S : Store) : k12 b (.exit i) e S = (k0 b) (.exit i) e S := nr (seqC_x _ _ _ _ _)
theorem k12_l (b : Nat) : seqC (fun e S => execL (C b) 0 c4 (k0 b) e S) (k0 b) = k12 b := link_seq c4_h (k10_l b)
noncomputable def k63 (b : Nat) : KT := seqC (fun e S => execL (C b) 0 c3 (k12 b) e S) (k0 b)
noncomputable def c64 : Code := at0 c3
noncomputable def c65 : Code := at1 c3
theorem c3_h : c3 = .seq c64 c65 := by kernel_rfl
noncomputable def k66 (b : Nat) : KT := seqC (fun e S => execL (C b) 0 c65 (k12 b) e S) (k12 b)
noncomputable def c67 : Code := atT c65
noncomputable def c68 : Code := atF c65
theorem c65_h : c65 = .cond (.tmp 10) c67 c68 := by kernel_rfl
noncomputable def c70 : Code := at0 c67
noncomputable def c71 : Code := at1 c67
theorem c67_h : c67 = .seq c70 c71 := by kernel_rfl
noncomputable def c72 : Code := at0 c71
noncomputable def c73 : Code := at1 c71
theorem c71_h : c71 = .seq c72 c73 := by kernel_rfl
noncomputable def k74 (b : Nat) : KT := seqC (fun e S => execL (C b) 0 c73 (k12 b) e S) (k12 b)
@[go_sem] theorem k74_n (b : Nat) (x0 x1 x4 x5 x10 x15 x20 x31 x40 : PV) (S : Store) : k74 b .normal (ee x0 x1 x4 x5 x10 x15 x20 x31 x40) S =
  (k12 b) .ret (ee x0 x1 x4 x5 x10 x15 x20 x31 x40) S := nr ((show k74 b .normal (ee x0 x1 x4 x5 x10 x15 x20 x31 x40) S = execL (C b) 0 c73 (k12 b) (ee x0 x1 x4 x5 x10 x15 x20 x31 x40) S from seqC_n _ _ _ _).trans (execL_ret (by kernel_rfl)))
@[go_sem] theorem k74_ret (b : Nat) (e : Env) (S : Store) : k74 b .ret e S = (k12 b) .ret e S := nr (seqC_r _ _ _ _)
@[go_sem] theorem k74_exit (b : Nat) (i : Nat) (e : Env) (S : Store) : k74 b (.exit i) e S = (k12 b) (.exit i) e S := nr (seqC_x _ _ _ _ _)
theorem k74_l (b : Nat) : seqC (fun e S => execL (C b) 0 c73 (k12 b) e S) (k12 b) = k74 b := rfl
noncomputable def k75 (b : Nat) : KT := seqC (fun e S => execL (C b) 0 c72 (k74 b) e S) (k12 b)
@[go_sem] theorem g76 (b : Nat) (K : KT) (x0 x1 x4 x5 x10 x15 x20 x31 x40 : PV) (S : Store) : execL (C b) 0 c72 K (ee x0 x1 x4 x5 x10 x15 x20 x31 x40) S =
  withV (some (.int .i64 1)) fun x4 =>
    K .normal (ee x0 x1 x4 x5 x10 x15 x20 x31 x40) S := nr (by kernel_rfl)
@[go_sem] theorem k75_n (b : Nat) (e : Env) (S : Store) : k75 b .normal e S = execL (C b) 0 c72 (k74 b) e S := nr (seqC_n _ _ _ _)
@[go_sem] theorem k75_ret (b : Nat) (e : Env) (S : Store) : k75 b .ret e S = (k12 b) .ret e S := nr (seqC_r _ _ _ _)
@[go_sem] theorem k75_exit (b : Nat) (i : Nat) (e : Env) (S : Store) : k75 b (.exit i) e S = (k12 b) (.exit i) e S := nr (seqC_x _ _ _ _ _)
theorem k75_l (b : Nat) : seqC (fun e S => execL (C b) 0 c71 (k12 b) e S) (k12 b) = k75 b := link_seq c71_h (k74_l b)
noncomputable def c77 : Code := at0 c70
noncomputable def c78 : Code := at1 c70
theorem c70_h : c70 = .seq c77 c78 := by kernel_rfl
noncomputable def k79 (b : Nat) : KT := seqC (fun e S => execL (C b) 0 c78 (k75 b) e S) (k75 b)
noncomputable def c80 : Code := atT c78
noncomputable def c81 : Code := atF c78
theorem c78_h : c78 = .cond (.tmp 15) c80 c81 := by kernel_rfl
noncomputable def c83 : Code := at0 c80
noncomputable def c84 : Code := at1 c80
theorem c80_h : c80 = .seq c83 c84 := by kernel_rfl
noncomputable def k85 (b : Nat) : KT := seqC (fun e S => execL (C b) 0 c84 (k75 b) e S) (k75 b)
@[go_sem] theorem k85_n (b : Nat) (x0 x1 x4 x5 x10 x15 x20 x31 x40 : PV) (S : Store) : k85 b .normal (ee x0 x1 x4 x5 x10 x15 x20 x31 x40) S =
  (k75 b) .ret (ee x0 x1 x4 x5 x10 x15 x20 x31 x40) S := nr ((show k85 b .normal (ee x0 x1 x4 x5 x10 x15 x20 x31 x40) S = execL (C b) 0 c84 (k75 b) (ee x0 x1 x4 x5 x10 x15 x20 x31 x40) S from seqC_n _ _ _ _).trans (execL_ret (by kernel_rfl)))
@[go_sem] theorem k85_ret (b : Nat) (e : Env) (S : Store) : k85 b .ret e S = (k75 b) .ret e S := nr (seqC_r _ _ _ _)
@[go_sem] theorem k85_exit (b : Nat) (i : Nat) (e : Env) (S : Store) : k85 b (.exit i) e S = (k75 b) (.exit i) e S := nr (seqC_x _ _ _ _ _)
theorem k85_l (b : Nat) : seqC (fun e S => execL (C b) 0 c84 (k75 b) e S) (k75 b) = k85 b := rfl
@[go_sem] theorem g86 (b : Nat) (K : KT) (x0 x1 x4 x5 x10 x15 x20 x31 x40 : PV) (S : Store) : execL (C b) 0 c83 K (ee x0 x1 x4 x5 x10 x15 x20 x31 x40) S =
  withV (some (.int .i64 (-1))) fun x4 =>
    K .normal (ee x0 x1 x4 x5 x10 x15 x20 x31 x40) S := nr (by kernel_rfl)
noncomputable def E82 (b : Nat) (x0 x1 x4 x5 x10 x15 x20 x31 x40 : PV) (S : Store) : RT := execL (C b) 0 c80 (k75 b) (ee x0 x1 x4 x5 x10 x15 x20 x31 x40) S
@[go_sem] theorem E82_eq (b : Nat) (x0 x1 x4 x5 x10 x15 x20 x31 x40 : PV) (S : Store) : E82 b x0 x1 x4 x5 x10 x15 x20 x31 x40 S =
  execL (C b) 0 c83 (k85 b) (ee x0 x1 x4 x5 x10 x15 x20 x31 x40) S := nr ((enter_seq c80_h (k85_l b)).trans (rfl))
@[go_sem] theorem k79_n (b : Nat) (x0 x1 x4 x5 x10 x15 x20 x31 x40 : PV) (S : Store) : k79 b .normal (ee x0 x1 x4 x5 x10 x15 x20 x31 x40) S =
  condC x15 (E82 b x0 x1 x4 x5 x10 x15 x20 x31 x40 S)
    ((k75 b) .normal (ee x0 x1 x4 x5 x10 x15 x20 x31 x40) S) := nr ((show k79 b .normal (ee x0 x1 x4 x5 x10 x15 x20 x31 x40) S = execL (C b) 0 c78 (k75 b) (ee x0 x1 x4 x5 x10 x15 x20 x31 x40) S from seqC_n _ _ _ _).trans (execL_cond c78_h (rfl) (execL_skip (by kernel_rfl)) rfl))
@[go_sem] theorem k79_ret (b : Nat) (e : Env) (S : Store) : k79 b .ret e S = (k75 b) .ret e S := nr (seqC_r _ _ _ _)
@[go_sem] theorem k79_exit (b : Nat) (i : Nat) (e : Env) (S : Store) : k79 b (.exit i) e S = (k75 b) (.exit i) e S := nr (seqC_x _ _ _ _ _)
theorem k79_l (b : Nat) : seqC (fun e S => execL (C b) 0 c78 (k75 b) e S) (k75 b) = k79 b := rfl
@[go_sem] theorem g87 (b : Nat) (K : KT) (x0 x1 x4 x5 x10 x15 x20 x31 x40 : PV) (S : Store) : execL (C b) 0 c77 K (ee x0 x1 x4 x5 x10 x15 x20 x31 x40) S =
  withV (some x0) fun x11 =>
    withV (lenO (tyi Try.prog 49) x11) fun x12 =>
    withV (some x1) fun x13 =>
    withV (lenO (tyi Try.prog 49) x13) fun x14 =>
    withV (evBin .lss (tyi Try.prog 3) x12 x14) fun x15 =>
    K .normal (ee x0 x1 x4 x5 x10 x15 x20 x31 x40) S := nr (by kernel_rfl)
noncomputable def E69 (b : Nat) (x0 x1 x4 x5 x10 x15 x20 x31 x40 : PV) (S : Store) : RT := execL (C b) 0 c67 (k12 b) (ee x0 x1 x4 x5 x10 x15 x20 x31 x40) S
@[go_sem] theorem E69_eq (b : Nat) (x0 x1 x4 x5 x10 x15 x20 x31 x40 : PV) (S : Store) : E69 b x0 x1 x4 x5 x10 x15 x20 x31 x40 S =
  execL (C b) 0 c77 (k79 b) (ee x0 x1 x4 x5 x10 x15 x20 x31 x40) S := nr ((enter_seq c67_h (k75_l b)).trans ((enter_seq c70_h (k79_l b)).trans (rfl)))
@[go_sem] theorem k66_n (b : Nat) (x0 x1 x4 x5 x10 x15 x20 x31 x40 : PV) (S : Store) : k66 b .normal (ee x0 x1 x4 x5 x10 x15 x20 x31 x40) S =
  condC x10 (E69 b x0 x1 x4 x5 x10 x15 x20 x31 x40 S)
    ((k12 b) .normal (ee x0 x1 x4 x5 x10 x15 x20 x31 x40) S) := nr ((show k66 b .normal (ee x0 x1 x4 x5 x10 x15 x20 x31 x40) S = execL (C b) 0 c65 (k12 b) (ee x0 x1 x4 x5 x10 x15 x20 x31 x40) S from seqC_n _ _ _ _).trans (execL_cond c65_h (rfl) (execL_skip (by kernel_rfl)) rfl))
@[go_sem] theorem k66_ret (b : Nat) (e : Env) (S : Store) : k66 b .ret e S = (k12 b) .ret e S := nr (seqC_r _ _ _ _)
@[go_sem] theorem k66_exit (b : Nat) (i : Nat) (e : Env) (S : Store) : k66 b (.exit i) e S = (k12 b) (.exit i) e S := nr (seqC_x _ _ _ _ _)
theorem k66_l (b : Nat) : seqC (fun e S => execL (C b) 0 c65 (k12 b) e S) (k12 b) = k66 b := rfl
@[go_sem] theorem g88 (b : Nat) (K : KT) (x0 x1 x4 x5 x10 x15 x20 x31 x40 : PV) (S : Store) : execL (C b) 0 c64 K (ee x0 x1 x4 x5 x10 x15 x20 x31 x40) S =
  withV (some x0) fun x6 =>
    withV (lenO (tyi Try.prog 49) x6) fun x7 =>
    withV (some x1) fun x8 =>
    withV (lenO (tyi Try.prog 49) x8) fun x9 =>
    withV (evBin .neq (tyi Try.prog 3) x7 x9) fun x10 =>
    K .normal (ee x0 x1 x4 x5 x10 x15 x20 x31 x40) S := nr (by kernel_rfl)
@[go_sem] theorem k63_n (b : Nat) (x0 x1 x4 x5 x10 x15 x20 x31 x40 : PV) (S : Store) : k63 b .normal (ee x0 x1 x4 x5 x10 x15 x20 x31 x40) S =
  execL (C b) 0 c64 (k66 b) (ee x0 x1 x4 x5 x10 x15 x20 x31 x40) S := nr ((show k63 b .normal (ee x0 x1 x4 x5 x10 x15 x20 x31 x40) S = execL (C b) 0 c3 (k12 b) (ee x0 x1 x4 x5 x10 x15 x20 x31 x40) S from seqC_n _ _ _ _).trans ((enter_seq c3_h (k66_l b)).trans (rfl)))
@[go_sem] theorem k63_ret (b : Nat) (e : Env) (S : Store) : k63 b .ret e S = (k0 b) .ret e S := nr (seqC_r _ _ _ _)
@[go_sem] theorem k63_exit (b : Nat) (i : Nat) (e : Env) (S : Store) : k63 b (.exit i) e S = (k0 b) (.exit i) e S := nr (seqC_x _ _ _ _ _)
theorem k63_l (b : Nat) : seqC (fun e S => execL (C b) 0 c2 (k0 b) e S) (k0 b) = k63 b := link_seq c2_h (k12_l b)
@[go_sem] theorem g89 (b : Nat) (K : KT) (x0 x1 : PV) (S : Store) : execL (C b) 0 c1 K [(0, x0), (1, x1)] S =
  withV (some (.int .i64 0)) fun x4 =>
    K .normal (ee x0 x1 x4 .undef .undef .undef .undef .undef .undef) S := nr (by kernel_rfl)
noncomputable def E (b : Nat) (x0 x1 : PV) (S : Store) : RT := execL (C b) 0 code (k0 b) [(0, x0), (1, x1)] S
@[go_sem] theorem E_eq (b : Nat) (x0 x1 : PV) (S : Store) : E b x0 x1 S =
  execL (C b) 0 c1 (k63 b) [(0, x0), (1, x1)] S := nr ((enter_seq code_h (k63_l b)).trans (rfl))
theorem callR {x0 x1 : PV} {S : Store} {r : PV × Store} (h : E S.length x0 x1 S = some r) : callRL Try.prog hints 71 [x0, x1] S = some r := callRL_of (fn := Try.f71) (c := code) (by kernel_rfl) (by kernel_rfl) (by decide) (by kernel_rfl) (Nat.le_of_ble_eq_true (by kernel_rfl)) h
theorem call {x0 x1 : PV} {r : PV × Store} {v : PV} (h : E 0 x0 x1 [] = some r) (hv : fzPV r.2 r.1 = some v) : callL Try.prog hints 71 [x0, x1] = some v := callL_of (fn := Try.f71) (c := code) (by kernel_rfl) (by kernel_rfl) (by decide) (by kernel_rfl) (Nat.le_of_ble_eq_true (by kernel_rfl)) h hv
end F71
/-! ### isochroneref08.Size -/
namespace F35
def hint : Hint := { keep := [1, 2, 3, 4, 9], loops := [(0, { live := [1, 3, 4], after := [3], own := [], fz := [] })] }
noncomputable def C (b : Nat) : Ctx := ctxL Try.prog hints b hint
noncomputable def code : Code := Try.f35.body.get rfl
noncomputable def k0 (b : Nat) : KT := endC Try.prog Try.f35
def ee (x1 x2 x3 x4 x9 : PV) : Env := [(1, x1), (2, x2), (3, x3), (4, x4), (9, x9)]
@[go_sem] theorem gc_ee (n : Nat) (x1 x2 x3 x4 x9 : PV) (S : Store) : gc n (ee x1 x2 x3 x4 x9) S = gc n [(1, x1), (2, x2), (3, x3), (4, x4), (9, x9)] S := nr (rfl)
@[go_sem] theorem k0_ret (b : Nat) (x1 x2 x3 x4 x9 : PV) (S : Store) : k0 b .ret (ee x1 x2 x3 x4 x9) S = some (x2, S) := nr (by kernel_rfl)
@[go_sem] theorem k0_n (b : Nat) (x1 x2 x3 x4 x9 : PV) (S : Store) : k0 b .normal (ee x1 x2 x3 x4 x9) S = some (x2, S) := nr (by kernel_rfl)
noncomputable def c1 : Code := at0 code
noncomputable def c2 : Code := at1 code
theorem code_h : code = .seq c1 c2 := by kernel_rfl
noncomputable def c3 : Code := at0 c2
noncomputable def c4 : Code := at1 c2
theorem c2_h : c2 = .seq c3 c4 := by kernel_rfl
noncomputable def c5 : Code := at0 c4
noncomputable def c6 : Code := at1 c4
theorem c4_h : c4 = .seq c5 c6 := by kernel_rfl
noncomputable def c7 : Code := at0 c6
noncomputable def c8 : Code := at1 c6
theorem c6_h : c6 = .seq c7 c8 := by kernel_rfl
noncomputable def k9 (b : Nat) : KT := seqC (fun e S => execL (C b) 0 c8 (k0 b) e S) (k0 b)
@[go_sem] theorem k9_n (b : Nat) (x1 x2 x3 x4 x9 : PV) (S : Store) : k9 b .normal (ee x1 x2 x3 x4 x9) S =
  (k0 b) .ret (ee x1 x2 x3 x4 x9) S := nr ((show k9 b .normal (ee x1 x2 x3 x4 x9) S = execL (C b) 0 c8 (k0 b) (ee x1 x2 x3 x4 x9) S from seqC_n _ _ _ _).trans (execL_ret (by kernel_rfl)))
@[go_sem] theorem k9_ret (b : Nat) (e : Env) (S : Store) : k9 b .ret e S = (k0 b) .ret e S := nr (seqC_r _ _ _ _)
@[go_sem] theorem k9_exit (b : Nat) (i : Nat) (e : Env) (S : Store) : k9 b (.exit i) e S = (k0 b) (.exit i) e S := nr (seqC_x _ _ _ _ _)
theorem k9_l (b : Nat) : seqC (fun e S => execL (C b) 0 c8 (k0 b) e S) (k0 b) = k9 b := rfl
noncomputable def k10 (b : Nat) : KT := seqC (fun e S => execL (C b) 0 c7 (k9 b) e S) (k0 b)
@[go_sem] theorem g11 (b : Nat) (K : KT) (x1 x2 x3 x4 x9 : PV) (S : Store) : execL (C b) 0 c7 K (ee x1 x2 x3 x4 x9) S =
  withV (some x3) fun x20 =>
    withV (some x20) fun x2 =>
    K .normal (ee x1 x2 x3 x4 x9) S := nr (by kernel_rfl)
@[go_sem] theorem k10_n (b : Nat) (e : Env) (S : Store) : k10 b .normal e S = execL (C b) 0 c7 (k9 b) e S := nr (seqC_n _ _ _ _)
@[go_sem] theorem k10_ret (b : Nat) (e : Env) (S : Store) : k10 b .ret e S = (k0 b) .ret e S := nr (seqC_r _ _ _ _)
@[go_sem] theorem k10_exit (b : Nat) (i : Nat) (e : Env) (S : Store) : k10 b (.exit i) e S = (k0 b) (.exit i) e S := nr (seqC_x _ _ _ _ _)
theorem k10_l (b : Nat) : seqC (fun e S => execL (C b) 0 c6 (k0 b) e S) (k0 b) = k10 b := link_seq c6_h (k9_l b)
noncomputable def k12 (b : Nat) : KT := seqC (fun e S => execL (C b) 0 c5 (k10 b) e S) (k0 b)
noncomputable def c13 : Code := at0 c5
noncomputable def c14 : Code := at1 c5
theorem c5_h : c5 = .seq c13 c14 := by kernel_rfl
noncomputable def k15 (b : Nat) : KT := seqC (fun e S => execL (C b) 0 c14 (k10 b) e S) (k10 b)
noncomputable def c16 : Code := atB c14
theorem c14_h : c14 = .block 0 c16 := by kernel_rfl
noncomputable def k17 (b : Nat) : KT := blockC 0 (k10 b)
@[go_sem] theorem k17_n (b : Nat) (e : Env) (S : Store) : k17 b .normal e S = (k10 b) .normal e S := nr (blockC_n _ _ _ _)
@[go_sem] theorem k17_ret (b : Nat) (e : Env) (S : Store) : k17 b .ret e S = (k10 b) .ret e S := nr (blockC_r _ _ _ _)
@[go_sem] theorem k17_exit (b : Nat) (i : Nat) (e : Env) (S : Store) : k17 b (.exit i) e S = if i = 0 then (k10 b) .normal e S else (k10 b) (.exit i) e S := nr (blockC_x _ _ _ _ _)
noncomputable def c18 : Code := atL c16
noncomputable def k19 (b n0 : Nat) : KT := afterC 0 n0 [3] (k17 b)
noncomputable def L0g (b n0 : Nat) (e : Env) (S : Store) : RT := loopL (fun K e S => execL (C b) 0 c18 K e S) (normG [1, 3, 4] [] n0) (k19 b n0) e S
noncomputable def L0 (b n0 : Nat) (x1 x2 x3 x4 x9 : PV) (S : Store) : RT := L0g b n0 (ee x1 x2 x3 x4 x9) S
noncomputable def k20 (b n0 : Nat) : KT := stepC (normG [1, 3, 4] [] n0) (k19 b n0) (L0g b n0)
@[go_sem] theorem k20_n (b n0 : Nat) (x1 x2 x3 x4 x9 : PV) (S : Store) : k20 b n0 .normal (ee x1 x2 x3 x4 x9) S = L0 b n0 x1 .undef x3 x4 .undef (gc n0 (ee x1 .undef x3 x4 .undef) S) := nr (by kernel_rfl)
@[go_sem] theorem k20_ret (b n0 : Nat) (e : Env) (S : Store) : k20 b n0 .ret e S = (k17 b) .ret e S := nr ((show k20 b n0 .ret e S = (k19 b n0) .ret e S from stepC_r _ _ _ _ _).trans (afterC_r _ _ _ _ _ _))
@[go_sem] theorem k20_x (b n0 : Nat) (x1 x2 x3 x4 x9 : PV) (S : Store) : k20 b n0 (.exit 0) (ee x1 x2 x3 x4 x9) S = (k17 b) (.exit 0) (ee .undef .undef x3 .undef .undef) (gc n0 (ee .undef .undef x3 .undef .undef) S) := nr ((show k20 b n0 (.exit 0) (ee x1 x2 x3 x4 x9) S = (k19 b n0) (.exit 0) (ee x1 x2 x3 x4 x9) S from stepC_x _ _ _ _ _ _).trans ((show (k19 b n0) (.exit 0) (ee x1 x2 x3 x4 x9) S = _ from afterC_x _ _ _ _ _ _ _).trans (if_pos rfl)))
theorem k20_o (b n0 : Nat) (i : Nat) (e : Env) (S : Store) (h : i ≠ 0) : k20 b n0 (.exit i) e S = (k17 b) (.exit i) e S := (show k20 b n0 (.exit i) e S = (k19 b n0) (.exit i) e S from stepC_x _ _ _ _ _ _).trans ((show (k19 b n0) (.exit i) e S = _ from afterC_x _ _ _ _ _ _ _).trans (if_neg h))
noncomputable def c21 : Code := at0 c18
noncomputable def c22 : Code := at1 c18
theorem c18_h : c18 = .seq c21 c22 := by kernel_rfl
noncomputable def c23 : Code := at0 c22
noncomputable def c24 : Code := at1 c22
theorem c22_h : c22 = .seq c23 c24 := by kernel_rfl
noncomputable def k25 (b n0 : Nat) : KT := seqC (fun e S => execL (C b) 0 c24 (k20 b n0) e S) (k20 b n0)
@[go_sem] theorem g26 (b : Nat) (K : KT) (x1 x2 x3 x4 x9 : PV) (S : Store) : execL (C b) 0 c24 K (ee x1 x2 x3 x4 x9) S =
  withV (some x4) fun x10 =>
    withV (evBin .add (tyi Try.prog 3) x10 (.int .i64 1)) fun x11 =>
    withV (some x11) fun x4 =>
    K .normal (ee x1 x2 x3 x4 x9) S := nr (by kernel_rfl)
@[go_sem] theorem k25_n (b n0 : Nat) (e : Env) (S : Store) : k25 b n0 .normal e S = execL (C b) 0 c24 (k20 b n0) e S := nr (seqC_n _ _ _ _)
@[go_sem] theorem k25_ret (b n0 : Nat) (e : Env) (S : Store) : k25 b n0 .ret e S = (k20 b n0) .ret e S := nr (seqC_r _ _ _ _)
@[go_sem] theorem k25_exit (b n0 : Nat) (i : Nat) (e : Env) (S : Store) : k25 b n0 (.exit i) e S = (k20 b n0) (.exit i) e S := nr (seqC_x _ _ _ _ _)
theorem k25_l (b n0 : Nat) : seqC (fun e S => execL (C b) 0 c24 (k20 b n0) e S) (k20 b n0) = k25 b n0 := rfl
noncomputable def k27 (b n0 : Nat) : KT := seqC (fun e S => execL (C b) 0 c23 (k25 b n0) e S) (k20 b n0)
noncomputable def c28 : Code := atB c23
theorem c23_h : c23 = .block 1 c28 := by kernel_rfl
noncomputable def k29 (b n0 : Nat) : KT := blockC 1 (k25 b n0)
@[go_sem] theorem k29_n (b n0 : Nat) (e : Env) (S : Store) : k29 b n0 .normal e S = (k25 b n0) .normal e S := nr (blockC_n _ _ _ _)
@[go_sem] theorem k29_ret (b n0 : Nat) (e : Env) (S : Store) : k29 b n0 .ret e S = (k25 b n0) .ret e S := nr (blockC_r _ _ _ _)
@[go_sem] theorem k29_exit (b n0 : Nat) (i : Nat) (e : Env) (S : Store) : k29 b n0 (.exit i) e S = if i = 1 then (k25 b n0) .normal e S else (k25 b n0) (.exit i) e S := nr (blockC_x _ _ _ _ _)
@[go_sem] theorem g30 (b : Nat) (K : KT) (x1 x2 x3 x4 x9 : PV) (S : Store) : execL (C b) 1 c28 K (ee x1 x2 x3 x4 x9) S =
  withV (some x3) fun x12 =>
    withV (evFieldAddr (tyi Try.prog 54) 3 x1) fun x13 =>
    withV (evLoad (tyi Try.prog 52) S x13) fun x14 =>
    withV (some x4) fun x15 =>
    withV (indexAddrO Try.prog 52 S x14 x15) fun x16 =>
    withV (evLoad (tyi Try.prog 54) S x16) fun x17 =>
    withN (callO (callL Try.prog hints) S 35 [x17]) S fun x18 S =>
    withV (evBin .add (tyi Try.prog 3) x12 x18) fun x19 =>
    withV (some x19) fun x3 =>
    K .normal (ee x1 x2 x3 x4 x9) S := nr (by kernel_rfl)
@[go_sem] theorem k27_n (b n0 : Nat) (x1 x2 x3 x4 x9 : PV) (S : Store) : k27 b n0 .normal (ee x1 x2 x3 x4 x9) S =
  execL (C b) 1 c28 (k29 b n0) (ee x1 x2 x3 x4 x9) S := nr ((show k27 b n0 .normal (ee x1 x2 x3 x4 x9) S = execL (C b) 0 c23 (k25 b n0) (ee x1 x2 x3 x4 x9) S from seqC_n _ _ _ _).trans ((show execL (C b) 0 c23 (k25 b n0) (ee x1 x2 x3 x4 x9) S = execL (C b) 1 c28 (k29 b n0) (ee x1 x2 x3 x4 x9) S from execL_block c23_h).trans (rfl)))
@[go_sem] theorem k27_ret (b n0 : Nat) (e : Env) (S : Store) : k27 b n0 .ret e S = (k20 b n0) .ret e S := nr (seqC_r _ _ _ _)
@[go_sem] theorem k27_exit (b n0 : Nat) (i : Nat) (e : Env) (S : Store) : k27 b n0 (.exit i) e S = (k20 b n0) (.exit i) e S := nr (seqC_x _ _ _ _ _)
theorem k27_l (b n0 : Nat) : seqC (fun e S => execL (C b) 0 c22 (k20 b n0) e S) (k20 b n0) = k27 b n0 := link_seq c22_h (k25_l b n0)
noncomputable def c31 : Code := at0 c21
noncomputable def c32 : Code := at1 c21
theorem c21_h : c21 = .seq c31 c32 := by kernel_rfl
noncomputable def k33 (b n0 : Nat) : KT := seqC (fun e S => execL (C b) 0 c32 (k27 b n0) e S) (k27 b n0)
noncomputable def c34 : Code := atT c32
noncomputable def c35 : Code := atF c32
theorem c32_h : c32 = .cond (.tmp 9) c34 c35 := by kernel_rfl
@[go_sem] theorem k33_n (b n0 : Nat) (x1 x2 x3 x4 x9 : PV) (S : Store) : k33 b n0 .normal (ee x1 x2 x3 x4 x9) S =
  condC x9 ((k27 b n0) .normal (ee x1 x2 x3 x4 x9) S)
    ((k27 b n0) (.exit 0) (ee x1 x2 x3 x4 x9) S) := nr ((show k33 b n0 .normal (ee x1 x2 x3 x4 x9) S = execL (C b) 0 c32 (k27 b n0) (ee x1 x2 x3 x4 x9) S from seqC_n _ _ _ _).trans (execL_cond c32_h (execL_skip (by kernel_rfl)) (execL_exit (by kernel_rfl)) rfl))
@[go_sem] theorem k33_ret (b n0 : Nat) (e : Env) (S : Store) : k33 b n0 .ret e S = (k27 b n0) .ret e S := nr (seqC_r _ _ _ _)
@[go_sem] theorem k33_exit (b n0 : Nat) (i : Nat) (e : Env) (S : Store) : k33 b n0 (.exit i) e S = (k27 b n0) (.exit i) e S := nr (seqC_x _ _ _ _ _)
theorem k33_l (b n0 : Nat) : seqC (fun e S => execL (C b) 0 c32 (k27 b n0) e S) (k27 b n0) = k33 b n0 := rfl
@[go_sem] theorem g36 (b : Nat) (K : KT) (x1 x2 x3 x4 x9 : PV) (S : Store) : execL (C b) 0 c31 K (ee x1 x2 x3 x4 x9) S =
  withV (some x4) fun x5 =>
    withV (evFieldAddr (tyi Try.prog 54) 3 x1) fun x6 =>
    withV (evLoad (tyi Try.prog 52) S x6) fun x7 =>
    withV (lenO (tyi Try.prog 52) x7) fun x8 =>
    withV (evBin .lss (tyi Try.prog 3) x5 x8) fun x9 =>
    K .normal (ee x1 x2 x3 x4 x9) S := nr (by kernel_rfl)
noncomputable def B0 (b n0 : Nat) (x1 x2 x3 x4 x9 : PV) (S : Store) : RT := execL (C b) 0 c18 (k20 b n0) (ee x1 x2 x3 x4 x9) S
@[go_sem] theorem B0_eq (b n0 : Nat) (x1 x2 x3 x4 x9 : PV) (S : Store) : B0 b n0 x1 x2 x3 x4 x9 S =
  execL (C b) 0 c31 (k33 b n0) (ee x1 x2 x3 x4 x9) S := nr ((enter_seq c18_h (k27_l b n0)).trans ((enter_seq c21_h (k33_l b n0)).trans (rfl)))
theorem L0_step {b n0 : Nat} {x1 x2 x3 x4 x9 : PV} {S : Store} {z : PV × Store} (h : B0 b n0 x1 x2 x3 x4 x9 S = some z) : L0 b n0 x1 x2 x3 x4 x9 S = some z := loopL_step h
theorem L0_in (b : Nat) (x1 x2 x3 x4 x9 : PV) (S : Store) : execL (C b) 0 c16 (k17 b) (ee x1 x2 x3 x4 x9) S = L0 b (List.length S) x1 .undef x3 x4 .undef S := by kernel_rfl
@[go_sem] theorem k15_n (b : Nat) (x1 x2 x3 x4 x9 : PV) (S : Store) : k15 b .normal (ee x1 x2 x3 x4 x9) S =
  L0 b (List.length S) x1 .undef x3 x4 .undef S := nr ((show k15 b .normal (ee x1 x2 x3 x4 x9) S = execL (C b) 0 c14 (k10 b) (ee x1 x2 x3 x4 x9) S from seqC_n _ _ _ _).trans ((show execL (C b) 0 c14 (k10 b) (ee x1 x2 x3 x4 x9) S = execL (C b) 0 c16 (k17 b) (ee x1 x2 x3 x4 x9) S from execL_block c14_h).trans (L0_in b x1 x2 x3 x4 x9 S)))
@[go_sem] theorem k15_ret (b : Nat) (e : Env) (S : Store) : k15 b .ret e S = (k10 b) .ret e S := nr (seqC_r _ _ _ _)
@[go_sem] theorem k15_exit (b : Nat) (i : Nat) (e : Env) (S : Store) : k15 b (.exit i) e S = (k10 b) (.exit i) e S := nr (seqC_x _ _ _ _ _)
theorem k15_l (b : Nat) : seqC (fun e S => execL (C b) 0 c14 (k10 b) e S) (k10 b) = k15 b := rfl
@[go_sem] theorem g38 (b : Nat) (K : KT) (x1 x2 x3 x4 x9 : PV) (S : Store) : execL (C b) 0 c13 K (ee x1 x2 x3 x4 x9) S =
  withV (some (.int .i64 0)) fun x4 =>
    K .normal (ee x1 x2 x3 x4 x9) S := nr (by kernel_rfl)
@[go_sem] theorem k12_n (b : Nat) (x1 x2 x3 x4 x9 : PV) (S : Store) : k12 b .normal (ee x1 x2 x3 x4 x9) S =
  execL (C b) 0 c13 (k15 b) (ee x1 x2 x3 x4 x9) S := nr ((show k12 b .normal (ee x1 x2 x3 x4 x9) S = execL (C b) 0 c5 (k10 b) (ee x1 x2 x3 x4 x9) S from seqC_n _ _ _ _).trans ((enter_seq c5_h (k15_l b)).trans (rfl)))
@[go_sem] theorem k12_ret (b : Nat) (e : Env) (S : Store) : k12 b .ret e S = (k0 b) .ret e S := nr (seqC_r _ _ _ _)
@[go_sem] theorem k12_exit (b : Nat) (i : Nat) (e : Env) (S : Store) : k12 b (.exit i) e S = (k0 b) (.exit i) e S := nr (seqC_x _ _ _ _ _)
theorem k12_l (b : Nat) : seqC (fun e S => execL (C b) 0 c4 (k0 b) e S) (k0 b) = k12 b := link_seq c4_h (k10_l b)
noncomputable def k39 (b : Nat) : KT := seqC (fun e S => execL (C b) 0 c3 (k12 b) e S) (k0 b)
@[go_sem] theorem g40 (b : Nat) (K : KT) (x1 x2 x3 x4 x9 : PV) (S : Store) : execL (C b) 0 c3 K (ee x1 x2 x3 x4 x9) S =
  withV (some (.int .i64 1)) fun x3 =>
    K .normal (ee x1 x2 x3 x4 x9) S := nr (by kernel_rfl)
@[go_sem] theorem k39_n (b : Nat) (e : Env) (S : Store) : k39 b .normal e S = execL (C b) 0 c3 (k12 b) e S := nr (seqC_n _ _ _ _)
@[go_sem] theorem k39_ret (b : Nat) (e : Env) (S : Store) : k39 b .ret e S = (k0 b) .ret e S := nr (seqC_r _ _ _ _)
@[go_sem] theorem k39_exit (b : Nat) (i : Nat) (e : Env) (S : Store) : k39 b (.exit i) e S = (k0 b) (.exit i) e S := nr (seqC_x _ _ _ _ _)
theorem k39_l (b : Nat) : seqC (fun e S => execL (C b) 0 c2 (k0 b) e S) (k0 b) = k39 b := link_seq c2_h (k12_l b)
@[go_sem] theorem g41 (b : Nat) (K : KT) (x0 : PV) (S : Store) : execL (C b) 0 c1 K [(0, x0)] S =
  withN (boxed S (List.length S) (TI.size (tyi Try.prog 54)) x0) S fun x1 S =>
    withV (some (.int .i64 0)) fun x2 =>
    K .normal (ee x1 x2 .undef .undef .undef) S := nr (by kernel_rfl)
noncomputable def E (b : Nat) (x0 : PV) (S : Store) : RT := execL (C b) 0 code (k0 b) [(0, x0)] S
@[go_sem] theorem E_eq (b : Nat) (x0 : PV) (S : Store) : E b x0 S =
  execL (C b) 0 c1 (k39 b) [(0, x0)] S := nr ((enter_seq code_h (k39_l b)).trans (rfl))
theorem callR {x0 : PV} {S : Store} {r : PV × Store} (h : E S.length x0 S = some r) : callRL Try.prog hints 35 [x0] S = some r := callRL_of (fn := Try.f35) (c := code) (by kernel_rfl) (by kernel_rfl) (by decide) (by kernel_rfl) (Nat.le_of_ble_eq_true (by kernel_rfl)) h
theorem call {x0 : PV} {r : PV × Store} {v : PV} (h : E 0 x0 [] = some r) (hv : fzPV r.2 r.1 = some v) : callL Try.prog hints 35 [x0] = some v := callL_of (fn := Try.f35) (c := code) (by kernel_rfl) (by kernel_rfl) (by decide) (by kernel_rfl) (Nat.le_of_ble_eq_true (by kernel_rfl)) h hv
end F35
/-! ### tree.Size -/
namespace F43
def hint : Hint := { keep := [1, 2, 3, 5, 7, 8, 9, 10], loops := [(0, { live := [3, 7, 8, 9], after := [3], own := [], fz := [] })] }
noncomputable def C (b : Nat) : Ctx := ctxL Try.prog hints b hint
noncomputable def code : Code := Try.f43.body.get rfl
noncomputable def k0 (b : Nat) : KT := endC Try.prog Try.f43
def ee (x1 x2 x3 x5 x7 x8 x9 x10 : PV) : Env := [(1, x1), (2, x2), (3, x3), (5, x5), (7, x7), (8, x8), (9, x9), (10, x10)]
@[go_sem] theorem gc_ee (n : Nat) (x1 x2 x3 x5 x7 x8 x9 x10 : PV) (S : Store) : gc n (ee x1 x2 x3 x5 x7 x8 x9 x10) S = gc n [(1, x1), (2, x2), (3, x3), (5, x5), (7, x7), (8, x8), (9, x9), (10, x10)] S := nr (rfl)
@[go_sem] theorem k0_ret (b : Nat) (x1 x2 x3 x5 x7 x8 x9 x10 : PV) (S : Store) : k0 b .ret (ee x1 x2 x3 x5 x7 x8 x9 x10) S = some (x2, S) := nr (by kernel_rfl)
@[go_sem] theorem k0_n (b : Nat) (x1 x2 x3 x5 x7 x8 x9 x10 : PV) (S : Store) : k0 b .normal (ee x1 x2 x3 x5 x7 x8 x9 x10) S = some (x2, S) := nr (by kernel_rfl)
noncomputable def c1 : Code := at0 code
noncomputable def c2 : Code := at1 code
theorem code_h : code = .seq c1 c2 := by kernel_rfl
noncomputable def c3 : Code := at0 c2
noncomputable def c4 : Code := at1 c2
theorem c2_h : c2 = .seq c3 c4 := by kernel_rfl
noncomputable def c5 : Code := at0 c4
noncomputable def c6 : Code := at1 c4
theorem c4_h : c4 = .seq c5 c6 := by kernel_rfl
noncomputable def c7 : Code := at0 c6
noncomputable def c8 : Code := at1 c6
theorem c6_h : c6 = .seq c7 c8 := by kernel_rfl
noncomputable def k9 (b : Nat) : KT := seqC (fun e S => execL (C b) 0 c8 (k0 b) e S) (k0 b)
@[go_sem] theorem k9_n (b : Nat) (x1 x2 x3 x5 x7 x8 x9 x10 : PV) (S : Store) : k9 b .normal (ee x1 x2 x3 x5 x7 x8 x9 x10) S =
  (k0 b) .ret (ee x1 x2 x3 x5 x7 x8 x9 x10) S := nr ((show k9 b .normal (ee x1 x2 x3 x5 x7 x8 x9 x10) S = execL (C b) 0 c8 (k0 b) (ee x1 x2 x3 x5 x7 x8 x9 x10) S from seqC_n _ _ _ _).trans (execL_ret (by kernel_rfl)))
@[go_sem] theorem k9_ret (b : Nat) (e : Env) (S : Store) : k9 b .ret e S = (k0 b) .ret e S := nr (seqC_r _ _ _ _)
@[go_sem] theorem k9_exit (b : Nat) (i : Nat) (e : Env) (S : Store) : k9 b (.exit i) e S = (k0 b) (.exit i) e S := nr (seqC_x _ _ _ _ _)
theorem k9_l (b : Nat) : seqC (fun e S => execL (C b) 0 c8 (k0 b) e S) (k0 b) = k9 b := rfl
noncomputable def k10 (b : Nat) : KT := seqC (fun e S => execL (C b) 0 c7 (k9 b) e S) (k0 b)
@[go_sem] theorem g11 (b : Nat) (K : KT) (x1 x2 x3 x5 x7 x8 x9 x10 : PV) (S : Store) : execL (C b) 0 c7 K (ee x1 x2 x3 x5 x7 x8 x9 x10) S =
  withV (some x3) fun x18 =>
    withV (some x18) fun x2 =>
    K .normal (ee x1 x2 x3 x5 x7 x8 x9 x10) S := nr (by kernel_rfl)
@[go_sem] theorem k10_n (b : Nat) (e : Env) (S : Store) : k10 b .normal e S = execL (C b) 0 c7 (k9 b) e S := nr (seqC_n _ _ _ _)
@[go_sem] theorem k10_ret (b : Nat) (e : Env) (S : Store) : k10 b .ret e S = (k0 b) .ret e S := nr (seqC_r _ _ _ _)
@[go_sem] theorem k10_exit (b : Nat) (i : Nat) (e : Env) (S : Store) : k10 b (.exit i) e S = (k0 b) (.exit i) e S := nr (seqC_x _ _ _ _ _)
theorem k10_l (b : Nat) : seqC (fun e S => execL (C b) 0 c6 (k0 b) e S) (k0 b) = k10 b := link_seq c6_h (k9_l b)
noncomputable def k12 (b : Nat) : KT := seqC (fun e S => execL (C b) 0 c5 (k10 b) e S) (k0 b)
noncomputable def c13 : Code := at0 c5
noncomputable def c14 : Code := at1 c5
theorem c5_h : c5 = .seq c13 c14 := by kernel_rfl
noncomputable def k15 (b : Nat) : KT := seqC (fun e S => execL (C b) 0 c14 (k10 b) e S) (k10 b)
noncomputable def c16 : Code := atB c14
theorem c14_h : c14 = .block 0 c16 := by kernel_rfl
noncomputable def k17 (b : Nat) : KT := blockC 0 (k10 b)
@[go_sem] theorem k17_n (b : Nat) (e : Env) (S : Store) : k17 b .normal e S = (k10 b) .normal e S := nr (blockC_n _ _ _ _)
@[go_sem] theorem k17_ret (b : Nat) (e : Env) (S : Store) : k17 b .ret e S = (k10 b) .ret e S := nr (blockC_r _ _ _ _)
@[go_sem] theorem k17_exit (b : Nat) (i : Nat) (e : Env) (S : Store) : k17 b (.exit i) e S = if i = 0 then (k10 b) .normal e S else (k10 b) (.exit i) e S := nr (blockC_x _ _ _ _ _)
noncomputable def c18 : Code := atL c16
noncomputable def k19 (b n0 : Nat) : KT := afterC 0 n0 [3] (k17 b)
noncomputable def L0g (b n0 : Nat) (e : Env) (S : Store) : RT := loopL (fun K e S => execL (C b) 0 c18 K e S) (normG [3, 7, 8, 9] [] n0) (k19 b n0) e S
noncomputable def L0 (b n0 : Nat) (x1 x2 x3 x5 x7 x8 x9 x10 : PV) (S : Store) : RT := L0g b n0 (ee x1 x2 x3 x5 x7 x8 x9 x10) S
noncomputable def k20 (b n0 : Nat) : KT := stepC (normG [3, 7, 8, 9] [] n0) (k19 b n0) (L0g b n0)
@[go_sem] theorem k20_n (b n0 : Nat) (x1 x2 x3 x5 x7 x8 x9 x10 : PV) (S : Store) : k20 b n0 .normal (ee x1 x2 x3 x5 x7 x8 x9 x10) S = L0 b n0 .undef .undef x3 .undef x7 x8 x9 .undef (gc n0 (ee .undef .undef x3 .undef x7 x8 x9 .undef) S) := nr (by kernel_rfl)
@[go_sem] theorem k20_ret (b n0 : Nat) (e : Env) (S : Store) : k20 b n0 .ret e S = (k17 b) .ret e S := nr ((show k20 b n0 .ret e S = (k19 b n0) .ret e S from stepC_r _ _ _ _ _).trans (afterC_r _ _ _ _ _ _))
@[go_sem] theorem k20_x (b n0 : Nat) (x1 x2 x3 x5 x7 x8 x9 x10 : PV) (S : Store) : k20 b n0 (.exit 0) (ee x1 x2 x3 x5 x7 x8 x9 x10) S = (k17 b) (.exit 0) (ee .undef .undef x3 .undef .undef .undef .undef .undef) (gc n0 (ee .undef .undef x3 .undef .undef .undef .undef .undef) S) := nr ((show k20 b n0 (.exit 0) (ee x1 x2 x3 x5 x7 x8 x9 x10) S = (k19 b n0) (.exit 0) (ee x1 x2 x3 x5 x7 x8 x9 x10) S from stepC_x _ _ _ _ _ _).trans ((show (k19 b n0) (.exit 0) (ee x1 x2 x3 x5 x7 x8 x9 x10) S = _ from afterC_x _ _ _ _ _ _ _).trans (if_pos rfl)))
theorem k20_o (b n0 : Nat) (i : Nat) (e : Env) (S : Store) (h : i ≠ 0) : k20 b n0 (.exit i) e S = (k17 b) (.exit i) e S := (show k20 b n0 (.exit i) e S = (k19 b n0) (.exit i) e S from stepC_x _ _ _ _ _ _).trans ((show (k19 b n0) (.exit i) e S = _ from afterC_x _ _ _ _ _ _ _).trans (if_neg h))
noncomputable def c21 : Code := at0 c18
noncomputable def c22 : Code := at1 c18
theorem c18_h : c18 = .seq c21 c22 := by kernel_rfl
noncomputable def c23 : Code := at0 c22
noncomputable def c24 : Code := at1 c22
theorem c22_h : c22 = .seq c23 c24 := by kernel_rfl
noncomputable def c25 : Code := at0 c24
noncomputable def c26 : Code := at1 c24
theorem c24_h : c24 = .seq c25 c26 := by kernel_rfl
noncomputable def k27 (b n0 : Nat) : KT := seqC (fun e S => execL (C b) 0 c26 (k20 b n0) e S) (k20 b n0)
@[go_sem] theorem g28 (b : Nat) (K : KT) (x1 x2 x3 x5 x7 x8 x9 x10 : PV) (S : Store) : execL (C b) 0 c26 K (ee x1 x2 x3 x5 x7 x8 x9 x10) S =
  withV (evBin .add (tyi Try.prog 3) x9 (.int .i64 1)) fun x17 =>
    withV (some x17) fun x9 =>
    K .normal (ee x1 x2 x3 x5 x7 x8 x9 x10) S := nr (by kernel_rfl)
@[go_sem] theorem k27_n (b n0 : Nat) (e : Env) (S : Store) : k27 b n0 .normal e S = execL (C b) 0 c26 (k20 b n0) e S := nr (seqC_n _ _ _ _)
@[go_sem] theorem k27_ret (b n0 : Nat) (e : Env) (S : Store) : k27 b n0 .ret e S = (k20 b n0) .ret e S := nr (seqC_r _ _ _ _)
@[go_sem] theorem k27_exit (b n0 : Nat) (i : Nat) (e : Env) (S : Store) : k27 b n0 (.exit i) e S = (k20 b n0) (.exit i) e S := nr (seqC_x _ _ _ _ _)
theorem k27_l (b n0 : Nat) : seqC (fun e S => execL (C b) 0 c26 (k20 b n0) e S) (k20 b n0) = k27 b n0 := rfl
noncomputable def k29 (b n0 : Nat) : KT := seqC (fun e S => execL (C b) 0 c25 (k27 b n0) e S) (k20 b n0)
noncomputable def c30 : Code := atB c25
theorem c25_h : c25 = .block 1 c30 := by kernel_rfl
noncomputable def k31 (b n0 : Nat) : KT := blockC 1 (k27 b n0)
@[go_sem] theorem k31_n (b n0 : Nat) (e : Env) (S : Store) : k31 b n0 .normal e S = (k27 b n0) .normal e S := nr (blockC_n _ _ _ _)
@[go_sem] theorem k31_ret (b n0 : Nat) (e : Env) (S : Store) : k31 b n0 .ret e S = (k27 b n0) .ret e S := nr (blockC_r _ _ _ _)
@[go_sem] theorem k31_exit (b n0 : Nat) (i : Nat) (e : Env) (S : Store) : k31 b n0 (.exit i) e S = if i = 1 then (k27 b n0) .normal e S else (k27 b n0) (.exit i) e S := nr (blockC_x _ _ _ _ _)
noncomputable def c32 : Code := at0 c30
noncomputable def c33 : Code := at1 c30
theorem c30_h : c30 = .seq c32 c33 := by kernel_rfl
noncomputable def k34 (b n0 : Nat) : KT := seqC (fun e S => execL (C b) 1 c33 (k31 b n0) e S) (k31 b n0)
@[go_sem] theorem g35 (b : Nat) (K : KT) (x1 x2 x3 x5 x7 x8 x9 x10 : PV) (S : Store) : execL (C b) 1 c33 K (ee x1 x2 x3 x5 x7 x8 x9 x10) S =
  withV (some x3) fun x13 =>
    withV (evLoad (tyi Try.prog 54) S x5) fun x14 =>
    withN (callO (callL Try.prog hints) S 43 [x14]) S fun x15 S =>
    withV (evBin .add (tyi Try.prog 3) x13 x15) fun x16 =>
    withV (some x16) fun x3 =>
    K .normal (ee x1 x2 x3 x5 x7 x8 x9 x10) S := nr (by kernel_rfl)
@[go_sem] theorem k34_n (b n0 : Nat) (e : Env) (S : Store) : k34 b n0 .normal e S = execL (C b) 1 c33 (k31 b n0) e S := nr (seqC_n _ _ _ _)
@[go_sem] theorem k34_ret (b n0 : Nat) (e : Env) (S : Store) : k34 b n0 .ret e S = (k31 b n0) .ret e S := nr (seqC_r _ _ _ _)
@[go_sem] theorem k34_exit (b n0 : Nat) (i : Nat) (e : Env) (S : Store) : k34 b n0 (.exit i) e S = (k31 b n0) (.exit i) e S := nr (seqC_x _ _ _ _ _)
theorem k34_l (b n0 : Nat) : seqC (fun e S => execL (C b) 1 c33 (k31 b n0) e S) (k31 b n0) = k34 b n0 := rfl
@[go_sem] theorem g36 (b : Nat) (K : KT) (x1 x2 x3 x5 x7 x8 x9 x10 : PV) (S : Store) : execL (C b) 1 c32 K (ee x1 x2 x3 x5 x7 x8 x9 x10) S =
  withV (indexAddrO Try.prog 52 S x7 x9) fun x11 =>
    withV (evLoad (tyi Try.prog 54) S x11) fun x12 =>
    withN (allocO (tyi Try.prog 54) (List.length S)) S fun x5 S =>
    withE (storeE (tyi Try.prog 54) S x5 x12) [(1, x1), (2, x2), (3, x3), (5, x5), (7, x7), (8, x8), (9, x9), (10, x10), (11, x11), (12, x12)] fun _u e1 S =>
    K .normal (ee (get e1 1) (get e1 2) (get e1 3) (get e1 5) (get e1 7) (get e1 8) (get e1 9) (get e1 10)) S := nr (by kernel_rfl)
@[go_sem] theorem k29_n (b n0 : Nat) (x1 x2 x3 x5 x7 x8 x9 x10 : PV) (S : Store) : k29 b n0 .normal (ee x1 x2 x3 x5 x7 x8 x9 x10) S =
  execL (C b) 1 c32 (k34 b n0) (ee x1 x2 x3 x5 x7 x8 x9 x10) S := nr ((show k29 b n0 .normal (ee x1 x2 x3 x5 x7 x8 x9 x10) S = execL (C b) 0 c25 (k27 b n0) (ee x1 x2 x3 x5 x7 x8 x9 x10) S from seqC_n _ _ _ _).trans ((show execL (C b) 0 c25 (k27 b n0) (ee x1 x2 x3 x5 x7 x8 x9 x10) S = execL (C b) 1 c30 (k31 b n0) (ee x1 x2 x3 x5 x7 x8 x9 x10) S from execL_block c25_h).trans ((enter_seq c30_h (k34_l b n0)).trans (rfl))))
@[go_sem] theorem k29_ret (b n0 : Nat) (e : Env) (S : Store) : k29 b n0 .ret e S = (k20 b n0) .ret e S := nr (seqC_r _ _ _ _)
@[go_sem] theorem k29_exit (b n0 : Nat) (i : Nat) (e : Env) (S : Store) : k29 b n0 (.exit i) e S = (k20 b n0) (.exit i) e S := nr (seqC_x _ _ _ _ _)
theorem k29_l (b n0 : Nat) : seqC (fun e S => execL (C b) 0 c24 (k20 b n0) e S) (k20 b n0) = k29 b n0 := link_seq c24_h (k27_l b n0)
noncomputable def k37 (b n0 : Nat) : KT := seqC (fun e S => execL (C b) 0 c23 (k29 b n0) e S) (k20 b n0)
noncomputable def c38 : Code := atT c23
noncomputable def c39 : Code := atF c23
theorem c23_h : c23 = .cond (.tmp 10) c38 c39 := by kernel_rfl
@[go_sem] theorem k37_n (b n0 : Nat) (x1 x2 x3 x5 x7 x8 x9 x10 : PV) (S : Store) : k37 b n0 .normal (ee x1 x2 x3 x5 x7 x8 x9 x10) S =
  condC x10 ((k29 b n0) .normal (ee x1 x2 x3 x5 x7 x8 x9 x10) S)
    ((k29 b n0) (.exit 0) (ee x1 x2 x3 x5 x7 x8 x9 x10) S) := nr ((show k37 b n0 .normal (ee x1 x2 x3 x5 x7 x8 x9 x10) S = execL (C b) 0 c23 (k29 b n0) (ee x1 x2 x3 x5 x7 x8 x9 x10) S from seqC_n _ _ _ _).trans (execL_cond c23_h (execL_skip (by kernel_rfl)) (execL_exit (by kernel_rfl)) rfl))
@[go_sem] theorem k37_ret (b n0 : Nat) (e : Env) (S : Store) : k37 b n0 .ret e S = (k20 b n0) .ret e S := nr (seqC_r _ _ _ _)
@[go_sem] theorem k37_exit (b n0 : Nat) (i : Nat) (e : Env) (S : Store) : k37 b n0 (.exit i) e S = (k20 b n0) (.exit i) e S := nr (seqC_x _ _ _ _ _)
theorem k37_l (b n0 : Nat) : seqC (fun e S => execL (C b) 0 c22 (k20 b n0) e S) (k20 b n0) = k37 b n0 := link_seq c22_h (k29_l b n0)
@[go_sem] theorem g40 (b : Nat) (K : KT) (x1 x2 x3 x5 x7 x8 x9 x10 : PV) (S : Store) : execL (C b) 0 c21 K (ee x1 x2 x3 x5 x7 x8 x9 x10) S =
  withV (evBin .lss (tyi Try.prog 3) x9 x8) fun x10 =>
    K .normal (ee x1 x2 x3 x5 x7 x8 x9 x10) S := nr (by kernel_rfl)
noncomputable def B0 (b n0 : Nat) (x1 x2 x3 x5 x7 x8 x9 x10 : PV) (S : Store) : RT := execL (C b) 0 c18 (k20 b n0) (ee x1 x2 x3 x5 x7 x8 x9 x10) S
@[go_sem] theorem B0_eq (b n0 : Nat) (x1 x2 x3 x5 x7 x8 x9 x10 : PV) (S : Store) : B0 b n0 x1 x2 x3 x5 x7 x8 x9 x10 S =
  execL (C b) 0 c21 (k37 b n0) (ee x1 x2 x3 x5 x7 x8 x9 x10) S := nr ((enter_seq c18_h (k37_l b n0)).trans (rfl))
theorem L0_step {b n0 : Nat} {x1 x2 x3 x5 x7 x8 x9 x10 : PV} {S : Store} {z : PV × Store} (h : B0 b n0 x1 x2 x3 x5 x7 x8 x9 x10 S = some z) : L0 b n0 x1 x2 x3 x5 x7 x8 x9 x10 S = some z := loopL_step h
theorem L0_in (b : Nat) (x1 x2 x3 x5 x7 x8 x9 x10 : PV) (S : Store) : execL (C b) 0 c16 (k17 b) (ee x1 x2 x3 x5 x7 x8 x9 x10) S = L0 b (List.length S) .undef .undef x3 .undef x7 x8 x9 .undef S := by kernel_rfl
@[go_sem] theorem k15_n (b : Nat) (x1 x2 x3 x5 x7 x8 x9 x10 : PV) (S : Store) : k15 b .normal (ee x1 x2 x3 x5 x7 x8 x9 x10) S =
  L0 b (List.length S) .undef .undef x3 .undef x7 x8 x9 .undef S := nr ((show k15 b .normal (ee x1 x2 x3 x5 x7 x8 x9 x10) S = execL (C b) 0 c14 (k10 b) (ee x1 x2 x3 x5 x7 x8 x9 x10) S from seqC_n _ _ _ _).trans ((show execL (C b) 0 c14 (k10 b) (ee x1 x2 x3 x5 x7 x8 x9 x10) S = execL (C b) 0 c16 (k17 b) (ee x1 x2 x3 x5 x7 x8 x9 x10) S from execL_block c14_h).trans (L0_in b x1 x2 x3 x5 x7 x8 x9 x10 S)))
@[go_sem] theorem k15_ret (b : Nat) (e : Env) (S : Store) : k15 b .ret e S = (k10 b) .ret e S := nr (seqC_r _ _ _ _)
@[go_sem] theorem k15_exit (b : Nat) (i : Nat) (e : Env) (S : Store) : k15 b (.exit i) e S = (k10 b) (.exit i) e S := nr (seqC_x _ _ _ _ _)
theorem k15_l (b : Nat) : seqC (fun e S => execL (C b) 0 c14 (k10 b) e S) (k10 b) = k15 b := rfl
@[go_sem] theorem g42 (b : Nat) (K : KT) (x1 x2 x3 x5 x7 x8 x9 x10 : PV) (S : Store) : execL (C b) 0 c13 K (ee x1 x2 x3 x5 x7 x8 x9 x10) S =
  withV (evFieldAddr (tyi Try.prog 54) 3 x1) fun x6 =>
    withV (evLoad (tyi Try.prog 52) S x6) fun x7 =>
    withV (lenO (tyi Try.prog 52) x7) fun x8 =>
    withV (some (.int .i64 0)) fun x9 =>
    K .normal (ee x1 x2 x3 x5 x7 x8 x9 x10) S := nr (by kernel_rfl)
@[go_sem] theorem k12_n (b : Nat) (x1 x2 x3 x5 x7 x8 x9 x10 : PV) (S : Store) : k12 b .normal (ee x1 x2 x3 x5 x7 x8 x9 x10) S =
  execL (C b) 0 c13 (k15 b) (ee x1 x2 x3 x5 x7 x8 x9 x10) S := nr ((show k12 b .normal (ee x1 x2 x3 x5 x7 x8 x9 x10) S = execL (C b) 0 c5 (k10 b) (ee x1 x2 x3 x5 x7 x8 x9 x10) S from seqC_n _ _ _ _).trans ((enter_seq c5_h (k15_l b)).trans (rfl)))
@[go_sem] theorem k12_ret (b : Nat) (e : Env) (S : Store) : k12 b .ret e S = (k0 b) .ret e S := nr (seqC_r _ _ _ _)
@[go_sem] theorem k12_exit (b : Nat) (i : Nat) (e : Env) (S : Store) : k12 b (.exit i) e S = (k0 b) (.exit i) e S := nr (seqC_x _ _ _ _ _)
theorem k12_l (b : Nat) : seqC (fun e S => execL (C b) 0 c4 (k0 b) e S) (k0 b) = k12 b := link_seq c4_h (k10_l b)
noncomputable def k43 (b : Nat) : KT := seqC (fun e S => execL (C b) 0 c3 (k12 b) e S) (k0 b)
@[go_sem] theorem g44 (b : Nat) (K : KT) (x1 x2 x3 x5 x7 x8 x9 x10 : PV) (S : Store) : execL (C b) 0 c3 K (ee x1 x2 x3 x5 x7 x8 x9 x10) S =
  withV (some (.int .i64 1)) fun x3 =>
    K .normal (ee x1 x2 x3 x5 x7 x8 x9 x10) S := nr (by kernel_rfl)
@[go_sem] theorem k43_n (b : Nat) (e : Env) (S : Store) : k43 b .normal e S = execL (C b) 0 c3 (k12 b) e S := nr (seqC_n _ _ _ _)
@[go_sem] theorem k43_ret (b : Nat) (e : Env) (S : Store) : k43 b .ret e S = (k0 b) .ret e S := nr (seqC_r _ _ _ _)
@[go_sem] theorem k43_exit (b : Nat) (i : Nat) (e : Env) (S : Store) : k43 b (.exit i) e S = (k0 b) (.exit i) e S := nr (seqC_x _ _ _ _ _)
theorem k43_l (b : Nat) : seqC (fun e S => execL (C b) 0 c2 (k0 b) e S) (k0 b) = k43 b := link_seq c2_h (k12_l b)
@[go_sem] theorem g45 (b : Nat) (K : KT) (x0 : PV) (S : Store) : execL (C b) 0 c1 K [(0, x0)] S =
  withN (boxed S (List.length S) (TI.size (tyi Try.prog 54)) x0) S fun x1 S =>
    withV (some (.int .i64 0)) fun x2 =>
    K .normal (ee x1 x2 .undef .undef .undef .undef .undef .undef) S := nr (by kernel_rfl)
noncomputable def E (b : Nat) (x0 : PV) (S : Store) : RT := execL (C b) 0 code (k0 b) [(0, x0)] S
@[go_sem] theorem E_eq (b : Nat) (x0 : PV) (S : Store) : E b x0 S =
  execL (C b) 0 c1 (k43 b) [(0, x0)] S := nr ((enter_seq code_h (k43_l b)).trans (rfl))
theorem callR {x0 : PV} {S : Store} {r : PV × Store} (h : E S.length x0 S = some r) : callRL Try.prog hints 43 [x0] S = some r := callRL_of (fn := Try.f43) (c := code) (by kernel_rfl) (by kernel_rfl) (by decide) (by kernel_rfl) (Nat.le_of_ble_eq_true (by kernel_rfl)) h
theorem call {x0 : PV} {r : PV × Store} {v : PV} (h : E 0 x0 [] = some r) (hv : fzPV r.2 r.1 = some v) : callL Try.prog hints 43 [x0] = some v := callL_of (fn := Try.f43) (c := code) (by kernel_rfl) (by kernel_rfl) (by decide) (by kernel_rfl) (Nat.le_of_ble_eq_true (by kernel_rfl)) h hv
end F43
/-! ### tree.Levels -/
namespace F44
def hint : Hint := { keep := [1, 2, 3, 5, 7, 8, 9, 10], loops := [(0, { live := [3, 7, 8, 9], after := [3], own := [], fz := [] })] }
noncomputable def C (b : Nat) : Ctx := ctxL Try.prog hints b hint
noncomputable def code : Code := Try.f44.body.get rfl
noncomputable def k0 (b : Nat) : KT := endC Try.prog Try.f44
def ee (x1 x2 x3 x5 x7 x8 x9 x10 : PV) : Env := [(1, x1), (2, x2), (3, x3), (5, x5), (7, x7), (8, x8), (9, x9), (10, x10)]
@[go_sem] theorem gc_ee (n : Nat) (x1 x2 x3 x5 x7 x8 x9 x10 : PV) (S : Store) : gc n (ee x1 x2 x3 x5 x7 x8 x9 x10) S = gc n [(1, x1), (2, x2), (3, x3), (5, x5), (7, x7), (8, x8), (9, x9), (10, x10)] S := nr (rfl)
@[go_sem] theorem k0_ret (b : Nat) (x1 x2 x3 x5 x7 x8 x9 x10 : PV) (S : Store) : k0 b .ret (ee x1 x2 x3 x5 x7 x8 x9 x10) S = some (x2, S) := nr (by kernel_rfl)
@[go_sem] theorem k0_n (b : Nat) (x1 x2 x3 x5 x7 x8 x9 x10 : PV) (S : Store) : k0 b .normal (ee x1 x2 x3 x5 x7 x8 x9 x10) S = some (x2, S) := nr (by kernel_rfl)
noncomputable def c1 : Code := at0 code
noncomputable def c2 : Code := at1 code
theorem code_h : code = .seq c1 c2 := by kernel_rfl
noncomputable def c3 : Code := at0 c2
noncomputable def c4 : Code := at1 c2
theorem c2_h : c2 = .seq c3 c4 := by kernel_rfl
noncomputable def c5 : Code := at0 c4
noncomputable def c6 : Code := at1 c4
theorem c4_h : c4 = .seq c5 c6 := by kernel_rfl
noncomputable def c7 : Code := at0 c6
noncomputable def c8 : Code := at1 c6
theorem c6_h : c6 = .seq c7 c8 := by kernel_rfl
noncomputable def k9 (b : Nat) : KT := seqC (fun e S => execL (C b) 0 c8 (k0 b) e S) (k0 b)
@[go_sem] theorem k9_n (b : Nat) (x1 x2 x3 x5 x7 x8 x9 x10 : PV) (S : Store) : k9 b .normal (ee x1 x2 x3 x5 x7 x8 x9 x10) S =
  (k0 b) .ret (ee x1 x2 x3 x5 x7 x8 x9 x10) S := nr ((show k9 b .normal (ee x1 x2 x3 x5 x7 x8 x9 x10) S = execL (C b) 0 c8 (k0 b) (ee x1 x2 x3 x5 x7 x8 x9 x10) S from seqC_n _ _ _ _).trans (execL_ret (by kernel_rfl)))
@[go_sem] theorem k9_ret (b : Nat) (e : Env) (S : Store) : k9 b .ret e S = (k0 b) .ret e S := nr (seqC_r _ _ _ _)
@[go_sem] theorem k9_exit (b : Nat) (i : Nat) (e : Env) (S : Store) : k9 b (.exit i) e S = (k0 b) (.exit i) e S := nr (seqC_x _ _ _ _ _)
theorem k9_l (b : Nat) : seqC (fun e S => execL (C b) 0 c8 (k0 b) e S) (k0 b) = k9 b := rfl
noncomputable def k10 (b : Nat) : KT := seqC (fun e S => execL (C b) 0 c7 (k9 b) e S) (k0 b)
@[go_sem] theorem g11 (b : Nat) (K : KT) (x1 x2 x3 x5 x7 x8 x9 x10 : PV) (S : Store) : execL (C b) 0 c7 K (ee x1 x2 x3 x5 x7 x8 x9 x10) S =
  withV (some x3) fun x18 =>
    withV (evBin .add (tyi Try.prog 3) x18 (.int .i64 1)) fun x19 =>
    withV (some x19) fun x2 =>
    K .normal (ee x1 x2 x3 x5 x7 x8 x9 x10) S := nr (by kernel_rfl)
@[go_sem] theorem k10_n (b : Nat) (e : Env) (S : Store) : k10 b .normal e S = execL (C b) 0 c7 (k9 b) e S := nr (seqC_n _ _ _ _)
@[go_sem] theorem k10_ret (b : Nat) (e : Env) (S : Store) : k10 b .ret e S = (k0 b) .ret e S := nr (seqC_r _ _ _ _)
@[go_sem] theorem k10_exit (b : Nat) (i : Nat) (e : Env) (S : Store) : k10 b (.exit i) e S = (k0 b) (.exit i) e S := nr (seqC_x _ _ _ _ _)
theorem k10_l (b : Nat) : seqC (fun e S => execL (C b) 0 c6 (k0 b) e S) (k0 b) = k10 b := link_seq c6_h (k9_l b)
noncomputable def k12 (b : Nat) : KT := seqC (fun e S => execL (C b) 0 c5 (k10 b) e S) (k0 b)
noncomputable def c13 : Code := at0 c5
noncomputable def c14 : Code := at1 c5
theorem c5_h : c5 = .seq c13 c14 := by kernel_rfl
noncomputable def k15 (b : Nat) : KT := seqC (fun e S => execL (C b) 0 c14 (k10 b) e S) (k10 b)
noncomputable def c16 : Code := atB c14
theorem c14_h : c14 = .block 0 c16 := by kernel_rfl
noncomputable def k17 (b : Nat) : KT := blockC 0 (k10 b)
@[go_sem] theorem k17_n (b : Nat) (e : Env) (S : Store) : k17 b .normal e S = (k10 b) .normal e S := nr (blockC_n _ _ _ _)
@[go_sem] theorem k17_ret (b : Nat) (e : Env) (S : Store) : k17 b .ret e S = (k10 b) .ret e S := nr (blockC_r _ _ _ _)
@[go_sem] theorem k17_exit (b : Nat) (i : Nat) (e : Env) (S : Store) : k17 b (.exit i) e S = if i = 0 then (k10 b) .normal e S else (k10 b) (.exit i) e S := nr (blockC_x _ _ _ _ _)
noncomputable def c18 : Code := atL c16
noncomputable def k19 (b n0 : Nat) : KT := afterC 0 n0 [3] (k17 b)
noncomputable def L0g (b n0 : Nat) (e : Env) (S : Store) : RT := loopL (fun K e S => execL (C b) 0 c18 K e S) (normG [3, 7, 8, 9] [] n0) (k19 b n0) e S
noncomputable def L0 (b n0 : Nat) (x1 x2 x3 x5 x7 x8 x9 x10 : PV) (S : Store) : RT := L0g b n0 (ee x1 x2 x3 x5 x7 x8 x9 x10) S
noncomputable def k20 (b n0 : Nat) : KT := stepC (normG [3, 7, 8, 9] [] n0) (k19 b n0) (L0g b n0)
@[go_sem] theorem k20_n (b n0 : Nat) (x1 x2 x3 x5 x7 x8 x9 x10 : PV) (S : Store) : k20 b n0 .normal (ee x1 x2 x3 x5 x7 x8 x9 x10) S = L0 b n0 .undef .undef x3 .undef x7 x8 x9 .undef (gc n0 (ee .undef .undef x3 .undef x7 x8 x9 .undef) S) := nr (by kernel_rfl)
@[go_sem] theorem k20_ret (b n0 : Nat) (e : Env) (S : Store) : k20 b n0 .ret e S = (k17 b) .ret e S := nr ((show k20 b n0 .ret e S = (k19 b n0) .ret e S from stepC_r _ _ _ _ _).trans (afterC_r _ _ _ _ _ _))
@[go_sem] theorem k20_x (b n0 : Nat) (x1 x2 x3 x5 x7 x8 x9 x10 : PV) (S : Store) : k20 b n0 (.exit 0) (ee x1 x2 x3 x5 x7 x8 x9 x10) S = (k17 b) (.exit 0) (ee .undef .undef x3 .undef .undef .undef .undef .undef) (gc n0 (ee .undef .undef x3 .undef .undef .undef .undef .undef) S) := nr ((show k20 b n0 (.exit 0) (ee x1 x2 x3 x5 x7 x8 x9 x10) S = (k19 b n0) (.exit 0) (ee x1 x2 x3 x5 x7 x8 x9 x10) S from stepC_x _ _ _ _ _ _).trans ((show (k19 b n0) (.exit 0) (ee x1 x2 x3 x5 x7 x8 x9 x10) S = _ from afterC_x _ _ _ _ _ _ _).trans (if_pos rfl)))
theorem k20_o (b n0 : Nat) (i : Nat) (e : Env) (S : Store) (h : i ≠ 0) : k20 b n0 (.exit i) e S = (k17 b) (.exit i) e S := (show k20 b n0 (.exit i) e S = (k19 b n0) (.exit i) e S from stepC_x _ _ _ _ _ _).trans ((show (k19 b n0) (.exit i) e S = _ from afterC_x _ _ _ _ _ _ _).trans (if_neg h))
noncomputable def c21 : Code := at0 c18
noncomputable def c22 : Code := at1 c18
theorem c18_h : c18 = .seq c21 c22 := by kernel_rfl
noncomputable def c23 : Code := at0 c22
noncomputable def c24 : Code := at1 c22
theorem c22_h : c22 = .seq c23 c24 := by kernel_rfl
noncomputable def c25 : Code := at0 c24
noncomputable def c26 : Code := at1 c24
theorem c24_h : c24 = .seq c25 c26 := by kernel_rfl
noncomputable def k27 (b n0 : Nat) : KT := seqC (fun e S => execL (C b) 0 c26 (k20 b n0) e S) (k20 b n0)
@[go_sem] theorem g28 (b : Nat) (K : KT) (x1 x2 x3 x5 x7 x8 x9 x10 : PV) (S : Store) : execL (C b) 0 c26 K (ee x1 x2 x3 x5 x7 x8 x9 x10) S =
  withV (evBin .add (tyi Try.prog 3) x9 (.int .i64 1)) fun x17 =>
    withV (some x17) fun x9 =>
    K .normal (ee x1 x2 x3 x5 x7 x8 x9 x10) S := nr (by kernel_rfl)
@[go_sem] theorem k27_n (b n0 : Nat) (e : Env) (S : Store) : k27 b n0 .normal e S = execL (C b) 0 c26 (k20 b n0) e S := nr (seqC_n _ _ _ _)
@[go_sem] theorem k27_ret (b n0 : Nat) (e : Env) (S : Store) : k27 b n0 .ret e S = (k20 b n0) .ret e S := nr (seqC_r _ _ _ _)
@[go_sem] theorem k27_exit (b n0 : Nat) (i : Nat) (e : Env) (S : Store) : k27 b n0 (.exit i) e S = (k20 b n0) (.exit i) e S := nr (seqC_x _ _ _ _ _)
theorem k27_l (b n0 : Nat) : seqC (fun e S => execL (C b) 0 c26 (k20 b n0) e S) (k20 b n0) = k27 b n0 := rfl
noncomputable def k29 (b n0 : Nat) : KT := seqC (fun e S => execL (C b) 0 c25 (k27 b n0) e S) (k20 b n0)
noncomputable def c30 : Code := atB c25
theorem c25_h : c25 = .block 1 c30 := by kernel_rfl
noncomputable def k31 (b n0 : Nat) : KT := blockC 1 (k27 b n0)
@[go_sem] theorem k31_n (b n0 : Nat) (e : Env) (S : Store) : k31 b n0 .normal e S = (k27 b n0) .normal e S := nr (blockC_n _ _ _ _)
@[go_sem] theorem k31_ret (b n0 : Nat) (e : Env) (S : Store) : k31 b n0 .ret e S = (k27 b n0) .ret e S := nr (blockC_r _ _ _ _)
@[go_sem] theorem k31_exit (b n0 : Nat) (i : Nat) (e : Env) (S : Store) : k31 b n0 (.exit i) e S = if i = 1 then (k27 b n0) .normal e S else (k27 b n0) (.exit i) e S := nr (blockC_x _ _ _ _ _)
noncomputable def c32 : Code := at0 c30
noncomputable def c33 : Code := at1 c30
theorem c30_h : c30 = .seq c32 c33 := by kernel_rfl
noncomputable def k34 (b n0 : Nat) : KT := seqC (fun e S => execL (C b) 1 c33 (k31 b n0) e S) (k31 b n0)
@[go_sem] theorem g35 (b : Nat) (K : KT) (x1 x2 x3 x5 x7 x8 x9 x10 : PV) (S : Store) : execL (C b) 1 c33 K (ee x1 x2 x3 x5 x7 x8 x9 x10) S =
  withV (some x3) fun x13 =>
    withV (evLoad (tyi Try.prog 54) S x5) fun x14 =>
    withN (callO (callL Try.prog hints) S 44 [x14]) S fun x15 S =>
    withV (maxO [x13, x15]) fun x16 =>
    withV (some x16) fun x3 =>
    K .normal (ee x1 x2 x3 x5 x7 x8 x9 x10) S := nr (by kernel_rfl)
@[go_sem] theorem k34_n (b n0 : Nat) (e : Env) (S : Store) : k34 b n0 .normal e S = execL (C b) 1 c33 (k31 b n0) e S := nr (seqC_n _ _ _ _)
@[go_sem] theorem k34_ret (b n0 : Nat) (e : Env) (S : Store) : k34 b n0 .ret e S = (k31 b n0) .ret e S := nr (seqC_r _ _ _ _)
@[go_sem] theorem k34_exit (b n0 : Nat) (i : Nat) (e : Env) (S : Store) : k34 b n0 (.exit i) e S = (k31 b n0) (.exit i) e S := nr (seqC_x _ _ _ _ _)
theorem k34_l (b n0 : Nat) : seqC (fun e S => execL (C b) 1 c33 (k31 b n0) e S) (k31 b n0) = k34 b n0 := rfl
@[go_sem] theorem g36 (b : Nat) (K : KT) (x1 x2 x3 x5 x7 x8 x9 x10 : PV) (S : Store) : execL (C b) 1 c32 K (ee x1 x2 x3 x5 x7 x8 x9 x10) S =
  withV (indexAddrO Try.prog 52 S x7 x9) fun x11 =>
    withV (evLoad (tyi Try.prog 54) S x11) fun x12 =>
    withN (allocO (tyi Try.prog 54) (List.length S)) S fun x5 S =>
    withE (storeE (tyi Try.prog 54) S x5 x12) [(1, x1), (2, x2), (3, x3), (5, x5), (7, x7), (8, x8), (9, x9), (10, x10), (11, x11), (12, x12)] fun _u e1 S =>
    K .normal (ee (get e1 1) (get e1 2) (get e1 3) (get e1 5) (get e1 7) (get e1 8) (get e1 9) (get e1 10)) S := nr (by kernel_rfl)
@[go_sem] theorem k29_n (b n0 : Nat) (x1 x2 x3 x5 x7 x8 x9 x10 : PV) (S : Store) : k29 b n0 .normal (ee x1 x2 x3 x5 x7 x8 x9 x10) S =
  execL (C b) 1 c32 (k34 b n0) (ee x1 x2 x3 x5 x7 x8 x9 x10) S := nr ((show k29 b n0 .normal (ee x1 x2 x3 x5 x7 x8 x9 x10) S = execL (C b) 0 c25 (k27 b n0) (ee x1 x2 x3 x5 x7 x8 x9 x10) S from seqC_n _ _ _ _).trans ((show execL (C b) 0 c25 (k27 b n0) (ee x1 x2 x3 x5 x7 x8 x9 x10) S = execL (C b) 1 c30 (k31 b n0) (ee x1 x2 x3 x5 x7 x8 x9 x10) S from execL_block c25_h).trans ((enter_seq c30_h (k34_l b n0)).trans (rfl))))
@[go_sem] theorem k29_ret (b n0 : Nat) (e : Env) (S : Store) : k29 b n0 .ret e S = (k20 b n0) .ret e S := nr (seqC_r _ _ _ _)
@[go_sem] theorem k29_exit (b n0 : Nat) (i : Nat) (e : Env) (S : Store) : k29 b n0 (.exit i) e S = (k20 b n0) (.exit i) e S := nr (seqC_x _ _ _ _ _)
theorem k29_l (b n0 : Nat) : seqC (fun e S => execL (C b) 0 c24 (k20 b n0) e S) (k20 b n0) = k29 b n0 := link_seq c24_h (k27_l b n0)
noncomputable def k37 (b n0 : Nat) : KT := seqC (fun e S => execL (C b) 0 c23 (k29 b n0) e S) (k20 b n0)
noncomputable def c38 : Code := atT c23
noncomputable def c39 : Code := atF c23
theorem c23_h : c23 = .cond (.tmp 10) c38 c39 := by kernel_rfl
@[go_sem] theorem k37_n (b n0 : Nat) (x1 x2 x3 x5 x7 x8 x9 x10 : PV) (S : Store) : k37 b n0 .normal (ee x1 x2 x3 x5 x7 x8 x9 x10) S =
  condC x10 ((k29 b n0) .normal (ee x1 x2 x3 x5 x7 x8 x9 x10) S)
    ((k29 b n0) (.exit 0) (ee x1 x2 x3 x5 x7 x8 x9 x10) S) := nr ((show k37 b n0 .normal (ee x1 x2 x3 x5 x7 x8 x9 x10) S = execL (C b) 0 c23 (k29 b n0) (ee x1 x2 x3 x5 x7 x8 x9 x10) S from seqC_n _ _ _ _).trans (execL_cond c23_h (execL_skip (by kernel_rfl)) (execL_exit (by kernel_rfl)) rfl))
@[go_sem] theorem k37_ret (b n0 : Nat) (e : Env) (S : Store) : k37 b n0 .ret e S = (k20 b n0) .ret e S := nr (seqC_r _ _ _ _)
@[go_sem] theorem k37_exit (b n0 : Nat) (i : Nat) (e : Env) (S : Store) : k37 b n0 (.exit i) e S = (k20 b n0) (.exit i) e S := nr (seqC_x _ _ _ _ _)
theorem k37_l (b n0 : Nat) : seqC (fun e S => execL (C b) 0 c22 (k20 b n0) e S) (k20 b n0) = k37 b n0 := link_seq c22_h (k29_l b n0)
@[go_sem] theorem g40 (b : Nat) (K : KT) (x1 x2 x3 x5 x7 x8 x9 x10 : PV) (S : Store) : execL (C b) 0 c21 K (ee x1 x2 x3 x5 x7 x8 x9 x10) S =
  withV (evBin .lss (tyi Try.prog 3) x9 x8) fun x10 =>
    K .normal (ee x1 x2 x3 x5 x7 x8 x9 x10) S := nr (by kernel_rfl)
noncomputable def B0 (b n0 : Nat) (x1 x2 x3 x5 x7 x8 x9 x10 : PV) (S : Store) : RT := execL (C b) 0 c18 (k20 b n0) (ee x1 x2 x3 x5 x7 x8 x9 x10) S
@[go_sem] theorem B0_eq (b n0 : Nat) (x1 x2 x3 x5 x7 x8 x9 x10 : PV) (S : Store) : B0 b n0 x1 x2 x3 x5 x7 x8 x9 x10 S =
  execL (C b) 0 c21 (k37 b n0) (ee x1 x2 x3 x5 x7 x8 x9 x10) S := nr ((enter_seq c18_h (k37_l b n0)).trans (rfl))
theorem L0_step {b n0 : Nat} {x1 x2 x3 x5 x7 x8 x9 x10 : PV} {S : Store} {z : PV × Store} (h : B0 b n0 x1 x2 x3 x5 x7 x8 x9 x10 S = some z) : L0 b n0 x1 x2 x3 x5 x7 x8 x9 x10 S = some z := loopL_step h
theorem L0_in (b : Nat) (x1 x2 x3 x5 x7 x8 x9 x10 : PV) (S : Store) : execL (C b) 0 c16 (k17 b) (ee x1 x2 x3 x5 x7 x8 x9 x10) S = L0 b (List.length S) .undef .undef x3 .undef x7 x8 x9 .undef S := by kernel_rfl
@[go_sem] theorem k15_n (b : Nat) (x1 x2 x3 x5 x7 x8 x9 x10 : PV) (S : Store) : k15 b .normal (ee x1 x2 x3 x5 x7 x8 x9 x10) S =
  L0 b (List.length S) .undef .undef x3 .undef x7 x8 x9 .undef S := nr ((show k15 b .normal (ee x1 x2 x3 x5 x7 x8 x9 x10) S = execL (C b) 0 c14 (k10 b) (ee x1 x2 x3 x5 x7 x8 x9 x10) S from seqC_n _ _ _ _).trans ((show execL (C b) 0 c14 (k10 b) (ee x1 x2 x3 x5 x7 x8 x9 x10) S = execL (C b) 0 c16 (k17 b) (ee x1 x2 x3 x5 x7 x8 x9 x10) S from execL_block c14_h).trans (L0_in b x1 x2 x3 x5 x7 x8 x9 x10 S)))
@[go_sem] theorem k15_ret (b : Nat) (e : Env) (S : Store) : k15 b .ret e S = (k10 b) .ret e S := nr (seqC_r _ _ _ _)
@[go_sem] theorem k15_exit (b : Nat) (i : Nat) (e : Env) (S : Store) : k15 b (.exit i) e S = (k10 b) (.exit i) e S := nr (seqC_x _ _ _ _ _)
theorem k15_l (b : Nat) : seqC (fun e S => execL (C b) 0 c14 (k10 b) e S) (k10 b) = k15 b := rfl
@[go_sem] theorem g42 (b : Nat) (K : KT) (x1 x2 x3 x5 x7 x8 x9 x10 : PV) (S : Store) : execL (C b) 0 c13 K (ee x1 x2 x3 x5 x7 x8 x9 x10) S =
  withV (evFieldAddr (tyi Try.prog 54) 3 x1) fun x6 =>
    withV (evLoad (tyi Try.prog 52) S x6) fun x7 =>
    withV (lenO (tyi Try.prog 52) x7) fun x8 =>
    withV (some (.int .i64 0)) fun x9 =>
    K .normal (ee x1 x2 x3 x5 x7 x8 x9 x10) S := nr (by kernel_rfl)
@[go_sem] theorem k12_n (b : Nat) (x1 x2 x3 x5 x7 x8 x9 x10 : PV) (S : Store) : k12 b .normal (ee x1 x2 x3 x5 x7 x8 x9 x10) S =
  execL (C b) 0 c13 (k15 b) (ee x1 x2 x3 x5 x7 x8 x9 x10) S := nr ((show k12 b .normal (ee x1 x2 x3 x5 x7 x8 x9 x10) S = execL (C b) 0 c5 (k10 b) (ee x1 x2 x3 x5 x7 x8 x9 x10) S from seqC_n _ _ _ _).trans ((enter_seq c5_h (k15_l b)).trans (rfl)))
@[go_sem] theorem k12_ret (b : Nat) (e : Env) (S : Store) : k12 b .ret e S = (k0 b) .ret e S := nr (seqC_r _ _ _ _)
@[go_sem] theorem k12_exit (b : Nat) (i : Nat) (e : Env) (S : Store) : k12 b (.exit i) e S = (k0 b) (.exit i) e S := nr (seqC_x _ _ _ _ _)
theorem k12_l (b : Nat) : seqC (fun e S => execL (C b) 0 c4 (k0 b) e S) (k0 b) = k12 b := link_seq c4_h (k10_l b)
noncomputable def k43 (b : Nat) : KT := seqC (fun e S => execL (C b) 0 c3 (k12 b) e S) (k0 b)
@[go_sem] theorem g44 (b : Nat) (K : KT) (x1 x2 x3 x5 x7 x8 x9 x10 : PV) (S : Store) : execL (C b) 0 c3 K (ee x1 x2 x3 x5 x7 x8 x9 x10) S =
  withV (some (.int .i64 0)) fun x3 =>
    K .normal (ee x1 x2 x3 x5 x7 x8 x9 x10) S := nr (by kernel_rfl)
@[go_sem] theorem k43_n (b : Nat) (e : Env) (S : Store) : k43 b .normal e S = execL (C b) 0 c3 (k12 b) e S := nr (seqC_n _ _ _ _)
@[go_sem] theorem k43_ret (b : Nat) (e : Env) (S : Store) : k43 b .ret e S = (k0 b) .ret e S := nr (seqC_r _ _ _ _)
@[go_sem] theorem k43_exit (b : Nat) (i : Nat) (e : Env) (S : Store) : k43 b (.exit i) e S = (k0 b) (.exit i) e S := nr (seqC_x _ _ _ _ _)
theorem k43_l (b : Nat) : seqC (fun e S => execL (C b) 0 c2 (k0 b) e S) (k0 b) = k43 b := link_seq c2_h (k12_l b)
@[go_sem] theorem g45 (b : Nat) (K : KT) (x0 : PV) (S : Store) : execL (C b) 0 c1 K [(0, x0)] S =
  withN (boxed S (List.length S) (TI.size (tyi Try.prog 54)) x0) S fun x1 S =>
    withV (some (.int .i64 0)) fun x2 =>
    K .normal (ee x1 x2 .undef .undef .undef .undef .undef .undef) S := nr (by kernel_rfl)
noncomputable def E (b : Nat) (x0 : PV) (S : Store) : RT := execL (C b) 0 code (k0 b) [(0, x0)] S
@[go_sem] theorem E_eq (b : Nat) (x0 : PV) (S : Store) : E b x0 S =
  execL (C b) 0 c1 (k43 b) [(0, x0)] S := nr ((enter_seq code_h (k43_l b)).trans (rfl))
theorem callR {x0 : PV} {S : Store} {r : PV × Store} (h : E S.length x0 S = some r) : callRL Try.prog hints 44 [x0] S = some r := callRL_of (fn := Try.f44) (c := code) (by kernel_rfl) (by kernel_rfl) (by decide) (by kernel_rfl) (Nat.le_of_ble_eq_true (by kernel_rfl)) h
theorem call {x0 : PV} {r : PV × Store} {v : PV} (h : E 0 x0 [] = some r) (hv : fzPV r.2 r.1 = some v) : callL Try.prog hints 44 [x0] = some v := callL_of (fn := Try.f44) (c := code) (by kernel_rfl) (by kernel_rfl) (by decide) (by kernel_rfl) (Nat.le_of_ble_eq_true (by kernel_rfl)) h hv
end F44
/-! ### isochroneref08.Levels -/
namespace F45
def hint : Hint := { keep := [1, 2, 3, 4, 9], loops := [(0, { live := [1, 3, 4], after := [3], own := [], fz := [] })] }
noncomputable def C (b : Nat) : Ctx := ctxL Try.prog hints b hint
noncomputable def code : Code := Try.f45.body.get rfl
noncomputable def k0 (b : Nat) : KT := endC Try.prog Try.f45
def ee (x1 x2 x3 x4 x9 : PV) : Env := [(1, x1), (2, x2), (3, x3), (4, x4), (9, x9)]
@[go_sem] theorem gc_ee (n : Nat) (x1 x2 x3 x4 x9 : PV) (S : Store) : gc n (ee x1 x2 x3 x4 x9) S = gc n [(1, x1), (2, x2), (3, x3), (4, x4), (9, x9)] S := nr (rfl)
@[go_sem] theorem k0_ret (b : Nat) (x1 x2 x3 x4 x9 : PV) (S : Store) : k0 b .ret (ee x1 x2 x3 x4 x9) S = some (x2, S) := nr (by kernel_rfl)
@[go_sem] theorem k0_n (b : Nat) (x1 x2 x3 x4 x9 : PV) (S : Store) : k0 b .normal (ee x1 x2 x3 x4 x9) S = some (x2, S) := nr (by kernel_rfl)
noncomputable def c1 : Code := at0 code
noncomputable def c2 : Code := at1 code
theorem code_h : code = .seq c1 c2 := by kernel_rfl
noncomputable def c3 : Code := at0 c2
noncomputable def c4 : Code := at1 c2
theorem c2_h : c2 = .seq c3 c4 := by kernel_rfl
noncomputable def c5 : Code := at0 c4
noncomputable def c6 : Code := at1 c4
theorem c4_h : c4 = .seq c5 c6 := by kernel_rfl
noncomputable def c7 : Code := at0 c6
noncomputable def c8 : Code := at1 c6
theorem c6_h : c6 = .seq c7 c8 := by kernel_rfl
noncomputable def k9 (b : Nat) : KT := seqC (fun e S => execL (C b) 0 c8 (k0 b) e S) (k0 b)
@[go_sem] theorem k9_n (b : Nat) (x1 x2 x3 x4 x9 : PV) (S : Store) : k9 b .normal (ee x1 x2 x3 x4 x9) S =
  (k0 b) .ret (ee x1 x2 x3 x4 x9) S := nr ((show k9 b .normal (ee x1 x2 x3 x4 x9) S = execL (C b) 0 c8 (k0 b) (ee x1 x2 x3 x4 x9) S from seqC_n _ _ _ _).trans (execL_ret (by kernel_rfl)))
@[go_sem] theorem k9_ret (b : Nat) (e : Env) (S : Store) : k9 b .ret e S = (k0 b) .ret e S := nr (seqC_r _ _ _ _)
@[go_sem] theorem k9_exit (b : Nat) (i : Nat) (e : Env) (S : Store) : k9 b (.exit i) e S = (k0 b) (.exit i) e S := nr (seqC_x _ _ _ _ _)
theorem k9_l (b : Nat) : seqC (fun e S => execL (C b) 0 c8 (k0 b) e S) (k0 b) = k9 b := rfl
noncomputable def k10 (b : Nat) : KT := seqC (fun e S => execL (C b) 0 c7 (k9 b) e S) (k0 b)
@[go_sem] theorem g11 (b : Nat) (K : KT) (x1 x2 x3 x4 x9 : PV) (S : Store) : execL (C b) 0 c7 K (ee x1 x2 x3 x4 x9) S =
  withV (some x3) fun x20 =>
    withV (evBin .add (tyi Try.prog 3) x20 (.int .i64 1)) fun x21 =>
    withV (some x21) fun x2 =>
    K .normal (ee x1 x2 x3 x4 x9) S := nr (by kernel_rfl)
@[go_sem] theorem k10_n (b : Nat) (e : Env) (S : Store) : k10 b .normal e S = execL (C b) 0 c7 (k9 b) e S := nr (seqC_n _ _ _ _)
@[go_sem] theorem k10_ret (b : Nat) (e : Env) (S : Store) : k10 b .ret e S = (k0 b) .ret e S := nr (seqC_r _ _ _ _)
@[go_sem] theorem k10_exit (b : Nat) (i : Nat) (e : Env) (S : Store) : k10 b (.exit i) e S = (k0 b) (.exit i) e S := nr (seqC_x _ _ _ _ _)
theorem k10_l (b : Nat) : seqC (fun e S => execL (C b) 0 c6 (k0 b) e S) (k0 b) = k10 b := link_seq c6_h (k9_l b)
noncomputable def k12 (b : Nat) : KT := seqC (fun e S => execL (C b) 0 c5 (k10 b) e S) (k0 b)
noncomputable def c13 : Code := at0 c5
noncomputable def c14 : Code := at1 c5
theorem c5_h : c5 = .seq c13 c14 := by kernel_rfl
noncomputable def k15 (b : Nat) : KT := seqC (fun e S => execL (C b) 0 c14 (k10 b) e S) (k10 b)
noncomputable def c16 : Code := atB c14
theorem c14_h : c14 = .block 0 c16 := by kernel_rfl
noncomputable def k17 (b : Nat) : KT := blockC 0 (k10 b)
@[go_sem] theorem k17_n (b : Nat) (e : Env) (S : Store) : k17 b .normal e S = (k10 b) .normal e S := nr (blockC_n _ _ _ _)
@[go_sem] theorem k17_ret (b : Nat) (e : Env) (S : Store) : k17 b .ret e S = (k10 b) .ret e S := nr (blockC_r _ _ _ _)
@[go_sem] theorem k17_exit (b : Nat) (i : Nat) (e : Env) (S : Store) : k17 b (.exit i) e S = if i = 0 then (k10 b) .normal e S else (k10 b) (.exit i) e S := nr (blockC_x _ _ _ _ _)
noncomputable def c18 : Code := atL c16
noncomputable def k19 (b n0 : Nat) : KT := afterC 0 n0 [3] (k17 b)
noncomputable def L0g (b n0 : Nat) (e : Env) (S : Store) : RT := loopL (fun K e S => execL (C b) 0 c18 K e S) (normG [1, 3, 4] [] n0) (k19 b n0) e S
noncomputable def L0 (b n0 : Nat) (x1 x2 x3 x4 x9 : PV) (S : Store) : RT := L0g b n0 (ee x1 x2 x3 x4 x9) S
noncomputable def k20 (b n0 : Nat) : KT := stepC (normG [1, 3, 4] [] n0) (k19 b n0) (L0g b n0)
@[go_sem] theorem k20_n (b n0 : Nat) (x1 x2 x3 x4 x9 : PV) (S : Store) : k20 b n0 .normal (ee x1 x2 x3 x4 x9) S = L0 b n0 x1 .undef x3 x4 .undef (gc n0 (ee x1 .undef x3 x4 .undef) S) := nr (by kernel_rfl)
@[go_sem] theorem k20_ret (b n0 : Nat) (e : Env) (S : Store) : k20 b n0 .ret e S = (k17 b) .ret e S := nr ((show k20 b n0 .ret e S = (k19 b n0) .ret e S from stepC_r _ _ _ _ _).trans (afterC_r _ _ _ _ _ _))
@[go_sem] theorem k20_x (b n0 : Nat) (x1 x2 x3 x4 x9 : PV) (S : Store) : k20 b n0 (.exit 0) (ee x1 x2 x3 x4 x9) S = (k17 b) (.exit 0) (ee .undef .undef x3 .undef .undef) (gc n0 (ee .undef .undef x3 .undef .undef) S) := nr ((show k20 b n0 (.exit 0) (ee x1 x2 x3 x4 x9) S = (k19 b n0) (.exit 0) (ee x1 x2 x3 x4 x9) S from stepC_x _ _ _ _ _ _).trans ((show (k19 b n0) (.exit 0) (ee x1 x2 x3 x4 x9) S = _ from afterC_x _ _ _ _ _ _ _).trans (if_pos rfl)))
theorem k20_o (b n0 : Nat) (i : Nat) (e : Env) (S : Store) (h : i ≠ 0) : k20 b n0 (.exit i) e S = (k17 b) (.exit i) e S := (show k20 b n0 (.exit i) e S = (k19 b n0) (.exit i) e S from stepC_x _ _ _ _ _ _).trans ((show (k19 b n0) (.exit i) e S = _ from afterC_x _ _ _ _ _ _ _).trans (if_neg h))
noncomputable def c21 : Code := at0 c18
noncomputable def c22 : Code := at1 c18
theorem c18_h : c18 = .seq c21 c22 := by kernel_rfl
noncomputable def c23 : Code := at0 c22
noncomputable def c24 : Code := at1 c22
theorem c22_h : c22 = .seq c23 c24 := by kernel_rfl
noncomputable def k25 (b n0 : Nat) : KT := seqC (fun e S => execL (C b) 0 c24 (k20 b n0) e S) (k20 b n0)
@[go_sem] theorem g26 (b : Nat) (K : KT) (x1 x2 x3 x4 x9 : PV) (S : Store) : execL (C b) 0 c24 K (ee x1 x2 x3 x4 x9) S =
  withV (some x4) fun x10 =>
    withV (evBin .add (tyi Try.prog 3) x10 (.int .i64 1)) fun x11 =>
    withV (some x11) fun x4 =>
    K .normal (ee x1 x2 x3 x4 x9) S := nr (by kernel_rfl)
@[go_sem] theorem k25_n (b n0 : Nat) (e : Env) (S : Store) : k25 b n0 .normal e S = execL (C b) 0 c24 (k20 b n0) e S := nr (seqC_n _ _ _ _)
@[go_sem] theorem k25_ret (b n0 : Nat) (e : Env) (S : Store) : k25 b n0 .ret e S = (k20 b n0) .ret e S := nr (seqC_r _ _ _ _)
@[go_sem] theorem k25_exit (b n0 : Nat) (i : Nat) (e : Env) (S : Store) : k25 b n0 (.exit i) e S = (k20 b n0) (.exit i) e S := nr (seqC_x _ _ _ _ _)
theorem k25_l (b n0 : Nat) : seqC (fun e S => execL (C b) 0 c24 (k20 b n0) e S) (k20 b n0) = k25 b n0 := rfl
noncomputable def k27 (b n0 : Nat) : KT := seqC (fun e S => execL (C b) 0 c23 (k25 b n0) e S) (k20 b n0)
noncomputable def c28 : Code := atB c23
theorem c23_h : c23 = .block 1 c28 := by kernel_rfl
noncomputable def k29 (b n0 : Nat) : KT := blockC 1 (k25 b n0)
@[go_sem] theorem k29_n (b n0 : Nat) (e : Env) (S : Store) : k29 b n0 .normal e S = (k25 b n0) .normal e S := nr (blockC_n _ _ _ _)
@[go_sem] theorem k29_ret (b n0 : Nat) (e : Env) (S : Store) : k29 b n0 .ret e S = (k25 b n0) .ret e S := nr (blockC_r _ _ _ _)
@[go_sem] theorem k29_exit (b n0 : Nat) (i : Nat) (e : Env) (S : Store) : k29 b n0 (.exit i) e S = if i = 1 then (k25 b n0) .normal e S else (k25 b n0) (.exit i) e S := nr (blockC_x _ _ _ _ _)
@[go_sem] theorem g30 (b : Nat) (K : KT) (x1 x2 x3 x4 x9 : PV) (S : Store) : execL (C b) 1 c28 K (ee x1 x2 x3 x4 x9) S =
  withV (some x3) fun x12 =>
    withV (evFieldAddr (tyi Try.prog 54) 3 x1) fun x13 =>
    withV (evLoad (tyi Try.prog 52) S x13) fun x14 =>
    withV (some x4) fun x15 =>
    withV (indexAddrO Try.prog 52 S x14 x15) fun x16 =>
    withV (evLoad (tyi Try.prog 54) S x16) fun x17 =>
    withN (callO (callL Try.prog hints) S 45 [x17]) S fun x18 S =>
    withV (maxO [x12, x18]) fun x19 =>
    withV (some x19) fun x3 =>
    K .normal (ee x1 x2 x3 x4 x9) S := nr (by kernel_rfl)
@[go_sem] theorem k27_n (b n0 : Nat) (x1 x2 x3 x4 x9 : PV) (S : Store) : k27 b n0 .normal (ee x1 x2 x3 x4 x9) S =
  execL (C b) 1 c28 (k29 b n0) (ee x1 x2 x3 x4 x9) S := nr ((show k27 b n0 .normal (ee x1 x2 x3 x4 x9) S = execL (C b) 0 c23 (k25 b n0) (ee x1 x2 x3 x4 x9) S from seqC_n _ _ _ _).trans ((show execL (C b) 0 c23 (k25 b n0) (ee x1 x2 x3 x4 x9) S = execL (C b) 1 c28 (k29 b n0) (ee x1 x2 x3 x4 x9) S from execL_block c23_h).trans (rfl)))
@[go_sem] theorem k27_ret (b n0 : Nat) (e : Env) (S : Store) : k27 b n0 .ret e S = (k20 b n0) .ret e S := nr (seqC_r _ _ _ _)
@[go_sem] theorem k27_exit (b n0 : Nat) (i : Nat) (e : Env) (S : Store) : k27 b n0 (.exit i) e S = (k20 b n0) (.exit i) e S := nr (seqC_x _ _ _ _ _)
theorem k27_l (b n0 : Nat) : seqC (fun e S => execL (C b) 0 c22 (k20 b n0) e S) (k20 b n0) = k27 b n0 := link_seq c22_h (k25_l b n0)
noncomputable def c31 : Code := at0 c21
noncomputable def c32 : Code := at1 c21
theorem c21_h : c21 = .seq c31 c32 := by kernel_rfl
noncomputable def k33 (b n0 : Nat) : KT := seqC (fun e S => execL (C b) 0 c32 (k27 b n0) e S) (k27 b n0)
noncomputable def c34 : Code := atT c32
noncomputable def c35 : Code := atF c32
theorem c32_h : c32 = .cond (.tmp 9) c34 c35 := by kernel_rfl
@[go_sem] theorem k33_n (b n0 : Nat) (x1 x2 x3 x4 x9 : PV) (S : Store) : k33 b n0 .normal (ee x1 x2 x3 x4 x9) S =
  condC x9 ((k27 b n0) .normal (ee x1 x2 x3 x4 x9) S)
    ((k27 b n0) (.exit 0) (ee x1 x2 x3 x4 x9) S) := nr ((show k33 b n0 .normal (ee x1 x2 x3 x4 x9) S = execL (C b) 0 c32 (k27 b n0) (ee x1 x2 x3 x4 x9) S from seqC_n _ _ _ _).trans (execL_cond c32_h (execL_skip (by kernel_rfl)) (execL_exit (by kernel_rfl)) rfl))
@[go_sem] theorem k33_ret (b n0 : Nat) (e : Env) (S : Store) : k33 b n0 .ret e S = (k27 b n0) .ret e S := nr (seqC_r _ _ _ _)
@[go_sem] theorem k33_exit (b n0 : Nat) (i : Nat) (e : Env) (S : Store) : k33 b n0 (.exit i) e S = (k27 b n0) (.exit i) e S := nr (seqC_x _ _ _ _ _)
theorem k33_l (b n0 : Nat) : seqC (fun e S => execL (C b) 0 c32 (k27 b n0) e S) (k27 b n0) = k33 b n0 := rfl
@[go_sem] theorem g36 (b : Nat) (K : KT) (x1 x2 x3 x4 x9 : PV) (S : Store) : execL (C b) 0 c31 K (ee x1 x2 x3 x4 x9) S =
  withV (some x4) fun x5 =>
    withV (evFieldAddr (tyi Try.prog 54) 3 x1) fun x6 =>
    withV (evLoad (tyi Try.prog 52) S x6) fun x7 =>
    withV (lenO (tyi Try.prog 52) x7) fun x8 =>
    withV (evBin .lss (tyi Try.prog 3) x5 x8) fun x9 =>
    K .normal (ee x1 x2 x3 x4 x9) S := nr (by kernel_rfl)
noncomputable def B0 (b n0 : Nat) (x1 x2 x3 x4 x9 : PV) (S : Store) : RT := execL (C b) 0 c18 (k20 b n0) (ee x1 x2 x3 x4 x9) S
@[go_sem] theorem B0_eq (b n0 : Nat) (x1 x2 x3 x4 x9 : PV) (S : Store) : B0 b n0 x1 x2 x3 x4 x9 S =
  execL (C b) 0 c31 (k33 b n0) (ee x1 x2 x3 x4 x9) S := nr ((enter_seq c18_h (k27_l b n0)).trans ((enter_seq c21_h (k33_l b n0)).trans (rfl)))
theorem L0_step {b n0 : Nat} {x1 x2 x3 x4 x9 : PV} {S : Store} {z : PV × Store} (h : B0 b n0 x1 x2 x3 x4 x9 S = some z) : L0 b n0 x1 x2 x3 x4 x9 S = some z := loopL_step h
theorem L0_in (b : Nat) (x1 x2 x3 x4 x9 : PV) (S : Store) : execL (C b) 0 c16 (k17 b) (ee x1 x2 x3 x4 x9) S = L0 b (List.length S) x1 .undef x3 x4 .undef S := by kernel_rfl
@[go_sem] theorem k15_n (b : Nat) (x1 x2 x3 x4 x9 : PV) (S : Store) : k15 b .normal (ee x1 x2 x3 x4 x9) S =
  L0 b (List.length S) x1 .undef x3 x4 .undef S := nr ((show k15 b .normal (ee x1 x2 x3 x4 x9) S = execL (C b) 0 c14 (k10 b) (ee x1 x2 x3 x4 x9) S from seqC_n _ _ _ _).trans ((show execL (C b) 0 c14 (k10 b) (ee x1 x2 x3 x4 x9) S = execL (C b) 0 c16 (k17 b) (ee x1 x2 x3 x4 x9) S from execL_block c14_h).trans (L0_in b x1 x2 x3 x4 x9 S)))
@[go_sem] theorem k15_ret (b : Nat) (e : Env) (S : Store) : k15 b .ret e S = (k10 b) .ret e S := nr (seqC_r _ _ _ _)
@[go_sem] theorem k15_exit (b : Nat) (i : Nat) (e : Env) (S : Store) : k15 b (.exit i) e S = (k10 b) (.exit i) e S := nr (seqC_x _ _ _ _ _)
theorem k15_l (b : Nat) : seqC (fun e S => execL (C b) 0 c14 (k10 b) e S) (k10 b) = k15 b := rfl
@[go_sem] theorem g38 (b : Nat) (K : KT) (x1 x2 x3 x4 x9 : PV) (S : Store) : execL (C b) 0 c13 K (ee x1 x2 x3 x4 x9) S =
  withV (some (.int .i64 0)) fun x4 =>
    K .normal (ee x1 x2 x3 x4 x9) S := nr (by kernel_rfl)
@[go_sem] theorem k12_n (b : Nat) (x1 x2 x3 x4 x9 : PV) (S : Store) : k12 b .normal (ee x1 x2 x3 x4 x9) S =
  execL (C b) 0 c13 (k15 b) (ee x1 x2 x3 x4 x9) S := nr ((show k12 b .normal (ee x1 x2 x3 x4 x9) S = execL (C b) 0 c5 (k10 b) (ee x1 x2 x3 x4 x9) S from seqC_n _ _ _ _).trans ((enter_seq c5_h (k15_l b)).trans (rfl)))
@[go_sem] theorem k12_ret (b : Nat) (e : Env) (S : Store) : k12 b .ret e S = (k0 b) .ret e S := nr (seqC_r _ _ _ _)
@[go_sem] theorem k12_exit (b : Nat) (i : Nat) (e : Env) (S : Store) : k12 b (.exit i) e S = (k0 b) (.exit i) e S := nr (seqC_x _ _ _ _ _)
theorem k12_l (b : Nat) : seqC (fun e S => execL (C b) 0 c4 (k0 b) e S) (k0 b) = k12 b := link_seq c4_h (k10_l b)
noncomputable def k39 (b : Nat) : KT := seqC (fun e S => execL (C b) 0 c3 (k12 b) e S) (k0 b)
@[go_sem] theorem g40 (b : Nat) (K : KT) (x1 x2 x3 x4 x9 : PV) (S : Store) : execL (C b) 0 c3 K (ee x1 x2 x3 x4 x9) S =
  withV (some (.int .i64 0)) fun x3 =>
    K .normal (ee x1 x2 x3 x4 x9) S := nr (by kernel_rfl)
@[go_sem] theorem k39_n (b : Nat) (e : Env) (S : Store) : k39 b .normal e S = execL (C b) 0 c3 (k12 b) e S := nr (seqC_n _ _ _ _)
@[go_sem] theorem k39_ret (b : Nat) (e : Env) (S : Store) : k39 b .ret e S = (k0 b) .ret e S := nr (seqC_r _ _ _ _)
@[go_sem] theorem k39_exit (b : Nat) (i : Nat) (e : Env) (S : Store) : k39 b (.exit i) e S = (k0 b) (.exit i) e S := nr (seqC_x _ _ _ _ _)
theorem k39_l (b : Nat) : seqC (fun e S => execL (C b) 0 c2 (k0 b) e S) (k0 b) = k39 b := link_seq c2_h (k12_l b)
@[go_sem] theorem g41 (b : Nat) (K : KT) (x0 : PV) (S : Store) : execL (C b) 0 c1 K [(0, x0)] S =
  withN (boxed S (List.length S) (TI.size (tyi Try.prog 54)) x0) S fun x1 S =>
    withV (some (.int .i64 0)) fun x2 =>
    K .normal (ee x1 x2 .undef .undef .undef) S := nr (by kernel_rfl)
noncomputable def E (b : Nat) (x0 : PV) (S : Store) : RT := execL (C b) 0 code (k0 b) [(0, x0)] S
@[go_sem] theorem E_eq (b : Nat) (x0 : PV) (S : Store) : E b x0 S =
  execL (C b) 0 c1 (k39 b) [(0, x0)] S := nr ((enter_seq code_h (k39_l b)).trans (rfl))
theorem callR {x0 : PV} {S : Store} {r : PV × Store} (h : E S.length x0 S = some r) : callRL Try.prog hints 45 [x0] S = some r := callRL_of (fn := Try.f45) (c := code) (by kernel_rfl) (by kernel_rfl) (by decide) (by kernel_rfl) (Nat.le_of_ble_eq_true (by kernel_rfl)) h
theorem call {x0 : PV} {r : PV × Store} {v : PV} (h : E 0 x0 [] = some r) (hv : fzPV r.2 r.1 = some v) : callL Try.prog hints 45 [x0] = some v := callL_of (fn := Try.f45) (c := code) (by kernel_rfl) (by kernel_rfl) (by decide) (by kernel_rfl) (Nat.le_of_ble_eq_true (by kernel_rfl)) h hv
end F45
/-! ### tree.Compare -/
namespace F42
def hint : Hint := { keep := [2, 3, 4, 5, 6, 7, 8, 9, 21, 33, 53, 63, 71, 82, 83, 84, 98], loops := [(1, { live := [2, 3, 82, 83], after := [], own := [], fz := [] })] }
noncomputable def C (b : Nat) : Ctx := ctxL Try.prog hints b hint
noncomputable def code : Code := Try.f42.body.get rfl
noncomputable def k0 (b : Nat) : KT := endC Try.prog Try.f42
def ee (x2 x3 x4 x5 x6 x7 x8 x9 x21 x33 x53 x63 x71 x82 x83 x84 x98 : PV) : Env := [(2, x2), (3, x3), (4, x4), (5, x5), (6, x6), (7, x7), (8, x8), (9, x9), (21, x21), (33, x33), (53, x53), (63, x63), (71, x71), (82, x82), (83, x83), (84, x84), (98, x98)]
@[go_sem] theorem gc_ee (n : Nat) (x2 x3 x4 x5 x6 x7 x8 x9 x21 x33 x53 x63 x71 x82 x83 x84 x98 : PV) (S : Store) : gc n (ee x2 x3 x4 x5 x6 x7 x8 x9 x21 x33 x53 x63 x71 x82 x83 x84 x98) S = gc n [(2, x2), (3, x3), (4, x4), (5, x5), (6, x6), (7, x7), (8, x8), (9, x9), (21, x21), (33, x33), (53, x53), (63, x63), (71, x71), (82, x82), (83, x83), (84, x84), (98, x98)] S := nr (rfl)
@[go_sem] theorem k0_ret (b : Nat) (x2 x3 x4 x5 x6 x7 x8 x9 x21 x33 x53 x63 x71 x82 x83 x84 x98 : PV) (S : Store) : k0 b .ret (ee x2 x3 x4 x5 x6 x7 x8 x9 x21 x33 x53 x63 x71 x82 x83 x84 x98) S = some (x4, S) := nr (by kernel_rfl)
@[go_sem] theorem k0_n (b : Nat) (x2 x3 x4 x5 x6 x7 x8 x9 x21 x33 x53 x63 x71 x82 x83 x84 x98 : PV) (S : Store) : k0 b .normal (ee x2 x3 x4 x5 x6 x7 x8 x9 x21 x33 x53 x63 x71 x82 x83 x84 x98) S = some (x4, S) := nr (by kernel_rfl)
noncomputable def c1 : Code := at0 code
noncomputable def c2 : Code := at1 code
theorem code_h : code = .seq c1 c2 := by kernel_rfl
noncomputable def c3 : Code := at0 c2
noncomputable def c4 : Code := at1 c2
theorem c2_h : c2 = .seq c3 c4 := by kernel_rfl
noncomputable def c5 : Code := at0 c4
noncomputable def c6 : Code := at1 c4
theorem c4_h : c4 = .seq c5 c6 := by kernel_rfl
noncomputable def c7 : Code := at0 c6
noncomputable def c8 : Code := at1 c6
theorem c6_h : c6 = .seq c7 c8 := by kernel_rfl
noncomputable def c9 : Code := at0 c8
noncomputable def c10 : Code := at1 c8
theorem c8_h : c8 = .seq c9 c10 := by kernel_rfl
noncomputable def c11 : Code := at0 c10
noncomputable def c12 : Code := at1 c10
theorem c10_h : c10 = .seq c11 c12 := by kernel_rfl
noncomputable def c13 : Code := at0 c12
noncomputable def c14 : Code := at1 c12
theorem c12_h : c12 = .seq c13 c14 := by kernel_rfl
noncomputable def k15 (b : Nat) : KT := seqC (fun e S => execL (C b) 0 c14 (k0 b) e S) (k0 b)
@[go_sem] theorem k15_n (b : Nat) (x2 x3 x4 x5 x6 x7 x8 x9 x21 x33 x53 x63 x71 x82 x83 x84 x98 : PV) (S : Store) : k15 b .normal (ee x2 x3 x4 x5 x6 x7 x8 x9 x21 x33 x53 x63 x71 x82 x83 x84 x98) S =
  (k0 b) .ret (ee x2 x3 x4 x5 x6 x7 x8 x9 x21 x33 x53 x63 x71 x82 x83 x84 x98) S := nr ((show k15 b .normal (ee x2 x3 x4 x5 x6 x7 x8 x9 x21 x33 x53 x63 x71 x82 x83 x84 x98) S = execL (C b) 0 c14 (k0 b) (ee x2 x3 x4 x5 x6 x7 x8 x9 x21 x33 x53 x63 x71 x82 x83 x84 x98) S from seqC_n _ _ _ _).trans (execL_ret (by kernel_rfl)))
@[go_sem] theorem k15_ret (b : Nat) (e : Env) (S : Store) : k15 b .ret e S = (k0 b) .ret e S := nr (seqC_r _ _ _ _)
@[go_sem] theorem k15_exit (b : Nat) (i : Nat) (e : Env) (S : Store) : k15 b (.exit i) e S = (k0 b) (.exit i) e S := nr (seqC_x _ _ _ _ _)
theorem k15_l (b : Nat) : seqC (fun e S => execL (C b) 0 c14 (k0 b) e S) (k0 b) = k15 b := rfl
noncomputable def k16 (b : Nat) : KT := seqC (fun e S => execL (C b) 0 c13 (k15 b) e S) (k0 b)
@[go_sem] theorem g17 (b : Nat) (K : KT) (x2 x3 x4 x5 x6 x7 x8 x9 x21 x33 x53 x63 x71 x82 x83 x84 x98 : PV) (S : Store) : execL (C b) 0 c13 K (ee x2 x3 x4 x5 x6 x7 x8 x9 x21 x33 x53 x63 x71 x82 x83 x84 x98) S =
  withV (some (.int .i64 0)) fun x4 =>
    K .normal (ee x2 x3 x4 x5 x6 x7 x8 x9 x21 x33 x53 x63 x71 x82 x83 x84 x98) S := nr (by kernel_rfl)
@[go_sem] theorem k16_n (b : Nat) (e : Env) (S : Store) : k16 b .normal e S = execL (C b) 0 c13 (k15 b) e S := nr (seqC_n _ _ _ _)
@[go_sem] theorem k16_ret (b : Nat) (e : Env) (S : Store) : k16 b .ret e S = (k0 b) .ret e S := nr (seqC_r _ _ _ _)
@[go_sem] theorem k16_exit (b : Nat) (i : Nat) (e : Env) (S : Store) : k16 b (.exit i) e S = (k0 b) (.exit i) e S := nr (seqC_x _ _ _ _ _)
theorem k16_l (b : Nat) : seqC (fun e S => execL (C b) 0 c12 (k0 b) e S) (k0 b) = k16 b := link_seq c12_h (k15_l b)
noncomputable def k18 (b : Nat) : KT := seqC (fun e S => execL (C b) 0 c11 (k16 b) e S) (k0 b)
noncomputable def c19 : Code := at0 c11
noncomputable def c20 : Code := at1 c11
theorem c11_h : c11 = .seq c19 c20 := by kernel_rfl
noncomputable def k21 (b : Nat) : KT := seqC (fun e S => execL (C b) 0 c20 (k16 b) e S) (k16 b)
noncomputable def c22 : Code := atB c20
theorem c20_h : c20 = .block 1 c22 := by kernel_rfl
noncomputable def k23 (b : Nat) : KT := blockC 1 (k16 b)
@[go_sem] theorem k23_n (b : Nat) (e : Env) (S : Store) : k23 b .normal e S = (k16 b) .normal e S := nr (blockC_n _ _ _ _)
@[go_sem] theorem k23_ret (b : Nat) (e : Env) (S : Store) : k23 b .ret e S = (k16 b) .ret e S := nr (blockC_r _ _ _ _)
@[go_sem] theorem k23_exit (b : Nat) (i : Nat) (e : Env) (S : Store) : k23 b (.exit i) e S = if i = 1 then (k16 b) .normal e S else (k16 b) (.exit i) e S := nr (blockC_x _ _ _ _ _)
noncomputable def c24 : Code := atL c22
noncomputable def k25 (b n1 : Nat) : KT := afterC 1 n1 [] (k23 b)
noncomputable def L1g (b n1 : Nat) (e : Env) (S : Store) : RT := loopL (fun K e S => execL (C b) 1 c24 K e S) (normG [2, 3, 82, 83] [] n1) (k25 b n1) e S
noncomputable def L1 (b n1 : Nat) (x2 x3 x4 x5 x6 x7 x8 x9 x21 x33 x53 x63 x71 x82 x83 x84 x98 : PV) (S : Store) : RT := L1g b n1 (ee x2 x3 x4 x5 x6 x7 x8 x9 x21 x33 x53 x63 x71 x82 x83 x84 x98) S
noncomputable def k26 (b n1 : Nat) : KT := stepC (normG [2, 3, 82, 83] [] n1) (k25 b n1) (L1g b n1)
@[go_sem] theorem k26_n (b n1 : Nat) (x2 x3 x4 x5 x6 x7 x8 x9 x21 x33 x53 x63 x71 x82 x83 x84 x98 : PV) (S : Store) : k26 b n1 .normal (ee x2 x3 x4 x5 x6 x7 x8 x9 x21 x33 x53 x63 x71 x82 x83 x84 x98) S = L1 b n1 x2 x3 .undef .undef .undef .undef .undef .undef .undef .undef .undef .undef .undef x82 x83 .undef .undef (gc n1 (ee x2 x3 .undef .undef .undef .undef .undef .undef .undef .undef .undef .undef .undef x82 x83 .undef .undef) S) := nr (by kernel_rfl)
@[go_sem] theorem k26_ret (b n1 : Nat) (e : Env) (S : Store) : k26 b n1 .ret e S = (k23 b) .ret e S := nr ((show k26 b n1 .ret e S = (k25 b n1) .ret e S from stepC_r _ _ _ _ _).trans (afterC_r _ _ _ _ _ _))
@[go_sem] theorem k26_x (b n1 : Nat) (x2 x3 x4 x5 x6 x7 x8 x9 x21 x33 x53 x63 x71 x82 x83 x84 x98 : PV) (S : Store) : k26 b n1 (.exit 1) (ee x2 x3 x4 x5 x6 x7 x8 x9 x21 x33 x53 x63 x71 x82 x83 x84 x98) S = (k23 b) (.exit 1) (ee .undef .undef .undef .undef .undef .undef .undef .undef .undef .undef .undef .undef .undef .undef .undef .undef .undef) (gc n1 (ee .undef .undef .undef .undef .undef .undef .undef .undef .undef .undef .undef .undef .undef .undef .undef .undef .undef) S) := nr ((show k26 b n1 (.exit 1) (ee x2 x3 x4 x5 x6 x7 x8 x9 x21 x33 x53 x63 x71 x82 x83 x84 x98) S = (k25 b n1) (.exit 1) (ee x2 x3 x4 x5 x6 x7 x8 x9 x21 x33 x53 x63 x71 x82 x83 x84 x98) S from stepC_x _ _ _ _ _ _).trans ((show (k25 b n1) (.exit 1) (ee x2 x3 x4 x5 x6 x7 x8 x9 x21 x33 x53 x63 x71 x82 x83 x84 x98) S = _ from afterC_x _ _ _ _ _ _ _).trans (if_pos rfl)))
theorem k26_o (b n1 : Nat) (i : Nat) (e : Env) (S : Store) (h : i ≠ 1) : k26 b n1 (.exit i) e S = (k23 b) (.exit i) e S := (show k26 b n1 (.exit i) e S = (k25 b n1) (.exit i) e S from stepC_x _ _ _ _ _ _).trans ((show (k25 b n1) (.exit i) e S = _ from afterC_x _ _ _ _ _ _ _).trans (if_neg h))
noncomputable def c27 : Code := at0 c24
noncomputable def c28 : Code := at1 c24
theorem c24_h : c24 = .seq c27 c28 := by kernel_rfl
noncomputable def c29 : Code := at0 c28
noncomputable def c30 : Code := at1 c28
theorem c28_h : c28 = .seq c29 c30 := by kernel_rfl
noncomputable def c31 : Code := at0 c30
noncomputable def c32 : Code := at1 c30
theorem c30_h : c30 = .seq c31 c32 := by kernel_rfl
noncomputable def k33 (b n1 : Nat) : KT := seqC (fun e S => execL (C b) 1 c32 (k26 b n1) e S) (k26 b n1)
@[go_sem] theorem g34 (b : Nat) (K : KT) (x2 x3 x4 x5 x6 x7 x8 x9 x21 x33 x53 x63 x71 x82 x83 x84 x98 : PV) (S : Store) : execL (C b) 1 c32 K (ee x2 x3 x4 x5 x6 x7 x8 x9 x21 x33 x53 x63 x71 x82 x83 x84 x98) S =
  withV (evBin .add (tyi Try.prog 3) x83 (.int .i64 1)) fun x100 =>
    withV (some x100) fun x83 =>
    K .normal (ee x2 x3 x4 x5 x6 x7 x8 x9 x21 x33 x53 x63 x71 x82 x83 x84 x98) S := nr (by kernel_rfl)
@[go_sem] theorem k33_n (b n1 : Nat) (e : Env) (S : Store) : k33 b n1 .normal e S = execL (C b) 1 c32 (k26 b n1) e S := nr (seqC_n _ _ _ _)
@[go_sem] theorem k33_ret (b n1 : Nat) (e : Env) (S : Store) : k33 b n1 .ret e S = (k26 b n1) .ret e S := nr (seqC_r _ _ _ _)
@[go_sem] theorem k33_exit (b n1 : Nat) (i : Nat) (e : Env) (S : Store) : k33 b n1 (.exit i) e S = (k26 b n1) (.exit i) e S := nr (seqC_x _ _ _ _ _)
theorem k33_l (b n1 : Nat) : seqC (fun e S => execL (C b) 1 c32 (k26 b n1) e S) (k26 b n1) = k33 b n1 := rfl
noncomputable def k35 (b n1 : Nat) : KT := seqC (fun e S => execL (C b) 1 c31 (k33 b n1) e S) (k26 b n1)
noncomputable def c36 : Code := atB c31
theorem c31_h : c31 = .block 2 c36 := by kernel_rfl
noncomputable def k37 (b n1 : Nat) : KT := blockC 2 (k33 b n1)
@[go_sem] theorem k37_n (b n1 : Nat) (e : Env) (S : Store) : k37 b n1 .normal e S = (k33 b n1) .normal e S := nr (blockC_n _ _ _ _)
@[go_sem] theorem k37_ret (b n1 : Nat) (e : Env) (S : Store) : k37 b n1 .ret e S = (k33 b n1) .ret e S := nr (blockC_r _ _ _ _)
@[go_sem] theorem k37_exit (b n1 : Nat) (i : Nat) (e : Env) (S : Store) : k37 b n1 (.exit i) e S = if i = 2 then (k33 b n1) .normal e S else (k33 b n1) (.exit i) e S := nr (blockC_x _ _ _ _ _)
noncomputable def c38 : Code := at0 c36
noncomputable def c39 : Code := at1 c36
theorem c36_h : c36 = .seq c38 c39 := by kernel_rfl
noncomputable def c40 : Code := at0 c39
noncomputable def c41 : Code := at1 c39
theorem c39_h : c39 = .seq c40 c41 := by kernel_rfl
noncomputable def c42 : Code := at0 c41
noncomputable def c43 : Code := at1 c41
theorem c41_h : c41 = .seq c42 c43 := by kernel_rfl
noncomputable def k44 (b n1 : Nat) : KT := seqC (fun e S => execL (C b) 2 c43 (k37 b n1) e S) (k37 b n1)
noncomputable def c45 : Code := atT c43
noncomputable def c46 : Code := atF c43
theorem c43_h : c43 = .cond (.tmp 98) c45 c46 := by kernel_rfl
noncomputable def c48 : Code := at0 c45
noncomputable def c49 : Code := at1 c45
theorem c45_h : c45 = .seq c48 c49 := by kernel_rfl
noncomputable def k50 (b n1 : Nat) : KT := seqC (fun e S => execL (C b) 2 c49 (k37 b n1) e S) (k37 b n1)
@[go_sem] theorem k50_n (b n1 : Nat) (x2 x3 x4 x5 x6 x7 x8 x9 x21 x33 x53 x63 x71 x82 x83 x84 x98 : PV) (S : Store) : k50 b n1 .normal (ee x2 x3 x4 x5 x6 x7 x8 x9 x21 x33 x53 x63 x71 x82 x83 x84 x98) S =
  (k37 b n1) .ret (ee x2 x3 x4 x5 x6 x7 x8 x9 x21 x33 x53 x63 x71 x82 x83 x84 x98) S := nr ((show k50 b n1 .normal (ee x2 x3 x4 x5 x6 x7 x8 x9 x21 x33 x53 x63 x71 x82 x83 x84 x98) S = execL (C b) 2 c49 (k37 b n1) (ee x2 x3 x4 x5 x6 x7 x8 x9 x21 x33 x53 x63 x71 x82 x83 x84 x98) S from seqC_n _ _ _ _).trans (execL_ret (by kernel_rfl)))
@[go_sem] theorem k50_ret (b n1 : Nat) (e : Env) (S : Store) : k50 b n1 .ret e S = (k37 b n1) .ret e S := nr (seqC_r _ _ _ _)
@[go_sem] theorem k50_exit (b n1 : Nat) (i : Nat) (e : Env) (S : Store) : k50 b n1 (.exit i) e S = (k37 b n1) (.exit i) e S := nr (seqC_x _ _ _ _ _)
theorem k50_l (b n1 : Nat) : seqC (fun e S => execL (C b) 2 c49 (k37 b n1) e S) (k37 b n1) = k50 b n1 := rfl
@[go_sem] theorem g51 (b : Nat) (K : KT) (x2 x3 x4 x5 x6 x7 x8 x9 x21 x33 x53 x63 x71 x82 x83 x84 x98 : PV) (S : Store) : execL (C b) 2 c48 K (ee x2 x3 x4 x5 x6 x7 x8 x9 x21 x33 x53 x63 x71 x82 x83 x84 x98) S =
  withV (some x8) fun x99 =>
    withV (some x99) fun x4 =>
    K .normal (ee x2 x3 x4 x5 x6 x7 x8 x9 x21 x33 x53 x63 x71 x82 x83 x84 x98) S := nr (by kernel_rfl)
noncomputable def E47 (b n1 : Nat) (x2 x3 x4 x5 x6 x7 x8 x9 x21 x33 x53 x63 x71 x82 x83 x84 x98 : PV) (S : Store) : RT := execL (C b) 2 c45 (k37 b n1) (ee x2 x3 x4 x5 x6 x7 x8 x9 x21 x33 x53 x63 x71 x82 x83 x84 x98) S
@[go_sem] theorem E47_eq (b n1 : Nat) (x2 x3 x4 x5 x6 x7 x8 x9 x21 x33 x53 x63 x71 x82 x83 x84 x98 : PV) (S : Store) : E47 b n1 x2 x3 x4 x5 x6 x7 x8 x9 x21 x33 x53 x63 x71 x82 x83 x84 x98 S =
  execL (C b) 2 c48 (k50 b n1) (ee x2 x3 x4 x5 x6 x7 x8 x9 x21 x33 x53 x63 x71 x82 x83 x84 x98) S := nr ((enter_seq c45_h (k50_l b n1)).trans (rfl))
@[go_sem] theorem k44_n (b n1 : Nat) (x2 x3 x4 x5 x6 x7 x8 x9 x21 x33 x53 x63 x71 x82 x83 x84 x98 : PV) (S : Store) : k44 b n1 .normal (ee x2 x3 x4 x5 x6 x7 x8 x9 x21 x33 x53 x63 x71 x82 x83 x84 x98) S =
  condC x98 (E47 b n1 x2 x3 x4 x5 x6 x7 x8 x9 x21 x33 x53 x63 x71 x82 x83 x84 x98 S)
    ((k37 b n1) .normal (ee x2 x3 x4 x5 x6 x7 x8 x9 x21 x33 x53 x63 x71 x82 x83 x84 x98) S) := nr ((show k44 b n1 .normal (ee x2 x3 x4 x5 x6 x7 x8 x9 x21 x33 x53 x63 x71 x82 x83 x84 x98) S = execL (C b) 2 c43 (k37 b n1) (ee x2 x3 x4 x5 x6 x7 x8 x9 x21 x33 x53 x63 x71 x82 x83 x84 x98) S from seqC_n _ _ _ _).trans (execL_cond c43_h (rfl) (execL_skip (by kernel_rfl)) rfl))
@[go_sem] theorem k44_ret (b n1 : Nat) (e : Env) (S : Store) : k44 b n1 .ret e S = (k37 b n1) .ret e S := nr (seqC_r _ _ _ _)
@[go_sem] theorem k44_exit (b n1 : Nat) (i : Nat) (e : Env) (S : Store) : k44 b n1 (.exit i) e S = (k37 b n1) (.exit i) e S := nr (seqC_x _ _ _ _ _)
theorem k44_l (b n1 : Nat) : seqC (fun e S => execL (C b) 2 c43 (k37 b n1) e S) (k37 b n1) = k44 b n1 := rfl
noncomputable def k52 (b n1 : Nat) : KT := seqC (fun e S => execL (C b) 2 c42 (k44 b n1) e S) (k37 b n1)
@[go_sem] theorem g53 (b : Nat) (K : KT) (x2 x3 x4 x5 x6 x7 x8 x9 x21 x33 x53 x63 x71 x82 x83 x84 x98 : PV) (S : Store) : execL (C b) 2 c42 K (ee x2 x3 x4 x5 x6 x7 x8 x9 x21 x33 x53 x63 x71 x82 x83 x84 x98) S =
  withV (some x8) fun x97 =>
    withV (evBin .neq (tyi Try.prog 3) x97 (.int .i64 0)) fun x98 =>
    K .normal (ee x2 x3 x4 x5 x6 x7 x8 x9 x21 x33 x53 x63 x71 x82 x83 x84 x98) S := nr (by kernel_rfl)
@[go_sem] theorem k52_n (b n1 : Nat) (e : Env) (S : Store) : k52 b n1 .normal e S = execL (C b) 2 c42 (k44 b n1) e S := nr (seqC_n _ _ _ _)
@[go_sem] theorem k52_ret (b n1 : Nat) (e : Env) (S : Store) : k52 b n1 .ret e S = (k37 b n1) .ret e S := nr (seqC_r _ _ _ _)
@[go_sem] theorem k52_exit (b n1 : Nat) (i : Nat) (e : Env) (S : Store) : k52 b n1 (.exit i) e S = (k37 b n1) (.exit i) e S := nr (seqC_x _ _ _ _ _)
theorem k52_l (b n1 : Nat) : seqC (fun e S => execL (C b) 2 c41 (k37 b n1) e S) (k37 b n1) = k52 b n1 := link_seq c41_h (k44_l b n1)
noncomputable def k54 (b n1 : Nat) : KT := seqC (fun e S => execL (C b) 2 c40 (k52 b n1) e S) (k37 b n1)
@[go_sem] theorem g55 (b : Nat) (K : KT) (x2 x3 x4 x5 x6 x7 x8 x9 x21 x33 x53 x63 x71 x82 x83 x84 x98 : PV) (S : Store) : execL (C b) 2 c40 K (ee x2 x3 x4 x5 x6 x7 x8 x9 x21 x33 x53 x63 x71 x82 x83 x84 x98) S =
  withV (evFieldAddr (tyi Try.prog 54) 3 x2) fun x86 =>
    withV (evLoad (tyi Try.prog 52) S x86) fun x87 =>
    withV (some x7) fun x88 =>
    withV (indexAddrO Try.prog 52 S x87 x88) fun x89 =>
    withV (evLoad (tyi Try.prog 54) S x89) fun x90 =>
    withV (evFieldAddr (tyi Try.prog 54) 3 x3) fun x91 =>
    withV (evLoad (tyi Try.prog 52) S x91) fun x92 =>
    withV (some x7) fun x93 =>
    withV (indexAddrO Try.prog 52 S x92 x93) fun x94 =>
    withV (evLoad (tyi Try.prog 54) S x94) fun x95 =>
    withN (callO (callL Try.prog hints) S 42 [x90, x95]) S fun x96 S =>
    withV (some x96) fun x8 =>
    K .normal (ee x2 x3 x4 x5 x6 x7 x8 x9 x21 x33 x53 x63 x71 x82 x83 x84 x98) S := nr (by kernel_rfl)
@[go_sem] theorem k54_n (b n1 : Nat) (e : Env) (S : Store) : k54 b n1 .normal e S = execL (C b) 2 c40 (k52 b n1) e S := nr (seqC_n _ _ _ _)
@[go_sem] theorem k54_ret (b n1 : Nat) (e : Env) (S : Store) : k54 b n1 .ret e S = (k37 b n1) .ret e S := nr (seqC_r _ _ _ _)
@[go_sem] theorem k54_exit (b n1 : Nat) (i : Nat) (e : Env) (S : Store) : k54 b n1 (.exit i) e S = (k37 b n1) (.exit i) e S := nr (seqC_x _ _ _ _ _)
theorem k54_l (b n1 : Nat) : seqC (fun e S => execL (C b) 2 c39 (k37 b n1) e S) (k37 b n1) = k54 b n1 := link_seq c39_h (k52_l b n1)
@[go_sem] theorem g56 (b : Nat) (K : KT) (x2 x3 x4 x5 x6 x7 x8 x9 x21 x33 x53 x63 x71 x82 x83 x84 x98 : PV) (S : Store) : execL (C b) 2 c38 K (ee x2 x3 x4 x5 x6 x7 x8 x9 x21 x33 x53 x63 x71 x82 x83 x84 x98) S =
  withV (some x83) fun x85 =>
    withV (some x85) fun x7 =>
    K .normal (ee x2 x3 x4 x5 x6 x7 x8 x9 x21 x33 x53 x63 x71 x82 x83 x84 x98) S := nr (by kernel_rfl)
@[go_sem] theorem k35_n (b n1 : Nat) (x2 x3 x4 x5 x6 x7 x8 x9 x21 x33 x53 x63 x71 x82 x83 x84 x98 : PV) (S : Store) : k35 b n1 .normal (ee x2 x3 x4 x5 x6 x7 x8 x9 x21 x33 x53 x63 x71 x82 x83 x84 x98) S =
  execL (C b) 2 c38 (k54 b n1) (ee x2 x3 x4 x5 x6 x7 x8 x9 x21 x33 x53 x63 x71 x82 x83 x84 x98) S := nr ((show k35 b n1 .normal (ee x2 x3 x4 x5 x6 x7 x8 x9 x21 x33 x53 x63 x71 x82 x83 x84 x98) S = execL (C b) 1 c31 (k33 b n1) (ee x2 x3 x4 x5 x6 x7 x8 x9 x21 x33 x53 x63 x71 x82 x83 x84 x98) S from seqC_n _ _ _ _).trans ((show execL (C b) 1 c31 (k33 b n1) (ee x2 x3 x4 x5 x6 x7 x8 x9 x21 x33 x53 x63 x71 x82 x83 x84 x98) S = execL (C b) 2 c36 (k37 b n1) (ee x2 x3 x4 x5 x6 x7 x8 x9 x21 x33 x53 x63 x71 x82 x83 x84 x98) S from execL_block c31_h).trans ((enter_seq c36_h (k54_l b n1)).trans (rfl))))
@[go_sem] theorem k35_ret (b n1 : Nat) (e : Env) (S : Store) : k35 b n1 .ret e S = (k26 b n1) .ret e S := nr (seqC_r _ _ _ _)
@[go_sem] theorem k35_exit (b n1 : Nat) (i : Nat) (e : Env) (S : Store) : k35 b n1 (.exit i) e S = (k26 b n1) (.exit i) e S := nr (seqC_x _ _ _ _ _)
theorem k35_l (b n1 : Nat) : seqC (fun e S => execL (C b) 1 c30 (k26 b n1) e S) (k26 b n1) = k35 b n1 := link_seq c30_h (k33_l b n1)
noncomputable def k57 (b n1 : Nat) : KT := seqC (fun e S => execL (C b) 1 c29 (k35 b n1) e S) (k26 b n1)
noncomputable def c58 : Code := atT c29
noncomputable def c59 : Code := atF c29
theorem c29_h : c29 = .cond (.tmp 84) c58 c59 := by kernel_rfl
@[go_sem] theorem k57_n (b n1 : Nat) (x2 x3 x4 x5 x6 x7 x8 x9 x21 x33 x53 x63 x71 x82 x83 x84 x98 : PV) (S : Store) : k57 b n1 .normal (ee x2 x3 x4 x5 x6 x7 x8 x9 x21 x33 x53 x63 x71 x82 x83 x84 x98) S =
  condC x84 ((k35 b n1) .normal (ee x2 x3 x4 x5 x6 x7 x8 x9 x21 x33 x53 x63 x71 x82 x83 x84 x98) S)
    ((k35 b n1) (.exit 1) (ee x2 x3 x4 x5 x6 x7 x8 x9 x21 x33 x53 x63 x71 x82 x83 x84 x98) S) := nr ((show k57 b n1 .normal (ee x2 x3 x4 x5 x6 x7 x8 x9 x21 x33 x53 x63 x71 x82 x83 x84 x98) S = execL (C b) 1 c29 (k35 b n1) (ee x2 x3 x4 x5 x6 x7 x8 x9 x21 x33 x53 x63 x71 x82 x83 x84 x98) S from seqC_n _ _ _ _).trans (execL_cond c29_h (execL_skip (by kernel_rfl)) (execL_exit (by kernel_rfl)) rfl))
@[go_sem] theorem k57_ret (b n1 : Nat) (e : Env) (S : Store) : k57 b n1 .ret e S = (k26 b n1) .ret e S := nr (seqC_r _ _ _ _)
@[go_sem] theorem k57_exit (b n1 : Nat) (i : Nat) (e : Env) (S : Store) : k57 b n1 (.exit i) e S = (k26 b n1) (.exit i) e S := nr (seqC_x _ _ _ _ _)
theorem k57_l (b n1 : Nat) : seqC (fun e S => execL (C b) 1 c28 (k26 b n1) e S) (k26 b n1) = k57 b n1 := link_seq c28_h (k35_l b n1)
@[go_sem] theorem g60 (b : Nat) (K : KT) (x2 x3 x4 x5 x6 x7 x8 x9 x21 x33 x53 x63 x71 x82 x83 x84 x98 : PV) (S : Store) : execL (C b) 1 c27 K (ee x2 x3 x4 x5 x6 x7 x8 x9 x21 x33 x53 x63 x71 x82 x83 x84 x98) S =
  withV (evBin .lss (tyi Try.prog 3) x83 x82) fun x84 =>
    K .normal (ee x2 x3 x4 x5 x6 x7 x8 x9 x21 x33 x53 x63 x71 x82 x83 x84 x98) S := nr (by kernel_rfl)
noncomputable def B1 (b n1 : Nat) (x2 x3 x4 x5 x6 x7 x8 x9 x21 x33 x53 x63 x71 x82 x83 x84 x98 : PV) (S : Store) : RT := execL (C b) 1 c24 (k26 b n1) (ee x2 x3 x4 x5 x6 x7 x8 x9 x21 x33 x53 x63 x71 x82 x83 x84 x98) S
@[go_sem] theorem B1_eq (b n1 : Nat) (x2 x3 x4 x5 x6 x7 x8 x9 x21 x33 x53 x63 x71 x82 x83 x84 x98 : PV) (S : Store) : B1 b n1 x2 x3 x4 x5 x6 x7 x8 x9 x21 x33 x53 x63 x71 x82 x83 x84 x98 S =
  execL (C b) 1 c27 (k57 b n1) (ee x2 x3 x4 x5 x6 x7 x8 x9 x21 x33 x53 x63 x71 x82 x83 x84 x98) S := nr ((enter_seq c24_h (k57_l b n1)).trans (rfl))
theorem L1_step {b n1 : Nat} {x2 x3 x4 x5 x6 x7 x8 x9 x21 x33 x53 x63 x71 x82 x83 x84 x98 : PV} {S : Store} {z : PV × Store} (h : B1 b n1 x2 x3 x4 x5 x6 x7 x8 x9 x21 x33 x53 x63 x71 x82 x83 x84 x98 S = some z) : L1 b n1 x2 x3 x4 x5 x6 x7 x8 x9 x21 x33 x53 x63 x71 x82 x83 x84 x98 S = some z := loopL_step h
theorem L1_in (b : Nat) (x2 x3 x4 x5 x6 x7 x8 x9 x21 x33 x53 x63 x71 x82 x83 x84 x98 : PV) (S : Store) : execL (C b) 1 c22 (k23 b) (ee x2 x3 x4 x5 x6 x7 x8 x9 x21 x33 x53 x63 x71 x82 x83 x84 x98) S = L1 b (List.length S) x2 x3 .undef .undef .undef .undef .undef .undef .undef .undef .undef .undef .undef x82 x83 .undef .undef S := by kernel_rfl
@[go_sem] theorem k21_n (b : Nat) (x2 x3 x4 x5 x6 x7 x8 x9 x21 x33 x53 x63 x71 x82 x83 x84 x98 : PV) (S : Store) : k21 b .normal (ee x2 x3 x4 x5 x6 x7 x8 x9 x21 x33 x53 x63 x71 x82 x83 x84 x98) S =
  L1 b (List.length S) x2 x3 .undef .undef .undef .undef .undef .undef .undef .undef .undef .undef .undef x82 x83 .undef .undef S := nr ((show k21 b .normal (ee x2 x3 x4 x5 x6 x7 x8 x9 x21 x33 x53 x63 x71 x82 x83 x84 x98) S = execL (C b) 0 c20 (k16 b) (ee x2 x3 x4 x5 x6 x7 x8 x9 x21 x33 x53 x63 x71 x82 x83 x84 x98) S from seqC_n _ _ _ _).trans ((show execL (C b) 0 c20 (k16 b) (ee x2 x3 x4 x5 x6 x7 x8 x9 x21 x33 x53 x63 x71 x82 x83 x84 x98) S = execL (C b) 1 c22 (k23 b) (ee x2 x3 x4 x5 x6 x7 x8 x9 x21 x33 x53 x63 x71 x82 x83 x84 x98) S from execL_block c20_h).trans (L1_in b x2 x3 x4 x5 x6 x7 x8 x9 x21 x33 x53 x63 x71 x82 x83 x84 x98 S)))
@[go_sem] theorem k21_ret (b : Nat) (e : Env) (S : Store) : k21 b .ret e S = (k16 b) .ret e S := nr (seqC_r _ _ _ _)
@[go_sem] theorem k21_exit (b : Nat) (i : Nat) (e : Env) (S : Store) : k21 b (.exit i) e S = (k16 b) (.exit i) e S := nr (seqC_x _ _ _ _ _)
theorem k21_l (b : Nat) : seqC (fun e S => execL (C b) 0 c20 (k16 b) e S) (k16 b) = k21 b := rfl
@[go_sem] theorem g62 (b : Nat) (K : KT) (x2 x3 x4 x5 x6 x7 x8 x9 x21 x33 x53 x63 x71 x82 x83 x84 x98 : PV) (S : Store) : execL (C b) 0 c19 K (ee x2 x3 x4 x5 x6 x7 x8 x9 x21 x33 x53 x63 x71 x82 x83 x84 x98) S =
  withV (evFieldAddr (tyi Try.prog 54) 3 x2) fun x80 =>
    withV (evLoad (tyi Try.prog 52) S x80) fun x81 =>
    withV (lenO (tyi Try.prog 52) x81) fun x82 =>
    withV (some (.int .i64 0)) fun x83 =>
    K .normal (ee x2 x3 x4 x5 x6 x7 x8 x9 x21 x33 x53 x63 x71 x82 x83 x84 x98) S := nr (by kernel_rfl)
@[go_sem] theorem k18_n (b : Nat) (x2 x3 x4 x5 x6 x7 x8 x9 x21 x33 x53 x63 x71 x82 x83 x84 x98 : PV) (S : Store) : k18 b .normal (ee x2 x3 x4 x5 x6 x7 x8 x9 x21 x33 x53 x63 x71 x82 x83 x84 x98) S =
  execL (C b) 0 c19 (k21 b) (ee x2 x3 x4 x5 x6 x7 x8 x9 x21 x33 x53 x63 x71 x82 x83 x84 x98) S := nr ((show k18 b .normal (ee x2 x3 x4 x5 x6 x7 x8 x9 x21 x33 x53 x63 x71 x82 x83 x84 x98) S = execL (C b) 0 c11 (k16 b) (ee x2 x3 x4 x5 x6 x7 x8 x9 x21 x33 x53 x63 x71 x82 x83 x84 x98) S from seqC_n _ _ _ _).trans ((enter_seq c11_h (k21_l b)).trans (rfl)))
@[go_sem] theorem k18_ret (b : Nat) (e : Env) (S : Store) : k18 b .ret e S = (k0 b) .ret e S := nr (seqC_r _ _ _ _)
@[go_sem] theorem k18_exit (b : Nat) (i : Nat) (e : Env) (S : Store) : k18 b (.exit i) e S = (k0 b) (.exit i) e S := nr (seqC_x _ _ _ _ _)
theorem k18_l (b : Nat) : seqC (fun e S => execL (C b) 0 c10 (k0 b) e S) (k0 b) = k18 b := link_seq c10_h (k16_l b)
noncomputable def k63 (b : Nat) : KT := seqC (fun e S => execL (C b) 0 c9 (k18 b) e S) (k0 b)
noncomputable def c64 : Code := at0 c9
noncomputable def c65 : Code := at1 c9
theorem c9_h : c9 = .seq c64 c65 := by kernel_rfl
noncomputable def k66 (b : Nat) : KT := seqC (fun e S => execL (C b) 0 c65 (k18 b) e S) (k18 b)
noncomputable def c67 : Code := atT c65
noncomputable def c68 : Code := atF c65
theorem c65_h : c65 = .cond (.tmp 71) c67 c68 := by kernel_rfl
noncomputable def c70 : Code := at0 c67
noncomputable def c71 : Code := at1 c67
theorem c67_h : c67 = .seq c70 c71 := by kernel_rfl
noncomputable def k72 (b : Nat) : KT := seqC (fun e S => execL (C b) 0 c71 (k18 b) e S) (k18 b)
@[go_sem] theorem k72_n (b : Nat) (x2 x3 x4 x5 x6 x7 x8 x9 x21 x33 x53 x63 x71 x82 x83 x84 x98 : PV) (S : Store) : k72 b .normal (ee x2 x3 x4 x5 x6 x7 x8 x9 x21 x33 x53 x63 x71 x82 x83 x84 x98) S =
  (k18 b) .ret (ee x2 x3 x4 x5 x6 x7 x8 x9 x21 x33 x53 x63 x71 x82 x83 x84 x98) S := nr ((show k72 b .normal (ee x2 x3 x4 x5 x6 x7 x8 x9 x21 x33 x53 x63 x71 x82 x83 x84 x98) S = execL (C b) 0 c71 (k18 b) (ee x2 x3 x4 x5 x6 x7 x8 x9 x21 x33 x53 x63 x71 x82 x83 x84 x98) S from seqC_n _ _ _ _).trans (execL_ret (by kernel_rfl)))
@[go_sem] theorem k72_ret (b : Nat) (e : Env) (S : Store) : k72 b .ret e S = (k18 b) .ret e S := nr (seqC_r _ _ _ _)
@[go_sem] theorem k72_exit (b : Nat) (i : Nat) (e : Env) (S : Store) : k72 b (.exit i) e S = (k18 b) (.exit i) e S := nr (seqC_x _ _ _ _ _)
theorem k72_l (b : Nat) : seqC (fun e S => execL (C b) 0 c71 (k18 b) e S) (k18 b) = k72 b := rfl
@[go_sem] theorem g73 (b : Nat) (K : KT) (x2 x3 x4 x5 x6 x7 x8 x9 x21 x33 x53 x63 x71 x82 x83 x84 x98 : PV) (S : Store) : execL (C b) 0 c70 K (ee x2 x3 x4 x5 x6 x7 x8 x9 x21 x33 x53 x63 x71 x82 x83 x84 x98) S =
  withV (evFieldAddr (tyi Try.prog 54) 3 x2) fun x72 =>
    withV (evLoad (tyi Try.prog 52) S x72) fun x73 =>
    withV (lenO (tyi Try.prog 52) x73) fun x74 =>
    withV (evFieldAddr (tyi Try.prog 54) 3 x3) fun x75 =>
    withV (evLoad (tyi Try.prog 52) S x75) fun x76 =>
    withV (lenO (tyi Try.prog 52) x76) fun x77 =>
    withV (evBin .lss (tyi Try.prog 3) x74 x77) fun x78 =>
    withN (callO (callL Try.prog hints) S 68 [x78]) S fun x79 S =>
    withV (some x79) fun x4 =>
    K .normal (ee x2 x3 x4 x5 x6 x7 x8 x9 x21 x33 x53 x63 x71 x82 x83 x84 x98) S := nr (by kernel_rfl)
noncomputable def E69 (b : Nat) (x2 x3 x4 x5 x6 x7 x8 x9 x21 x33 x53 x63 x71 x82 x83 x84 x98 : PV) (S : Store) : RT := execL (C b) 0 c67 (k18 b) (ee x2 x3 x4 x5 x6 x7 x8 x9 x21 x33 x53 x63 x71 x82 x83 x84 x98) S
@[go_sem] theorem E69_eq (b : Nat) (x2 x3 x4 x5 x6 x7 x8 x9 x21 x33 x53 x63 x71 x82 x83 x84 x98 : PV) (S : Store) : E69 b x2 x3 x4 x5 x6 x7 x8 x9 x21 x33 x53 x63 x71 x82 x83 x84 x98 S =
  execL (C b) 0 c70 (k72 b) (ee x2 x3 x4 x5 x6 x7 x8 x9 x21 x33 x53 x63 x71 x82 x83 x84 x98) S := nr ((enter_seq c67_h (k72_l b)).trans (rfl))
@[go_sem] theorem k66_n (b : Nat) (x2 x3 x4 x5 x6 x7 x8 x9 x21 x33 x53 x63 x71 x82 x83 x84 x98 : PV) (S : Store) : k66 b .normal (ee x2 x3 x4 x5 x6 x7 x8 x9 x21 x33 x53 x63 x71 x82 x83 x84 x98) S =
  condC x71 (E69 b x2 x3 x4 x5 x6 x7 x8 x9 x21 x33 x53 x63 x71 x82 x83 x84 x98 S)
    ((k18 b) .normal (ee x2 x3 x4 x5 x6 x7 x8 x9 x21 x33 x53 x63 x71 x82 x83 x84 x98) S) := nr ((show k66 b .normal (ee x2 x3 x4 x5 x6 x7 x8 x9 x21 x33 x53 x63 x71 x82 x83 x84 x98) S = execL (C b) 0 c65 (k18 b) (ee x2 x3 x4 x5 x6 x7 x8 x9 x21 x33 x53 x63 x71 x82 x83 x84 x98) S from seqC_n _ _ _ _).trans (execL_cond c65_h (rfl) (execL_skip (by kernel_rfl)) rfl))
@[go_sem] theorem k66_ret (b : Nat) (e : Env) (S : Store) : k66 b .ret e S = (k18 b) .ret e S := nr (seqC_r _ _ _ _)
@[go_sem] theorem k66_exit (b : Nat) (i : Nat) (e : Env) (S : Store) : k66 b (.exit i) e S = (k18 b) (.exit i) e S := nr (seqC_x _ _ _ _ _)
theorem k66_l (b : Nat) : seqC (fun e S => execL (C b) 0 c65 (k18 b) e S) (k18 b) = k66 b := rfl
@[go_sem] theorem g74 (b : Nat) (K : KT) (x2 x3 x4 x5 x6 x7 x8 x9 x21 x33 x53 x63 x71 x82 x83 x84 x98 : PV) (S : Store) : execL (C b) 0 c64 K (ee x2 x3 x4 x5 x6 x7 x8 x9 x21 x33 x53 x63 x71 x82 x83 x84 x98) S =
  withV (evFieldAddr (tyi Try.prog 54) 3 x2) fun x65 =>
    withV (evLoad (tyi Try.prog 52) S x65) fun x66 =>
    withV (lenO (tyi Try.prog 52) x66) fun x67 =>
    withV (evFieldAddr (tyi Try.prog 54) 3 x3) fun x68 =>
    withV (evLoad (tyi Try.prog 52) S x68) fun x69 =>
    withV (lenO (tyi Try.prog 52) x69) fun x70 =>
    withV (evBin .neq (tyi Try.prog 3) x67 x70) fun x71 =>
    K .normal (ee x2 x3 x4 x5 x6 x7 x8 x9 x21 x33 x53 x63 x71 x82 x83 x84 x98) S := nr (by kernel_rfl)
@[go_sem] theorem k63_n (b : Nat) (x2 x3 x4 x5 x6 x7 x8 x9 x21 x33 x53 x63 x71 x82 x83 x84 x98 : PV) (S : Store) : k63 b .normal (ee x2 x3 x4 x5 x6 x7 x8 x9 x21 x33 x53 x63 x71 x82 x83 x84 x98) S =
  execL (C b) 0 c64 (k66 b) (ee x2 x3 x4 x5 x6 x7 x8 x9 x21 x33 x53 x63 x71 x82 x83 x84 x98) S := nr ((show k63 b .normal (ee x2 x3 x4 x5 x6 x7 x8 x9 x21 x33 x53 x63 x71 x82 x83 x84 x98) S = execL (C b) 0 c9 (k18 b) (ee x2 x3 x4 x5 x6 x7 x8 x9 x21 x33 x53 x63 x71 x82 x83 x84 x98) S from seqC_n _ _ _ _).trans ((enter_seq c9_h (k66_l b)).trans (rfl)))
@[go_sem] theorem k63_ret (b : Nat) (e : Env) (S : Store) : k63 b .ret e S = (k0 b) .ret e S := nr (seqC_r _ _ _ _)
@[go_sem] theorem k63_exit (b : Nat) (i : Nat) (e : Env) (S : Store) : k63 b (.exit i) e S = (k0 b) (.exit i) e S := nr (seqC_x _ _ _ _ _)
theorem k63_l (b : Nat) : seqC (fun e S => execL (C b) 0 c8 (k0 b) e S) (k0 b) = k63 b := link_seq c8_h (k18_l b)
noncomputable def k75 (b : Nat) : KT := seqC (fun e S => execL (C b) 0 c7 (k63 b) e S) (k0 b)
noncomputable def c76 : Code := at0 c7
noncomputable def c77 : Code := at1 c7
theorem c7_h : c7 = .seq c76 c77 := by kernel_rfl
noncomputable def c78 : Code := at0 c77
noncomputable def c79 : Code := at1 c77
theorem c77_h : c77 = .seq c78 c79 := by kernel_rfl
noncomputable def k80 (b : Nat) : KT := seqC (fun e S => execL (C b) 0 c79 (k63 b) e S) (k63 b)
noncomputable def c81 : Code := atT c79
noncomputable def c82 : Code := atF c79
theorem c79_h : c79 = .cond (.tmp 63) c81 c82 := by kernel_rfl
noncomputable def c84 : Code := at0 c81
noncomputable def c85 : Code := at1 c81
theorem c81_h : c81 = .seq c84 c85 := by kernel_rfl
noncomputable def k86 (b : Nat) : KT := seqC (fun e S => execL (C b) 0 c85 (k63 b) e S) (k63 b)
@[go_sem] theorem k86_n (b : Nat) (x2 x3 x4 x5 x6 x7 x8 x9 x21 x33 x53 x63 x71 x82 x83 x84 x98 : PV) (S : Store) : k86 b .normal (ee x2 x3 x4 x5 x6 x7 x8 x9 x21 x33 x53 x63 x71 x82 x83 x84 x98) S =
  (k63 b) .ret (ee x2 x3 x4 x5 x6 x7 x8 x9 x21 x33 x53 x63 x71 x82 x83 x84 x98) S := nr ((show k86 b .normal (ee x2 x3 x4 x5 x6 x7 x8 x9 x21 x33 x53 x63 x71 x82 x83 x84 x98) S = execL (C b) 0 c85 (k63 b) (ee x2 x3 x4 x5 x6 x7 x8 x9 x21 x33 x53 x63 x71 x82 x83 x84 x98) S from seqC_n _ _ _ _).trans (execL_ret (by kernel_rfl)))
@[go_sem] theorem k86_ret (b : Nat) (e : Env) (S : Store) : k86 b .ret e S = (k63 b) .ret e S := nr (seqC_r _ _ _ _)
@[go_sem] theorem k86_exit (b : Nat) (i : Nat) (e : Env) (S : Store) : k86 b (.exit i) e S = (k63 b) (.exit i) e S := nr (seqC_x _ _ _ _ _)
theorem k86_l (b : Nat) : seqC (fun e S => execL (C b) 0 c85 (k63 b) e S) (k63 b) = k86 b := rfl
@[go_sem] theorem g87 (b : Nat) (K : KT) (x2 x3 x4 x5 x6 x7 x8 x9 x21 x33 x53 x63 x71 x82 x83 x84 x98 : PV) (S : Store) : execL (C b) 0 c84 K (ee x2 x3 x4 x5 x6 x7 x8 x9 x21 x33 x53 x63 x71 x82 x83 x84 x98) S =
  withV (some x6) fun x64 =>
    withV (some x64) fun x4 =>
    K .normal (ee x2 x3 x4 x5 x6 x7 x8 x9 x21 x33 x53 x63 x71 x82 x83 x84 x98) S := nr (by kernel_rfl)
noncomputable def E83 (b : Nat) (x2 x3 x4 x5 x6 x7 x8 x9 x21 x33 x53 x63 x71 x82 x83 x84 x98 : PV) (S : Store) : RT := execL (C b) 0 c81 (k63 b) (ee x2 x3 x4 x5 x6 x7 x8 x9 x21 x33 x53 x63 x71 x82 x83 x84 x98) S
@[go_sem] theorem E83_eq (b : Nat) (x2 x3 x4 x5 x6 x7 x8 x9 x21 x33 x53 x63 x71 x82 x83 x84 x98 : PV) (S : Store) : E83 b x2 x3 x4 x5 x6 x7 x8 x9 x21 x33 x53 x63 x71 x82 x83 x84 x98 S =
  execL (C b) 0 c84 (k86 b) (ee x2 x3 x4 x5 x6 x7 x8 x9 x21 x33 x53 x63 x71 x82 x83 x84 x98) S := nr ((enter_seq c81_h (k86_l b)).trans (rfl))
@[go_sem] theorem k80_n (b : Nat) (x2 x3 x4 x5 x6 x7 x8 x9 x21 x33 x53 x63 x71 x82 x83 x84 x98 : PV) (S : Store) : k80 b .normal (ee x2 x3 x4 x5 x6 x7 x8 x9 x21 x33 x53 x63 x71 x82 x83 x84 x98) S =
  condC x63 (E83 b x2 x3 x4 x5 x6 x7 x8 x9 x21 x33 x53 x63 x71 x82 x83 x84 x98 S)
    ((k63 b) .normal (ee x2 x3 x4 x5 x6 x7 x8 x9 x21 x33 x53 x63 x71 x82 x83 x84 x98) S) := nr ((show k80 b .normal (ee x2 x3 x4 x5 x6 x7 x8 x9 x21 x33 x53 x63 x71 x82 x83 x84 x98) S = execL (C b) 0 c79 (k63 b) (ee x2 x3 x4 x5 x6 x7 x8 x9 x21 x33 x53 x63 x71 x82 x83 x84 x98) S from seqC_n _ _ _ _).trans (execL_cond c79_h (rfl) (execL_skip (by kernel_rfl)) rfl))
@[go_sem] theorem k80_ret (b : Nat) (e : Env) (S : Store) : k80 b .ret e S = (k63 b) .ret e S := nr (seqC_r _ _ _ _)
@[go_sem] theorem k80_exit (b : Nat) (i : Nat) (e : Env) (S : Store) : k80 b (.exit i) e S = (k63 b) (.exit i) e S := nr (seqC_x _ _ _ _ _)
theorem k80_l (b : Nat) : seqC (fun e S => execL (C b) 0 c79 (k63 b) e S) (k63 b) = k80 b := rfl
noncomputable def k88 (b : Nat) : KT := seqC (fun e S => execL (C b) 0 c78 (k80 b) e S) (k63 b)
@[go_sem] theorem g89 (b : Nat) (K : KT) (x2 x3 x4 x5 x6 x7 x8 x9 x21 x33 x53 x63 x71 x82 x83 x84 x98 : PV) (S : Store) : execL (C b) 0 c78 K (ee x2 x3 x4 x5 x6 x7 x8 x9 x21 x33 x53 x63 x71 x82 x83 x84 x98) S =
  withV (some x6) fun x62 =>
    withV (evBin .neq (tyi Try.prog 3) x62 (.int .i64 0)) fun x63 =>
    K .normal (ee x2 x3 x4 x5 x6 x7 x8 x9 x21 x33 x53 x63 x71 x82 x83 x84 x98) S := nr (by kernel_rfl)
@[go_sem] theorem k88_n (b : Nat) (e : Env) (S : Store) : k88 b .normal e S = execL (C b) 0 c78 (k80 b) e S := nr (seqC_n _ _ _ _)
@[go_sem] theorem k88_ret (b : Nat) (e : Env) (S : Store) : k88 b .ret e S = (k63 b) .ret e S := nr (seqC_r _ _ _ _)
@[go_sem] theorem k88_exit (b : Nat) (i : Nat) (e : Env) (S : Store) : k88 b (.exit i) e S = (k63 b) (.exit i) e S := nr (seqC_x _ _ _ _ _)
theorem k88_l (b : Nat) : seqC (fun e S => execL (C b) 0 c77 (k63 b) e S) (k63 b) = k88 b := link_seq c77_h (k80_l b)
@[go_sem] theorem g90 (b : Nat) (K : KT) (x2 x3 x4 x5 x6 x7 x8 x9 x21 x33 x53 x63 x71 x82 x83 x84 x98 : PV) (S : Store) : execL (C b) 0 c76 K (ee x2 x3 x4 x5 x6 x7 x8 x9 x21 x33 x53 x63 x71 x82 x83 x84 x98) S =
  withV (evFieldAddr (tyi Try.prog 54) 2 x2) fun x55 =>
    withV (evFieldAddr (tyi Try.prog 51) 2 x55) fun x56 =>
    withV (evLoad (tyi Try.prog 49) S x56) fun x57 =>
    withV (evFieldAddr (tyi Try.prog 54) 2 x3) fun x58 =>
    withV (evFieldAddr (tyi Try.prog 51) 2 x58) fun x59 =>
    withV (evLoad (tyi Try.prog 49) S x59) fun x60 =>
    withN (callO (callL Try.prog hints) S 69 [x57, x60]) S fun x61 S =>
    withV (some x61) fun x6 =>
    K .normal (ee x2 x3 x4 x5 x6 x7 x8 x9 x21 x33 x53 x63 x71 x82 x83 x84 x98) S := nr (by kernel_rfl)
@[go_sem] theorem k75_n (b : Nat) (x2 x3 x4 x5 x6 x7 x8 x9 x21 x33 x53 x63 x71 x82 x83 x84 x98 : PV) (S : Store) : k75 b .normal (ee x2 x3 x4 x5 x6 x7 x8 x9 x21 x33 x53 x63 x71 x82 x83 x84 x98) S =
  execL (C b) 0 c76 (k88 b) (ee x2 x3 x4 x5 x6 x7 x8 x9 x21 x33 x53 x63 x71 x82 x83 x84 x98) S := nr ((show k75 b .normal (ee x2 x3 x4 x5 x6 x7 x8 x9 x21 x33 x53 x63 x71 x82 x83 x84 x98) S = execL (C b) 0 c7 (k63 b) (ee x2 x3 x4 x5 x6 x7 x8 x9 x21 x33 x53 x63 x71 x82 x83 x84 x98) S from seqC_n _ _ _ _).trans ((enter_seq c7_h (k88_l b)).trans (rfl)))
@[go_sem] theorem k75_ret (b : Nat) (e : Env) (S : Store) : k75 b .ret e S = (k0 b) .ret e S := nr (seqC_r _ _ _ _)
@[go_sem] theorem k75_exit (b : Nat) (i : Nat) (e : Env) (S : Store) : k75 b (.exit i) e S = (k0 b) (.exit i) e S := nr (seqC_x _ _ _ _ _)
theorem k75_l (b : Nat) : seqC (fun e S => execL (C b) 0 c6 (k0 b) e S) (k0 b) = k75 b := link_seq c6_h (k63_l b)
noncomputable def k91 (b : Nat) : KT := seqC (fun e S => execL (C b) 0 c5 (k75 b) e S) (k0 b)
noncomputable def c92 : Code := at0 c5
noncomputable def c93 : Code := at1 c5
theorem c5_h : c5 = .seq c92 c93 := by kernel_rfl
noncomputable def c94 : Code := at0 c93
noncomputable def c95 : Code := at1 c93
theorem c93_h : c93 = .seq c94 c95 := by kernel_rfl
noncomputable def k96 (b : Nat) : KT := seqC (fun e S => execL (C b) 0 c95 (k75 b) e S) (k75 b)
noncomputable def c97 : Code := atT c95
noncomputable def c98 : Code := atF c95
theorem c95_h : c95 = .cond (.tmp 53) c97 c98 := by kernel_rfl
noncomputable def c100 : Code := at0 c97
noncomputable def c101 : Code := at1 c97
theorem c97_h : c97 = .seq c100 c101 := by kernel_rfl
noncomputable def k102 (b : Nat) : KT := seqC (fun e S => execL (C b) 0 c101 (k75 b) e S) (k75 b)
@[go_sem] theorem k102_n (b : Nat) (x2 x3 x4 x5 x6 x7 x8 x9 x21 x33 x53 x63 x71 x82 x83 x84 x98 : PV) (S : Store) : k102 b .normal (ee x2 x3 x4 x5 x6 x7 x8 x9 x21 x33 x53 x63 x71 x82 x83 x84 x98) S =
  (k75 b) .ret (ee x2 x3 x4 x5 x6 x7 x8 x9 x21 x33 x53 x63 x71 x82 x83 x84 x98) S := nr ((show k102 b .normal (ee x2 x3 x4 x5 x6 x7 x8 x9 x21 x33 x53 x63 x71 x82 x83 x84 x98) S = execL (C b) 0 c101 (k75 b) (ee x2 x3 x4 x5 x6 x7 x8 x9 x21 x33 x53 x63 x71 x82 x83 x84 x98) S from seqC_n _ _ _ _).trans (execL_ret (by kernel_rfl)))
@[go_sem] theorem k102_ret (b : Nat) (e : Env) (S : Store) : k102 b .ret e S = (k75 b) .ret e S := nr (seqC_r _ _ _ _)
@[go_sem] theorem k102_exit (b : Nat) (i : Nat) (e : Env) (S : Store) : k102 b (.exit i) e S = (k75 b) (.exit i) e S := nr (seqC_x _ _ _ _ _)
theorem k102_l (b : Nat) : seqC (fun e S => execL (C b) 0 c101 (k75 b) e S) (k75 b) = k102 b := rfl
@[go_sem] theorem g103 (b : Nat) (K : KT) (x2 x3 x4 x5 x6 x7 x8 x9 x21 x33 x53 x63 x71 x82 x83 x84 x98 : PV) (S : Store) : execL (C b) 0 c100 K (ee x2 x3 x4 x5 x6 x7 x8 x9 x21 x33 x53 x63 x71 x82 x83 x84 x98) S =
  withV (some x5) fun x54 =>
    withV (some x54) fun x4 =>
    K .normal (ee x2 x3 x4 x5 x6 x7 x8 x9 x21 x33 x53 x63 x71 x82 x83 x84 x98) S := nr (by kernel_rfl)
noncomputable def E99 (b : Nat) (x2 x3 x4 x5 x6 x7 x8 x9 x21 x33 x53 x63 x71 x82 x83 x84 x98 : PV) (S : Store) : RT := execL (C b) 0 c97 (k75 b) (ee x2 x3 x4 x5 x6 x7 x8 x9 x21 x33 x53 x63 x71 x82 x83 x84 x98) S
@[go_sem] theorem E99_eq (b : Nat) (x2 x3 x4 x5 x6 x7 x8 x9 x21 x33 x53 x63 x71 x82 x83 x84 x98 : PV) (S : Store) : E99 b x2 x3 x4 x5 x6 x7 x8 x9 x21 x33 x53 x63 x71 x82 x83 x84 x98 S =
  execL (C b) 0 c100 (k102 b) (ee x2 x3 x4 x5 x6 x7 x8 x9 x21 x33 x53 x63 x71 x82 x83 x84 x98) S := nr ((enter_seq c97_h (k102_l b)).trans (rfl))
@[go_sem] theorem k96_n (b : Nat) (x2 x3 x4 x5 x6 x7 x8 x9 x21 x33 x53 x63 x71 x82 x83 x84 x98 : PV) (S : Store) : k96 b .normal (ee x2 x3 x4 x5 x6 x7 x8 x9 x21 x33 x53 x63 x71 x82 x83 x84 x98) S =
  condC x53 (E99 b x2 x3 x4 x5 x6 x7 x8 x9 x21 x33 x53 x63 x71 x82 x83 x84 x98 S)
    ((k75 b) .normal (ee x2 x3 x4 x5 x6 x7 x8 x9 x21 x33 x53 x63 x71 x82 x83 x84 x98) S) := nr ((show k96 b .normal (ee x2 x3 x4 x5 x6 x7 x8 x9 x21 x33 x53 x63 x71 x82 x83 x84 x98) S = execL (C b) 0 c95 (k75 b) (ee x2 x3 x4 x5 x6 x7 x8 x9 x21 x33 x53 x63 x71 x82 x83 x84 x98) S from seqC_n _ _ _ _).trans (execL_cond c95_h (rfl) (execL_skip (by kernel_rfl)) rfl))
@[go_sem] theorem k96_ret (b : Nat) (e : Env) (S : Store) : k96 b .ret e S = (k75 b) .ret e S := nr (seqC_r _ _ _ _)
@[go_sem] theorem k96_exit (b : Nat) (i : Nat) (e : Env) (S : Store) : k96 b (.exit i) e S = (k75 b) (.exit i) e S := nr (seqC_x _ _ _ _ _)
theorem k96_l (b : Nat) : seqC (fun e S => execL (C b) 0 c95 (k75 b) e S) (k75 b) = k96 b := rfl
noncomputable def k104 (b : Nat) : KT := seqC (fun e S => execL (C b) 0 c94 (k96 b) e S) (k75 b)
@[go_sem] theorem g105 (b : Nat) (K : KT) (x2 x3 x4 x5 x6 x7 x8 x9 x21 x33 x53 x63 x71 x82 x83 x84 x98 : PV) (S : Store) : execL (C b) 0 c94 K (ee x2 x3 x4 x5 x6 x7 x8 x9 x21 x33 x53 x63 x71 x82 x83 x84 x98) S =
  withV (some x5) fun x52 =>
    withV (evBin .neq (tyi Try.prog 3) x52 (.int .i64 0)) fun x53 =>
    K .normal (ee x2 x3 x4 x5 x6 x7 x8 x9 x21 x33 x53 x63 x71 x82 x83 x84 x98) S := nr (by kernel_rfl)
@[go_sem] theorem k104_n (b : Nat) (e : Env) (S : Store) : k104 b .normal e S = execL (C b) 0 c94 (k96 b) e S := nr (seqC_n _ _ _ _)
@[go_sem] theorem k104_ret (b : Nat) (e : Env) (S : Store) : k104 b .ret e S = (k75 b) .ret e S := nr (seqC_r _ _ _ _)
@[go_sem] theorem k104_exit (b : Nat) (i : Nat) (e : Env) (S : Store) : k104 b (.exit i) e S = (k75 b) (.exit i) e S := nr (seqC_x _ _ _ _ _)
theorem k104_l (b : Nat) : seqC (fun e S => execL (C b) 0 c93 (k75 b) e S) (k75 b) = k104 b := link_seq c93_h (k96_l b)
@[go_sem] theorem g106 (b : Nat) (K : KT) (x2 x3 x4 x5 x6 x7 x8 x9 x21 x33 x53 x63 x71 x82 x83 x84 x98 : PV) (S : Store) : execL (C b) 0 c92 K (ee x2 x3 x4 x5 x6 x7 x8 x9 x21 x33 x53 x63 x71 x82 x83 x84 x98) S =
  withV (evFieldAddr (tyi Try.prog 54) 2 x2) fun x45 =>
    withV (evFieldAddr (tyi Try.prog 51) 1 x45) fun x46 =>
    withV (evLoad (tyi Try.prog 49) S x46) fun x47 =>
    withV (evFieldAddr (tyi Try.prog 54) 2 x3) fun x48 =>
    withV (evFieldAddr (tyi Try.prog 51) 1 x48) fun x49 =>
    withV (evLoad (tyi Try.prog 49) S x49) fun x50 =>
    withN (callO (callL Try.prog hints) S 69 [x47, x50]) S fun x51 S =>
    withV (some x51) fun x5 =>
    K .normal (ee x2 x3 x4 x5 x6 x7 x8 x9 x21 x33 x53 x63 x71 x82 x83 x84 x98) S := nr (by kernel_rfl)
@[go_sem] theorem k91_n (b : Nat) (x2 x3 x4 x5 x6 x7 x8 x9 x21 x33 x53 x63 x71 x82 x83 x84 x98 : PV) (S : Store) : k91 b .normal (ee x2 x3 x4 x5 x6 x7 x8 x9 x21 x33 x53 x63 x71 x82 x83 x84 x98) S =
  execL (C b) 0 c92 (k104 b) (ee x2 x3 x4 x5 x6 x7 x8 x9 x21 x33 x53 x63 x71 x82 x83 x84 x98) S := nr ((show k91 b .normal (ee x2 x3 x4 x5 x6 x7 x8 x9 x21 x33 x53 x63 x71 x82 x83 x84 x98) S = execL (C b) 0 c5 (k75 b) (ee x2 x3 x4 x5 x6 x7 x8 x9 x21 x33 x53 x63 x71 x82 x83 x84 x98) S from seqC_n _ _ _ _).trans ((enter_seq c5_h (k104_l b)).trans (rfl)))
@[go_sem] theorem k91_ret (b : Nat) (e : Env) (S : Store) : k91 b .ret e S = (k0 b) .ret e S := nr (seqC_r _ _ _ _)
@[go_sem] theorem k91_exit (b : Nat) (i : Nat) (e : Env) (S : Store) : k91 b (.exit i) e S = (k0 b) (.exit i) e S := nr (seqC_x _ _ _ _ _)
theorem k91_l (b : Nat) : seqC (fun e S => execL (C b) 0 c4 (k0 b) e S) (k0 b) = k91 b := link_seq c4_h (k75_l b)
noncomputable def k107 (b : Nat) : KT := seqC (fun e S => execL (C b) 0 c3 (k91 b) e S) (k0 b)
noncomputable def c108 : Code := atB c3
theorem c3_h : c3 = .block 0 c108 := by kernel_rfl
noncomputable def k109 (b : Nat) : KT := blockC 0 (k91 b)
@[go_sem] theorem k109_n (b : Nat) (e : Env) (S : Store) : k109 b .normal e S = (k91 b) .normal e S := nr (blockC_n _ _ _ _)
@[go_sem] theorem k109_ret (b : Nat) (e : Env) (S : Store) : k109 b .ret e S = (k91 b) .ret e S := nr (blockC_r _ _ _ _)
@[go_sem] theorem k109_exit (b : Nat) (i : Nat) (e : Env) (S : Store) : k109 b (.exit i) e S = if i = 0 then (k91 b) .normal e S else (k91 b) (.exit i) e S := nr (blockC_x _ _ _ _ _)
noncomputable def c110 : Code := at0 c108
noncomputable def c111 : Code := at1 c108
theorem c108_h : c108 = .seq c110 c111 := by kernel_rfl
noncomputable def k112 (b : Nat) : KT := seqC (fun e S => execL (C b) 0 c111 (k109 b) e S) (k109 b)
noncomputable def c113 : Code := atT c111
noncomputable def c114 : Code := atF c111
theorem c111_h : c111 = .cond (.tmp 9) c113 c114 := by kernel_rfl
noncomputable def c116 : Code := at0 c113
noncomputable def c117 : Code := at1 c113
theorem c113_h : c113 = .seq c116 c117 := by kernel_rfl
noncomputable def k118 (b : Nat) : KT := seqC (fun e S => execL (C b) 0 c117 (k109 b) e S) (k109 b)
@[go_sem] theorem k118_n (b : Nat) (x2 x3 x4 x5 x6 x7 x8 x9 x21 x33 x53 x63 x71 x82 x83 x84 x98 : PV) (S : Store) : k118 b .normal (ee x2 x3 x4 x5 x6 x7 x8 x9 x21 x33 x53 x63 x71 x82 x83 x84 x98) S =
  (k109 b) .ret (ee x2 x3 x4 x5 x6 x7 x8 x9 x21 x33 x53 x63 x71 x82 x83 x84 x98) S := nr ((show k118 b .normal (ee x2 x3 x4 x5 x6 x7 x8 x9 x21 x33 x53 x63 x71 x82 x83 x84 x98) S = execL (C b) 0 c117 (k109 b) (ee x2 x3 x4 x5 x6 x7 x8 x9 x21 x33 x53 x63 x71 x82 x83 x84 x98) S from seqC_n _ _ _ _).trans (execL_ret (by kernel_rfl)))
@[go_sem] theorem k118_ret (b : Nat) (e : Env) (S : Store) : k118 b .ret e S = (k109 b) .ret e S := nr (seqC_r _ _ _ _)
@[go_sem] theorem k118_exit (b : Nat) (i : Nat) (e : Env) (S : Store) : k118 b (.exit i) e S = (k109 b) (.exit i) e S := nr (seqC_x _ _ _ _ _)
theorem k118_l (b : Nat) : seqC (fun e S => execL (C b) 0 c117 (k109 b) e S) (k109 b) = k118 b := rfl
@[go_sem] theorem g119 (b : Nat) (K : KT) (x2 x3 x4 x5 x6 x7 x8 x9 x21 x33 x53 x63 x71 x82 x83 x84 x98 : PV) (S : Store) : execL (C b) 0 c116 K (ee x2 x3 x4 x5 x6 x7 x8 x9 x21 x33 x53 x63 x71 x82 x83 x84 x98) S =
  withV (evFieldAddr (tyi Try.prog 54) 0 x2) fun x15 =>
    withV (evLoad (tyi Try.prog 3) S x15) fun x16 =>
    withV (evFieldAddr (tyi Try.prog 54) 0 x3) fun x17 =>
    withV (evLoad (tyi Try.prog 3) S x17) fun x18 =>
    withV (evBin .lss (tyi Try.prog 3) x16 x18) fun x19 =>
    withN (callO (callL Try.prog hints) S 68 [x19]) S fun x20 S =>
    withV (some x20) fun x4 =>
    K .normal (ee x2 x3 x4 x5 x6 x7 x8 x9 x21 x33 x53 x63 x71 x82 x83 x84 x98) S := nr (by kernel_rfl)
noncomputable def E115 (b : Nat) (x2 x3 x4 x5 x6 x7 x8 x9 x21 x33 x53 x63 x71 x82 x83 x84 x98 : PV) (S : Store) : RT := execL (C b) 0 c113 (k109 b) (ee x2 x3 x4 x5 x6 x7 x8 x9 x21 x33 x53 x63 x71 x82 x83 x84 x98) S
@[go_sem] theorem E115_eq (b : Nat) (x2 x3 x4 x5 x6 x7 x8 x9 x21 x33 x53 x63 x71 x82 x83 x84 x98 : PV) (S : Store) : E115 b x2 x3 x4 x5 x6 x7 x8 x9 x21 x33 x53 x63 x71 x82 x83 x84 x98 S =
  execL (C b) 0 c116 (k118 b) (ee x2 x3 x4 x5 x6 x7 x8 x9 x21 x33 x53 x63 x71 x82 x83 x84 x98) S := nr ((enter_seq c113_h (k118_l b)).trans (rfl))
noncomputable def c121 : Code := at0 c114
noncomputable def c122 : Code := at1 c114
theorem c114_h : c114 = .seq c121 c122 := by kernel_rfl
noncomputable def k123 (b : Nat) : KT := seqC (fun e S => execL (C b) 0 c122 (k109 b) e S) (k109 b)
noncomputable def c124 : Code := atT c122
noncomputable def c125 : Code := atF c122
theorem c122_h : c122 = .cond (.tmp 21) c124 c125 := by kernel_rfl
noncomputable def c127 : Code := at0 c124
noncomputable def c128 : Code := at1 c124
theorem c124_h : c124 = .seq c127 c128 := by kernel_rfl
noncomputable def k129 (b : Nat) : KT := seqC (fun e S => execL (C b) 0 c128 (k109 b) e S) (k109 b)
@[go_sem] theorem k129_n (b : Nat) (x2 x3 x4 x5 x6 x7 x8 x9 x21 x33 x53 x63 x71 x82 x83 x84 x98 : PV) (S : Store) : k129 b .normal (ee x2 x3 x4 x5 x6 x7 x8 x9 x21 x33 x53 x63 x71 x82 x83 x84 x98) S =
  (k109 b) .ret (ee x2 x3 x4 x5 x6 x7 x8 x9 x21 x33 x53 x63 x71 x82 x83 x84 x98) S := nr ((show k129 b .normal (ee x2 x3 x4 x5 x6 x7 x8 x9 x21 x33 x53 x63 x71 x82 x83 x84 x98) S = execL (C b) 0 c128 (k109 b) (ee x2 x3 x4 x5 x6 x7 x8 x9 x21 x33 x53 x63 x71 x82 x83 x84 x98) S from seqC_n _ _ _ _).trans (execL_ret (by kernel_rfl)))
@[go_sem] theorem k129_ret (b : Nat) (e : Env) (S : Store) : k129 b .ret e S = (k109 b) .ret e S := nr (seqC_r _ _ _ _)
@[go_sem] theorem k129_exit (b : Nat) (i : Nat) (e : Env) (S : Store) : k129 b (.exit i) e S = (k109 b) (.exit i) e S := nr (seqC_x _ _ _ _ _)
theorem k129_l (b : Nat) : seqC (fun e S => execL (C b) 0 c128 (k109 b) e S) (k109 b) = k129 b := rfl
@[go_sem] theorem g130 (b : Nat) (K : KT) (x2 x3 x4 x5 x6 x7 x8 x9 x21 x33 x53 x63 x71 x82 x83 x84 x98 : PV) (S : Store) : execL (C b) 0 c127 K (ee x2 x3 x4 x5 x6 x7 x8 x9 x21 x33 x53 x63 x71 x82 x83 x84 x98) S =
  withV (evFieldAddr (tyi Try.prog 54) 1 x2) fun x27 =>
    withV (evLoad (tyi Try.prog 9) S x27) fun x28 =>
    withV (evFieldAddr (tyi Try.prog 54) 1 x3) fun x29 =>
    withV (evLoad (tyi Try.prog 9) S x29) fun x30 =>
    withV (evBin .lss (tyi Try.prog 9) x28 x30) fun x31 =>
    withN (callO (callL Try.prog hints) S 68 [x31]) S fun x32 S =>
    withV (some x32) fun x4 =>
    K .normal (ee x2 x3 x4 x5 x6 x7 x8 x9 x21 x33 x53 x63 x71 x82 x83 x84 x98) S := nr (by kernel_rfl)
noncomputable def E126 (b : Nat) (x2 x3 x4 x5 x6 x7 x8 x9 x21 x33 x53 x63 x71 x82 x83 x84 x98 : PV) (S : Store) : RT := execL (C b) 0 c124 (k109 b) (ee x2 x3 x4 x5 x6 x7 x8 x9 x21 x33 x53 x63 x71 x82 x83 x84 x98) S
@[go_sem] theorem E126_eq (b : Nat) (x2 x3 x4 x5 x6 x7 x8 x9 x21 x33 x53 x63 x71 x82 x83 x84 x98 : PV) (S : Store) : E126 b x2 x3 x4 x5 x6 x7 x8 x9 x21 x33 x53 x63 x71 x82 x83 x84 x98 S =
  execL (C b) 0 c127 (k129 b) (ee x2 x3 x4 x5 x6 x7 x8 x9 x21 x33 x53 x63 x71 x82 x83 x84 x98) S := nr ((enter_seq c124_h (k129_l b)).trans (rfl))
noncomputable def c132 : Code := at0 c125
noncomputable def c133 : Code := at1 c125
theorem c125_h : c125 = .seq c132 c133 := by kernel_rfl
noncomputable def k134 (b : Nat) : KT := seqC (fun e S => execL (C b) 0 c133 (k109 b) e S) (k109 b)
noncomputable def c135 : Code := atT c133
noncomputable def c136 : Code := atF c133
theorem c133_h : c133 = .cond (.tmp 33) c135 c136 := by kernel_rfl
noncomputable def c138 : Code := at0 c135
noncomputable def c139 : Code := at1 c135
theorem c135_h : c135 = .seq c138 c139 := by kernel_rfl
noncomputable def k140 (b : Nat) : KT := seqC (fun e S => execL (C b) 0 c139 (k109 b) e S) (k109 b)
@[go_sem] theorem k140_n (b : Nat) (x2 x3 x4 x5 x6 x7 x8 x9 x21 x33 x53 x63 x71 x82 x83 x84 x98 : PV) (S : Store) : k140 b .normal (ee x2 x3 x4 x5 x6 x7 x8 x9 x21 x33 x53 x63 x71 x82 x83 x84 x98) S =
  (k109 b) .ret (ee x2 x3 x4 x5 x6 x7 x8 x9 x21 x33 x53 x63 x71 x82 x83 x84 x98) S := nr ((show k140 b .normal (ee x2 x3 x4 x5 x6 x7 x8 x9 x21 x33 x53 x63 x71 x82 x83 x84 x98) S = execL (C b) 0 c139 (k109 b) (ee x2 x3 x4 x5 x6 x7 x8 x9 x21 x33 x53 x63 x71 x82 x83 x84 x98) S from seqC_n _ _ _ _).trans (execL_ret (by kernel_rfl)))
@[go_sem] theorem k140_ret (b : Nat) (e : Env) (S : Store) : k140 b .ret e S = (k109 b) .ret e S := nr (seqC_r _ _ _ _)
@[go_sem] theorem k140_exit (b : Nat) (i : Nat) (e : Env) (S : Store) : k140 b (.exit i) e S = (k109 b) (.exit i) e S := nr (seqC_x _ _ _ _ _)
theorem k140_l (b : Nat) : seqC (fun e S => execL (C b) 0 c139 (k109 b) e S) (k109 b) = k140 b := rfl
@[go_sem] theorem g141 (b : Nat) (K : KT) (x2 x3 x4 x5 x6 x7 x8 x9 x21 x33 x53 x63 x71 x82 x83 x84 x98 : PV) (S : Store) : execL (C b) 0 c138 K (ee x2 x3 x4 x5 x6 x7 x8 x9 x21 x33 x53 x63 x71 x82 x83 x84 x98) S =
  withV (evFieldAddr (tyi Try.prog 54) 2 x3) fun x41 =>
    withV (evFieldAddr (tyi Try.prog 51) 0 x41) fun x42 =>
    withV (evLoad (tyi Try.prog 4) S x42) fun x43 =>
    withN (callO (callL Try.prog hints) S 68 [x43]) S fun x44 S =>
    withV (some x44) fun x4 =>
    K .normal (ee x2 x3 x4 x5 x6 x7 x8 x9 x21 x33 x53 x63 x71 x82 x83 x84 x98) S := nr (by kernel_rfl)
noncomputable def E137 (b : Nat) (x2 x3 x4 x5 x6 x7 x8 x9 x21 x33 x53 x63 x71 x82 x83 x84 x98 : PV) (S : Store) : RT := execL (C b) 0 c135 (k109 b) (ee x2 x3 x4 x5 x6 x7 x8 x9 x21 x33 x53 x63 x71 x82 x83 x84 x98) S
@[go_sem] theorem E137_eq (b : Nat) (x2 x3 x4 x5 x6 x7 x8 x9 x21 x33 x53 x63 x71 x82 x83 x84 x98 : PV) (S : Store) : E137 b x2 x3 x4 x5 x6 x7 x8 x9 x21 x33 x53 x63 x71 x82 x83 x84 x98 S =
  execL (C b) 0 c138 (k140 b) (ee x2 x3 x4 x5 x6 x7 x8 x9 x21 x33 x53 x63 x71 x82 x83 x84 x98) S := nr ((enter_seq c135_h (k140_l b)).trans (rfl))
@[go_sem] theorem k134_n (b : Nat) (x2 x3 x4 x5 x6 x7 x8 x9 x21 x33 x53 x63 x71 x82 x83 x84 x98 : PV) (S : Store) : k134 b .normal (ee x2 x3 x4 x5 x6 x7 x8 x9 x21 x33 x53 x63 x71 x82 x83 x84 x98) S =
  condC x33 (E137 b x2 x3 x4 x5 x6 x7 x8 x9 x21 x33 x53 x63 x71 x82 x83 x84 x98 S)
    ((k109 b) .normal (ee x2 x3 x4 x5 x6 x7 x8 x9 x21 x33 x53 x63 x71 x82 x83 x84 x98) S) := nr ((show k134 b .normal (ee x2 x3 x4 x5 x6 x7 x8 x9 x21 x33 x53 x63 x71 x82 x83 x84 x98) S = execL (C b) 0 c133 (k109 b) (ee x2 x3 x4 x5 x6 x7 x8 x9 x21 x33 x53 x63 x71 x82 x83 x84 x98) S from seqC_n _ _ _ _).trans (execL_cond c133_h (rfl) (execL_skip (by kernel_rfl)) rfl))
@[go_sem] theorem k134_ret (b : Nat) (e : Env) (S : Store) : k134 b .ret e S = (k109 b) .ret e S := nr (seqC_r _ _ _ _)
@[go_sem] theorem k134_exit (b : Nat) (i : Nat) (e : Env) (S : Store) : k134 b (.exit i) e S = (k109 b) (.exit i) e S := nr (seqC_x _ _ _ _ _)
theorem k134_l (b : Nat) : seqC (fun e S => execL (C b) 0 c133 (k109 b) e S) (k109 b) = k134 b := rfl
@[go_sem] theorem g142 (b : Nat) (K : KT) (x2 x3 x4 x5 x6 x7 x8 x9 x21 x33 x53 x63 x71 x82 x83 x84 x98 : PV) (S : Store) : execL (C b) 0 c132 K (ee x2 x3 x4 x5 x6 x7 x8 x9 x21 x33 x53 x63 x71 x82 x83 x84 x98) S =
  withV (evFieldAddr (tyi Try.prog 54) 2 x2) fun x34 =>
    withV (evFieldAddr (tyi Try.prog 51) 0 x34) fun x35 =>
    withV (evLoad (tyi Try.prog 4) S x35) fun x36 =>
    withV (evFieldAddr (tyi Try.prog 54) 2 x3) fun x37 =>
    withV (evFieldAddr (tyi Try.prog 51) 0 x37) fun x38 =>
    withV (evLoad (tyi Try.prog 4) S x38) fun x39 =>
    withV (evBin .neq (tyi Try.prog 4) x36 x39) fun x40 =>
    withV (some x40) fun x33 =>
    K .normal (ee x2 x3 x4 x5 x6 x7 x8 x9 x21 x33 x53 x63 x71 x82 x83 x84 x98) S := nr (by kernel_rfl)
noncomputable def E131 (b : Nat) (x2 x3 x4 x5 x6 x7 x8 x9 x21 x33 x53 x63 x71 x82 x83 x84 x98 : PV) (S : Store) : RT := execL (C b) 0 c125 (k109 b) (ee x2 x3 x4 x5 x6 x7 x8 x9 x21 x33 x53 x63 x71 x82 x83 x84 x98) S
@[go_sem] theorem E131_eq (b : Nat) (x2 x3 x4 x5 x6 x7 x8 x9 x21 x33 x53 x63 x71 x82 x83 x84 x98 : PV) (S : Store) : E131 b x2 x3 x4 x5 x6 x7 x8 x9 x21 x33 x53 x63 x71 x82 x83 x84 x98 S =
  execL (C b) 0 c132 (k134 b) (ee x2 x3 x4 x5 x6 x7 x8 x9 x21 x33 x53 x63 x71 x82 x83 x84 x98) S := nr ((enter_seq c125_h (k134_l b)).trans (rfl))
@[go_sem] theorem k123_n (b : Nat) (x2 x3 x4 x5 x6 x7 x8 x9 x21 x33 x53 x63 x71 x82 x83 x84 x98 : PV) (S : Store) : k123 b .normal (ee x2 x3 x4 x5 x6 x7 x8 x9 x21 x33 x53 x63 x71 x82 x83 x84 x98) S =
  condC x21 (E126 b x2 x3 x4 x5 x6 x7 x8 x9 x21 x33 x53 x63 x71 x82 x83 x84 x98 S)
    (E131 b x2 x3 x4 x5 x6 x7 x8 x9 x21 x33 x53 x63 x71 x82 x83 x84 x98 S) := nr ((show k123 b .normal (ee x2 x3 x4 x5 x6 x7 x8 x9 x21 x33 x53 x63 x71 x82 x83 x84 x98) S = execL (C b) 0 c122 (k109 b) (ee x2 x3 x4 x5 x6 x7 x8 x9 x21 x33 x53 x63 x71 x82 x83 x84 x98) S from seqC_n _ _ _ _).trans (execL_cond c122_h (rfl) (rfl) rfl))
@[go_sem] theorem k123_ret (b : Nat) (e : Env) (S : Store) : k123 b .ret e S = (k109 b) .ret e S := nr (seqC_r _ _ _ _)
@[go_sem] theorem k123_exit (b : Nat) (i : Nat) (e : Env) (S : Store) : k123 b (.exit i) e S = (k109 b) (.exit i) e S := nr (seqC_x _ _ _ _ _)
theorem k123_l (b : Nat) : seqC (fun e S => execL (C b) 0 c122 (k109 b) e S) (k109 b) = k123 b := rfl
@[go_sem] theorem g143 (b : Nat) (K : KT) (x2 x3 x4 x5 x6 x7 x8 x9 x21 x33 x53 x63 x71 x82 x83 x84 x98 : PV) (S : Store) : execL (C b) 0 c121 K (ee x2 x3 x4 x5 x6 x7 x8 x9 x21 x33 x53 x63 x71 x82 x83 x84 x98) S =
  withV (evFieldAddr (tyi Try.prog 54) 1 x2) fun x22 =>
    withV (evLoad (tyi Try.prog 9) S x22) fun x23 =>
    withV (evFieldAddr (tyi Try.prog 54) 1 x3) fun x24 =>
    withV (evLoad (tyi Try.prog 9) S x24) fun x25 =>
    withV (evBin .neq (tyi Try.prog 9) x23 x25) fun x26 =>
    withV (some x26) fun x21 =>
    K .normal (ee x2 x3 x4 x5 x6 x7 x8 x9 x21 x33 x53 x63 x71 x82 x83 x84 x98) S := nr (by kernel_rfl)
noncomputable def E120 (b : Nat) (x2 x3 x4 x5 x6 x7 x8 x9 x21 x33 x53 x63 x71 x82 x83 x84 x98 : PV) (S : Store) : RT := execL (C b) 0 c114 (k109 b) (ee x2 x3 x4 x5 x6 x7 x8 x9 x21 x33 x53 x63 x71 x82 x83 x84 x98) S
@[go_sem] theorem E120_eq (b : Nat) (x2 x3 x4 x5 x6 x7 x8 x9 x21 x33 x53 x63 x71 x82 x83 x84 x98 : PV) (S : Store) : E120 b x2 x3 x4 x5 x6 x7 x8 x9 x21 x33 x53 x63 x71 x82 x83 x84 x98 S =
  execL (C b) 0 c121 (k123 b) (ee x2 x3 x4 x5 x6 x7 x8 x9 x21 x33 x53 x63 x71 x82 x83 x84 x98) S := nr ((enter_seq c114_h (k123_l b)).trans (rfl))
@[go_sem] theorem k112_n (b : Nat) (x2 x3 x4 x5 x6 x7 x8 x9 x21 x33 x53 x63 x71 x82 x83 x84 x98 : PV) (S : Store) : k112 b .normal (ee x2 x3 x4 x5 x6 x7 x8 x9 x21 x33 x53 x63 x71 x82 x83 x84 x98) S =
  condC x9 (E115 b x2 x3 x4 x5 x6 x7 x8 x9 x21 x33 x53 x63 x71 x82 x83 x84 x98 S)
    (E120 b x2 x3 x4 x5 x6 x7 x8 x9 x21 x33 x53 x63 x71 x82 x83 x84 x98 S) := nr ((show k112 b .normal (ee x2 x3 x4 x5 x6 x7 x8 x9 x21 x33 x53 x63 x71 x82 x83 x84 x98) S = execL (C b) 0 c111 (k109 b) (ee x2 x3 x4 x5 x6 x7 x8 x9 x21 x33 x53 x63 x71 x82 x83 x84 x98) S from seqC_n _ _ _ _).trans (execL_cond c111_h (rfl) (rfl) rfl))
@[go_sem] theorem k112_ret (b : Nat) (e : Env) (S : Store) : k112 b .ret e S = (k109 b) .ret e S := nr (seqC_r _ _ _ _)
@[go_sem] theorem k112_exit (b : Nat) (i : Nat) (e : Env) (S : Store) : k112 b (.exit i) e S = (k109 b) (.exit i) e S := nr (seqC_x _ _ _ _ _)
theorem k112_l (b : Nat) : seqC (fun e S => execL (C b) 0 c111 (k109 b) e S) (k109 b) = k112 b := rfl
@[go_sem] theorem g144 (b : Nat) (K : KT) (x2 x3 x4 x5 x6 x7 x8 x9 x21 x33 x53 x63 x71 x82 x83 x84 x98 : PV) (S : Store) : execL (C b) 0 c110 K (ee x2 x3 x4 x5 x6 x7 x8 x9 x21 x33 x53 x63 x71 x82 x83 x84 x98) S =
  withV (evFieldAddr (tyi Try.prog 54) 0 x2) fun x10 =>
    withV (evLoad (tyi Try.prog 3) S x10) fun x11 =>
    withV (evFieldAddr (tyi Try.prog 54) 0 x3) fun x12 =>
    withV (evLoad (tyi Try.prog 3) S x12) fun x13 =>
    withV (evBin .neq (tyi Try.prog 3) x11 x13) fun x14 =>
    withV (some x14) fun x9 =>
    K .normal (ee x2 x3 x4 x5 x6 x7 x8 x9 x21 x33 x53 x63 x71 x82 x83 x84 x98) S := nr (by kernel_rfl)
@[go_sem] theorem k107_n (b : Nat) (x2 x3 x4 x5 x6 x7 x8 x9 x21 x33 x53 x63 x71 x82 x83 x84 x98 : PV) (S : Store) : k107 b .normal (ee x2 x3 x4 x5 x6 x7 x8 x9 x21 x33 x53 x63 x71 x82 x83 x84 x98) S =
  execL (C b) 0 c110 (k112 b) (ee x2 x3 x4 x5 x6 x7 x8 x9 x21 x33 x53 x63 x71 x82 x83 x84 x98) S := nr ((show k107 b .normal (ee x2 x3 x4 x5 x6 x7 x8 x9 x21 x33 x53 x63 x71 x82 x83 x84 x98) S = execL (C b) 0 c3 (k91 b) (ee x2 x3 x4 x5 x6 x7 x8 x9 x21 x33 x53 x63 x71 x82 x83 x84 x98) S from seqC_n _ _ _ _).trans ((show execL (C b) 0 c3 (k91 b) (ee x2 x3 x4 x5 x6 x7 x8 x9 x21 x33 x53 x63 x71 x82 x83 x84 x98) S = execL (C b) 0 c108 (k109 b) (ee x2 x3 x4 x5 x6 x7 x8 x9 x21 x33 x53 x63 x71 x82 x83 x84 x98) S from execL_block c3_h).trans ((enter_seq c108_h (k112_l b)).trans (rfl))))
@[go_sem] theorem k107_ret (b : Nat) (e : Env) (S : Store) : k107 b .ret e S = (k0 b) .ret e S := nr (seqC_r _ _ _ _)
@[go_sem] theorem k107_exit (b : Nat) (i : Nat) (e : Env) (S : Store) : k107 b (.exit i) e S = (k0 b) (.exit i) e S := nr (seqC_x _ _ _ _ _)
theorem k107_l (b : Nat) : seqC (fun e S => execL (C b) 0 c2 (k0 b) e S) (k0 b) = k107 b := link_seq c2_h (k91_l b)
@[go_sem] theorem g145 (b : Nat) (K : KT) (x0 x1 : PV) (S : Store) : execL (C b) 0 c1 K [(0, x0), (1, x1)] S =
  withN (boxed S (List.length S) (TI.size (tyi Try.prog 54)) x0) S fun x2 S =>
    withN (boxed S (List.length S) (TI.size (tyi Try.prog 54)) x1) S fun x3 S =>
    withV (some (.int .i64 0)) fun x4 =>
    K .normal (ee x2 x3 x4 .undef .undef .undef .undef .undef .undef .undef .undef .undef .undef .undef .undef .undef .undef) S := nr (by kernel_rfl)
noncomputable def E (b : Nat) (x0 x1 : PV) (S : Store) : RT := execL (C b) 0 code (k0 b) [(0, x0), (1, x1)] S
@[go_sem] theorem E_eq (b : Nat) (x0 x1 : PV) (S : Store) : E b x0 x1 S =
  execL (C b) 0 c1 (k107 b) [(0, x0), (1, x1)] S := nr ((enter_seq code_h (k107_l b)).trans (rfl))
theorem callR {x0 x1 : PV} {S : Store} {r : PV × Store} (h : E S.length x0 x1 S = some r) : callRL Try.prog hints 42 [x0, x1] S = some r := callRL_of (fn := Try.f42) (c := code) (by kernel_rfl) (by kernel_rfl) (by decide) (by kernel_rfl) (Nat.le_of_ble_eq_true (by kernel_rfl)) h
theorem call {x0 x1 : PV} {r : PV × Store} {v : PV} (h : E 0 x0 x1 [] = some r) (hv : fzPV r.2 r.1 = some v) : callL Try.prog hints 42 [x0, x1] = some v := callL_of (fn := Try.f42) (c := code) (by kernel_rfl) (by kernel_rfl) (by decide) (by kernel_rfl) (Nat.le_of_ble_eq_true (by kernel_rfl)) h hv
end F42
/-! ### isochroneref08.Compare -/
namespace F46
def hint : Hint := { keep := [2, 3, 4, 5, 6, 7, 8, 9, 10, 17, 23, 28, 35, 38, 47, 57, 67, 73, 88], loops := [(0, { live := [2, 3, 9], after := [], own := [], fz := [] })] }
noncomputable def C (b : Nat) : Ctx := ctxL Try.prog hints b hint
noncomputable def code : Code := Try.f46.body.get rfl
noncomputable def k0 (b : Nat) : KT := endC Try.prog Try.f46
def ee (x2 x3 x4 x5 x6 x7 x8 x9 x10 x17 x23 x28 x35 x38 x47 x57 x67 x73 x88 : PV) : Env := [(2, x2), (3, x3), (4, x4), (5, x5), (6, x6), (7, x7), (8, x8), (9, x9), (10, x10), (17, x17), (23, x23), (28, x28), (35, x35), (38, x38), (47, x47), (57, x57), (67, x67), (73, x73), (88, x88)]
@[go_sem] theorem gc_ee (n : Nat) (x2 x3 x4 x5 x6 x7 x8 x9 x10 x17 x23 x28 x35 x38 x47 x57 x67 x73 x88 : PV) (S : Store) : gc n (ee x2 x3 x4 x5 x6 x7 x8 x9 x10 x17 x23 x28 x35 x38 x47 x57 x67 x73 x88) S = gc n [(2, x2), (3, x3), (4, x4), (5, x5), (6, x6), (7, x7), (8, x8), (9, x9), (10, x10), (17, x17), (23, x23), (28, x28), (35, x35), (38, x38), (47, x47), (57, x57), (67, x67), (73, x73), (88, x88)] S := nr (rfl)
@[go_sem] theorem k0_ret (b : Nat) (x2 x3 x4 x5 x6 x7 x8 x9 x10 x17 x23 x28 x35 x38 x47 x57 x67 x73 x88 : PV) (S : Store) : k0 b .ret (ee x2 x3 x4 x5 x6 x7 x8 x9 x10 x17 x23 x28 x35 x38 x47 x57 x67 x73 x88) S = some (x4, S) := nr (by kernel_rfl)
@[go_sem] theorem k0_n (b : Nat) (x2 x3 x4 x5 x6 x7 x8 x9 x10 x17 x23 x28 x35 x38 x47 x57 x67 x73 x88 : PV) (S : Store) : k0 b .normal (ee x2 x3 x4 x5 x6 x7 x8 x9 x10 x17 x23 x28 x35 x38 x47 x57 x67 x73 x88) S = some (x4, S) := nr (by kernel_rfl)
noncomputable def c1 : Code := at0 code
noncomputable def c2 : Code := at1 code
theorem code_h : code = .seq c1 c2 := by kernel_rfl
noncomputable def c3 : Code := at0 c2
noncomputable def c4 : Code := at1 c2
theorem c2_h : c2 = .seq c3 c4 := by kernel_rfl
noncomputable def c5 : Code := at0 c4
noncomputable def c6 : Code := at1 c4
theorem c4_h : c4 = .seq c5 c6 := by kernel_rfl
noncomputable def c7 : Code := at0 c6
noncomputable def c8 : Code := at1 c6
theorem c6_h : c6 = .seq c7 c8 := by kernel_rfl
noncomputable def c9 : Code := at0 c8
noncomputable def c10 : Code := at1 c8
theorem c8_h : c8 = .seq c9 c10 := by kernel_rfl
noncomputable def c11 : Code := at0 c10
noncomputable def c12 : Code := at1 c10
theorem c10_h : c10 = .seq c11 c12 := by kernel_rfl
noncomputable def c13 : Code := at0 c12
noncomputable def c14 : Code := at1 c12
theorem c12_h : c12 = .seq c13 c14 := by kernel_rfl
noncomputable def c15 : Code := at0 c14
noncomputable def c16 : Code := at1 c14
theorem c14_h : c14 = .seq c15 c16 := by kernel_rfl
noncomputable def c17 : Code := at0 c16
noncomputable def c18 : Code := at1 c16
theorem c16_h : c16 = .seq c17 c18 := by kernel_rfl
noncomputable def k19 (b : Nat) : KT := seqC (fun e S => execL (C b) 0 c18 (k0 b) e S) (k0 b)
@[go_sem] theorem k19_n (b : Nat) (x2 x3 x4 x5 x6 x7 x8 x9 x10 x17 x23 x28 x35 x38 x47 x57 x67 x73 x88 : PV) (S : Store) : k19 b .normal (ee x2 x3 x4 x5 x6 x7 x8 x9 x10 x17 x23 x28 x35 x38 x47 x57 x67 x73 x88) S =
  (k0 b) .ret (ee x2 x3 x4 x5 x6 x7 x8 x9 x10 x17 x23 x28 x35 x38 x47 x57 x67 x73 x88) S := nr ((show k19 b .normal (ee x2 x3 x4 x5 x6 x7 x8 x9 x10 x17 x23 x28 x35 x38 x47 x57 x67 x73 x88) S = execL (C b) 0 c18 (k0 b) (ee x2 x3 x4 x5 x6 x7 x8 x9 x10 x17 x23 x28 x35 x38 x47 x57 x67 x73 x88) S from seqC_n _ _ _ _).trans (execL_ret (by kernel_rfl)))
@[go_sem] theorem k19_ret (b : Nat) (e : Env) (S : Store) : k19 b .ret e S = (k0 b) .ret e S := nr (seqC_r _ _ _ _)
@[go_sem] theorem k19_exit (b : Nat) (i : Nat) (e : Env) (S : Store) : k19 b (.exit i) e S = (k0 b) (.exit i) e S := nr (seqC_x _ _ _ _ _)
theorem k19_l (b : Nat) : seqC (fun e S => execL (C b) 0 c18 (k0 b) e S) (k0 b) = k19 b := rfl
noncomputable def k20 (b : Nat) : KT := seqC (fun e S => execL (C b) 0 c17 (k19 b) e S) (k0 b)
@[go_sem] theorem g21 (b : Nat) (K : KT) (x2 x3 x4 x5 x6 x7 x8 x9 x10 x17 x23 x28 x35 x38 x47 x57 x67 x73 x88 : PV) (S : Store) : execL (C b) 0 c17 K (ee x2 x3 x4 x5 x6 x7 x8 x9 x10 x17 x23 x28 x35 x38 x47 x57 x67 x73 x88) S =
  withV (some (.int .i64 0)) fun x4 =>
    K .normal (ee x2 x3 x4 x5 x6 x7 x8 x9 x10 x17 x23 x28 x35 x38 x47 x57 x67 x73 x88) S := nr (by kernel_rfl)
@[go_sem] theorem k20_n (b : Nat) (e : Env) (S : Store) : k20 b .normal e S = execL (C b) 0 c17 (k19 b) e S := nr (seqC_n _ _ _ _)
@[go_sem] theorem k20_ret (b : Nat) (e : Env) (S : Store) : k20 b .ret e S = (k0 b) .ret e S := nr (seqC_r _ _ _ _)
@[go_sem] theorem k20_exit (b : Nat) (i : Nat) (e : Env) (S : Store) : k20 b (.exit i) e S = (k0 b) (.exit i) e S := nr (seqC_x _ _ _ _ _)
theorem k20_l (b : Nat) : seqC (fun e S => execL (C b) 0 c16 (k0 b) e S) (k0 b) = k20 b := link_seq c16_h (k19_l b)
noncomputable def k22 (b : Nat) : KT := seqC (fun e S => execL (C b) 0 c15 (k20 b) e S) (k0 b)
noncomputable def c23 : Code := at0 c15
noncomputable def c24 : Code := at1 c15
theorem c15_h : c15 = .seq c23 c24 := by kernel_rfl
noncomputable def k25 (b : Nat) : KT := seqC (fun e S => execL (C b) 0 c24 (k20 b) e S) (k20 b)
noncomputable def c26 : Code := atB c24
theorem c24_h : c24 = .block 0 c26 := by kernel_rfl
noncomputable def k27 (b : Nat) : KT := blockC 0 (k20 b)
@[go_sem] theorem k27_n (b : Nat) (e : Env) (S : Store) : k27 b .normal e S = (k20 b) .normal e S := nr (blockC_n _ _ _ _)
@[go_sem] theorem k27_ret (b : Nat) (e : Env) (S : Store) : k27 b .ret e S = (k20 b) .ret e S := nr (blockC_r _ _ _ _)
@[go_sem] theorem k27_exit (b : Nat) (i : Nat) (e : Env) (S : Store) : k27 b (.exit i) e S = if i = 0 then (k20 b) .normal e S else (k20 b) (.exit i) e S := nr (blockC_x _ _ _ _ _)
noncomputable def c28 : Code := atL c26
noncomputable def k29 (b n0 : Nat) : KT := afterC 0 n0 [] (k27 b)
noncomputable def L0g (b n0 : Nat) (e : Env) (S : Store) : RT := loopL (fun K e S => execL (C b) 0 c28 K e S) (normG [2, 3, 9] [] n0) (k29 b n0) e S
noncomputable def L0 (b n0 : Nat) (x2 x3 x4 x5 x6 x7 x8 x9 x10 x17 x23 x28 x35 x38 x47 x57 x67 x73 x88 : PV) (S : Store) : RT := L0g b n0 (ee x2 x3 x4 x5 x6 x7 x8 x9 x10 x17 x23 x28 x35 x38 x47 x57 x67 x73 x88) S
noncomputable def k30 (b n0 : Nat) : KT := stepC (normG [2, 3, 9] [] n0) (k29 b n0) (L0g b n0)
@[go_sem] theorem k30_n (b n0 : Nat) (x2 x3 x4 x5 x6 x7 x8 x9 x10 x17 x23 x28 x35 x38 x47 x57 x67 x73 x88 : PV) (S : Store) : k30 b n0 .normal (ee x2 x3 x4 x5 x6 x7 x8 x9 x10 x17 x23 x28 x35 x38 x47 x57 x67 x73 x88) S = L0 b n0 x2 x3 .undef .undef .undef .undef .undef x9 .undef .undef .undef .undef .undef .undef .undef .undef .undef .undef .undef (gc n0 (ee x2 x3 .undef .undef .undef .undef .undef x9 .undef .undef .undef .undef .undef .undef .undef .undef .undef .undef .undef) S) := nr (by kernel_rfl)
@[go_sem] theorem k30_ret (b n0 : Nat) (e : Env) (S : Store) : k30 b n0 .ret e S = (k27 b) .ret e S := nr ((show k30 b n0 .ret e S = (k29 b n0) .ret e S from stepC_r _ _ _ _ _).trans (afterC_r _ _ _ _ _ _))
@[go_sem] theorem k30_x (b n0 : Nat) (x2 x3 x4 x5 x6 x7 x8 x9 x10 x17 x23 x28 x35 x38 x47 x57 x67 x73 x88 : PV) (S : Store) : k30 b n0 (.exit 0) (ee x2 x3 x4 x5 x6 x7 x8 x9 x10 x17 x23 x28 x35 x38 x47 x57 x67 x73 x88) S = (k27 b) (.exit 0) (ee .undef .undef .undef .undef .undef .undef .undef .undef .undef .undef .undef .undef .undef .undef .undef .undef .undef .undef .undef) (gc n0 (ee .undef .undef .undef .undef .undef .undef .undef .undef .undef .undef .undef .undef .undef .undef .undef .undef .undef .undef .undef) S) := nr ((show k30 b n0 (.exit 0) (ee x2 x3 x4 x5 x6 x7 x8 x9 x10 x17 x23 x28 x35 x38 x47 x57 x67 x73 x88) S = (k29 b n0) (.exit 0) (ee x2 x3 x4 x5 x6 x7 x8 x9 x10 x17 x23 x28 x35 x38 x47 x57 x67 x73 x88) S from stepC_x _ _ _ _ _ _).trans ((show (k29 b n0) (.exit 0) (ee x2 x3 x4 x5 x6 x7 x8 x9 x10 x17 x23 x28 x35 x38 x47 x57 x67 x73 x88) S = _ from afterC_x _ _ _ _ _ _ _).trans (if_pos rfl)))
theorem k30_o (b n0 : Nat) (i : Nat) (e : Env) (S : Store) (h : i ≠ 0) : k30 b n0 (.exit i) e S = (k27 b) (.exit i) e S := (show k30 b n0 (.exit i) e S = (k29 b n0) (.exit i) e S from stepC_x _ _ _ _ _ _).trans ((show (k29 b n0) (.exit i) e S = _ from afterC_x _ _ _ _ _ _ _).trans (if_neg h))
noncomputable def c31 : Code := at0 c28
noncomputable def c32 : Code := at1 c28
theorem c28_h : c28 = .seq c31 c32 := by kernel_rfl
noncomputable def c33 : Code := at0 c32
noncomputable def c34 : Code := at1 c32
theorem c32_h : c32 = .seq c33 c34 := by kernel_rfl
noncomputable def k35 (b n0 : Nat) : KT := seqC (fun e S => execL (C b) 0 c34 (k30 b n0) e S) (k30 b n0)
@[go_sem] theorem g36 (b : Nat) (K : KT) (x2 x3 x4 x5 x6 x7 x8 x9 x10 x17 x23 x28 x35 x38 x47 x57 x67 x73 x88 : PV) (S : Store) : execL (C b) 0 c34 K (ee x2 x3 x4 x5 x6 x7 x8 x9 x10 x17 x23 x28 x35 x38 x47 x57 x67 x73 x88) S =
  withV (some x9) fun x74 =>
    withV (evBin .add (tyi Try.prog 3) x74 (.int .i64 1)) fun x75 =>
    withV (some x75) fun x9 =>
    K .normal (ee x2 x3 x4 x5 x6 x7 x8 x9 x10 x17 x23 x28 x35 x38 x47 x57 x67 x73 x88) S := nr (by kernel_rfl)
@[go_sem] theorem k35_n (b n0 : Nat) (e : Env) (S : Store) : k35 b n0 .normal e S = execL (C b) 0 c34 (k30 b n0) e S := nr (seqC_n _ _ _ _)
@[go_sem] theorem k35_ret (b n0 : Nat) (e : Env) (S : Store) : k35 b n0 .ret e S = (k30 b n0) .ret e S := nr (seqC_r _ _ _ _)
@[go_sem] theorem k35_exit (b n0 : Nat) (i : Nat) (e : Env) (S : Store) : k35 b n0 (.exit i) e S = (k30 b n0) (.exit i) e S := nr (seqC_x _ _ _ _ _)
theorem k35_l (b n0 : Nat) : seqC (fun e S => execL (C b) 0 c34 (k30 b n0) e S) (k30 b n0) = k35 b n0 := rfl
noncomputable def k37 (b n0 : Nat) : KT := seqC (fun e S => execL (C b) 0 c33 (k35 b n0) e S) (k30 b n0)
noncomputable def c38 : Code := atB c33
theorem c33_h : c33 = .block 1 c38 := by kernel_rfl
noncomputable def k39 (b n0 : Nat) : KT := blockC 1 (k35 b n0)
@[go_sem] theorem k39_n (b n0 : Nat) (e : Env) (S : Store) : k39 b n0 .normal e S = (k35 b n0) .normal e S := nr (blockC_n _ _ _ _)
@[go_sem] theorem k39_ret (b n0 : Nat) (e : Env) (S : Store) : k39 b n0 .ret e S = (k35 b n0) .ret e S := nr (blockC_r _ _ _ _)
@[go_sem] theorem k39_exit (b n0 : Nat) (i : Nat) (e : Env) (S : Store) : k39 b n0 (.exit i) e S = if i = 1 then (k35 b n0) .normal e S else (k35 b n0) (.exit i) e S := nr (blockC_x _ _ _ _ _)
noncomputable def c40 : Code := at0 c38
noncomputable def c41 : Code := at1 c38
theorem c38_h : c38 = .seq c40 c41 := by kernel_rfl
noncomputable def c42 : Code := at0 c41
noncomputable def c43 : Code := at1 c41
theorem c41_h : c41 = .seq c42 c43 := by kernel_rfl
noncomputable def k44 (b n0 : Nat) : KT := seqC (fun e S => execL (C b) 1 c43 (k39 b n0) e S) (k39 b n0)
noncomputable def c45 : Code := atT c43
noncomputable def c46 : Code := atF c43
theorem c43_h : c43 = .cond (.tmp 88) c45 c46 := by kernel_rfl
noncomputable def c48 : Code := at0 c45
noncomputable def c49 : Code := at1 c45
theorem c45_h : c45 = .seq c48 c49 := by kernel_rfl
noncomputable def k50 (b n0 : Nat) : KT := seqC (fun e S => execL (C b) 1 c49 (k39 b n0) e S) (k39 b n0)
@[go_sem] theorem k50_n (b n0 : Nat) (x2 x3 x4 x5 x6 x7 x8 x9 x10 x17 x23 x28 x35 x38 x47 x57 x67 x73 x88 : PV) (S : Store) : k50 b n0 .normal (ee x2 x3 x4 x5 x6 x7 x8 x9 x10 x17 x23 x28 x35 x38 x47 x57 x67 x73 x88) S =
  (k39 b n0) .ret (ee x2 x3 x4 x5 x6 x7 x8 x9 x10 x17 x23 x28 x35 x38 x47 x57 x67 x73 x88) S := nr ((show k50 b n0 .normal (ee x2 x3 x4 x5 x6 x7 x8 x9 x10 x17 x23 x28 x35 x38 x47 x57 x67 x73 x88) S = execL (C b) 1 c49 (k39 b n0) (ee x2 x3 x4 x5 x6 x7 x8 x9 x10 x17 x23 x28 x35 x38 x47 x57 x67 x73 x88) S from seqC_n _ _ _ _).trans (execL_ret (by kernel_rfl)))
@[go_sem] theorem k50_ret (b n0 : Nat) (e : Env) (S : Store) : k50 b n0 .ret e S = (k39 b n0) .ret e S := nr (seqC_r _ _ _ _)
@[go_sem] theorem k50_exit (b n0 : Nat) (i : Nat) (e : Env) (S : Store) : k50 b n0 (.exit i) e S = (k39 b n0) (.exit i) e S := nr (seqC_x _ _ _ _ _)
theorem k50_l (b n0 : Nat) : seqC (fun e S => execL (C b) 1 c49 (k39 b n0) e S) (k39 b n0) = k50 b n0 := rfl
@[go_sem] theorem g51 (b : Nat) (K : KT) (x2 x3 x4 x5 x6 x7 x8 x9 x10 x17 x23 x28 x35 x38 x47 x57 x67 x73 x88 : PV) (S : Store) : execL (C b) 1 c48 K (ee x2 x3 x4 x5 x6 x7 x8 x9 x10 x17 x23 x28 x35 x38 x47 x57 x67 x73 x88) S =
  withV (some x10) fun x89 =>
    withV (some x89) fun x4 =>
    K .normal (ee x2 x3 x4 x5 x6 x7 x8 x9 x10 x17 x23 x28 x35 x38 x47 x57 x67 x73 x88) S := nr (by kernel_rfl)
noncomputable def E47 (b n0 : Nat) (x2 x3 x4 x5 x6 x7 x8 x9 x10 x17 x23 x28 x35 x38 x47 x57 x67 x73 x88 : PV) (S : Store) : RT := execL (C b) 1 c45 (k39 b n0) (ee x2 x3 x4 x5 x6 x7 x8 x9 x10 x17 x23 x28 x35 x38 x47 x57 x67 x73 x88) S
@[go_sem] theorem E47_eq (b n0 : Nat) (x2 x3 x4 x5 x6 x7 x8 x9 x10 x17 x23 x28 x35 x38 x47 x57 x67 x73 x88 : PV) (S : Store) : E47 b n0 x2 x3 x4 x5 x6 x7 x8 x9 x10 x17 x23 x28 x35 x38 x47 x57 x67 x73 x88 S =
  execL (C b) 1 c48 (k50 b n0) (ee x2 x3 x4 x5 x6 x7 x8 x9 x10 x17 x23 x28 x35 x38 x47 x57 x67 x73 x88) S := nr ((enter_seq c45_h (k50_l b n0)).trans (rfl))
@[go_sem] theorem k44_n (b n0 : Nat) (x2 x3 x4 x5 x6 x7 x8 x9 x10 x17 x23 x28 x35 x38 x47 x57 x67 x73 x88 : PV) (S : Store) : k44 b n0 .normal (ee x2 x3 x4 x5 x6 x7 x8 x9 x10 x17 x23 x28 x35 x38 x47 x57 x67 x73 x88) S =
  condC x88 (E47 b n0 x2 x3 x4 x5 x6 x7 x8 x9 x10 x17 x23 x28 x35 x38 x47 x57 x67 x73 x88 S)
    ((k39 b n0) .normal (ee x2 x3 x4 x5 x6 x7 x8 x9 x10 x17 x23 x28 x35 x38 x47 x57 x67 x73 x88) S) := nr ((show k44 b n0 .normal (ee x2 x3 x4 x5 x6 x7 x8 x9 x10 x17 x23 x28 x35 x38 x47 x57 x67 x73 x88) S = execL (C b) 1 c43 (k39 b n0) (ee x2 x3 x4 x5 x6 x7 x8 x9 x10 x17 x23 x28 x35 x38 x47 x57 x67 x73 x88) S from seqC_n _ _ _ _).trans (execL_cond c43_h (rfl) (execL_skip (by kernel_rfl)) rfl))
@[go_sem] theorem k44_ret (b n0 : Nat) (e : Env) (S : Store) : k44 b n0 .ret e S = (k39 b n0) .ret e S := nr (seqC_r _ _ _ _)
@[go_sem] theorem k44_exit (b n0 : Nat) (i : Nat) (e : Env) (S : Store) : k44 b n0 (.exit i) e S = (k39 b n0) (.exit i) e S := nr (seqC_x _ _ _ _ _)
theorem k44_l (b n0 : Nat) : seqC (fun e S => execL (C b) 1 c43 (k39 b n0) e S) (k39 b n0) = k44 b n0 := rfl
noncomputable def k52 (b n0 : Nat) : KT := seqC (fun e S => execL (C b) 1 c42 (k44 b n0) e S) (k39 b n0)
@[go_sem] theorem g53 (b : Nat) (K : KT) (x2 x3 x4 x5 x6 x7 x8 x9 x10 x17 x23 x28 x35 x38 x47 x57 x67 x73 x88 : PV) (S : Store) : execL (C b) 1 c42 K (ee x2 x3 x4 x5 x6 x7 x8 x9 x10 x17 x23 x28 x35 x38 x47 x57 x67 x73 x88) S =
  withV (some x10) fun x87 =>
    withV (evBin .neq (tyi Try.prog 3) x87 (.int .i64 0)) fun x88 =>
    K .normal (ee x2 x3 x4 x5 x6 x7 x8 x9 x10 x17 x23 x28 x35 x38 x47 x57 x67 x73 x88) S := nr (by kernel_rfl)
@[go_sem] theorem k52_n (b n0 : Nat) (e : Env) (S : Store) : k52 b n0 .normal e S = execL (C b) 1 c42 (k44 b n0) e S := nr (seqC_n _ _ _ _)
@[go_sem] theorem k52_ret (b n0 : Nat) (e : Env) (S : Store) : k52 b n0 .ret e S = (k39 b n0) .ret e S := nr (seqC_r _ _ _ _)
@[go_sem] theorem k52_exit (b n0 : Nat) (i : Nat) (e : Env) (S : Store) : k52 b n0 (.exit i) e S = (k39 b n0) (.exit i) e S := nr (seqC_x _ _ _ _ _)
theorem k52_l (b n0 : Nat) : seqC (fun e S => execL (C b) 1 c41 (k39 b n0) e S) (k39 b n0) = k52 b n0 := link_seq c41_h (k44_l b n0)
@[go_sem] theorem g54 (b : Nat) (K : KT) (x2 x3 x4 x5 x6 x7 x8 x9 x10 x17 x23 x28 x35 x38 x47 x57 x67 x73 x88 : PV) (S : Store) : execL (C b) 1 c40 K (ee x2 x3 x4 x5 x6 x7 x8 x9 x10 x17 x23 x28 x35 x38 x47 x57 x67 x73 x88) S =
  withV (evFieldAddr (tyi Try.prog 54) 3 x2) fun x76 =>
    withV (evLoad (tyi Try.prog 52) S x76) fun x77 =>
    withV (some x9) fun x78 =>
    withV (indexAddrO Try.prog 52 S x77 x78) fun x79 =>
    withV (evLoad (tyi Try.prog 54) S x79) fun x80 =>
    withV (evFieldAddr (tyi Try.prog 54) 3 x3) fun x81 =>
    withV (evLoad (tyi Try.prog 52) S x81) fun x82 =>
    withV (some x9) fun x83 =>
    withV (indexAddrO Try.prog 52 S x82 x83) fun x84 =>
    withV (evLoad (tyi Try.prog 54) S x84) fun x85 =>
    withN (callO (callL Try.prog hints) S 46 [x80, x85]) S fun x86 S =>
    withV (some x86) fun x10 =>
    K .normal (ee x2 x3 x4 x5 x6 x7 x8 x9 x10 x17 x23 x28 x35 x38 x47 x57 x67 x73 x88) S := nr (by kernel_rfl)
@[go_sem] theorem k37_n (b n0 : Nat) (x2 x3 x4 x5 x6 x7 x8 x9 x10 x17 x23 x28 x35 x38 x47 x57 x67 x73 x88 : PV) (S : Store) : k37 b n0 .normal (ee x2 x3 x4 x5 x6 x7 x8 x9 x10 x17 x23 x28 x35 x38 x47 x57 x67 x73 x88) S =
  execL (C b) 1 c40 (k52 b n0) (ee x2 x3 x4 x5 x6 x7 x8 x9 x10 x17 x23 x28 x35 x38 x47 x57 x67 x73 x88) S := nr ((show k37 b n0 .normal (ee x2 x3 x4 x5 x6 x7 x8 x9 x10 x17 x23 x28 x35 x38 x47 x57 x67 x73 x88) S = execL (C b) 0 c33 (k35 b n0) (ee x2 x3 x4 x5 x6 x7 x8 x9 x10 x17 x23 x28 x35 x38 x47 x57 x67 x73 x88) S from seqC_n _ _ _ _).trans ((show execL (C b) 0 c33 (k35 b n0) (ee x2 x3 x4 x5 x6 x7 x8 x9 x10 x17 x23 x28 x35 x38 x47 x57 x67 x73 x88) S = execL (C b) 1 c38 (k39 b n0) (ee x2 x3 x4 x5 x6 x7 x8 x9 x10 x17 x23 x28 x35 x38 x47 x57 x67 x73 x88) S from execL_block c33_h).trans ((enter_seq c38_h (k52_l b n0)).trans (rfl))))
@[go_sem] theorem k37_ret (b n0 : Nat) (e : Env) (S : Store) : k37 b n0 .ret e S = (k30 b n0) .ret e S := nr (seqC_r _ _ _ _)
@[go_sem] theorem k37_exit (b n0 : Nat) (i : Nat) (e : Env) (S : Store) : k37 b n0 (.exit i) e S = (k30 b n0) (.exit i) e S := nr (seqC_x _ _ _ _ _)
theorem k37_l (b n0 : Nat) : seqC (fun e S => execL (C b) 0 c32 (k30 b n0) e S) (k30 b n0) = k37 b n0 := link_seq c32_h (k35_l b n0)
noncomputable def c55 : Code := at0 c31
noncomputable def c56 : Code := at1 c31
theorem c31_h : c31 = .seq c55 c56 := by kernel_rfl
noncomputable def k57 (b n0 : Nat) : KT := seqC (fun e S => execL (C b) 0 c56 (k37 b n0) e S) (k37 b n0)
noncomputable def c58 : Code := atT c56
noncomputable def c59 : Code := atF c56
theorem c56_h : c56 = .cond (.tmp 73) c58 c59 := by kernel_rfl
@[go_sem] theorem k57_n (b n0 : Nat) (x2 x3 x4 x5 x6 x7 x8 x9 x10 x17 x23 x28 x35 x38 x47 x57 x67 x73 x88 : PV) (S : Store) : k57 b n0 .normal (ee x2 x3 x4 x5 x6 x7 x8 x9 x10 x17 x23 x28 x35 x38 x47 x57 x67 x73 x88) S =
  condC x73 ((k37 b n0) .normal (ee x2 x3 x4 x5 x6 x7 x8 x9 x10 x17 x23 x28 x35 x38 x47 x57 x67 x73 x88) S)
    ((k37 b n0) (.exit 0) (ee x2 x3 x4 x5 x6 x7 x8 x9 x10 x17 x23 x28 x35 x38 x47 x57 x67 x73 x88) S) := nr ((show k57 b n0 .normal (ee x2 x3 x4 x5 x6 x7 x8 x9 x10 x17 x23 x28 x35 x38 x47 x57 x67 x73 x88) S = execL (C b) 0 c56 (k37 b n0) (ee x2 x3 x4 x5 x6 x7 x8 x9 x10 x17 x23 x28 x35 x38 x47 x57 x67 x73 x88) S from seqC_n _ _ _ _).trans (execL_cond c56_h (execL_skip (by kernel_rfl)) (execL_exit (by kernel_rfl)) rfl))
@[go_sem] theorem k57_ret (b n0 : Nat) (e : Env) (S : Store) : k57 b n0 .ret e S = (k37 b n0) .ret e S := nr (seqC_r _ _ _ _)
@[go_sem] theorem k57_exit (b n0 : Nat) (i : Nat) (e : Env) (S : Store) : k57 b n0 (.exit i) e S = (k37 b n0) (.exit i) e S := nr (seqC_x _ _ _ _ _)
theorem k57_l (b n0 : Nat) : seqC (fun e S => execL (C b) 0 c56 (k37 b n0) e S) (k37 b n0) = k57 b n0 := rfl
@[go_sem] theorem g60 (b : Nat) (K : KT) (x2 x3 x4 x5 x6 x7 x8 x9 x10 x17 x23 x28 x35 x38 x47 x57 x67 x73 x88 : PV) (S : Store) : execL (C b) 0 c55 K (ee x2 x3 x4 x5 x6 x7 x8 x9 x10 x17 x23 x28 x35 x38 x47 x57 x67 x73 x88) S =
  withV (some x9) fun x69 =>
    withV (evFieldAddr (tyi Try.prog 54) 3 x2) fun x70 =>
    withV (evLoad (tyi Try.prog 52) S x70) fun x71 =>
    withV (lenO (tyi Try.prog 52) x71) fun x72 =>
    withV (evBin .lss (tyi Try.prog 3) x69 x72) fun x73 =>
    K .normal (ee x2 x3 x4 x5 x6 x7 x8 x9 x10 x17 x23 x28 x35 x38 x47 x57 x67 x73 x88) S := nr (by kernel_rfl)
noncomputable def B0 (b n0 : Nat) (x2 x3 x4 x5 x6 x7 x8 x9 x10 x17 x23 x28 x35 x38 x47 x57 x67 x73 x88 : PV) (S : Store) : RT := execL (C b) 0 c28 (k30 b n0) (ee x2 x3 x4 x5 x6 x7 x8 x9 x10 x17 x23 x28 x35 x38 x47 x57 x67 x73 x88) S
@[go_sem] theorem B0_eq (b n0 : Nat) (x2 x3 x4 x5 x6 x7 x8 x9 x10 x17 x23 x28 x35 x38 x47 x57 x67 x73 x88 : PV) (S : Store) : B0 b n0 x2 x3 x4 x5 x6 x7 x8 x9 x10 x17 x23 x28 x35 x38 x47 x57 x67 x73 x88 S =
  execL (C b) 0 c55 (k57 b n0) (ee x2 x3 x4 x5 x6 x7 x8 x9 x10 x17 x23 x28 x35 x38 x47 x57 x67 x73 x88) S := nr ((enter_seq c28_h (k37_l b n0)).trans ((enter_seq c31_h (k57_l b n0)).trans (rfl)))
theorem L0_step {b n0 : Nat} {x2 x3 x4 x5 x6 x7 x8 x9 x10 x17 x23 x28 x35 x38 x47 x57 x67 x73 x88 : PV} {S : Store} {z : PV × Store} (h : B0 b n0 x2 x3 x4 x5 x6 x7 x8 x9 x10 x17 x23 x28 x35 x38 x47 x57 x67 x73 x88 S = some z) : L0 b n0 x2 x3 x4 x5 x6 x7 x8 x9 x10 x17 x23 x28 x35 x38 x47 x57 x67 x73 x88 S = some z := loopL_step h
theorem L0_in (b : Nat) (x2 x3 x4 x5 x6 x7 x8 x9 x10 x17 x23 x28 x35 x38 x47 x57 x67 x73 x88 : PV) (S : Store) : execL (C b) 0 c26 (k27 b) (ee x2 x3 x4 x5 x6 x7 x8 x9 x10 x17 x23 x28 x35 x38 x47 x57 x67 x73 x88) S = L0 b (List.length S) x2 x3 .undef .undef .undef .undef .undef x9 .undef .undef .undef .undef .undef .undef .undef .undef .undef .undef .undef S := by kernel_rfl
@[go_sem] theorem k25_n (b : Nat) (x2 x3 x4 x5 x6 x7 x8 x9 x10 x17 x23 x28 x35 x38 x47 x57 x67 x73 x88 : PV) (S : Store) : k25 b .normal (ee x2 x3 x4 x5 x6 x7 x8 x9 x10 x17 x23 x28 x35 x38 x47 x57 x67 x73 x88) S =
  L0 b (List.length S) x2 x3 .undef .undef .undef .undef .undef x9 .undef .undef .undef .undef .undef .undef .undef .undef .undef .undef .undef S := nr ((show k25 b .normal (ee x2 x3 x4 x5 x6 x7 x8 x9 x10 x17 x23 x28 x35 x38 x47 x57 x67 x73 x88) S = execL (C b) 0 c24 (k20 b) (ee x2 x3 x4 x5 x6 x7 x8 x9 x10 x17 x23 x28 x35 x38 x47 x57 x67 x73 x88) S from seqC_n _ _ _ _).trans ((show execL (C b) 0 c24 (k20 b) (ee x2 x3 x4 x5 x6 x7 x8 x9 x10 x17 x23 x28 x35 x38 x47 x57 x67 x73 x88) S = execL (C b) 0 c26 (k27 b) (ee x2 x3 x4 x5 x6 x7 x8 x9 x10 x17 x23 x28 x35 x38 x47 x57 x67 x73 x88) S from execL_block c24_h).trans (L0_in b x2 x3 x4 x5 x6 x7 x8 x9 x10 x17 x23 x28 x35 x38 x47 x57 x67 x73 x88 S)))
@[go_sem] theorem k25_ret (b : Nat) (e : Env) (S : Store) : k25 b .ret e S = (k20 b) .ret e S := nr (seqC_r _ _ _ _)
@[go_sem] theorem k25_exit (b : Nat) (i : Nat) (e : Env) (S : Store) : k25 b (.exit i) e S = (k20 b) (.exit i) e S := nr (seqC_x _ _ _ _ _)
theorem k25_l (b : Nat) : seqC (fun e S => execL (C b) 0 c24 (k20 b) e S) (k20 b) = k25 b := rfl
@[go_sem] theorem g62 (b : Nat) (K : KT) (x2 x3 x4 x5 x6 x7 x8 x9 x10 x17 x23 x28 x35 x38 x47 x57 x67 x73 x88 : PV) (S : Store) : execL (C b) 0 c23 K (ee x2 x3 x4 x5 x6 x7 x8 x9 x10 x17 x23 x28 x35 x38 x47 x57 x67 x73 x88) S =
  withV (some (.int .i64 0)) fun x9 =>
    K .normal (ee x2 x3 x4 x5 x6 x7 x8 x9 x10 x17 x23 x28 x35 x38 x47 x57 x67 x73 x88) S := nr (by kernel_rfl)
@[go_sem] theorem k22_n (b : Nat) (x2 x3 x4 x5 x6 x7 x8 x9 x10 x17 x23 x28 x35 x38 x47 x57 x67 x73 x88 : PV) (S : Store) : k22 b .normal (ee x2 x3 x4 x5 x6 x7 x8 x9 x10 x17 x23 x28 x35 x38 x47 x57 x67 x73 x88) S =
  execL (C b) 0 c23 (k25 b) (ee x2 x3 x4 x5 x6 x7 x8 x9 x10 x17 x23 x28 x35 x38 x47 x57 x67 x73 x88) S := nr ((show k22 b .normal (ee x2 x3 x4 x5 x6 x7 x8 x9 x10 x17 x23 x28 x35 x38 x47 x57 x67 x73 x88) S = execL (C b) 0 c15 (k20 b) (ee x2 x3 x4 x5 x6 x7 x8 x9 x10 x17 x23 x28 x35 x38 x47 x57 x67 x73 x88) S from seqC_n _ _ _ _).trans ((enter_seq c15_h (k25_l b)).trans (rfl)))
@[go_sem] theorem k22_ret (b : Nat) (e : Env) (S : Store) : k22 b .ret e S = (k0 b) .ret e S := nr (seqC_r _ _ _ _)
@[go_sem] theorem k22_exit (b : Nat) (i : Nat) (e : Env) (S : Store) : k22 b (.exit i) e S = (k0 b) (.exit i) e S := nr (seqC_x _ _ _ _ _)
theorem k22_l (b : Nat) : seqC (fun e S => execL (C b) 0 c14 (k0 b) e S) (k0 b) = k22 b := link_seq c14_h (k20_l b)
noncomputable def k63 (b : Nat) : KT := seqC (fun e S => execL (C b) 0 c13 (k22 b) e S) (k0 b)
noncomputable def c64 : Code := at0 c13
noncomputable def c65 : Code := at1 c13
theorem c13_h : c13 = .seq c64 c65 := by kernel_rfl
noncomputable def c66 : Code := at0 c65
noncomputable def c67 : Code := at1 c65
theorem c65_h : c65 = .seq c66 c67 := by kernel_rfl
noncomputable def k68 (b : Nat) : KT := seqC (fun e S => execL (C b) 0 c67 (k22 b) e S) (k22 b)
noncomputable def c69 : Code := atT c67
noncomputable def c70 : Code := atF c67
theorem c67_h : c67 = .cond (.tmp 67) c69 c70 := by kernel_rfl
noncomputable def c72 : Code := at0 c69
noncomputable def c73 : Code := at1 c69
theorem c69_h : c69 = .seq c72 c73 := by kernel_rfl
noncomputable def k74 (b : Nat) : KT := seqC (fun e S => execL (C b) 0 c73 (k22 b) e S) (k22 b)
@[go_sem] theorem k74_n (b : Nat) (x2 x3 x4 x5 x6 x7 x8 x9 x10 x17 x23 x28 x35 x38 x47 x57 x67 x73 x88 : PV) (S : Store) : k74 b .normal (ee x2 x3 x4 x5 x6 x7 x8 x9 x10 x17 x23 x28 x35 x38 x47 x57 x67 x73 x88) S =
  (k22 b) .ret (ee x2 x3 x4 x5 x6 x7 x8 x9 x10 x17 x23 x28 x35 x38 x47 x57 x67 x73 x88) S := nr ((show k74 b .normal (ee x2 x3 x4 x5 x6 x7 x8 x9 x10 x17 x23 x28 x35 x38 x47 x57 x67 x73 x88) S = execL (C b) 0 c73 (k22 b) (ee x2 x3 x4 x5 x6 x7 x8 x9 x10 x17 x23 x28 x35 x38 x47 x57 x67 x73 x88) S from seqC_n _ _ _ _).trans (execL_ret (by kernel_rfl)))
@[go_sem] theorem k74_ret (b : Nat) (e : Env) (S : Store) : k74 b .ret e S = (k22 b) .ret e S := nr (seqC_r _ _ _ _)
@[go_sem] theorem k74_exit (b : Nat) (i : Nat) (e : Env) (S : Store) : k74 b (.exit i) e S = (k22 b) (.exit i) e S := nr (seqC_x _ _ _ _ _)
theorem k74_l (b : Nat) : seqC (fun e S => execL (C b) 0 c73 (k22 b) e S) (k22 b) = k74 b := rfl
@[go_sem] theorem g75 (b : Nat) (K : KT) (x2 x3 x4 x5 x6 x7 x8 x9 x10 x17 x23 x28 x35 x38 x47 x57 x67 x73 x88 : PV) (S : Store) : execL (C b) 0 c72 K (ee x2 x3 x4 x5 x6 x7 x8 x9 x10 x17 x23 x28 x35 x38 x47 x57 x67 x73 x88) S =
  withV (some x8) fun x68 =>
    withV (some x68) fun x4 =>
    K .normal (ee x2 x3 x4 x5 x6 x7 x8 x9 x10 x17 x23 x28 x35 x38 x47 x57 x67 x73 x88) S := nr (by kernel_rfl)
noncomputable def E71 (b : Nat) (x2 x3 x4 x5 x6 x7 x8 x9 x10 x17 x23 x28 x35 x38 x47 x57 x67 x73 x88 : PV) (S : Store) : RT := execL (C b) 0 c69 (k22 b) (ee x2 x3 x4 x5 x6 x7 x8 x9 x10 x17 x23 x28 x35 x38 x47 x57 x67 x73 x88) S
@[go_sem] theorem E71_eq (b : Nat) (x2 x3 x4 x5 x6 x7 x8 x9 x10 x17 x23 x28 x35 x38 x47 x57 x67 x73 x88 : PV) (S : Store) : E71 b x2 x3 x4 x5 x6 x7 x8 x9 x10 x17 x23 x28 x35 x38 x47 x57 x67 x73 x88 S =
  execL (C b) 0 c72 (k74 b) (ee x2 x3 x4 x5 x6 x7 x8 x9 x10 x17 x23 x28 x35 x38 x47 x57 x67 x73 x88) S := nr ((enter_seq c69_h (k74_l b)).trans (rfl))
@[go_sem] theorem k68_n (b : Nat) (x2 x3 x4 x5 x6 x7 x8 x9 x10 x17 x23 x28 x35 x38 x47 x57 x67 x73 x88 : PV) (S : Store) : k68 b .normal (ee x2 x3 x4 x5 x6 x7 x8 x9 x10 x17 x23 x28 x35 x38 x47 x57 x67 x73 x88) S =
  condC x67 (E71 b x2 x3 x4 x5 x6 x7 x8 x9 x10 x17 x23 x28 x35 x38 x47 x57 x67 x73 x88 S)
    ((k22 b) .normal (ee x2 x3 x4 x5 x6 x7 x8 x9 x10 x17 x23 x28 x35 x38 x47 x57 x67 x73 x88) S) := nr ((show k68 b .normal (ee x2 x3 x4 x5 x6 x7 x8 x9 x10 x17 x23 x28 x35 x38 x47 x57 x67 x73 x88) S = execL (C b) 0 c67 (k22 b) (ee x2 x3 x4 x5 x6 x7 x8 x9 x10 x17 x23 x28 x35 x38 x47 x57 x67 x73 x88) S from seqC_n _ _ _ _).trans (execL_cond c67_h (rfl) (execL_skip (by kernel_rfl)) rfl))
@[go_sem] theorem k68_ret (b : Nat) (e : Env) (S : Store) : k68 b .ret e S = (k22 b) .ret e S := nr (seqC_r _ _ _ _)
@[go_sem] theorem k68_exit (b : Nat) (i : Nat) (e : Env) (S : Store) : k68 b (.exit i) e S = (k22 b) (.exit i) e S := nr (seqC_x _ _ _ _ _)
theorem k68_l (b : Nat) : seqC (fun e S => execL (C b) 0 c67 (k22 b) e S) (k22 b) = k68 b := rfl
noncomputable def k76 (b : Nat) : KT := seqC (fun e S => execL (C b) 0 c66 (k68 b) e S) (k22 b)
@[go_sem] theorem g77 (b : Nat) (K : KT) (x2 x3 x4 x5 x6 x7 x8 x9 x10 x17 x23 x28 x35 x38 x47 x57 x67 x73 x88 : PV) (S : Store) : execL (C b) 0 c66 K (ee x2 x3 x4 x5 x6 x7 x8 x9 x10 x17 x23 x28 x35 x38 x47 x57 x67 x73 x88) S =
  withV (some x8) fun x66 =>
    withV (evBin .neq (tyi Try.prog 3) x66 (.int .i64 0)) fun x67 =>
    K .normal (ee x2 x3 x4 x5 x6 x7 x8 x9 x10 x17 x23 x28 x35 x38 x47 x57 x67 x73 x88) S := nr (by kernel_rfl)
@[go_sem] theorem k76_n (b : Nat) (e : Env) (S : Store) : k76 b .normal e S = execL (C b) 0 c66 (k68 b) e S := nr (seqC_n _ _ _ _)
@[go_sem] theorem k76_ret (b : Nat) (e : Env) (S : Store) : k76 b .ret e S = (k22 b) .ret e S := nr (seqC_r _ _ _ _)
@[go_sem] theorem k76_exit (b : Nat) (i : Nat) (e : Env) (S : Store) : k76 b (.exit i) e S = (k22 b) (.exit i) e S := nr (seqC_x _ _ _ _ _)
theorem k76_l (b : Nat) : seqC (fun e S => execL (C b) 0 c65 (k22 b) e S) (k22 b) = k76 b := link_seq c65_h (k68_l b)
@[go_sem] theorem g78 (b : Nat) (K : KT) (x2 x3 x4 x5 x6 x7 x8 x9 x10 x17 x23 x28 x35 x38 x47 x57 x67 x73 x88 : PV) (S : Store) : execL (C b) 0 c64 K (ee x2 x3 x4 x5 x6 x7 x8 x9 x10 x17 x23 x28 x35 x38 x47 x57 x67 x73 x88) S =
  withV (evFieldAddr (tyi Try.prog 54) 3 x2) fun x59 =>
    withV (evLoad (tyi Try.prog 52) S x59) fun x60 =>
    withV (lenO (tyi Try.prog 52) x60) fun x61 =>
    withV (evFieldAddr (tyi Try.prog 54) 3 x3) fun x62 =>
    withV (evLoad (tyi Try.prog 52) S x62) fun x63 =>
    withV (lenO (tyi Try.prog 52) x63) fun x64 =>
    withN (callO (callL Try.prog hints) S 70 [x61, x64]) S fun x65 S =>
    withV (some x65) fun x8 =>
    K .normal (ee x2 x3 x4 x5 x6 x7 x8 x9 x10 x17 x23 x28 x35 x38 x47 x57 x67 x73 x88) S := nr (by kernel_rfl)
@[go_sem] theorem k63_n (b : Nat) (x2 x3 x4 x5 x6 x7 x8 x9 x10 x17 x23 x28 x35 x38 x47 x57 x67 x73 x88 : PV) (S : Store) : k63 b .normal (ee x2 x3 x4 x5 x6 x7 x8 x9 x10 x17 x23 x28 x35 x38 x47 x57 x67 x73 x88) S =
  execL (C b) 0 c64 (k76 b) (ee x2 x3 x4 x5 x6 x7 x8 x9 x10 x17 x23 x28 x35 x38 x47 x57 x67 x73 x88) S := nr ((show k63 b .normal (ee x2 x3 x4 x5 x6 x7 x8 x9 x10 x17 x23 x28 x35 x38 x47 x57 x67 x73 x88) S = execL (C b) 0 c13 (k22 b) (ee x2 x3 x4 x5 x6 x7 x8 x9 x10 x17 x23 x28 x35 x38 x47 x57 x67 x73 x88) S from seqC_n _ _ _ _).trans ((enter_seq c13_h (k76_l b)).trans (rfl)))
@[go_sem] theorem k63_ret (b : Nat) (e : Env) (S : Store) : k63 b .ret e S = (k0 b) .ret e S := nr (seqC_r _ _ _ _)
@[go_sem] theorem k63_exit (b : Nat) (i : Nat) (e : Env) (S : Store) : k63 b (.exit i) e S = (k0 b) (.exit i) e S := nr (seqC_x _ _ _ _ _)
theorem k63_l (b : Nat) : seqC (fun e S => execL (C b) 0 c12 (k0 b) e S) (k0 b) = k63 b := link_seq c12_h (k22_l b)
noncomputable def k79 (b : Nat) : KT := seqC (fun e S => execL (C b) 0 c11 (k63 b) e S) (k0 b)
noncomputable def c80 : Code := at0 c11
noncomputable def c81 : Code := at1 c11
theorem c11_h : c11 = .seq c80 c81 := by kernel_rfl
noncomputable def c82 : Code := at0 c81
noncomputable def c83 : Code := at1 c81
theorem c81_h : c81 = .seq c82 c83 := by kernel_rfl
noncomputable def k84 (b : Nat) : KT := seqC (fun e S => execL (C b) 0 c83 (k63 b) e S) (k63 b)
noncomputable def c85 : Code := atT c83
noncomputable def c86 : Code := atF c83
theorem c83_h : c83 = .cond (.tmp 57) c85 c86 := by kernel_rfl
noncomputable def c88 : Code := at0 c85
noncomputable def c89 : Code := at1 c85
theorem c85_h : c85 = .seq c88 c89 := by kernel_rfl
noncomputable def k90 (b : Nat) : KT := seqC (fun e S => execL (C b) 0 c89 (k63 b) e S) (k63 b)
@[go_sem] theorem k90_n (b : Nat) (x2 x3 x4 x5 x6 x7 x8 x9 x10 x17 x23 x28 x35 x38 x47 x57 x67 x73 x88 : PV) (S : Store) : k90 b .normal (ee x2 x3 x4 x5 x6 x7 x8 x9 x10 x17 x23 x28 x35 x38 x47 x57 x67 x73 x88) S =
  (k63 b) .ret (ee x2 x3 x4 x5 x6 x7 x8 x9 x10 x17 x23 x28 x35 x38 x47 x57 x67 x73 x88) S := nr ((show k90 b .normal (ee x2 x3 x4 x5 x6 x7 x8 x9 x10 x17 x23 x28 x35 x38 x47 x57 x67 x73 x88) S = execL (C b) 0 c89 (k63 b) (ee x2 x3 x4 x5 x6 x7 x8 x9 x10 x17 x23 x28 x35 x38 x47 x57 x67 x73 x88) S from seqC_n _ _ _ _).trans (execL_ret (by kernel_rfl)))
@[go_sem] theorem k90_ret (b : Nat) (e : Env) (S : Store) : k90 b .ret e S = (k63 b) .ret e S := nr (seqC_r _ _ _ _)
@[go_sem] theorem k90_exit (b : Nat) (i : Nat) (e : Env) (S : Store) : k90 b (.exit i) e S = (k63 b) (.exit i) e S := nr (seqC_x _ _ _ _ _)
theorem k90_l (b : Nat) : seqC (fun e S => execL (C b) 0 c89 (k63 b) e S) (k63 b) = k90 b := rfl
@[go_sem] theorem g91 (b : Nat) (K : KT) (x2 x3 x4 x5 x6 x7 x8 x9 x10 x17 x23 x28 x35 x38 x47 x57 x67 x73 x88 : PV) (S : Store) : execL (C b) 0 c88 K (ee x2 x3 x4 x5 x6 x7 x8 x9 x10 x17 x23 x28 x35 x38 x47 x57 x67 x73 x88) S =
  withV (some x7) fun x58 =>
    withV (some x58) fun x4 =>
    K .normal (ee x2 x3 x4 x5 x6 x7 x8 x9 x10 x17 x23 x28 x35 x38 x47 x57 x67 x73 x88) S := nr (by kernel_rfl)
noncomputable def E87 (b : Nat) (x2 x3 x4 x5 x6 x7 x8 x9 x10 x17 x23 x28 x35 x38 x47 x57 x67 x73 x88 : PV) (S : Store) : RT := execL (C b) 0 c85 (k63 b) (ee x2 x3 x4 x5 x6 x7 x8 x9 x10 x17 x23 x28 x35 x38 x47 x57 x67 x73 x88) S
@[go_sem] theorem E87_eq (b : Nat) (x2 x3 x4 x5 x6 x7 x8 x9 x10 x17 x23 x28 x35 x38 x47 x57 x67 x73 x88 : PV) (S : Store) : E87 b x2 x3 x4 x5 x6 x7 x8 x9 x10 x17 x23 x28 x35 x38 x47 x57 x67 x73 x88 S =
  execL (C b) 0 c88 (k90 b) (ee x2 x3 x4 x5 x6 x7 x8 x9 x10 x17 x23 x28 x35 x38 x47 x57 x67 x73 x88) S := nr ((enter_seq c85_h (k90_l b)).trans (rfl))
@[go_sem] theorem k84_n (b : Nat) (x2 x3 x4 x5 x6 x7 x8 x9 x10 x17 x23 x28 x35 x38 x47 x57 x67 x73 x88 : PV) (S : Store) : k84 b .normal (ee x2 x3 x4 x5 x6 x7 x8 x9 x10 x17 x23 x28 x35 x38 x47 x57 x67 x73 x88) S =
  condC x57 (E87 b x2 x3 x4 x5 x6 x7 x8 x9 x10 x17 x23 x28 x35 x38 x47 x57 x67 x73 x88 S)
    ((k63 b) .normal (ee x2 x3 x4 x5 x6 x7 x8 x9 x10 x17 x23 x28 x35 x38 x47 x57 x67 x73 x88) S) := nr ((show k84 b .normal (ee x2 x3 x4 x5 x6 x7 x8 x9 x10 x17 x23 x28 x35 x38 x47 x57 x67 x73 x88) S = execL (C b) 0 c83 (k63 b) (ee x2 x3 x4 x5 x6 x7 x8 x9 x10 x17 x23 x28 x35 x38 x47 x57 x67 x73 x88) S from seqC_n _ _ _ _).trans (execL_cond c83_h (rfl) (execL_skip (by kernel_rfl)) rfl))
@[go_sem] theorem k84_ret (b : Nat) (e : Env) (S : Store) : k84 b .ret e S = (k63 b) .ret e S := nr (seqC_r _ _ _ _)
@[go_sem] theorem k84_exit (b : Nat) (i : Nat) (e : Env) (S : Store) : k84 b (.exit i) e S = (k63 b) (.exit i) e S := nr (seqC_x _ _ _ _ _)
theorem k84_l (b : Nat) : seqC (fun e S => execL (C b) 0 c83 (k63 b) e S) (k63 b) = k84 b := rfl
noncomputable def k92 (b : Nat) : KT := seqC (fun e S => execL (C b) 0 c82 (k84 b) e S) (k63 b)
@[go_sem] theorem g93 (b : Nat) (K : KT) (x2 x3 x4 x5 x6 x7 x8 x9 x10 x17 x23 x28 x35 x38 x47 x57 x67 x73 x88 : PV) (S : Store) : execL (C b) 0 c82 K (ee x2 x3 x4 x5 x6 x7 x8 x9 x10 x17 x23 x28 x35 x38 x47 x57 x67 x73 x88) S =
  withV (some x7) fun x56 =>
    withV (evBin .neq (tyi Try.prog 3) x56 (.int .i64 0)) fun x57 =>
    K .normal (ee x2 x3 x4 x5 x6 x7 x8 x9 x10 x17 x23 x28 x35 x38 x47 x57 x67 x73 x88) S := nr (by kernel_rfl)
@[go_sem] theorem k92_n (b : Nat) (e : Env) (S : Store) : k92 b .normal e S = execL (C b) 0 c82 (k84 b) e S := nr (seqC_n _ _ _ _)
@[go_sem] theorem k92_ret (b : Nat) (e : Env) (S : Store) : k92 b .ret e S = (k63 b) .ret e S := nr (seqC_r _ _ _ _)
@[go_sem] theorem k92_exit (b : Nat) (i : Nat) (e : Env) (S : Store) : k92 b (.exit i) e S = (k63 b) (.exit i) e S := nr (seqC_x _ _ _ _ _)
theorem k92_l (b : Nat) : seqC (fun e S => execL (C b) 0 c81 (k63 b) e S) (k63 b) = k92 b := link_seq c81_h (k84_l b)
@[go_sem] theorem g94 (b : Nat) (K : KT) (x2 x3 x4 x5 x6 x7 x8 x9 x10 x17 x23 x28 x35 x38 x47 x57 x67 x73 x88 : PV) (S : Store) : execL (C b) 0 c80 K (ee x2 x3 x4 x5 x6 x7 x8 x9 x10 x17 x23 x28 x35 x38 x47 x57 x67 x73 x88) S =
  withV (evFieldAddr (tyi Try.prog 54) 2 x2) fun x49 =>
    withV (evFieldAddr (tyi Try.prog 51) 2 x49) fun x50 =>
    withV (evLoad (tyi Try.prog 49) S x50) fun x51 =>
    withV (evFieldAddr (tyi Try.prog 54) 2 x3) fun x52 =>
    withV (evFieldAddr (tyi Try.prog 51) 2 x52) fun x53 =>
    withV (evLoad (tyi Try.prog 49) S x53) fun x54 =>
    withN (callO (callL Try.prog hints) S 71 [x51, x54]) S fun x55 S =>
    withV (some x55) fun x7 =>
    K .normal (ee x2 x3 x4 x5 x6 x7 x8 x9 x10 x17 x23 x28 x35 x38 x47 x57 x67 x73 x88) S := nr (by kernel_rfl)
@[go_sem] theorem k79_n (b : Nat) (x2 x3 x4 x5 x6 x7 x8 x9 x10 x17 x23 x28 x35 x38 x47 x57 x67 x73 x88 : PV) (S : Store) : k79 b .normal (ee x2 x3 x4 x5 x6 x7 x8 x9 x10 x17 x23 x28 x35 x38 x47 x57 x67 x73 x88) S =
  execL (C b) 0 c80 (k92 b) (ee x2 x3 x4 x5 x6 x7 x8 x9 x10 x17 x23 x28 x35 x38 x47 x57 x67 x73 x88) S := nr ((show k79 b .normal (ee x2 x3 x4 x5 x6 x7 x8 x9 x10 x17 x23 x28 x35 x38 x47 x57 x67 x73 x88) S = execL (C b) 0 c11 (k63 b) (ee x2 x3 x4 x5 x6 x7 x8 x9 x10 x17 x23 x28 x35 x38 x47 x57 x67 x73 x88) S from seqC_n _ _ _ _).trans ((enter_seq c11_h (k92_l b)).trans (rfl)))
@[go_sem] theorem k79_ret (b : Nat) (e : Env) (S : Store) : k79 b .ret e S = (k0 b) .ret e S := nr (seqC_r _ _ _ _)
@[go_sem] theorem k79_exit (b : Nat) (i : Nat) (e : Env) (S : Store) : k79 b (.exit i) e S = (k0 b) (.exit i) e S := nr (seqC_x _ _ _ _ _)
theorem k79_l (b : Nat) : seqC (fun e S => execL (C b) 0 c10 (k0 b) e S) (k0 b) = k79 b := link_seq c10_h (k63_l b)
noncomputable def k95 (b : Nat) : KT := seqC (fun e S => execL (C b) 0 c9 (k79 b) e S) (k0 b)
noncomputable def c96 : Code := at0 c9
noncomputable def c97 : Code := at1 c9
theorem c9_h : c9 = .seq c96 c97 := by kernel_rfl
noncomputable def c98 : Code := at0 c97
noncomputable def c99 : Code := at1 c97
theorem c97_h : c97 = .seq c98 c99 := by kernel_rfl
noncomputable def k100 (b : Nat) : KT := seqC (fun e S => execL (C b) 0 c99 (k79 b) e S) (k79 b)
noncomputable def c101 : Code := atT c99
noncomputable def c102 : Code := atF c99
theorem c99_h : c99 = .cond (.tmp 47) c101 c102 := by kernel_rfl
noncomputable def c104 : Code := at0 c101
noncomputable def c105 : Code := at1 c101
theorem c101_h : c101 = .seq c104 c105 := by kernel_rfl
noncomputable def k106 (b : Nat) : KT := seqC (fun e S => execL (C b) 0 c105 (k79 b) e S) (k79 b)
@[go_sem] theorem k106_n (b : Nat) (x2 x3 x4 x5 x6 x7 x8 x9 x10 x17 x23 x28 x35 x38 x47 x57 x67 x73 x88 : PV) (S : Store) : k106 b .normal (ee x2 x3 x4 x5 x6 x7 x8 x9 x10 x17 x23 x28 x35 x38 x47 x57 x67 x73 x88) S =
  (k79 b) .ret (ee x2 x3 x4 x5 x6 x7 x8 x9 x10 x17 x23 x28 x35 x38 x47 x57 x67 x73 x88) S := nr ((show k106 b .normal (ee x2 x3 x4 x5 x6 x7 x8 x9 x10 x17 x23 x28 x35 x38 x47 x57 x67 x73 x88) S = execL (C b) 0 c105 (k79 b) (ee x2 x3 x4 x5 x6 x7 x8 x9 x10 x17 x23 x28 x35 x38 x47 x57 x67 x73 x88) S from seqC_n _ _ _ _).trans (execL_ret (by kernel_rfl)))
@[go_sem] theorem k106_ret (b : Nat) (e : Env) (S : Store) : k106 b .ret e S = (k79 b) .ret e S := nr (seqC_r _ _ _ _)
@[go_sem] theorem k106_exit (b : Nat) (i : Nat) (e : Env) (S : Store) : k106 b (.exit i) e S = (k79 b) (.exit i) e S := nr (seqC_x _ _ _ _ _)
theorem k106_l (b : Nat) : seqC (fun e S => execL (C b) 0 c105 (k79 b) e S) (k79 b) = k106 b := rfl
@[go_sem] theorem g107 (b : Nat) (K : KT) (x2 x3 x4 x5 x6 x7 x8 x9 x10 x17 x23 x28 x35 x38 x47 x57 x67 x73 x88 : PV) (S : Store) : execL (C b) 0 c104 K (ee x2 x3 x4 x5 x6 x7 x8 x9 x10 x17 x23 x28 x35 x38 x47 x57 x67 x73 x88) S =
  withV (some x6) fun x48 =>
    withV (some x48) fun x4 =>
    K .normal (ee x2 x3 x4 x5 x6 x7 x8 x9 x10 x17 x23 x28 x35 x38 x47 x57 x67 x73 x88) S := nr (by kernel_rfl)
noncomputable def E103 (b : Nat) (x2 x3 x4 x5 x6 x7 x8 x9 x10 x17 x23 x28 x35 x38 x47 x57 x67 x73 x88 : PV) (S : Store) : RT := execL (C b) 0 c101 (k79 b) (ee x2 x3 x4 x5 x6 x7 x8 x9 x10 x17 x23 x28 x35 x38 x47 x57 x67 x73 x88) S
@[go_sem] theorem E103_eq (b : Nat) (x2 x3 x4 x5 x6 x7 x8 x9 x10 x17 x23 x28 x35 x38 x47 x57 x67 x73 x88 : PV) (S : Store) : E103 b x2 x3 x4 x5 x6 x7 x8 x9 x10 x17 x23 x28 x35 x38 x47 x57 x67 x73 x88 S =
  execL (C b) 0 c104 (k106 b) (ee x2 x3 x4 x5 x6 x7 x8 x9 x10 x17 x23 x28 x35 x38 x47 x57 x67 x73 x88) S := nr ((enter_seq c101_h (k106_l b)).trans (rfl))
@[go_sem] theorem k100_n (b : Nat) (x2 x3 x4 x5 x6 x7 x8 x9 x10 x17 x23 x28 x35 x38 x47 x57 x67 x73 x88 : PV) (S : Store) : k100 b .normal (ee x2 x3 x4 x5 x6 x7 x8 x9 x10 x17 x23 x28 x35 x38 x47 x57 x67 x73 x88) S =
  condC x47 (E103 b x2 x3 x4 x5 x6 x7 x8 x9 x10 x17 x23 x28 x35 x38 x47 x57 x67 x73 x88 S)
    ((k79 b) .normal (ee x2 x3 x4 x5 x6 x7 x8 x9 x10 x17 x23 x28 x35 x38 x47 x57 x67 x73 x88) S) := nr ((show k100 b .normal (ee x2 x3 x4 x5 x6 x7 x8 x9 x10 x17 x23 x28 x35 x38 x47 x57 x67 x73 x88) S = execL (C b) 0 c99 (k79 b) (ee x2 x3 x4 x5 x6 x7 x8 x9 x10 x17 x23 x28 x35 x38 x47 x57 x67 x73 x88) S from seqC_n _ _ _ _).trans (execL_cond c99_h (rfl) (execL_skip (by kernel_rfl)) rfl))
@[go_sem] theorem k100_ret (b : Nat) (e : Env) (S : Store) : k100 b .ret e S = (k79 b) .ret e S := nr (seqC_r _ _ _ _)
@[go_sem] theorem k100_exit (b : Nat) (i : Nat) (e : Env) (S : Store) : k100 b (.exit i) e S = (k79 b) (.exit i) e S := nr (seqC_x _ _ _ _ _)
theorem k100_l (b : Nat) : seqC (fun e S => execL (C b) 0 c99 (k79 b) e S) (k79 b) = k100 b := rfl
noncomputable def k108 (b : Nat) : KT := seqC (fun e S => execL (C b) 0 c98 (k100 b) e S) (k79 b)
@[go_sem] theorem g109 (b : Nat) (K : KT) (x2 x3 x4 x5 x6 x7 x8 x9 x10 x17 x23 x28 x35 x38 x47 x57 x67 x73 x88 : PV) (S : Store) : execL (C b) 0 c98 K (ee x2 x3 x4 x5 x6 x7 x8 x9 x10 x17 x23 x28 x35 x38 x47 x57 x67 x73 x88) S =
  withV (some x6) fun x46 =>
    withV (evBin .neq (tyi Try.prog 3) x46 (.int .i64 0)) fun x47 =>
    K .normal (ee x2 x3 x4 x5 x6 x7 x8 x9 x10 x17 x23 x28 x35 x38 x47 x57 x67 x73 x88) S := nr (by kernel_rfl)
@[go_sem] theorem k108_n (b : Nat) (e : Env) (S : Store) : k108 b .normal e S = execL (C b) 0 c98 (k100 b) e S := nr (seqC_n _ _ _ _)
@[go_sem] theorem k108_ret (b : Nat) (e : Env) (S : Store) : k108 b .ret e S = (k79 b) .ret e S := nr (seqC_r _ _ _ _)
@[go_sem] theorem k108_exit (b : Nat) (i : Nat) (e : Env) (S : Store) : k108 b (.exit i) e S = (k79 b) (.exit i) e S := nr (seqC_x _ _ _ _ _)
theorem k108_l (b : Nat) : seqC (fun e S => execL (C b) 0 c97 (k79 b) e S) (k79 b) = k108 b := link_seq c97_h (k100_l b)
@[go_sem] theorem g110 (b : Nat) (K : KT) (x2 x3 x4 x5 x6 x7 x8 x9 x10 x17 x23 x28 x35 x38 x47 x57 x67 x73 x88 : PV) (S : Store) : execL (C b) 0 c96 K (ee x2 x3 x4 x5 x6 x7 x8 x9 x10 x17 x23 x28 x35 x38 x47 x57 x67 x73 x88) S =
  withV (evFieldAddr (tyi Try.prog 54) 2 x2) fun x39 =>
    withV (evFieldAddr (tyi Try.prog 51) 1 x39) fun x40 =>
    withV (evLoad (tyi Try.prog 49) S x40) fun x41 =>
    withV (evFieldAddr (tyi Try.prog 54) 2 x3) fun x42 =>
    withV (evFieldAddr (tyi Try.prog 51) 1 x42) fun x43 =>
    withV (evLoad (tyi Try.prog 49) S x43) fun x44 =>
    withN (callO (callL Try.prog hints) S 71 [x41, x44]) S fun x45 S =>
    withV (some x45) fun x6 =>
    K .normal (ee x2 x3 x4 x5 x6 x7 x8 x9 x10 x17 x23 x28 x35 x38 x47 x57 x67 x73 x88) S := nr (by kernel_rfl)
@[go_sem] theorem k95_n (b : Nat) (x2 x3 x4 x5 x6 x7 x8 x9 x10 x17 x23 x28 x35 x38 x47 x57 x67 x73 x88 : PV) (S : Store) : k95 b .normal (ee x2 x3 x4 x5 x6 x7 x8 x9 x10 x17 x23 x28 x35 x38 x47 x57 x67 x73 x88) S =
  execL (C b) 0 c96 (k108 b) (ee x2 x3 x4 x5 x6 x7 x8 x9 x10 x17 x23 x28 x35 x38 x47 x57 x67 x73 x88) S := nr ((show k95 b .normal (ee x2 x3 x4 x5 x6 x7 x8 x9 x10 x17 x23 x28 x35 x38 x47 x57 x67 x73 x88) S = execL (C b) 0 c9 (k79 b) (ee x2 x3 x4 x5 x6 x7 x8 x9 x10 x17 x23 x28 x35 x38 x47 x57 x67 x73 x88) S from seqC_n _ _ _ _).trans ((enter_seq c9_h (k108_l b)).trans (rfl)))
@[go_sem] theorem k95_ret (b : Nat) (e : Env) (S : Store) : k95 b .ret e S = (k0 b) .ret e S := nr (seqC_r _ _ _ _)
@[go_sem] theorem k95_exit (b : Nat) (i : Nat) (e : Env) (S : Store) : k95 b (.exit i) e S = (k0 b) (.exit i) e S := nr (seqC_x _ _ _ _ _)
theorem k95_l (b : Nat) : seqC (fun e S => execL (C b) 0 c8 (k0 b) e S) (k0 b) = k95 b := link_seq c8_h (k79_l b)
noncomputable def k111 (b : Nat) : KT := seqC (fun e S => execL (C b) 0 c7 (k95 b) e S) (k0 b)
noncomputable def c112 : Code := at0 c7
noncomputable def c113 : Code := at1 c7
theorem c7_h : c7 = .seq c112 c113 := by kernel_rfl
noncomputable def k114 (b : Nat) : KT := seqC (fun e S => execL (C b) 0 c113 (k95 b) e S) (k95 b)
noncomputable def c115 : Code := atT c113
noncomputable def c116 : Code := atF c113
theorem c113_h : c113 = .cond (.tmp 35) c115 c116 := by kernel_rfl
noncomputable def c118 : Code := at0 c115
noncomputable def c119 : Code := at1 c115
theorem c115_h : c115 = .seq c118 c119 := by kernel_rfl
noncomputable def c120 : Code := at0 c119
noncomputable def c121 : Code := at1 c119
theorem c119_h : c119 = .seq c120 c121 := by kernel_rfl
noncomputable def k122 (b : Nat) : KT := seqC (fun e S => execL (C b) 0 c121 (k95 b) e S) (k95 b)
@[go_sem] theorem k122_n (b : Nat) (x2 x3 x4 x5 x6 x7 x8 x9 x10 x17 x23 x28 x35 x38 x47 x57 x67 x73 x88 : PV) (S : Store) : k122 b .normal (ee x2 x3 x4 x5 x6 x7 x8 x9 x10 x17 x23 x28 x35 x38 x47 x57 x67 x73 x88) S =
  (k95 b) .ret (ee x2 x3 x4 x5 x6 x7 x8 x9 x10 x17 x23 x28 x35 x38 x47 x57 x67 x73 x88) S := nr ((show k122 b .normal (ee x2 x3 x4 x5 x6 x7 x8 x9 x10 x17 x23 x28 x35 x38 x47 x57 x67 x73 x88) S = execL (C b) 0 c121 (k95 b) (ee x2 x3 x4 x5 x6 x7 x8 x9 x10 x17 x23 x28 x35 x38 x47 x57 x67 x73 x88) S from seqC_n _ _ _ _).trans (execL_ret (by kernel_rfl)))
@[go_sem] theorem k122_ret (b : Nat) (e : Env) (S : Store) : k122 b .ret e S = (k95 b) .ret e S := nr (seqC_r _ _ _ _)
@[go_sem] theorem k122_exit (b : Nat) (i : Nat) (e : Env) (S : Store) : k122 b (.exit i) e S = (k95 b) (.exit i) e S := nr (seqC_x _ _ _ _ _)
theorem k122_l (b : Nat) : seqC (fun e S => execL (C b) 0 c121 (k95 b) e S) (k95 b) = k122 b := rfl
noncomputable def k123 (b : Nat) : KT := seqC (fun e S => execL (C b) 0 c120 (k122 b) e S) (k95 b)
@[go_sem] theorem g124 (b : Nat) (K : KT) (x2 x3 x4 x5 x6 x7 x8 x9 x10 x17 x23 x28 x35 x38 x47 x57 x67 x73 x88 : PV) (S : Store) : execL (C b) 0 c120 K (ee x2 x3 x4 x5 x6 x7 x8 x9 x10 x17 x23 x28 x35 x38 x47 x57 x67 x73 x88) S =
  withV (some (.int .i64 1)) fun x4 =>
    K .normal (ee x2 x3 x4 x5 x6 x7 x8 x9 x10 x17 x23 x28 x35 x38 x47 x57 x67 x73 x88) S := nr (by kernel_rfl)
@[go_sem] theorem k123_n (b : Nat) (e : Env) (S : Store) : k123 b .normal e S = execL (C b) 0 c120 (k122 b) e S := nr (seqC_n _ _ _ _)
@[go_sem] theorem k123_ret (b : Nat) (e : Env) (S : Store) : k123 b .ret e S = (k95 b) .ret e S := nr (seqC_r _ _ _ _)
@[go_sem] theorem k123_exit (b : Nat) (i : Nat) (e : Env) (S : Store) : k123 b (.exit i) e S = (k95 b) (.exit i) e S := nr (seqC_x _ _ _ _ _)
theorem k123_l (b : Nat) : seqC (fun e S => execL (C b) 0 c119 (k95 b) e S) (k95 b) = k123 b := link_seq c119_h (k122_l b)
noncomputable def c125 : Code := at0 c118
noncomputable def c126 : Code := at1 c118
theorem c118_h : c118 = .seq c125 c126 := by kernel_rfl
noncomputable def k127 (b : Nat) : KT := seqC (fun e S => execL (C b) 0 c126 (k123 b) e S) (k123 b)
noncomputable def c128 : Code := atT c126
noncomputable def c129 : Code := atF c126
theorem c126_h : c126 = .cond (.tmp 38) c128 c129 := by kernel_rfl
noncomputable def c131 : Code := at0 c128
noncomputable def c132 : Code := at1 c128
theorem c128_h : c128 = .seq c131 c132 := by kernel_rfl
noncomputable def k133 (b : Nat) : KT := seqC (fun e S => execL (C b) 0 c132 (k123 b) e S) (k123 b)
@[go_sem] theorem k133_n (b : Nat) (x2 x3 x4 x5 x6 x7 x8 x9 x10 x17 x23 x28 x35 x38 x47 x57 x67 x73 x88 : PV) (S : Store) : k133 b .normal (ee x2 x3 x4 x5 x6 x7 x8 x9 x10 x17 x23 x28 x35 x38 x47 x57 x67 x73 x88) S =
  (k123 b) .ret (ee x2 x3 x4 x5 x6 x7 x8 x9 x10 x17 x23 x28 x35 x38 x47 x57 x67 x73 x88) S := nr ((show k133 b .normal (ee x2 x3 x4 x5 x6 x7 x8 x9 x10 x17 x23 x28 x35 x38 x47 x57 x67 x73 x88) S = execL (C b) 0 c132 (k123 b) (ee x2 x3 x4 x5 x6 x7 x8 x9 x10 x17 x23 x28 x35 x38 x47 x57 x67 x73 x88) S from seqC_n _ _ _ _).trans (execL_ret (by kernel_rfl)))
@[go_sem] theorem k133_ret (b : Nat) (e : Env) (S : Store) : k133 b .ret e S = (k123 b) .ret e S := nr (seqC_r _ _ _ _)
@[go_sem] theorem k133_exit (b : Nat) (i : Nat) (e : Env) (S : Store) : k133 b (.exit i) e S = (k123 b) (.exit i) e S := nr (seqC_x _ _ _ _ _)
theorem k133_l (b : Nat) : seqC (fun e S => execL (C b) 0 c132 (k123 b) e S) (k123 b) = k133 b := rfl
@[go_sem] theorem g134 (b : Nat) (K : KT) (x2 x3 x4 x5 x6 x7 x8 x9 x10 x17 x23 x28 x35 x38 x47 x57 x67 x73 x88 : PV) (S : Store) : execL (C b) 0 c131 K (ee x2 x3 x4 x5 x6 x7 x8 x9 x10 x17 x23 x28 x35 x38 x47 x57 x67 x73 x88) S =
  withV (some (.int .i64 (-1))) fun x4 =>
    K .normal (ee x2 x3 x4 x5 x6 x7 x8 x9 x10 x17 x23 x28 x35 x38 x47 x57 x67 x73 x88) S := nr (by kernel_rfl)
noncomputable def E130 (b : Nat) (x2 x3 x4 x5 x6 x7 x8 x9 x10 x17 x23 x28 x35 x38 x47 x57 x67 x73 x88 : PV) (S : Store) : RT := execL (C b) 0 c128 (k123 b) (ee x2 x3 x4 x5 x6 x7 x8 x9 x10 x17 x23 x28 x35 x38 x47 x57 x67 x73 x88) S
@[go_sem] theorem E130_eq (b : Nat) (x2 x3 x4 x5 x6 x7 x8 x9 x10 x17 x23 x28 x35 x38 x47 x57 x67 x73 x88 : PV) (S : Store) : E130 b x2 x3 x4 x5 x6 x7 x8 x9 x10 x17 x23 x28 x35 x38 x47 x57 x67 x73 x88 S =
  execL (C b) 0 c131 (k133 b) (ee x2 x3 x4 x5 x6 x7 x8 x9 x10 x17 x23 x28 x35 x38 x47 x57 x67 x73 x88) S := nr ((enter_seq c128_h (k133_l b)).trans (rfl))
@[go_sem] theorem k127_n (b : Nat) (x2 x3 x4 x5 x6 x7 x8 x9 x10 x17 x23 x28 x35 x38 x47 x57 x67 x73 x88 : PV) (S : Store) : k127 b .normal (ee x2 x3 x4 x5 x6 x7 x8 x9 x10 x17 x23 x28 x35 x38 x47 x57 x67 x73 x88) S =
  condC x38 (E130 b x2 x3 x4 x5 x6 x7 x8 x9 x10 x17 x23 x28 x35 x38 x47 x57 x67 x73 x88 S)
    ((k123 b) .normal (ee x2 x3 x4 x5 x6 x7 x8 x9 x10 x17 x23 x28 x35 x38 x47 x57 x67 x73 x88) S) := nr ((show k127 b .normal (ee x2 x3 x4 x5 x6 x7 x8 x9 x10 x17 x23 x28 x35 x38 x47 x57 x67 x73 x88) S = execL (C b) 0 c126 (k123 b) (ee x2 x3 x4 x5 x6 x7 x8 x9 x10 x17 x23 x28 x35 x38 x47 x57 x67 x73 x88) S from seqC_n _ _ _ _).trans (execL_cond c126_h (rfl) (execL_skip (by kernel_rfl)) rfl))
@[go_sem] theorem k127_ret (b : Nat) (e : Env) (S : Store) : k127 b .ret e S = (k123 b) .ret e S := nr (seqC_r _ _ _ _)
@[go_sem] theorem k127_exit (b : Nat) (i : Nat) (e : Env) (S : Store) : k127 b (.exit i) e S = (k123 b) (.exit i) e S := nr (seqC_x _ _ _ _ _)
theorem k127_l (b : Nat) : seqC (fun e S => execL (C b) 0 c126 (k123 b) e S) (k123 b) = k127 b := rfl
@[go_sem] theorem g135 (b : Nat) (K : KT) (x2 x3 x4 x5 x6 x7 x8 x9 x10 x17 x23 x28 x35 x38 x47 x57 x67 x73 x88 : PV) (S : Store) : execL (C b) 0 c125 K (ee x2 x3 x4 x5 x6 x7 x8 x9 x10 x17 x23 x28 x35 x38 x47 x57 x67 x73 x88) S =
  withV (evFieldAddr (tyi Try.prog 54) 2 x3) fun x36 =>
    withV (evFieldAddr (tyi Try.prog 51) 0 x36) fun x37 =>
    withV (evLoad (tyi Try.prog 4) S x37) fun x38 =>
    K .normal (ee x2 x3 x4 x5 x6 x7 x8 x9 x10 x17 x23 x28 x35 x38 x47 x57 x67 x73 x88) S := nr (by kernel_rfl)
noncomputable def E117 (b : Nat) (x2 x3 x4 x5 x6 x7 x8 x9 x10 x17 x23 x28 x35 x38 x47 x57 x67 x73 x88 : PV) (S : Store) : RT := execL (C b) 0 c115 (k95 b) (ee x2 x3 x4 x5 x6 x7 x8 x9 x10 x17 x23 x28 x35 x38 x47 x57 x67 x73 x88) S
@[go_sem] theorem E117_eq (b : Nat) (x2 x3 x4 x5 x6 x7 x8 x9 x10 x17 x23 x28 x35 x38 x47 x57 x67 x73 x88 : PV) (S : Store) : E117 b x2 x3 x4 x5 x6 x7 x8 x9 x10 x17 x23 x28 x35 x38 x47 x57 x67 x73 x88 S =
  execL (C b) 0 c125 (k127 b) (ee x2 x3 x4 x5 x6 x7 x8 x9 x10 x17 x23 x28 x35 x38 x47 x57 x67 x73 x88) S := nr ((enter_seq c115_h (k123_l b)).trans ((enter_seq c118_h (k127_l b)).trans (rfl)))
@[go_sem] theorem k114_n (b : Nat) (x2 x3 x4 x5 x6 x7 x8 x9 x10 x17 x23 x28 x35 x38 x47 x57 x67 x73 x88 : PV) (S : Store) : k114 b .normal (ee x2 x3 x4 x5 x6 x7 x8 x9 x10 x17 x23 x28 x35 x38 x47 x57 x67 x73 x88) S =
  condC x35 (E117 b x2 x3 x4 x5 x6 x7 x8 x9 x10 x17 x23 x28 x35 x38 x47 x57 x67 x73 x88 S)
    ((k95 b) .normal (ee x2 x3 x4 x5 x6 x7 x8 x9 x10 x17 x23 x28 x35 x38 x47 x57 x67 x73 x88) S) := nr ((show k114 b .normal (ee x2 x3 x4 x5 x6 x7 x8 x9 x10 x17 x23 x28 x35 x38 x47 x57 x67 x73 x88) S = execL (C b) 0 c113 (k95 b) (ee x2 x3 x4 x5 x6 x7 x8 x9 x10 x17 x23 x28 x35 x38 x47 x57 x67 x73 x88) S from seqC_n _ _ _ _).trans (execL_cond c113_h (rfl) (execL_skip (by kernel_rfl)) rfl))
@[go_sem] theorem k114_ret (b : Nat) (e : Env) (S : Store) : k114 b .ret e S = (k95 b) .ret e S := nr (seqC_r _ _ _ _)
@[go_sem] theorem k114_exit (b : Nat) (i : Nat) (e : Env) (S : Store) : k114 b (.exit i) e S = (k95 b) (.exit i) e S := nr (seqC_x _ _ _ _ _)
theorem k114_l (b : Nat) : seqC (fun e S => execL (C b) 0 c113 (k95 b) e S) (k95 b) = k114 b := rfl
@[go_sem] theorem g136 (b : Nat) (K : KT) (x2 x3 x4 x5 x6 x7 x8 x9 x10 x17 x23 x28 x35 x38 x47 x57 x67 x73 x88 : PV) (S : Store) : execL (C b) 0 c112 K (ee x2 x3 x4 x5 x6 x7 x8 x9 x10 x17 x23 x28 x35 x38 x47 x57 x67 x73 x88) S =
  withV (evFieldAddr (tyi Try.prog 54) 2 x2) fun x29 =>
    withV (evFieldAddr (tyi Try.prog 51) 0 x29) fun x30 =>
    withV (evLoad (tyi Try.prog 4) S x30) fun x31 =>
    withV (evFieldAddr (tyi Try.prog 54) 2 x3) fun x32 =>
    withV (evFieldAddr (tyi Try.prog 51) 0 x32) fun x33 =>
    withV (evLoad (tyi Try.prog 4) S x33) fun x34 =>
    withV (evBin .neq (tyi Try.prog 4) x31 x34) fun x35 =>
    K .normal (ee x2 x3 x4 x5 x6 x7 x8 x9 x10 x17 x23 x28 x35 x38 x47 x57 x67 x73 x88) S := nr (by kernel_rfl)
@[go_sem] theorem k111_n (b : Nat) (x2 x3 x4 x5 x6 x7 x8 x9 x10 x17 x23 x28 x35 x38 x47 x57 x67 x73 x88 : PV) (S : Store) : k111 b .normal (ee x2 x3 x4 x5 x6 x7 x8 x9 x10 x17 x23 x28 x35 x38 x47 x57 x67 x73 x88) S =
  execL (C b) 0 c112 (k114 b) (ee x2 x3 x4 x5 x6 x7 x8 x9 x10 x17 x23 x28 x35 x38 x47 x57 x67 x73 x88) S := nr ((show k111 b .normal (ee x2 x3 x4 x5 x6 x7 x8 x9 x10 x17 x23 x28 x35 x38 x47 x57 x67 x73 x88) S = execL (C b) 0 c7 (k95 b) (ee x2 x3 x4 x5 x6 x7 x8 x9 x10 x17 x23 x28 x35 x38 x47 x57 x67 x73 x88) S from seqC_n _ _ _ _).trans ((enter_seq c7_h (k114_l b)).trans (rfl)))
@[go_sem] theorem k111_ret (b : Nat) (e : Env) (S : Store) : k111 b .ret e S = (k0 b) .ret e S := nr (seqC_r _ _ _ _)
@[go_sem] theorem k111_exit (b : Nat) (i : Nat) (e : Env) (S : Store) : k111 b (.exit i) e S = (k0 b) (.exit i) e S := nr (seqC_x _ _ _ _ _)
theorem k111_l (b : Nat) : seqC (fun e S => execL (C b) 0 c6 (k0 b) e S) (k0 b) = k111 b := link_seq c6_h (k95_l b)
noncomputable def k137 (b : Nat) : KT := seqC (fun e S => execL (C b) 0 c5 (k111 b) e S) (k0 b)
noncomputable def c138 : Code := at0 c5
noncomputable def c139 : Code := at1 c5
theorem c5_h : c5 = .seq c138 c139 := by kernel_rfl
noncomputable def k140 (b : Nat) : KT := seqC (fun e S => execL (C b) 0 c139 (k111 b) e S) (k111 b)
noncomputable def c141 : Code := atT c139
noncomputable def c142 : Code := atF c139
theorem c139_h : c139 = .cond (.tmp 23) c141 c142 := by kernel_rfl
noncomputable def c144 : Code := at0 c141
noncomputable def c145 : Code := at1 c141
theorem c141_h : c141 = .seq c144 c145 := by kernel_rfl
noncomputable def c146 : Code := at0 c145
noncomputable def c147 : Code := at1 c145
theorem c145_h : c145 = .seq c146 c147 := by kernel_rfl
noncomputable def k148 (b : Nat) : KT := seqC (fun e S => execL (C b) 0 c147 (k111 b) e S) (k111 b)
@[go_sem] theorem k148_n (b : Nat) (x2 x3 x4 x5 x6 x7 x8 x9 x10 x17 x23 x28 x35 x38 x47 x57 x67 x73 x88 : PV) (S : Store) : k148 b .normal (ee x2 x3 x4 x5 x6 x7 x8 x9 x10 x17 x23 x28 x35 x38 x47 x57 x67 x73 x88) S =
  (k111 b) .ret (ee x2 x3 x4 x5 x6 x7 x8 x9 x10 x17 x23 x28 x35 x38 x47 x57 x67 x73 x88) S := nr ((show k148 b .normal (ee x2 x3 x4 x5 x6 x7 x8 x9 x10 x17 x23 x28 x35 x38 x47 x57 x67 x73 x88) S = execL (C b) 0 c147 (k111 b) (ee x2 x3 x4 x5 x6 x7 x8 x9 x10 x17 x23 x28 x35 x38 x47 x57 x67 x73 x88) S from seqC_n _ _ _ _).trans (execL_ret (by kernel_rfl)))
@[go_sem] theorem k148_ret (b : Nat) (e : Env) (S : Store) : k148 b .ret e S = (k111 b) .ret e S := nr (seqC_r _ _ _ _)
@[go_sem] theorem k148_exit (b : Nat) (i : Nat) (e : Env) (S : Store) : k148 b (.exit i) e S = (k111 b) (.exit i) e S := nr (seqC_x _ _ _ _ _)
theorem k148_l (b : Nat) : seqC (fun e S => execL (C b) 0 c147 (k111 b) e S) (k111 b) = k148 b := rfl
noncomputable def k149 (b : Nat) : KT := seqC (fun e S => execL (C b) 0 c146 (k148 b) e S) (k111 b)
@[go_sem] theorem g150 (b : Nat) (K : KT) (x2 x3 x4 x5 x6 x7 x8 x9 x10 x17 x23 x28 x35 x38 x47 x57 x67 x73 x88 : PV) (S : Store) : execL (C b) 0 c146 K (ee x2 x3 x4 x5 x6 x7 x8 x9 x10 x17 x23 x28 x35 x38 x47 x57 x67 x73 x88) S =
  withV (some (.int .i64 1)) fun x4 =>
    K .normal (ee x2 x3 x4 x5 x6 x7 x8 x9 x10 x17 x23 x28 x35 x38 x47 x57 x67 x73 x88) S := nr (by kernel_rfl)
@[go_sem] theorem k149_n (b : Nat) (e : Env) (S : Store) : k149 b .normal e S = execL (C b) 0 c146 (k148 b) e S := nr (seqC_n _ _ _ _)
@[go_sem] theorem k149_ret (b : Nat) (e : Env) (S : Store) : k149 b .ret e S = (k111 b) .ret e S := nr (seqC_r _ _ _ _)
@[go_sem] theorem k149_exit (b : Nat) (i : Nat) (e : Env) (S : Store) : k149 b (.exit i) e S = (k111 b) (.exit i) e S := nr (seqC_x _ _ _ _ _)
theorem k149_l (b : Nat) : seqC (fun e S => execL (C b) 0 c145 (k111 b) e S) (k111 b) = k149 b := link_seq c145_h (k148_l b)
noncomputable def c151 : Code := at0 c144
noncomputable def c152 : Code := at1 c144
theorem c144_h : c144 = .seq c151 c152 := by kernel_rfl
noncomputable def k153 (b : Nat) : KT := seqC (fun e S => execL (C b) 0 c152 (k149 b) e S) (k149 b)
noncomputable def c154 : Code := atT c152
noncomputable def c155 : Code := atF c152
theorem c152_h : c152 = .cond (.tmp 28) c154 c155 := by kernel_rfl
noncomputable def c157 : Code := at0 c154
noncomputable def c158 : Code := at1 c154
theorem c154_h : c154 = .seq c157 c158 := by kernel_rfl
noncomputable def k159 (b : Nat) : KT := seqC (fun e S => execL (C b) 0 c158 (k149 b) e S) (k149 b)
@[go_sem] theorem k159_n (b : Nat) (x2 x3 x4 x5 x6 x7 x8 x9 x10 x17 x23 x28 x35 x38 x47 x57 x67 x73 x88 : PV) (S : Store) : k159 b .normal (ee x2 x3 x4 x5 x6 x7 x8 x9 x10 x17 x23 x28 x35 x38 x47 x57 x67 x73 x88) S =
  (k149 b) .ret (ee x2 x3 x4 x5 x6 x7 x8 x9 x10 x17 x23 x28 x35 x38 x47 x57 x67 x73 x88) S := nr ((show k159 b .normal (ee x2 x3 x4 x5 x6 x7 x8 x9 x10 x17 x23 x28 x35 x38 x47 x57 x67 x73 x88) S = execL (C b) 0 c158 (k149 b) (ee x2 x3 x4 x5 x6 x7 x8 x9 x10 x17 x23 x28 x35 x38 x47 x57 x67 x73 x88) S from seqC_n _ _ _ _).trans (execL_ret (by kernel_rfl)))
@[go_sem] theorem k159_ret (b : Nat) (e : Env) (S : Store) : k159 b .ret e S = (k149 b) .ret e S := nr (seqC_r _ _ _ _)
@[go_sem] theorem k159_exit (b : Nat) (i : Nat) (e : Env) (S : Store) : k159 b (.exit i) e S = (k149 b) (.exit i) e S := nr (seqC_x _ _ _ _ _)
theorem k159_l (b : Nat) : seqC (fun e S => execL (C b) 0 c158 (k149 b) e S) (k149 b) = k159 b := rfl
@[go_sem] theorem g160 (b : Nat) (K : KT) (x2 x3 x4 x5 x6 x7 x8 x9 x10 x17 x23 x28 x35 x38 x47 x57 x67 x73 x88 : PV) (S : Store) : execL (C b) 0 c157 K (ee x2 x3 x4 x5 x6 x7 x8 x9 x10 x17 x23 x28 x35 x38 x47 x57 x67 x73 x88) S =
  withV (some (.int .i64 (-1))) fun x4 =>
    K .normal (ee x2 x3 x4 x5 x6 x7 x8 x9 x10 x17 x23 x28 x35 x38 x47 x57 x67 x73 x88) S := nr (by kernel_rfl)
noncomputable def E156 (b : Nat) (x2 x3 x4 x5 x6 x7 x8 x9 x10 x17 x23 x28 x35 x38 x47 x57 x67 x73 x88 : PV) (S : Store) : RT := execL (C b) 0 c154 (k149 b) (ee x2 x3 x4 x5 x6 x7 x8 x9 x10 x17 x23 x28 x35 x38 x47 x57 x67 x73 x88) S
@[go_sem] theorem E156_eq (b : Nat) (x2 x3 x4 x5 x6 x7 x8 x9 x10 x17 x23 x28 x35 x38 x47 x57 x67 x73 x88 : PV) (S : Store) : E156 b x2 x3 x4 x5 x6 x7 x8 x9 x10 x17 x23 x28 x35 x38 x47 x57 x67 x73 x88 S =
  execL (C b) 0 c157 (k159 b) (ee x2 x3 x4 x5 x6 x7 x8 x9 x10 x17 x23 x28 x35 x38 x47 x57 x67 x73 x88) S := nr ((enter_seq c154_h (k159_l b)).trans (rfl))
@[go_sem] theorem k153_n (b : Nat) (x2 x3 x4 x5 x6 x7 x8 x9 x10 x17 x23 x28 x35 x38 x47 x57 x67 x73 x88 : PV) (S : Store) : k153 b .normal (ee x2 x3 x4 x5 x6 x7 x8 x9 x10 x17 x23 x28 x35 x38 x47 x57 x67 x73 x88) S =
  condC x28 (E156 b x2 x3 x4 x5 x6 x7 x8 x9 x10 x17 x23 x28 x35 x38 x47 x57 x67 x73 x88 S)
    ((k149 b) .normal (ee x2 x3 x4 x5 x6 x7 x8 x9 x10 x17 x23 x28 x35 x38 x47 x57 x67 x73 x88) S) := nr ((show k153 b .normal (ee x2 x3 x4 x5 x6 x7 x8 x9 x10 x17 x23 x28 x35 x38 x47 x57 x67 x73 x88) S = execL (C b) 0 c152 (k149 b) (ee x2 x3 x4 x5 x6 x7 x8 x9 x10 x17 x23 x28 x35 x38 x47 x57 x67 x73 x88) S from seqC_n _ _ _ _).trans (execL_cond c152_h (rfl) (execL_skip (by kernel_rfl)) rfl))
@[go_sem] theorem k153_ret (b : Nat) (e : Env) (S : Store) : k153 b .ret e S = (k149 b) .ret e S := nr (seqC_r _ _ _ _)
@[go_sem] theorem k153_exit (b : Nat) (i : Nat) (e : Env) (S : Store) : k153 b (.exit i) e S = (k149 b) (.exit i) e S := nr (seqC_x _ _ _ _ _)
theorem k153_l (b : Nat) : seqC (fun e S => execL (C b) 0 c152 (k149 b) e S) (k149 b) = k153 b := rfl
@[go_sem] theorem g161 (b : Nat) (K : KT) (x2 x3 x4 x5 x6 x7 x8 x9 x10 x17 x23 x28 x35 x38 x47 x57 x67 x73 x88 : PV) (S : Store) : execL (C b) 0 c151 K (ee x2 x3 x4 x5 x6 x7 x8 x9 x10 x17 x23 x28 x35 x38 x47 x57 x67 x73 x88) S =
  withV (evFieldAddr (tyi Try.prog 54) 1 x2) fun x24 =>
    withV (evLoad (tyi Try.prog 9) S x24) fun x25 =>
    withV (evFieldAddr (tyi Try.prog 54) 1 x3) fun x26 =>
    withV (evLoad (tyi Try.prog 9) S x26) fun x27 =>
    withV (evBin .lss (tyi Try.prog 9) x25 x27) fun x28 =>
    K .normal (ee x2 x3 x4 x5 x6 x7 x8 x9 x10 x17 x23 x28 x35 x38 x47 x57 x67 x73 x88) S := nr (by kernel_rfl)
noncomputable def E143 (b : Nat) (x2 x3 x4 x5 x6 x7 x8 x9 x10 x17 x23 x28 x35 x38 x47 x57 x67 x73 x88 : PV) (S : Store) : RT := execL (C b) 0 c141 (k111 b) (ee x2 x3 x4 x5 x6 x7 x8 x9 x10 x17 x23 x28 x35 x38 x47 x57 x67 x73 x88) S
@[go_sem] theorem E143_eq (b : Nat) (x2 x3 x4 x5 x6 x7 x8 x9 x10 x17 x23 x28 x35 x38 x47 x57 x67 x73 x88 : PV) (S : Store) : E143 b x2 x3 x4 x5 x6 x7 x8 x9 x10 x17 x23 x28 x35 x38 x47 x57 x67 x73 x88 S =
  execL (C b) 0 c151 (k153 b) (ee x2 x3 x4 x5 x6 x7 x8 x9 x10 x17 x23 x28 x35 x38 x47 x57 x67 x73 x88) S := nr ((enter_seq c141_h (k149_l b)).trans ((enter_seq c144_h (k153_l b)).trans (rfl)))
@[go_sem] theorem k140_n (b : Nat) (x2 x3 x4 x5 x6 x7 x8 x9 x10 x17 x23 x28 x35 x38 x47 x57 x67 x73 x88 : PV) (S : Store) : k140 b .normal (ee x2 x3 x4 x5 x6 x7 x8 x9 x10 x17 x23 x28 x35 x38 x47 x57 x67 x73 x88) S =
  condC x23 (E143 b x2 x3 x4 x5 x6 x7 x8 x9 x10 x17 x23 x28 x35 x38 x47 x57 x67 x73 x88 S)
    ((k111 b) .normal (ee x2 x3 x4 x5 x6 x7 x8 x9 x10 x17 x23 x28 x35 x38 x47 x57 x67 x73 x88) S) := nr ((show k140 b .normal (ee x2 x3 x4 x5 x6 x7 x8 x9 x10 x17 x23 x28 x35 x38 x47 x57 x67 x73 x88) S = execL (C b) 0 c139 (k111 b) (ee x2 x3 x4 x5 x6 x7 x8 x9 x10 x17 x23 x28 x35 x38 x47 x57 x67 x73 x88) S from seqC_n _ _ _ _).trans (execL_cond c139_h (rfl) (execL_skip (by kernel_rfl)) rfl))
@[go_sem] theorem k140_ret (b : Nat) (e : Env) (S : Store) : k140 b .ret e S = (k111 b) .ret e S := nr (seqC_r _ _ _ _)
@[go_sem] theorem k140_exit (b : Nat) (i : Nat) (e : Env) (S : Store) : k140 b (.exit i) e S = (k111 b) (.exit i) e S := nr (seqC_x _ _ _ _ _)
theorem k140_l (b : Nat) : seqC (fun e S => execL (C b) 0 c139 (k111 b) e S) (k111 b) = k140 b := rfl
@[go_sem] theorem g162 (b : Nat) (K : KT) (x2 x3 x4 x5 x6 x7 x8 x9 x10 x17 x23 x28 x35 x38 x47 x57 x67 x73 x88 : PV) (S : Store) : execL (C b) 0 c138 K (ee x2 x3 x4 x5 x6 x7 x8 x9 x10 x17 x23 x28 x35 x38 x47 x57 x67 x73 x88) S =
  withV (evFieldAddr (tyi Try.prog 54) 1 x2) fun x19 =>
    withV (evLoad (tyi Try.prog 9) S x19) fun x20 =>
    withV (evFieldAddr (tyi Try.prog 54) 1 x3) fun x21 =>
    withV (evLoad (tyi Try.prog 9) S x21) fun x22 =>
    withV (evBin .neq (tyi Try.prog 9) x20 x22) fun x23 =>
    K .normal (ee x2 x3 x4 x5 x6 x7 x8 x9 x10 x17 x23 x28 x35 x38 x47 x57 x67 x73 x88) S := nr (by kernel_rfl)
@[go_sem] theorem k137_n (b : Nat) (x2 x3 x4 x5 x6 x7 x8 x9 x10 x17 x23 x28 x35 x38 x47 x57 x67 x73 x88 : PV) (S : Store) : k137 b .normal (ee x2 x3 x4 x5 x6 x7 x8 x9 x10 x17 x23 x28 x35 x38 x47 x57 x67 x73 x88) S =
  execL (C b) 0 c138 (k140 b) (ee x2 x3 x4 x5 x6 x7 x8 x9 x10 x17 x23 x28 x35 x38 x47 x57 x67 x73 x88) S := nr ((show k137 b .normal (ee x2 x3 x4 x5 x6 x7 x8 x9 x10 x17 x23 x28 x35 x38 x47 x57 x67 x73 x88) S = execL (C b) 0 c5 (k111 b) (ee x2 x3 x4 x5 x6 x7 x8 x9 x10 x17 x23 x28 x35 x38 x47 x57 x67 x73 x88) S from seqC_n _ _ _ _).trans ((enter_seq c5_h (k140_l b)).trans (rfl)))
@[go_sem] theorem k137_ret (b : Nat) (e : Env) (S : Store) : k137 b .ret e S = (k0 b) .ret e S := nr (seqC_r _ _ _ _)
@[go_sem] theorem k137_exit (b : Nat) (i : Nat) (e : Env) (S : Store) : k137 b (.exit i) e S = (k0 b) (.exit i) e S := nr (seqC_x _ _ _ _ _)
theorem k137_l (b : Nat) : seqC (fun e S => execL (C b) 0 c4 (k0 b) e S) (k0 b) = k137 b := link_seq c4_h (k111_l b)
noncomputable def k163 (b : Nat) : KT := seqC (fun e S => execL (C b) 0 c3 (k137 b) e S) (k0 b)
noncomputable def c164 : Code := at0 c3
noncomputable def c165 : Code := at1 c3
theorem c3_h : c3 = .seq c164 c165 := by kernel_rfl
noncomputable def c166 : Code := at0 c165
noncomputable def c167 : Code := at1 c165
theorem c165_h : c165 = .seq c166 c167 := by kernel_rfl
noncomputable def k168 (b : Nat) : KT := seqC (fun e S => execL (C b) 0 c167 (k137 b) e S) (k137 b)
noncomputable def c169 : Code := atT c167
noncomputable def c170 : Code := atF c167
theorem c167_h : c167 = .cond (.tmp 17) c169 c170 := by kernel_rfl
noncomputable def c172 : Code := at0 c169
noncomputable def c173 : Code := at1 c169
theorem c169_h : c169 = .seq c172 c173 := by kernel_rfl
noncomputable def k174 (b : Nat) : KT := seqC (fun e S => execL (C b) 0 c173 (k137 b) e S) (k137 b)
@[go_sem] theorem k174_n (b : Nat) (x2 x3 x4 x5 x6 x7 x8 x9 x10 x17 x23 x28 x35 x38 x47 x57 x67 x73 x88 : PV) (S : Store) : k174 b .normal (ee x2 x3 x4 x5 x6 x7 x8 x9 x10 x17 x23 x28 x35 x38 x47 x57 x67 x73 x88) S =
  (k137 b) .ret (ee x2 x3 x4 x5 x6 x7 x8 x9 x10 x17 x23 x28 x35 x38 x47 x57 x67 x73 x88) S := nr ((show k174 b .normal (ee x2 x3 x4 x5 x6 x7 x8 x9 x10 x17 x23 x28 x35 x38 x47 x57 x67 x73 x88) S = execL (C b) 0 c173 (k137 b) (ee x2 x3 x4 x5 x6 x7 x8 x9 x10 x17 x23 x28 x35 x38 x47 x57 x67 x73 x88) S from seqC_n _ _ _ _).trans (execL_ret (by kernel_rfl)))
@[go_sem] theorem k174_ret (b : Nat) (e : Env) (S : Store) : k174 b .ret e S = (k137 b) .ret e S := nr (seqC_r _ _ _ _)
@[go_sem] theorem k174_exit (b : Nat) (i : Nat) (e : Env) (S : Store) : k174 b (.exit i) e S = (k137 b) (.exit i) e S := nr (seqC_x _ _ _ _ _)
theorem k174_l (b : Nat) : seqC (fun e S => execL (C b) 0 c173 (k137 b) e S) (k137 b) = k174 b := rfl
@[go_sem] theorem g175 (b : Nat) (K : KT) (x2 x3 x4 x5 x6 x7 x8 x9 x10 x17 x23 x28 x35 x38 x47 x57 x67 x73 x88 : PV) (S : Store) : execL (C b) 0 c172 K (ee x2 x3 x4 x5 x6 x7 x8 x9 x10 x17 x23 x28 x35 x38 x47 x57 x67 x73 x88) S =
  withV (some x5) fun x18 =>
    withV (some x18) fun x4 =>
    K .normal (ee x2 x3 x4 x5 x6 x7 x8 x9 x10 x17 x23 x28 x35 x38 x47 x57 x67 x73 x88) S := nr (by kernel_rfl)
noncomputable def E171 (b : Nat) (x2 x3 x4 x5 x6 x7 x8 x9 x10 x17 x23 x28 x35 x38 x47 x57 x67 x73 x88 : PV) (S : Store) : RT := execL (C b) 0 c169 (k137 b) (ee x2 x3 x4 x5 x6 x7 x8 x9 x10 x17 x23 x28 x35 x38 x47 x57 x67 x73 x88) S
@[go_sem] theorem E171_eq (b : Nat) (x2 x3 x4 x5 x6 x7 x8 x9 x10 x17 x23 x28 x35 x38 x47 x57 x67 x73 x88 : PV) (S : Store) : E171 b x2 x3 x4 x5 x6 x7 x8 x9 x10 x17 x23 x28 x35 x38 x47 x57 x67 x73 x88 S =
  execL (C b) 0 c172 (k174 b) (ee x2 x3 x4 x5 x6 x7 x8 x9 x10 x17 x23 x28 x35 x38 x47 x57 x67 x73 x88) S := nr ((enter_seq c169_h (k174_l b)).trans (rfl))
@[go_sem] theorem k168_n (b : Nat) (x2 x3 x4 x5 x6 x7 x8 x9 x10 x17 x23 x28 x35 x38 x47 x57 x67 x73 x88 : PV) (S : Store) : k168 b .normal (ee x2 x3 x4 x5 x6 x7 x8 x9 x10 x17 x23 x28 x35 x38 x47 x57 x67 x73 x88) S =
  condC x17 (E171 b x2 x3 x4 x5 x6 x7 x8 x9 x10 x17 x23 x28 x35 x38 x47 x57 x67 x73 x88 S)
    ((k137 b) .normal (ee x2 x3 x4 x5 x6 x7 x8 x9 x10 x17 x23 x28 x35 x38 x47 x57 x67 x73 x88) S) := nr ((show k168 b .normal (ee x2 x3 x4 x5 x6 x7 x8 x9 x10 x17 x23 x28 x35 x38 x47 x57 x67 x73 x88) S = execL (C b) 0 c167 (k137 b) (ee x2 x3 x4 x5 x6 x7 x8 x9 x10 x17 x23 x28 x35 x38 x47 x57 x67 x73 x88) S from seqC_n _ _ _ _).trans (execL_cond c167_h (rfl) (execL_skip (by kernel_rfl)) rfl))
@[go_sem] theorem k168_ret (b : Nat) (e : Env) (S : Store) : k168 b .ret e S = (k137 b) .ret e S := nr (seqC_r _ _ _ _)
@[go_sem] theorem k168_exit (b : Nat) (i : Nat) (e : Env) (S : Store) : k168 b (.exit i) e S = (k137 b) (.exit i) e S := nr (seqC_x _ _ _ _ _)
theorem k168_l (b : Nat) : seqC (fun e S => execL (C b) 0 c167 (k137 b) e S) (k137 b) = k168 b := rfl
noncomputable def k176 (b : Nat) : KT := seqC (fun e S => execL (C b) 0 c166 (k168 b) e S) (k137 b)
@[go_sem] theorem g177 (b : Nat) (K : KT) (x2 x3 x4 x5 x6 x7 x8 x9 x10 x17 x23 x28 x35 x38 x47 x57 x67 x73 x88 : PV) (S : Store) : execL (C b) 0 c166 K (ee x2 x3 x4 x5 x6 x7 x8 x9 x10 x17 x23 x28 x35 x38 x47 x57 x67 x73 x88) S =
  withV (some x5) fun x16 =>
    withV (evBin .neq (tyi Try.prog 3) x16 (.int .i64 0)) fun x17 =>
    K .normal (ee x2 x3 x4 x5 x6 x7 x8 x9 x10 x17 x23 x28 x35 x38 x47 x57 x67 x73 x88) S := nr (by kernel_rfl)
@[go_sem] theorem k176_n (b : Nat) (e : Env) (S : Store) : k176 b .normal e S = execL (C b) 0 c166 (k168 b) e S := nr (seqC_n _ _ _ _)
@[go_sem] theorem k176_ret (b : Nat) (e : Env) (S : Store) : k176 b .ret e S = (k137 b) .ret e S := nr (seqC_r _ _ _ _)
@[go_sem] theorem k176_exit (b : Nat) (i : Nat) (e : Env) (S : Store) : k176 b (.exit i) e S = (k137 b) (.exit i) e S := nr (seqC_x _ _ _ _ _)
theorem k176_l (b : Nat) : seqC (fun e S => execL (C b) 0 c165 (k137 b) e S) (k137 b) = k176 b := link_seq c165_h (k168_l b)
@[go_sem] theorem g178 (b : Nat) (K : KT) (x2 x3 x4 x5 x6 x7 x8 x9 x10 x17 x23 x28 x35 x38 x47 x57 x67 x73 x88 : PV) (S : Store) : execL (C b) 0 c164 K (ee x2 x3 x4 x5 x6 x7 x8 x9 x10 x17 x23 x28 x35 x38 x47 x57 x67 x73 x88) S =
  withV (evFieldAddr (tyi Try.prog 54) 0 x2) fun x11 =>
    withV (evLoad (tyi Try.prog 3) S x11) fun x12 =>
    withV (evFieldAddr (tyi Try.prog 54) 0 x3) fun x13 =>
    withV (evLoad (tyi Try.prog 3) S x13) fun x14 =>
    withN (callO (callL Try.prog hints) S 70 [x12, x14]) S fun x15 S =>
    withV (some x15) fun x5 =>
    K .normal (ee x2 x3 x4 x5 x6 x7 x8 x9 x10 x17 x23 x28 x35 x38 x47 x57 x67 x73 x88) S := nr (by kernel_rfl)
@[go_sem] theorem k163_n (b : Nat) (x2 x3 x4 x5 x6 x7 x8 x9 x10 x17 x23 x28 x35 x38 x47 x57 x67 x73 x88 : PV) (S : Store) : k163 b .normal (ee x2 x3 x4 x5 x6 x7 x8 x9 x10 x17 x23 x28 x35 x38 x47 x57 x67 x73 x88) S =
  execL (C b) 0 c164 (k176 b) (ee x2 x3 x4 x5 x6 x7 x8 x9 x10 x17 x23 x28 x35 x38 x47 x57 x67 x73 x88) S := nr ((show k163 b .normal (ee x2 x3 x4 x5 x6 x7 x8 x9 x10 x17 x23 x28 x35 x38 x47 x57 x67 x73 x88) S = execL (C b) 0 c3 (k137 b) (ee x2 x3 x4 x5 x6 x7 x8 x9 x10 x17 x23 x28 x35 x38 x47 x57 x67 x73 x88) S from seqC_n _ _ _ _).trans ((enter_seq c3_h (k176_l b)).trans (rfl)))
@[go_sem] theorem k163_ret (b : Nat) (e : Env) (S : Store) : k163 b .ret e S = (k0 b) .ret e S := nr (seqC_r _ _ _ _)
@[go_sem] theorem k163_exit (b : Nat) (i : Nat) (e : Env) (S : Store) : k163 b (.exit i) e S = (k0 b) (.exit i) e S := nr (seqC_x _ _ _ _ _)
theorem k163_l (b : Nat) : seqC (fun e S => execL (C b) 0 c2 (k0 b) e S) (k0 b) = k163 b := link_seq c2_h (k137_l b)
@[go_sem] theorem g179 (b : Nat) (K : KT) (x0 x1 : PV) (S : Store) : execL (C b) 0 c1 K [(0, x0), (1, x1)] S =
  withN (boxed S (List.length S) (TI.size (tyi Try.prog 54)) x0) S fun x2 S =>
    withN (boxed S (List.length S) (TI.size (tyi Try.prog 54)) x1) S fun x3 S =>
    withV (some (.int .i64 0)) fun x4 =>
    K .normal (ee x2 x3 x4 .undef .undef .undef .undef .undef .undef .undef .undef .undef .undef .undef .undef .undef .undef .undef .undef) S := nr (by kernel_rfl)
noncomputable def E (b : Nat) (x0 x1 : PV) (S : Store) : RT := execL (C b) 0 code (k0 b) [(0, x0), (1, x1)] S
@[go_sem] theorem E_eq (b : Nat) (x0 x1 : PV) (S : Store) : E b x0 x1 S =
  execL (C b) 0 c1 (k163 b) [(0, x0), (1, x1)] S := nr ((enter_seq code_h (k163_l b)).trans (rfl))
theorem callR {x0 x1 : PV} {S : Store} {r : PV × Store} (h : E S.length x0 x1 S = some r) : callRL Try.prog hints 46 [x0, x1] S = some r := callRL_of (fn := Try.f46) (c := code) (by kernel_rfl) (by kernel_rfl) (by decide) (by kernel_rfl) (Nat.le_of_ble_eq_true (by kernel_rfl)) h
theorem call {x0 x1 : PV} {r : PV × Store} {v : PV} (h : E 0 x0 x1 [] = some r) (hv : fzPV r.2 r.1 = some v) : callL Try.prog hints 46 [x0, x1] = some v := callL_of (fn := Try.f46) (c := code) (by kernel_rfl) (by kernel_rfl) (by decide) (by kernel_rfl) (Nat.le_of_ble_eq_true (by kernel_rfl)) h hv
end F46
/-! ### tree.Equal -/
namespace F47
def hint : Hint := { keep := [2, 3, 4], loops := [] }
noncomputable def C (b : Nat) : Ctx := ctxL Try.prog hints b hint
noncomputable def code : Code := Try.f47.body.get rfl
noncomputable def k0 (b : Nat) : KT := endC Try.prog Try.f47
def ee (x2 x3 x4 : PV) : Env := [(2, x2), (3, x3), (4, x4)]
@[go_sem] theorem gc_ee (n : Nat) (x2 x3 x4 : PV) (S : Store) : gc n (ee x2 x3 x4) S = gc n [(2, x2), (3, x3), (4, x4)] S := nr (rfl)
@[go_sem] theorem k0_ret (b : Nat) (x2 x3 x4 : PV) (S : Store) : k0 b .ret (ee x2 x3 x4) S = some (x4, S) := nr (by kernel_rfl)
@[go_sem] theorem k0_n (b : Nat) (x2 x3 x4 : PV) (S : Store) : k0 b .normal (ee x2 x3 x4) S = some (x4, S) := nr (by kernel_rfl)
noncomputable def c1 : Code := at0 code
noncomputable def c2 : Code := at1 code
theorem code_h : code = .seq c1 c2 := by kernel_rfl
noncomputable def c3 : Code := at0 c2
noncomputable def c4 : Code := at1 c2
theorem c2_h : c2 = .seq c3 c4 := by kernel_rfl
noncomputable def k5 (b : Nat) : KT := seqC (fun e S => execL (C b) 0 c4 (k0 b) e S) (k0 b)
@[go_sem] theorem k5_n (b : Nat) (x2 x3 x4 : PV) (S : Store) : k5 b .normal (ee x2 x3 x4) S =
  (k0 b) .ret (ee x2 x3 x4) S := nr ((show k5 b .normal (ee x2 x3 x4) S = execL (C b) 0 c4 (k0 b) (ee x2 x3 x4) S from seqC_n _ _ _ _).trans (execL_ret (by kernel_rfl)))
@[go_sem] theorem k5_ret (b : Nat) (e : Env) (S : Store) : k5 b .ret e S = (k0 b) .ret e S := nr (seqC_r _ _ _ _)
@[go_sem] theorem k5_exit (b : Nat) (i : Nat) (e : Env) (S : Store) : k5 b (.exit i) e S = (k0 b) (.exit i) e S := nr (seqC_x _ _ _ _ _)
theorem k5_l (b : Nat) : seqC (fun e S => execL (C b) 0 c4 (k0 b) e S) (k0 b) = k5 b := rfl
noncomputable def k6 (b : Nat) : KT := seqC (fun e S => execL (C b) 0 c3 (k5 b) e S) (k0 b)
@[go_sem] theorem g7 (b : Nat) (K : KT) (x2 x3 x4 : PV) (S : Store) : execL (C b) 0 c3 K (ee x2 x3 x4) S =
  withV (evLoad (tyi Try.prog 54) S x2) fun x5 =>
    withV (evLoad (tyi Try.prog 54) S x3) fun x6 =>
    withN (callO (callL Try.prog hints) S 42 [x5, x6]) S fun x7 S =>
    withV (evBin .eql (tyi Try.prog 3) x7 (.int .i64 0)) fun x8 =>
    withV (some x8) fun x4 =>
    K .normal (ee x2 x3 x4) S := nr (by kernel_rfl)
@[go_sem] theorem k6_n (b : Nat) (e : Env) (S : Store) : k6 b .normal e S = execL (C b) 0 c3 (k5 b) e S := nr (seqC_n _ _ _ _)
@[go_sem] theorem k6_ret (b : Nat) (e : Env) (S : Store) : k6 b .ret e S = (k0 b) .ret e S := nr (seqC_r _ _ _ _)
@[go_sem] theorem k6_exit (b : Nat) (i : Nat) (e : Env) (S : Store) : k6 b (.exit i) e S = (k0 b) (.exit i) e S := nr (seqC_x _ _ _ _ _)
theorem k6_l (b : Nat) : seqC (fun e S => execL (C b) 0 c2 (k0 b) e S) (k0 b) = k6 b := link_seq c2_h (k5_l b)
@[go_sem] theorem g8 (b : Nat) (K : KT) (x0 x1 : PV) (S : Store) : execL (C b) 0 c1 K [(0, x0), (1, x1)] S =
  withN (boxed S (List.length S) (TI.size (tyi Try.prog 54)) x0) S fun x2 S =>
    withN (boxed S (List.length S) (TI.size (tyi Try.prog 54)) x1) S fun x3 S =>
    withV (some (.bool false)) fun x4 =>
    K .normal (ee x2 x3 x4) S := nr (by kernel_rfl)
noncomputable def E (b : Nat) (x0 x1 : PV) (S : Store) : RT := execL (C b) 0 code (k0 b) [(0, x0), (1, x1)] S
@[go_sem] theorem E_eq (b : Nat) (x0 x1 : PV) (S : Store) : E b x0 x1 S =
  execL (C b) 0 c1 (k6 b) [(0, x0), (1, x1)] S := nr ((enter_seq code_h (k6_l b)).trans (rfl))
theorem callR {x0 x1 : PV} {S : Store} {r : PV × Store} (h : E S.length x0 x1 S = some r) : callRL Try.prog hints 47 [x0, x1] S = some r := callRL_of (fn := Try.f47) (c := code) (by kernel_rfl) (by kernel_rfl) (by decide) (by kernel_rfl) (Nat.le_of_ble_eq_true (by kernel_rfl)) h
theorem call {x0 x1 : PV} {r : PV × Store} {v : PV} (h : E 0 x0 x1 [] = some r) (hv : fzPV r.2 r.1 = some v) : callL Try.prog hints 47 [x0, x1] = some v := callL_of (fn := Try.f47) (c := code) (by kernel_rfl) (by kernel_rfl) (by decide) (by kernel_rfl) (Nat.le_of_ble_eq_true (by kernel_rfl)) h hv
end F47
/-! ### isochronelaw08.TreeOrder -/
namespace F9
def hint : Hint := { keep := [3, 4, 5, 6, 7, 8, 9, 11, 24, 68], loops := [] }
noncomputable def C (b : Nat) : Ctx := ctxL Try.prog hints b hint
noncomputable def code : Code := Try.f9.body.get rfl
noncomputable def k0 (b : Nat) : KT := endC Try.prog Try.f9
def ee (x3 x4 x5 x6 x7 x8 x9 x11 x24 x68 : PV) : Env := [(3, x3), (4, x4), (5, x5), (6, x6), (7, x7), (8, x8), (9, x9), (11, x11), (24, x24), (68, x68)]
@[go_sem] theorem gc_ee (n : Nat) (x3 x4 x5 x6 x7 x8 x9 x11 x24 x68 : PV) (S : Store) : gc n (ee x3 x4 x5 x6 x7 x8 x9 x11 x24 x68) S = gc n [(3, x3), (4, x4), (5, x5), (6, x6), (7, x7), (8, x8), (9, x9), (11, x11), (24, x24), (68, x68)] S := nr (rfl)
@[go_sem] theorem k0_ret (b : Nat) (x3 x4 x5 x6 x7 x8 x9 x11 x24 x68 : PV) (S : Store) : k0 b .ret (ee x3 x4 x5 x6 x7 x8 x9 x11 x24 x68) S = some (x6, S) := nr (by kernel_rfl)
@[go_sem] theorem k0_n (b : Nat) (x3 x4 x5 x6 x7 x8 x9 x11 x24 x68 : PV) (S : Store) : k0 b .normal (ee x3 x4 x5 x6 x7 x8 x9 x11 x24 x68) S = some (x6, S) := nr (by kernel_rfl)
noncomputable def c1 : Code := at0 code
noncomputable def c2 : Code := at1 code
theorem code_h : code = .seq c1 c2 := by kernel_rfl
noncomputable def c3 : Code := at0 c2
noncomputable def c4 : Code := at1 c2
theorem c2_h : c2 = .seq c3 c4 := by kernel_rfl
noncomputable def c5 : Code := at0 c4
noncomputable def c6 : Code := at1 c4
theorem c4_h : c4 = .seq c5 c6 := by kernel_rfl
noncomputable def c7 : Code := at0 c6
noncomputable def c8 : Code := at1 c6
theorem c6_h : c6 = .seq c7 c8 := by kernel_rfl
noncomputable def c9 : Code := at0 c8
noncomputable def c10 : Code := at1 c8
theorem c8_h : c8 = .seq c9 c10 := by kernel_rfl
noncomputable def c11 : Code := at0 c10
noncomputable def c12 : Code := at1 c10
theorem c10_h : c10 = .seq c11 c12 := by kernel_rfl
noncomputable def k13 (b : Nat) : KT := seqC (fun e S => execL (C b) 0 c12 (k0 b) e S) (k0 b)
@[go_sem] theorem k13_n (b : Nat) (x3 x4 x5 x6 x7 x8 x9 x11 x24 x68 : PV) (S : Store) : k13 b .normal (ee x3 x4 x5 x6 x7 x8 x9 x11 x24 x68) S =
  (k0 b) .ret (ee x3 x4 x5 x6 x7 x8 x9 x11 x24 x68) S := nr ((show k13 b .normal (ee x3 x4 x5 x6 x7 x8 x9 x11 x24 x68) S = execL (C b) 0 c12 (k0 b) (ee x3 x4 x5 x6 x7 x8 x9 x11 x24 x68) S from seqC_n _ _ _ _).trans (execL_ret (by kernel_rfl)))
@[go_sem] theorem k13_ret (b : Nat) (e : Env) (S : Store) : k13 b .ret e S = (k0 b) .ret e S := nr (seqC_r _ _ _ _)
@[go_sem] theorem k13_exit (b : Nat) (i : Nat) (e : Env) (S : Store) : k13 b (.exit i) e S = (k0 b) (.exit i) e S := nr (seqC_x _ _ _ _ _)
theorem k13_l (b : Nat) : seqC (fun e S => execL (C b) 0 c12 (k0 b) e S) (k0 b) = k13 b := rfl
noncomputable def k14 (b : Nat) : KT := seqC (fun e S => execL (C b) 0 c11 (k13 b) e S) (k0 b)
@[go_sem] theorem g15 (b : Nat) (K : KT) (x3 x4 x5 x6 x7 x8 x9 x11 x24 x68 : PV) (S : Store) : execL (C b) 0 c11 K (ee x3 x4 x5 x6 x7 x8 x9 x11 x24 x68) S =
  withV (some x7) fun x69 =>
    withV (evBin .gtr (tyi Try.prog 3) x69 (.int .i64 0)) fun x70 =>
    withV (some x70) fun x71 =>
    withV (gval x71 false (some x8)) fun x72 =>
    withV (gval x71 false (evBin .gtr (tyi Try.prog 3) x72 (.int .i64 0))) fun x73 =>
    withV (pickO x71 (.bool true) x73) fun x74 =>
    withV (some x74) fun x75 =>
    withV (gval x75 false (some x9)) fun x76 =>
    withV (gval x75 false (evBin .leq (tyi Try.prog 3) x76 (.int .i64 0))) fun x77 =>
    withV (pickO x75 (.bool true) x77) fun x78 =>
    withV (some x78) fun x79 =>
    withV (gval x79 true (some x7)) fun x80 =>
    withV (gval x79 true (evBin .lss (tyi Try.prog 3) x80 (.int .i64 0))) fun x81 =>
    withV (gval x79 true (some x81)) fun x82 =>
    withV (gval x82 false (some x8)) fun x83 =>
    withV (gval x82 false (evBin .lss (tyi Try.prog 3) x83 (.int .i64 0))) fun x84 =>
    withV (gval x79 true (pickO x82 (.bool true) x84)) fun x85 =>
    withV (gval x79 true (some x85)) fun x86 =>
    withV (gval x86 false (some x9)) fun x87 =>
    withV (gval x86 false (evBin .geq (tyi Try.prog 3) x87 (.int .i64 0))) fun x88 =>
    withV (gval x79 true (pickO x86 (.bool true) x88)) fun x89 =>
    withV (pickO x79 x89 (.bool false)) fun x90 =>
    withV (some x90) fun x6 =>
    K .normal (ee x3 x4 x5 x6 x7 x8 x9 x11 x24 x68) S := nr (by kernel_rfl)
@[go_sem] theorem k14_n (b : Nat) (e : Env) (S : Store) : k14 b .normal e S = execL (C b) 0 c11 (k13 b) e S := nr (seqC_n _ _ _ _)
@[go_sem] theorem k14_ret (b : Nat) (e : Env) (S : Store) : k14 b .ret e S = (k0 b) .ret e S := nr (seqC_r _ _ _ _)
@[go_sem] theorem k14_exit (b : Nat) (i : Nat) (e : Env) (S : Store) : k14 b (.exit i) e S = (k0 b) (.exit i) e S := nr (seqC_x _ _ _ _ _)
theorem k14_l (b : Nat) : seqC (fun e S => execL (C b) 0 c10 (k0 b) e S) (k0 b) = k14 b := link_seq c10_h (k13_l b)
noncomputable def k16 (b : Nat) : KT := seqC (fun e S => execL (C b) 0 c9 (k14 b) e S) (k0 b)
noncomputable def c17 : Code := at0 c9
noncomputable def c18 : Code := at1 c9
theorem c9_h : c9 = .seq c17 c18 := by kernel_rfl
noncomputable def k19 (b : Nat) : KT := seqC (fun e S => execL (C b) 0 c18 (k14 b) e S) (k14 b)
noncomputable def c20 : Code := atT c18
noncomputable def c21 : Code := atF c18
theorem c18_h : c18 = .cond (.tmp 68) c20 c21 := by kernel_rfl
noncomputable def c23 : Code := at0 c20
noncomputable def c24 : Code := at1 c20
theorem c20_h : c20 = .seq c23 c24 := by kernel_rfl
noncomputable def k25 (b : Nat) : KT := seqC (fun e S => execL (C b) 0 c24 (k14 b) e S) (k14 b)
@[go_sem] theorem k25_n (b : Nat) (x3 x4 x5 x6 x7 x8 x9 x11 x24 x68 : PV) (S : Store) : k25 b .normal (ee x3 x4 x5 x6 x7 x8 x9 x11 x24 x68) S =
  (k14 b) .ret (ee x3 x4 x5 x6 x7 x8 x9 x11 x24 x68) S := nr ((show k25 b .normal (ee x3 x4 x5 x6 x7 x8 x9 x11 x24 x68) S = execL (C b) 0 c24 (k14 b) (ee x3 x4 x5 x6 x7 x8 x9 x11 x24 x68) S from seqC_n _ _ _ _).trans (execL_ret (by kernel_rfl)))
@[go_sem] theorem k25_ret (b : Nat) (e : Env) (S : Store) : k25 b .ret e S = (k14 b) .ret e S := nr (seqC_r _ _ _ _)
@[go_sem] theorem k25_exit (b : Nat) (i : Nat) (e : Env) (S : Store) : k25 b (.exit i) e S = (k14 b) (.exit i) e S := nr (seqC_x _ _ _ _ _)
theorem k25_l (b : Nat) : seqC (fun e S => execL (C b) 0 c24 (k14 b) e S) (k14 b) = k25 b := rfl
@[go_sem] theorem g26 (b : Nat) (K : KT) (x3 x4 x5 x6 x7 x8 x9 x11 x24 x68 : PV) (S : Store) : execL (C b) 0 c23 K (ee x3 x4 x5 x6 x7 x8 x9 x11 x24 x68) S =
  withV (some (.bool false)) fun x6 =>
    K .normal (ee x3 x4 x5 x6 x7 x8 x9 x11 x24 x68) S := nr (by kernel_rfl)
noncomputable def E22 (b : Nat) (x3 x4 x5 x6 x7 x8 x9 x11 x24 x68 : PV) (S : Store) : RT := execL (C b) 0 c20 (k14 b) (ee x3 x4 x5 x6 x7 x8 x9 x11 x24 x68) S
@[go_sem] theorem E22_eq (b : Nat) (x3 x4 x5 x6 x7 x8 x9 x11 x24 x68 : PV) (S : Store) : E22 b x3 x4 x5 x6 x7 x8 x9 x11 x24 x68 S =
  execL (C b) 0 c23 (k25 b) (ee x3 x4 x5 x6 x7 x8 x9 x11 x24 x68) S := nr ((enter_seq c20_h (k25_l b)).trans (rfl))
@[go_sem] theorem k19_n (b : Nat) (x3 x4 x5 x6 x7 x8 x9 x11 x24 x68 : PV) (S : Store) : k19 b .normal (ee x3 x4 x5 x6 x7 x8 x9 x11 x24 x68) S =
  condC x68 (E22 b x3 x4 x5 x6 x7 x8 x9 x11 x24 x68 S)
    ((k14 b) .normal (ee x3 x4 x5 x6 x7 x8 x9 x11 x24 x68) S) := nr ((show k19 b .normal (ee x3 x4 x5 x6 x7 x8 x9 x11 x24 x68) S = execL (C b) 0 c18 (k14 b) (ee x3 x4 x5 x6 x7 x8 x9 x11 x24 x68) S from seqC_n _ _ _ _).trans (execL_cond c18_h (rfl) (execL_skip (by kernel_rfl)) rfl))
@[go_sem] theorem k19_ret (b : Nat) (e : Env) (S : Store) : k19 b .ret e S = (k14 b) .ret e S := nr (seqC_r _ _ _ _)
@[go_sem] theorem k19_exit (b : Nat) (i : Nat) (e : Env) (S : Store) : k19 b (.exit i) e S = (k14 b) (.exit i) e S := nr (seqC_x _ _ _ _ _)
theorem k19_l (b : Nat) : seqC (fun e S => execL (C b) 0 c18 (k14 b) e S) (k14 b) = k19 b := rfl
@[go_sem] theorem g27 (b : Nat) (K : KT) (x3 x4 x5 x6 x7 x8 x9 x11 x24 x68 : PV) (S : Store) : execL (C b) 0 c17 K (ee x3 x4 x5 x6 x7 x8 x9 x11 x24 x68) S =
  withV (evLoad (tyi Try.prog 54) S x3) fun x34 =>
    withN (callO (callL Try.prog hints) S 43 [x34]) S fun x35 S =>
    withV (evLoad (tyi Try.prog 54) S x3) fun x36 =>
    withN (callO (callL Try.prog hints) S 35 [x36]) S fun x37 S =>
    withV (evBin .neq (tyi Try.prog 3) x35 x37) fun x38 =>
    withV (some x38) fun x39 =>
    withV (gval x39 false (evLoad (tyi Try.prog 54) S x3)) fun x40 =>
    withN (gout x39 false (callO (callL Try.prog hints) S 44 [x40])) S fun x41 S =>
    withV (gval x39 false (evLoad (tyi Try.prog 54) S x3)) fun x42 =>
    withN (gout x39 false (callO (callL Try.prog hints) S 45 [x42])) S fun x43 S =>
    withV (gval x39 false (evBin .neq (tyi Try.prog 3) x41 x43)) fun x44 =>
    withV (pickO x39 (.bool true) x44) fun x45 =>
    withV (some x45) fun x46 =>
    withV (gval x46 false (some x7)) fun x47 =>
    withV (gval x46 false (evLoad (tyi Try.prog 54) S x3)) fun x48 =>
    withV (gval x46 false (evLoad (tyi Try.prog 54) S x4)) fun x49 =>
    withN (gout x46 false (callO (callL Try.prog hints) S 46 [x48, x49])) S fun x50 S =>
    withV (gval x46 false (evBin .neq (tyi Try.prog 3) x47 x50)) fun x51 =>
    withV (pickO x46 (.bool true) x51) fun x52 =>
    withV (some x52) fun x53 =>
    withV (gval x53 false (evLoad (tyi Try.prog 54) S x4)) fun x54 =>
    withV (gval x53 false (evLoad (tyi Try.prog 54) S x3)) fun x55 =>
    withN (gout x53 false (callO (callL Try.prog hints) S 42 [x54, x55])) S fun x56 S =>
    withV (gval x53 false (some x7)) fun x57 =>
    withV (gval x53 false (evUn .neg x57)) fun x58 =>
    withV (gval x53 false (evBin .neq (tyi Try.prog 3) x56 x58)) fun x59 =>
    withV (pickO x53 (.bool true) x59) fun x60 =>
    withV (some x60) fun x61 =>
    withV (gval x61 false (evLoad (tyi Try.prog 54) S x3)) fun x62 =>
    withV (gval x61 false (evLoad (tyi Try.prog 54) S x4)) fun x63 =>
    withN (gout x61 false (callO (callL Try.prog hints) S 47 [x62, x63])) S fun x64 S =>
    withV (gval x61 false (some x7)) fun x65 =>
    withV (gval x61 false (evBin .eql (tyi Try.prog 3) x65 (.int .i64 0))) fun x66 =>
    withV (gval x61 false (evBin .neq (tyi Try.prog 4) x64 x66)) fun x67 =>
    withV (pickO x61 (.bool true) x67) fun x68 =>
    K .normal (ee x3 x4 x5 x6 x7 x8 x9 x11 x24 x68) S := nr (by kernel_rfl)
@[go_sem] theorem k16_n (b : Nat) (x3 x4 x5 x6 x7 x8 x9 x11 x24 x68 : PV) (S : Store) : k16 b .normal (ee x3 x4 x5 x6 x7 x8 x9 x11 x24 x68) S =
  execL (C b) 0 c17 (k19 b) (ee x3 x4 x5 x6 x7 x8 x9 x11 x24 x68) S := nr ((show k16 b .normal (ee x3 x4 x5 x6 x7 x8 x9 x11 x24 x68) S = execL (C b) 0 c9 (k14 b) (ee x3 x4 x5 x6 x7 x8 x9 x11 x24 x68) S from seqC_n _ _ _ _).trans ((enter_seq c9_h (k19_l b)).trans (rfl)))
@[go_sem] theorem k16_ret (b : Nat) (e : Env) (S : Store) : k16 b .ret e S = (k0 b) .ret e S := nr (seqC_r _ _ _ _)
@[go_sem] theorem k16_exit (b : Nat) (i : Nat) (e : Env) (S : Store) : k16 b (.exit i) e S = (k0 b) (.exit i) e S := nr (seqC_x _ _ _ _ _)
theorem k16_l (b : Nat) : seqC (fun e S => execL (C b) 0 c8 (k0 b) e S) (k0 b) = k16 b := link_seq c8_h (k14_l b)
noncomputable def k28 (b : Nat) : KT := seqC (fun e S => execL (C b) 0 c7 (k16 b) e S) (k0 b)
@[go_sem] theorem g29 (b : Nat) (K : KT) (x3 x4 x5 x6 x7 x8 x9 x11 x24 x68 : PV) (S : Store) : execL (C b) 0 c7 K (ee x3 x4 x5 x6 x7 x8 x9 x11 x24 x68) S =
  withV (evLoad (tyi Try.prog 54) S x3) fun x25 =>
    withV (evLoad (tyi Try.prog 54) S x4) fun x26 =>
    withN (callO (callL Try.prog hints) S 42 [x25, x26]) S fun x27 S =>
    withV (evLoad (tyi Try.prog 54) S x4) fun x28 =>
    withV (evLoad (tyi Try.prog 54) S x5) fun x29 =>
    withN (callO (callL Try.prog hints) S 42 [x28, x29]) S fun x30 S =>
    withV (evLoad (tyi Try.prog 54) S x3) fun x31 =>
    withV (evLoad (tyi Try.prog 54) S x5) fun x32 =>
    withN (callO (callL Try.prog hints) S 42 [x31, x32]) S fun x33 S =>
    withV (some x27) fun x7 =>
    withV (some x30) fun x8 =>
    withV (some x33) fun x9 =>
    K .normal (ee x3 x4 x5 x6 x7 x8 x9 x11 x24 x68) S := nr (by kernel_rfl)
@[go_sem] theorem k28_n (b : Nat) (e : Env) (S : Store) : k28 b .normal e S = execL (C b) 0 c7 (k16 b) e S := nr (seqC_n _ _ _ _)
@[go_sem] theorem k28_ret (b : Nat) (e : Env) (S : Store) : k28 b .ret e S = (k0 b) .ret e S := nr (seqC_r _ _ _ _)
@[go_sem] theorem k28_exit (b : Nat) (i : Nat) (e : Env) (S : Store) : k28 b (.exit i) e S = (k0 b) (.exit i) e S := nr (seqC_x _ _ _ _ _)
theorem k28_l (b : Nat) : seqC (fun e S => execL (C b) 0 c6 (k0 b) e S) (k0 b) = k28 b := link_seq c6_h (k16_l b)
noncomputable def k30 (b : Nat) : KT := seqC (fun e S => execL (C b) 0 c5 (k28 b) e S) (k0 b)
noncomputable def c31 : Code := at0 c5
noncomputable def c32 : Code := at1 c5
theorem c5_h : c5 = .seq c31 c32 := by kernel_rfl
noncomputable def k33 (b : Nat) : KT := seqC (fun e S => execL (C b) 0 c32 (k28 b) e S) (k28 b)
noncomputable def c34 : Code := atT c32
noncomputable def c35 : Code := atF c32
theorem c32_h : c32 = .cond (.tmp 24) c34 c35 := by kernel_rfl
noncomputable def c37 : Code := at0 c34
noncomputable def c38 : Code := at1 c34
theorem c34_h : c34 = .seq c37 c38 := by kernel_rfl
noncomputable def k39 (b : Nat) : KT := seqC (fun e S => execL (C b) 0 c38 (k28 b) e S) (k28 b)
@[go_sem] theorem k39_n (b : Nat) (x3 x4 x5 x6 x7 x8 x9 x11 x24 x68 : PV) (S : Store) : k39 b .normal (ee x3 x4 x5 x6 x7 x8 x9 x11 x24 x68) S =
  (k28 b) .ret (ee x3 x4 x5 x6 x7 x8 x9 x11 x24 x68) S := nr ((show k39 b .normal (ee x3 x4 x5 x6 x7 x8 x9 x11 x24 x68) S = execL (C b) 0 c38 (k28 b) (ee x3 x4 x5 x6 x7 x8 x9 x11 x24 x68) S from seqC_n _ _ _ _).trans (execL_ret (by kernel_rfl)))
@[go_sem] theorem k39_ret (b : Nat) (e : Env) (S : Store) : k39 b .ret e S = (k28 b) .ret e S := nr (seqC_r _ _ _ _)
@[go_sem] theorem k39_exit (b : Nat) (i : Nat) (e : Env) (S : Store) : k39 b (.exit i) e S = (k28 b) (.exit i) e S := nr (seqC_x _ _ _ _ _)
theorem k39_l (b : Nat) : seqC (fun e S => execL (C b) 0 c38 (k28 b) e S) (k28 b) = k39 b := rfl
@[go_sem] theorem g40 (b : Nat) (K : KT) (x3 x4 x5 x6 x7 x8 x9 x11 x24 x68 : PV) (S : Store) : execL (C b) 0 c37 K (ee x3 x4 x5 x6 x7 x8 x9 x11 x24 x68) S =
  withV (some (.bool true)) fun x6 =>
    K .normal (ee x3 x4 x5 x6 x7 x8 x9 x11 x24 x68) S := nr (by kernel_rfl)
noncomputable def E36 (b : Nat) (x3 x4 x5 x6 x7 x8 x9 x11 x24 x68 : PV) (S : Store) : RT := execL (C b) 0 c34 (k28 b) (ee x3 x4 x5 x6 x7 x8 x9 x11 x24 x68) S
@[go_sem] theorem E36_eq (b : Nat) (x3 x4 x5 x6 x7 x8 x9 x11 x24 x68 : PV) (S : Store) : E36 b x3 x4 x5 x6 x7 x8 x9 x11 x24 x68 S =
  execL (C b) 0 c37 (k39 b) (ee x3 x4 x5 x6 x7 x8 x9 x11 x24 x68) S := nr ((enter_seq c34_h (k39_l b)).trans (rfl))
@[go_sem] theorem k33_n (b : Nat) (x3 x4 x5 x6 x7 x8 x9 x11 x24 x68 : PV) (S : Store) : k33 b .normal (ee x3 x4 x5 x6 x7 x8 x9 x11 x24 x68) S =
  condC x24 (E36 b x3 x4 x5 x6 x7 x8 x9 x11 x24 x68 S)
    ((k28 b) .normal (ee x3 x4 x5 x6 x7 x8 x9 x11 x24 x68) S) := nr ((show k33 b .normal (ee x3 x4 x5 x6 x7 x8 x9 x11 x24 x68) S = execL (C b) 0 c32 (k28 b) (ee x3 x4 x5 x6 x7 x8 x9 x11 x24 x68) S from seqC_n _ _ _ _).trans (execL_cond c32_h (rfl) (execL_skip (by kernel_rfl)) rfl))
@[go_sem] theorem k33_ret (b : Nat) (e : Env) (S : Store) : k33 b .ret e S = (k28 b) .ret e S := nr (seqC_r _ _ _ _)
@[go_sem] theorem k33_exit (b : Nat) (i : Nat) (e : Env) (S : Store) : k33 b (.exit i) e S = (k28 b) (.exit i) e S := nr (seqC_x _ _ _ _ _)
theorem k33_l (b : Nat) : seqC (fun e S => execL (C b) 0 c32 (k28 b) e S) (k28 b) = k33 b := rfl
@[go_sem] theorem g41 (b : Nat) (K : KT) (x3 x4 x5 x6 x7 x8 x9 x11 x24 x68 : PV) (S : Store) : execL (C b) 0 c31 K (ee x3 x4 x5 x6 x7 x8 x9 x11 x24 x68) S =
  withV (evLoad (tyi Try.prog 54) S x3) fun x12 =>
    withN (callO (callL Try.prog hints) S 35 [x12]) S fun x13 S =>
    withV (evBin .gtr (tyi Try.prog 3) x13 (.int .i64 10000)) fun x14 =>
    withV (some x14) fun x15 =>
    withV (gval x15 false (evLoad (tyi Try.prog 54) S x4)) fun x16 =>
    withN (gout x15 false (callO (callL Try.prog hints) S 35 [x16])) S fun x17 S =>
    withV (gval x15 false (evBin .gtr (tyi Try.prog 3) x17 (.int .i64 10000))) fun x18 =>
    withV (pickO x15 (.bool true) x18) fun x19 =>
    withV (some x19) fun x20 =>
    withV (gval x20 false (evLoad (tyi Try.prog 54) S x5)) fun x21 =>
    withN (gout x20 false (callO (callL Try.prog hints) S 35 [x21])) S fun x22 S =>
    withV (gval x20 false (evBin .gtr (tyi Try.prog 3) x22 (.int .i64 10000))) fun x23 =>
    withV (pickO x20 (.bool true) x23) fun x24 =>
    K .normal (ee x3 x4 x5 x6 x7 x8 x9 x11 x24 x68) S := nr (by kernel_rfl)
@[go_sem] theorem k30_n (b : Nat) (x3 x4 x5 x6 x7 x8 x9 x11 x24 x68 : PV) (S : Store) : k30 b .normal (ee x3 x4 x5 x6 x7 x8 x9 x11 x24 x68) S =
  execL (C b) 0 c31 (k33 b) (ee x3 x4 x5 x6 x7 x8 x9 x11 x24 x68) S := nr ((show k30 b .normal (ee x3 x4 x5 x6 x7 x8 x9 x11 x24 x68) S = execL (C b) 0 c5 (k28 b) (ee x3 x4 x5 x6 x7 x8 x9 x11 x24 x68) S from seqC_n _ _ _ _).trans ((enter_seq c5_h (k33_l b)).trans (rfl)))
@[go_sem] theorem k30_ret (b : Nat) (e : Env) (S : Store) : k30 b .ret e S = (k0 b) .ret e S := nr (seqC_r _ _ _ _)
@[go_sem] theorem k30_exit (b : Nat) (i : Nat) (e : Env) (S : Store) : k30 b (.exit i) e S = (k0 b) (.exit i) e S := nr (seqC_x _ _ _ _ _)
theorem k30_l (b : Nat) : seqC (fun e S => execL (C b) 0 c4 (k0 b) e S) (k0 b) = k30 b := link_seq c4_h (k28_l b)
noncomputable def k42 (b : Nat) : KT := seqC (fun e S => execL (C b) 0 c3 (k30 b) e S) (k0 b)
noncomputable def c43 : Code := at0 c3
noncomputable def c44 : Code := at1 c3
theorem c3_h : c3 = .seq c43 c44 := by kernel_rfl
noncomputable def k45 (b : Nat) : KT := seqC (fun e S => execL (C b) 0 c44 (k30 b) e S) (k30 b)
noncomputable def c46 : Code := atT c44
noncomputable def c47 : Code := atF c44
theorem c44_h : c44 = .cond (.tmp 11) c46 c47 := by kernel_rfl
noncomputable def c49 : Code := at0 c46
noncomputable def c50 : Code := at1 c46
theorem c46_h : c46 = .seq c49 c50 := by kernel_rfl
noncomputable def k51 (b : Nat) : KT := seqC (fun e S => execL (C b) 0 c50 (k30 b) e S) (k30 b)
@[go_sem] theorem k51_n (b : Nat) (x3 x4 x5 x6 x7 x8 x9 x11 x24 x68 : PV) (S : Store) : k51 b .normal (ee x3 x4 x5 x6 x7 x8 x9 x11 x24 x68) S =
  (k30 b) .ret (ee x3 x4 x5 x6 x7 x8 x9 x11 x24 x68) S := nr ((show k51 b .normal (ee x3 x4 x5 x6 x7 x8 x9 x11 x24 x68) S = execL (C b) 0 c50 (k30 b) (ee x3 x4 x5 x6 x7 x8 x9 x11 x24 x68) S from seqC_n _ _ _ _).trans (execL_ret (by kernel_rfl)))
@[go_sem] theorem k51_ret (b : Nat) (e : Env) (S : Store) : k51 b .ret e S = (k30 b) .ret e S := nr (seqC_r _ _ _ _)
@[go_sem] theorem k51_exit (b : Nat) (i : Nat) (e : Env) (S : Store) : k51 b (.exit i) e S = (k30 b) (.exit i) e S := nr (seqC_x _ _ _ _ _)
theorem k51_l (b : Nat) : seqC (fun e S => execL (C b) 0 c50 (k30 b) e S) (k30 b) = k51 b := rfl
@[go_sem] theorem g52 (b : Nat) (K : KT) (x3 x4 x5 x6 x7 x8 x9 x11 x24 x68 : PV) (S : Store) : execL (C b) 0 c49 K (ee x3 x4 x5 x6 x7 x8 x9 x11 x24 x68) S =
  withV (some (.bool false)) fun x6 =>
    K .normal (ee x3 x4 x5 x6 x7 x8 x9 x11 x24 x68) S := nr (by kernel_rfl)
noncomputable def E48 (b : Nat) (x3 x4 x5 x6 x7 x8 x9 x11 x24 x68 : PV) (S : Store) : RT := execL (C b) 0 c46 (k30 b) (ee x3 x4 x5 x6 x7 x8 x9 x11 x24 x68) S
@[go_sem] theorem E48_eq (b : Nat) (x3 x4 x5 x6 x7 x8 x9 x11 x24 x68 : PV) (S : Store) : E48 b x3 x4 x5 x6 x7 x8 x9 x11 x24 x68 S =
  execL (C b) 0 c49 (k51 b) (ee x3 x4 x5 x6 x7 x8 x9 x11 x24 x68) S := nr ((enter_seq c46_h (k51_l b)).trans (rfl))
@[go_sem] theorem k45_n (b : Nat) (x3 x4 x5 x6 x7 x8 x9 x11 x24 x68 : PV) (S : Store) : k45 b .normal (ee x3 x4 x5 x6 x7 x8 x9 x11 x24 x68) S =
  condC x11 (E48 b x3 x4 x5 x6 x7 x8 x9 x11 x24 x68 S)
    ((k30 b) .normal (ee x3 x4 x5 x6 x7 x8 x9 x11 x24 x68) S) := nr ((show k45 b .normal (ee x3 x4 x5 x6 x7 x8 x9 x11 x24 x68) S = execL (C b) 0 c44 (k30 b) (ee x3 x4 x5 x6 x7 x8 x9 x11 x24 x68) S from seqC_n _ _ _ _).trans (execL_cond c44_h (rfl) (execL_skip (by kernel_rfl)) rfl))
@[go_sem] theorem k45_ret (b : Nat) (e : Env) (S : Store) : k45 b .ret e S = (k30 b) .ret e S := nr (seqC_r _ _ _ _)
@[go_sem] theorem k45_exit (b : Nat) (i : Nat) (e : Env) (S : Store) : k45 b (.exit i) e S = (k30 b) (.exit i) e S := nr (seqC_x _ _ _ _ _)
theorem k45_l (b : Nat) : seqC (fun e S => execL (C b) 0 c44 (k30 b) e S) (k30 b) = k45 b := rfl
@[go_sem] theorem g53 (b : Nat) (K : KT) (x3 x4 x5 x6 x7 x8 x9 x11 x24 x68 : PV) (S : Store) : execL (C b) 0 c43 K (ee x3 x4 x5 x6 x7 x8 x9 x11 x24 x68) S =
  withN (callO (callL Try.prog hints) S 34 []) S fun x10 S =>
    withV (evUn .not x10) fun x11 =>
    K .normal (ee x3 x4 x5 x6 x7 x8 x9 x11 x24 x68) S := nr (by kernel_rfl)
@[go_sem] theorem k42_n (b : Nat) (x3 x4 x5 x6 x7 x8 x9 x11 x24 x68 : PV) (S : Store) : k42 b .normal (ee x3 x4 x5 x6 x7 x8 x9 x11 x24 x68) S =
  execL (C b) 0 c43 (k45 b) (ee x3 x4 x5 x6 x7 x8 x9 x11 x24 x68) S := nr ((show k42 b .normal (ee x3 x4 x5 x6 x7 x8 x9 x11 x24 x68) S = execL (C b) 0 c3 (k30 b) (ee x3 x4 x5 x6 x7 x8 x9 x11 x24 x68) S from seqC_n _ _ _ _).trans ((enter_seq c3_h (k45_l b)).trans (rfl)))
@[go_sem] theorem k42_ret (b : Nat) (e : Env) (S : Store) : k42 b .ret e S = (k0 b) .ret e S := nr (seqC_r _ _ _ _)
@[go_sem] theorem k42_exit (b : Nat) (i : Nat) (e : Env) (S : Store) : k42 b (.exit i) e S = (k0 b) (.exit i) e S := nr (seqC_x _ _ _ _ _)
theorem k42_l (b : Nat) : seqC (fun e S => execL (C b) 0 c2 (k0 b) e S) (k0 b) = k42 b := link_seq c2_h (k30_l b)
@[go_sem] theorem g54 (b : Nat) (K : KT) (x0 x1 x2 : PV) (S : Store) : execL (C b) 0 c1 K [(0, x0), (1, x1), (2, x2)] S =
  withN (boxed S (List.length S) (TI.size (tyi Try.prog 54)) x0) S fun x3 S =>
    withN (boxed S (List.length S) (TI.size (tyi Try.prog 54)) x1) S fun x4 S =>
    withN (boxed S (List.length S) (TI.size (tyi Try.prog 54)) x2) S fun x5 S =>
    withV (some (.bool false)) fun x6 =>
    K .normal (ee x3 x4 x5 x6 .undef .undef .undef .undef .undef .undef) S := nr (by kernel_rfl)
noncomputable def E (b : Nat) (x0 x1 x2 : PV) (S : Store) : RT := execL (C b) 0 code (k0 b) [(0, x0), (1, x1), (2, x2)] S
@[go_sem] theorem E_eq (b : Nat) (x0 x1 x2 : PV) (S : Store) : E b x0 x1 x2 S =
  execL (C b) 0 c1 (k42 b) [(0, x0), (1, x1), (2, x2)] S := nr ((enter_seq code_h (k42_l b)).trans (rfl))
theorem callR {x0 x1 x2 : PV} {S : Store} {r : PV × Store} (h : E S.length x0 x1 x2 S = some r) : callRL Try.prog hints 9 [x0, x1, x2] S = some r := callRL_of (fn := Try.f9) (c := code) (by kernel_rfl) (by kernel_rfl) (by decide) (by kernel_rfl) (Nat.le_of_ble_eq_true (by kernel_rfl)) h
theorem call {x0 x1 x2 : PV} {r : PV × Store} {v : PV} (h : E 0 x0 x1 x2 [] = some r) (hv : fzPV r.2 r.1 = some v) : callL Try.prog hints 9 [x0, x1, x2] = some v := callL_of (fn := Try.f9) (c := code) (by kernel_rfl) (by kernel_rfl) (by decide) (by kernel_rfl) (Nat.le_of_ble_eq_true (by kernel_rfl)) h hv
end F9
end Go.Vs
