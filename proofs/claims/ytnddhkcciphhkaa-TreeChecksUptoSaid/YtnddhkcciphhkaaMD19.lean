/- Printed by a program of mine (stage1.py): the functions 89, 65, 37, 7, piece by piece. -/

import Derived.Test.YtnddhkcciphhkaaMD9
set_option linter.unusedVariables false
set_option linter.unusedSimpArgs false
namespace Go.Vs
open Go Go.Proofs

/-! ### isochroneref08.flow -/
namespace F89
def hint : Hint := { keep := [], loops := [(2, { live := [1, 2, 3, 7, 8, 9, 10], after := [1, 2, 3, 7, 8], own := [], fz := [] }), (0, { live := [1, 2, 3, 7, 8], after := [], own := [], fz := [] })], regs := [(0, [1, 2, 3]), (1, [1, 2, 3, 7]), (2, [1, 2, 3, 7, 31]), (3, [6]), (4, [1, 2, 3, 7, 8]), (5, [1, 2, 3, 7, 8, 35]), (6, [1, 2, 3, 7, 8]), (7, [1, 2, 3, 7, 8, 9]), (8, [1, 2, 3, 7, 8, 9, 68]), (9, [6]), (10, [1, 2, 3, 7, 8, 9, 10]), (11, [1, 2, 3, 7, 8, 9, 10, 71]), (12, [1, 2, 3, 7, 8, 9, 10]), (13, [1, 2, 3, 7, 8, 9, 10, 87]), (14, [6]), (15, [6])] }
noncomputable def C (b : Nat) : Ctx := ctxL Try.prog hints b hint
noncomputable def code : Code := Try.f89.body.get rfl
noncomputable def k0 (b : Nat) : KT := endC Try.prog Try.f89
def ee0 (x1 x2 x3 : PV) : Env := [(1, x1), (2, x2), (3, x3)]
def ee1 (x1 x2 x3 x7 : PV) : Env := [(1, x1), (2, x2), (3, x3), (7, x7)]
def ee2 (x1 x2 x3 x7 x8 : PV) : Env := [(1, x1), (2, x2), (3, x3), (7, x7), (8, x8)]
@[go_sem] theorem gc_ee2 (n : Nat) (x1 x2 x3 x7 x8 : PV) (S : Store) : gc n (ee2 x1 x2 x3 x7 x8) S = gc n [(1, x1), (2, x2), (3, x3), (7, x7), (8, x8)] S := nr (rfl)
def ee3 (x1 x2 x3 x7 x8 x9 : PV) : Env := [(1, x1), (2, x2), (3, x3), (7, x7), (8, x8), (9, x9)]
def ee4 (x1 x2 x3 x7 x8 x9 x10 : PV) : Env := [(1, x1), (2, x2), (3, x3), (7, x7), (8, x8), (9, x9), (10, x10)]
@[go_sem] theorem gc_ee4 (n : Nat) (x1 x2 x3 x7 x8 x9 x10 : PV) (S : Store) : gc n (ee4 x1 x2 x3 x7 x8 x9 x10) S = gc n [(1, x1), (2, x2), (3, x3), (7, x7), (8, x8), (9, x9), (10, x10)] S := nr (rfl)
def ee5 (x1 x2 x3 x7 x8 x9 x10 x71 : PV) : Env := [(1, x1), (2, x2), (3, x3), (7, x7), (8, x8), (9, x9), (10, x10), (71, x71)]
@[go_sem] theorem gc_ee5 (n : Nat) (x1 x2 x3 x7 x8 x9 x10 x71 : PV) (S : Store) : gc n (ee5 x1 x2 x3 x7 x8 x9 x10 x71) S = gc n [(1, x1), (2, x2), (3, x3), (7, x7), (8, x8), (9, x9), (10, x10), (71, x71)] S := nr (rfl)
def ee6 (x1 x2 x3 x7 x8 x9 x10 x87 : PV) : Env := [(1, x1), (2, x2), (3, x3), (7, x7), (8, x8), (9, x9), (10, x10), (87, x87)]
def ee7 (x1 x2 x3 x7 x8 x9 x68 : PV) : Env := [(1, x1), (2, x2), (3, x3), (7, x7), (8, x8), (9, x9), (68, x68)]
def ee8 (x1 x2 x3 x7 x8 x35 : PV) : Env := [(1, x1), (2, x2), (3, x3), (7, x7), (8, x8), (35, x35)]
@[go_sem] theorem gc_ee8 (n : Nat) (x1 x2 x3 x7 x8 x35 : PV) (S : Store) : gc n (ee8 x1 x2 x3 x7 x8 x35) S = gc n [(1, x1), (2, x2), (3, x3), (7, x7), (8, x8), (35, x35)] S := nr (rfl)
def ee9 (x1 x2 x3 x7 x31 : PV) : Env := [(1, x1), (2, x2), (3, x3), (7, x7), (31, x31)]
def ee10 (x6 : PV) : Env := [(6, x6)]
@[go_sem] theorem k0_ret10 (b : Nat) (x6 : PV) (S : Store) : k0 b .ret (ee10 x6) S = some (x6, S) := nr (by kernel_rfl)
noncomputable def c1 : Code := at0 code
noncomputable def c2 : Code := at1 code
theorem code_h : code = .seq c1 c2 := by kernel_rfl
noncomputable def c3 : Code := at0 c2
noncomputable def c4 : Code := at1 c2
theorem c2_h : c2 = .seq c3 c4 := by kernel_rfl
noncomputable def c5 : Code := at0 c4
noncomputable def c6 : Code := at1 c4
theorem c4_h : c4 = .seq c5 c6 := by kernel_rfl
noncomputable def c7 : Code := at0 c6
noncomputable def c8 : Code := at1 c6
theorem c6_h : c6 = .seq c7 c8 := by kernel_rfl
noncomputable def c9 : Code := at0 c8
noncomputable def c10 : Code := at1 c8
theorem c8_h : c8 = .seq c9 c10 := by kernel_rfl
noncomputable def k11 (b : Nat) : KT := seqC (fun e S => execL (C b) 0 c10 (k0 b) e S) (k0 b)
@[go_sem] theorem k11_n (b : Nat) (x6 : PV) (S : Store) : k11 b .normal (ee10 x6) S =
  (k0 b) .ret (ee10 x6) S := nr ((show k11 b .normal (ee10 x6) S = execL (C b) 0 c10 (k0 b) (ee10 x6) S from seqC_n _ _ _ _).trans (execL_ret (by kernel_rfl)))
theorem k11_l (b : Nat) : seqC (fun e S => execL (C b) 0 c10 (k0 b) e S) (k0 b) = k11 b := rfl
noncomputable def k12 (b : Nat) : KT := seqC (fun e S => execL (C b) 0 c9 (k11 b) e S) (k0 b)
@[go_sem] theorem g13 (b : Nat) (K : KT) (x1 x2 x3 x7 x8 x35 : PV) (S : Store) : execL (C b) 0 c9 K (ee8 x1 x2 x3 x7 x8 x35) S =
  withV (some (.bool true)) fun x6 =>
    K .normal (ee10 x6) S := nr (by kernel_rfl)
@[go_sem] theorem k12_n (b : Nat) (e : Env) (S : Store) : k12 b .normal e S = execL (C b) 0 c9 (k11 b) e S := nr (seqC_n _ _ _ _)
@[go_sem] theorem k12_ret (b : Nat) (e : Env) (S : Store) : k12 b .ret e S = (k0 b) .ret e S := nr (seqC_r _ _ _ _)
theorem k12_l (b : Nat) : seqC (fun e S => execL (C b) 0 c8 (k0 b) e S) (k0 b) = k12 b := link_seq c8_h (k11_l b)
noncomputable def k14 (b : Nat) : KT := seqC (fun e S => execL (C b) 0 c7 (k12 b) e S) (k0 b)
noncomputable def c15 : Code := at0 c7
noncomputable def c16 : Code := at1 c7
theorem c7_h : c7 = .seq c15 c16 := by kernel_rfl
noncomputable def k17 (b : Nat) : KT := seqC (fun e S => execL (C b) 0 c16 (k12 b) e S) (k12 b)
noncomputable def c18 : Code := atB c16
theorem c16_h : c16 = .block 0 c18 := by kernel_rfl
noncomputable def k19 (b : Nat) : KT := blockC 0 (k12 b)
@[go_sem] theorem k19_ret (b : Nat) (e : Env) (S : Store) : k19 b .ret e S = (k12 b) .ret e S := nr (blockC_r _ _ _ _)
@[go_sem] theorem k19_exit (b : Nat) (i : Nat) (e : Env) (S : Store) : k19 b (.exit i) e S = if i = 0 then (k12 b) .normal e S else (k12 b) (.exit i) e S := nr (blockC_x _ _ _ _ _)
noncomputable def c20 : Code := atL c18
noncomputable def k21 (b n0 : Nat) : KT := afterC 0 n0 [] (k19 b)
noncomputable def L0g (b n0 : Nat) (e : Env) (S : Store) : RT := loopL (fun K e S => execL (C b) 0 c20 K e S) (normG [1, 2, 3, 7, 8] [] n0) (k21 b n0) e S
noncomputable def L0 (b n0 : Nat) (x1 x2 x3 x7 x8 : PV) (S : Store) : RT := L0g b n0 (ee2 x1 x2 x3 x7 x8) S
noncomputable def k22 (b n0 : Nat) : KT := stepC (normG [1, 2, 3, 7, 8] [] n0) (k21 b n0) (L0g b n0)
@[go_sem] theorem k22_n (b n0 : Nat) (x1 x2 x3 x7 x8 : PV) (S : Store) : k22 b n0 .normal (ee2 x1 x2 x3 x7 x8) S = L0 b n0 x1 x2 x3 x7 x8 (gc n0 (ee2 x1 x2 x3 x7 x8) S) := nr (by kernel_rfl)
@[go_sem] theorem k22_ret (b n0 : Nat) (e : Env) (S : Store) : k22 b n0 .ret e S = (k19 b) .ret e S := nr ((show k22 b n0 .ret e S = (k21 b n0) .ret e S from stepC_r _ _ _ _ _).trans (afterC_r _ _ _ _ _ _))
@[go_sem] theorem k22_x1 (b n0 : Nat) (x1 x2 x3 x7 x8 x35 : PV) (S : Store) : k22 b n0 (.exit 0) (ee8 x1 x2 x3 x7 x8 x35) S = (k19 b) (.exit 0) (ee8 .undef .undef .undef .undef .undef .undef) (gc n0 (ee8 .undef .undef .undef .undef .undef .undef) S) := nr ((show k22 b n0 (.exit 0) (ee8 x1 x2 x3 x7 x8 x35) S = (k21 b n0) (.exit 0) (ee8 x1 x2 x3 x7 x8 x35) S from stepC_x _ _ _ _ _ _).trans ((show (k21 b n0) (.exit 0) (ee8 x1 x2 x3 x7 x8 x35) S = _ from afterC_x _ _ _ _ _ _ _).trans (if_pos rfl)))
noncomputable def c23 : Code := at0 c20
noncomputable def c24 : Code := at1 c20
theorem c20_h : c20 = .seq c23 c24 := by kernel_rfl
noncomputable def c25 : Code := at0 c24
noncomputable def c26 : Code := at1 c24
theorem c24_h : c24 = .seq c25 c26 := by kernel_rfl
noncomputable def k27 (b n0 : Nat) : KT := seqC (fun e S => execL (C b) 0 c26 (k22 b n0) e S) (k22 b n0)
@[go_sem] theorem g28 (b : Nat) (K : KT) (x1 x2 x3 x7 x8 x9 x10 x71 : PV) (S : Store) : execL (C b) 0 c26 K (ee5 x1 x2 x3 x7 x8 x9 x10 x71) S =
  withV (some x8) fun x36 =>
    withV (evBin .add (tyi Try.prog 3) x36 (.int .i64 1)) fun x37 =>
    withV (some x37) fun x8 =>
    K .normal (ee2 x1 x2 x3 x7 x8) S := nr (by kernel_rfl)
@[go_sem] theorem k27_n (b n0 : Nat) (e : Env) (S : Store) : k27 b n0 .normal e S = execL (C b) 0 c26 (k22 b n0) e S := nr (seqC_n _ _ _ _)
@[go_sem] theorem k27_ret (b n0 : Nat) (e : Env) (S : Store) : k27 b n0 .ret e S = (k22 b n0) .ret e S := nr (seqC_r _ _ _ _)
theorem k27_l (b n0 : Nat) : seqC (fun e S => execL (C b) 0 c26 (k22 b n0) e S) (k22 b n0) = k27 b n0 := rfl
noncomputable def k29 (b n0 : Nat) : KT := seqC (fun e S => execL (C b) 0 c25 (k27 b n0) e S) (k22 b n0)
noncomputable def c30 : Code := atB c25
theorem c25_h : c25 = .block 1 c30 := by kernel_rfl
noncomputable def k31 (b n0 : Nat) : KT := blockC 1 (k27 b n0)
@[go_sem] theorem k31_n (b n0 : Nat) (e : Env) (S : Store) : k31 b n0 .normal e S = (k27 b n0) .normal e S := nr (blockC_n _ _ _ _)
@[go_sem] theorem k31_ret (b n0 : Nat) (e : Env) (S : Store) : k31 b n0 .ret e S = (k27 b n0) .ret e S := nr (blockC_r _ _ _ _)
noncomputable def c32 : Code := at0 c30
noncomputable def c33 : Code := at1 c30
theorem c30_h : c30 = .seq c32 c33 := by kernel_rfl
noncomputable def c34 : Code := at0 c33
noncomputable def c35 : Code := at1 c33
theorem c33_h : c33 = .seq c34 c35 := by kernel_rfl
noncomputable def c36 : Code := at0 c35
noncomputable def c37 : Code := at1 c35
theorem c35_h : c35 = .seq c36 c37 := by kernel_rfl
noncomputable def k38 (b n0 : Nat) : KT := seqC (fun e S => execL (C b) 1 c37 (k31 b n0) e S) (k31 b n0)
noncomputable def c39 : Code := atB c37
theorem c37_h : c37 = .block 2 c39 := by kernel_rfl
noncomputable def k40 (b n0 : Nat) : KT := blockC 2 (k31 b n0)
@[go_sem] theorem k40_ret (b n0 : Nat) (e : Env) (S : Store) : k40 b n0 .ret e S = (k31 b n0) .ret e S := nr (blockC_r _ _ _ _)
@[go_sem] theorem k40_exit (b n0 : Nat) (i : Nat) (e : Env) (S : Store) : k40 b n0 (.exit i) e S = if i = 2 then (k31 b n0) .normal e S else (k31 b n0) (.exit i) e S := nr (blockC_x _ _ _ _ _)
noncomputable def c41 : Code := atL c39
noncomputable def k42 (b n0 n2 : Nat) : KT := afterC 2 n2 [1, 2, 3, 7, 8] (k40 b n0)
noncomputable def L2g (b n0 n2 : Nat) (e : Env) (S : Store) : RT := loopL (fun K e S => execL (C b) 2 c41 K e S) (normG [1, 2, 3, 7, 8, 9, 10] [] n2) (k42 b n0 n2) e S
noncomputable def L2 (b n0 n2 : Nat) (x1 x2 x3 x7 x8 x9 x10 : PV) (S : Store) : RT := L2g b n0 n2 (ee4 x1 x2 x3 x7 x8 x9 x10) S
noncomputable def k43 (b n0 n2 : Nat) : KT := stepC (normG [1, 2, 3, 7, 8, 9, 10] [] n2) (k42 b n0 n2) (L2g b n0 n2)
@[go_sem] theorem k43_n (b n0 n2 : Nat) (x1 x2 x3 x7 x8 x9 x10 : PV) (S : Store) : k43 b n0 n2 .normal (ee4 x1 x2 x3 x7 x8 x9 x10) S = L2 b n0 n2 x1 x2 x3 x7 x8 x9 x10 (gc n2 (ee4 x1 x2 x3 x7 x8 x9 x10) S) := nr (by kernel_rfl)
@[go_sem] theorem k43_ret (b n0 n2 : Nat) (e : Env) (S : Store) : k43 b n0 n2 .ret e S = (k40 b n0) .ret e S := nr ((show k43 b n0 n2 .ret e S = (k42 b n0 n2) .ret e S from stepC_r _ _ _ _ _).trans (afterC_r _ _ _ _ _ _))
@[go_sem] theorem k43_x1 (b n0 n2 : Nat) (x1 x2 x3 x7 x8 x9 x10 x71 : PV) (S : Store) : k43 b n0 n2 (.exit 2) (ee5 x1 x2 x3 x7 x8 x9 x10 x71) S = (k40 b n0) (.exit 2) (ee5 x1 x2 x3 x7 x8 .undef .undef .undef) (gc n2 (ee5 x1 x2 x3 x7 x8 .undef .undef .undef) S) := nr ((show k43 b n0 n2 (.exit 2) (ee5 x1 x2 x3 x7 x8 x9 x10 x71) S = (k42 b n0 n2) (.exit 2) (ee5 x1 x2 x3 x7 x8 x9 x10 x71) S from stepC_x _ _ _ _ _ _).trans ((show (k42 b n0 n2) (.exit 2) (ee5 x1 x2 x3 x7 x8 x9 x10 x71) S = _ from afterC_x _ _ _ _ _ _ _).trans (if_pos rfl)))
noncomputable def c44 : Code := at0 c41
noncomputable def c45 : Code := at1 c41
theorem c41_h : c41 = .seq c44 c45 := by kernel_rfl
noncomputable def c46 : Code := at0 c45
noncomputable def c47 : Code := at1 c45
theorem c45_h : c45 = .seq c46 c47 := by kernel_rfl
noncomputable def k48 (b n0 n2 : Nat) : KT := seqC (fun e S => execL (C b) 2 c47 (k43 b n0 n2) e S) (k43 b n0 n2)
@[go_sem] theorem g49 (b : Nat) (K : KT) (x1 x2 x3 x7 x8 x9 x10 x87 : PV) (S : Store) : execL (C b) 2 c47 K (ee6 x1 x2 x3 x7 x8 x9 x10 x87) S =
  withV (some x10) fun x72 =>
    withV (evBin .add (tyi Try.prog 3) x72 (.int .i64 1)) fun x73 =>
    withV (some x73) fun x10 =>
    K .normal (ee4 x1 x2 x3 x7 x8 x9 x10) S := nr (by kernel_rfl)
@[go_sem] theorem k48_n (b n0 n2 : Nat) (e : Env) (S : Store) : k48 b n0 n2 .normal e S = execL (C b) 2 c47 (k43 b n0 n2) e S := nr (seqC_n _ _ _ _)
@[go_sem] theorem k48_ret (b n0 n2 : Nat) (e : Env) (S : Store) : k48 b n0 n2 .ret e S = (k43 b n0 n2) .ret e S := nr (seqC_r _ _ _ _)
theorem k48_l (b n0 n2 : Nat) : seqC (fun e S => execL (C b) 2 c47 (k43 b n0 n2) e S) (k43 b n0 n2) = k48 b n0 n2 := rfl
noncomputable def k50 (b n0 n2 : Nat) : KT := seqC (fun e S => execL (C b) 2 c46 (k48 b n0 n2) e S) (k43 b n0 n2)
noncomputable def c51 : Code := atB c46
theorem c46_h : c46 = .block 3 c51 := by kernel_rfl
noncomputable def k52 (b n0 n2 : Nat) : KT := blockC 3 (k48 b n0 n2)
@[go_sem] theorem k52_n (b n0 n2 : Nat) (e : Env) (S : Store) : k52 b n0 n2 .normal e S = (k48 b n0 n2) .normal e S := nr (blockC_n _ _ _ _)
@[go_sem] theorem k52_ret (b n0 n2 : Nat) (e : Env) (S : Store) : k52 b n0 n2 .ret e S = (k48 b n0 n2) .ret e S := nr (blockC_r _ _ _ _)
noncomputable def c53 : Code := at0 c51
noncomputable def c54 : Code := at1 c51
theorem c51_h : c51 = .seq c53 c54 := by kernel_rfl
noncomputable def k55 (b n0 n2 : Nat) : KT := seqC (fun e S => execL (C b) 3 c54 (k52 b n0 n2) e S) (k52 b n0 n2)
noncomputable def c56 : Code := atT c54
noncomputable def c57 : Code := atF c54
theorem c54_h : c54 = .cond (.tmp 87) c56 c57 := by kernel_rfl
noncomputable def c59 : Code := at0 c56
noncomputable def c60 : Code := at1 c56
theorem c56_h : c56 = .seq c59 c60 := by kernel_rfl
noncomputable def k61 (b n0 n2 : Nat) : KT := seqC (fun e S => execL (C b) 3 c60 (k52 b n0 n2) e S) (k52 b n0 n2)
@[go_sem] theorem k61_n (b n0 n2 : Nat) (x6 : PV) (S : Store) : k61 b n0 n2 .normal (ee10 x6) S =
  (k52 b n0 n2) .ret (ee10 x6) S := nr ((show k61 b n0 n2 .normal (ee10 x6) S = execL (C b) 3 c60 (k52 b n0 n2) (ee10 x6) S from seqC_n _ _ _ _).trans (execL_ret (by kernel_rfl)))
theorem k61_l (b n0 n2 : Nat) : seqC (fun e S => execL (C b) 3 c60 (k52 b n0 n2) e S) (k52 b n0 n2) = k61 b n0 n2 := rfl
@[go_sem] theorem g62 (b : Nat) (K : KT) (x1 x2 x3 x7 x8 x9 x10 x87 : PV) (S : Store) : execL (C b) 3 c59 K (ee6 x1 x2 x3 x7 x8 x9 x10 x87) S =
  withV (some (.bool false)) fun x6 =>
    K .normal (ee10 x6) S := nr (by kernel_rfl)
noncomputable def E58 (b n0 n2 : Nat) (x1 x2 x3 x7 x8 x9 x10 x87 : PV) (S : Store) : RT := execL (C b) 3 c56 (k52 b n0 n2) (ee6 x1 x2 x3 x7 x8 x9 x10 x87) S
@[go_sem] theorem E58_eq (b n0 n2 : Nat) (x1 x2 x3 x7 x8 x9 x10 x87 : PV) (S : Store) : E58 b n0 n2 x1 x2 x3 x7 x8 x9 x10 x87 S =
  execL (C b) 3 c59 (k61 b n0 n2) (ee6 x1 x2 x3 x7 x8 x9 x10 x87) S := nr ((enter_seq c56_h (k61_l b n0 n2)).trans (rfl))
@[go_sem] theorem k55_n (b n0 n2 : Nat) (x1 x2 x3 x7 x8 x9 x10 x87 : PV) (S : Store) : k55 b n0 n2 .normal (ee6 x1 x2 x3 x7 x8 x9 x10 x87) S =
  condC x87 (E58 b n0 n2 x1 x2 x3 x7 x8 x9 x10 x87 S)
    ((k52 b n0 n2) .normal (ee6 x1 x2 x3 x7 x8 x9 x10 x87) S) := nr ((show k55 b n0 n2 .normal (ee6 x1 x2 x3 x7 x8 x9 x10 x87) S = execL (C b) 3 c54 (k52 b n0 n2) (ee6 x1 x2 x3 x7 x8 x9 x10 x87) S from seqC_n _ _ _ _).trans (execL_cond c54_h (rfl) (execL_skip (by kernel_rfl)) rfl))
theorem k55_l (b n0 n2 : Nat) : seqC (fun e S => execL (C b) 3 c54 (k52 b n0 n2) e S) (k52 b n0 n2) = k55 b n0 n2 := rfl
@[go_sem] theorem g63 (b : Nat) (K : KT) (x1 x2 x3 x7 x8 x9 x10 x71 : PV) (S : Store) : execL (C b) 3 c53 K (ee5 x1 x2 x3 x7 x8 x9 x10 x71) S =
  withV (evFieldAddr (tyi Try.prog 54) 0 x9) fun x74 =>
    withV (evLoad (tyi Try.prog 3) S x74) fun x75 =>
    withV (evBin .eql (tyi Try.prog 3) x75 (.int .i64 55)) fun x76 =>
    withV (some x76) fun x77 =>
    withV (gval x77 true (evFieldAddr (tyi Try.prog 54) 3 x3)) fun x78 =>
    withV (gval x77 true (evLoad (tyi Try.prog 52) S x78)) fun x79 =>
    withV (gval x77 true (some x10)) fun x80 =>
    withV (gval x77 true (indexAddrO Try.prog 52 S x79 x80)) fun x81 =>
    withV (gval x77 true (evFieldAddr (tyi Try.prog 54) 1 x81)) fun x82 =>
    withV (gval x77 true (evLoad (tyi Try.prog 9) S x82)) fun x83 =>
    withV (gval x77 true (evFieldAddr (tyi Try.prog 54) 1 x9)) fun x84 =>
    withV (gval x77 true (evLoad (tyi Try.prog 9) S x84)) fun x85 =>
    withV (gval x77 true (evBin .eql (tyi Try.prog 9) x83 x85)) fun x86 =>
    withV (pickO x77 x86 (.bool false)) fun x87 =>
    K .normal (ee6 x1 x2 x3 x7 x8 x9 x10 x87) S := nr (by kernel_rfl)
@[go_sem] theorem k50_n (b n0 n2 : Nat) (x1 x2 x3 x7 x8 x9 x10 x71 : PV) (S : Store) : k50 b n0 n2 .normal (ee5 x1 x2 x3 x7 x8 x9 x10 x71) S =
  execL (C b) 3 c53 (k55 b n0 n2) (ee5 x1 x2 x3 x7 x8 x9 x10 x71) S := nr ((show k50 b n0 n2 .normal (ee5 x1 x2 x3 x7 x8 x9 x10 x71) S = execL (C b) 2 c46 (k48 b n0 n2) (ee5 x1 x2 x3 x7 x8 x9 x10 x71) S from seqC_n _ _ _ _).trans ((show execL (C b) 2 c46 (k48 b n0 n2) (ee5 x1 x2 x3 x7 x8 x9 x10 x71) S = execL (C b) 3 c51 (k52 b n0 n2) (ee5 x1 x2 x3 x7 x8 x9 x10 x71) S from execL_block c46_h).trans ((enter_seq c51_h (k55_l b n0 n2)).trans (rfl))))
@[go_sem] theorem k50_exit (b n0 n2 : Nat) (i : Nat) (e : Env) (S : Store) : k50 b n0 n2 (.exit i) e S = (k43 b n0 n2) (.exit i) e S := nr (seqC_x _ _ _ _ _)
theorem k50_l (b n0 n2 : Nat) : seqC (fun e S => execL (C b) 2 c45 (k43 b n0 n2) e S) (k43 b n0 n2) = k50 b n0 n2 := link_seq c45_h (k48_l b n0 n2)
noncomputable def c64 : Code := at0 c44
noncomputable def c65 : Code := at1 c44
theorem c44_h : c44 = .seq c64 c65 := by kernel_rfl
noncomputable def k66 (b n0 n2 : Nat) : KT := seqC (fun e S => execL (C b) 2 c65 (k50 b n0 n2) e S) (k50 b n0 n2)
noncomputable def c67 : Code := atT c65
noncomputable def c68 : Code := atF c65
theorem c65_h : c65 = .cond (.tmp 71) c67 c68 := by kernel_rfl
@[go_sem] theorem k66_n (b n0 n2 : Nat) (x1 x2 x3 x7 x8 x9 x10 x71 : PV) (S : Store) : k66 b n0 n2 .normal (ee5 x1 x2 x3 x7 x8 x9 x10 x71) S =
  condC x71 ((k50 b n0 n2) .normal (ee5 x1 x2 x3 x7 x8 x9 x10 x71) S)
    ((k50 b n0 n2) (.exit 2) (ee5 x1 x2 x3 x7 x8 x9 x10 x71) S) := nr ((show k66 b n0 n2 .normal (ee5 x1 x2 x3 x7 x8 x9 x10 x71) S = execL (C b) 2 c65 (k50 b n0 n2) (ee5 x1 x2 x3 x7 x8 x9 x10 x71) S from seqC_n _ _ _ _).trans (execL_cond c65_h (execL_skip (by kernel_rfl)) (execL_exit (by kernel_rfl)) rfl))
theorem k66_l (b n0 n2 : Nat) : seqC (fun e S => execL (C b) 2 c65 (k50 b n0 n2) e S) (k50 b n0 n2) = k66 b n0 n2 := rfl
@[go_sem] theorem g69 (b : Nat) (K : KT) (x1 x2 x3 x7 x8 x9 x10 : PV) (S : Store) : execL (C b) 2 c64 K (ee4 x1 x2 x3 x7 x8 x9 x10) S =
  withV (some x10) fun x69 =>
    withV (some x8) fun x70 =>
    withV (evBin .lss (tyi Try.prog 3) x69 x70) fun x71 =>
    K .normal (ee5 x1 x2 x3 x7 x8 x9 x10 x71) S := nr (by kernel_rfl)
noncomputable def B2 (b n0 n2 : Nat) (x1 x2 x3 x7 x8 x9 x10 : PV) (S : Store) : RT := execL (C b) 2 c41 (k43 b n0 n2) (ee4 x1 x2 x3 x7 x8 x9 x10) S
@[go_sem] theorem B2_eq (b n0 n2 : Nat) (x1 x2 x3 x7 x8 x9 x10 : PV) (S : Store) : B2 b n0 n2 x1 x2 x3 x7 x8 x9 x10 S =
  execL (C b) 2 c64 (k66 b n0 n2) (ee4 x1 x2 x3 x7 x8 x9 x10) S := nr ((enter_seq c41_h (k50_l b n0 n2)).trans ((enter_seq c44_h (k66_l b n0 n2)).trans (rfl)))
theorem L2_step {b n0 n2 : Nat} {x1 x2 x3 x7 x8 x9 x10 : PV} {S : Store} {z : PV × Store} (h : B2 b n0 n2 x1 x2 x3 x7 x8 x9 x10 S = some z) : L2 b n0 n2 x1 x2 x3 x7 x8 x9 x10 S = some z := loopL_step h
theorem L2_in (b n0 : Nat) (x1 x2 x3 x7 x8 x9 x10 : PV) (S : Store) : execL (C b) 2 c39 (k40 b n0) (ee4 x1 x2 x3 x7 x8 x9 x10) S = L2 b n0 (List.length S) x1 x2 x3 x7 x8 x9 x10 S := by kernel_rfl
@[go_sem] theorem k38_n (b n0 : Nat) (x1 x2 x3 x7 x8 x9 x10 : PV) (S : Store) : k38 b n0 .normal (ee4 x1 x2 x3 x7 x8 x9 x10) S =
  L2 b n0 (List.length S) x1 x2 x3 x7 x8 x9 x10 S := nr ((show k38 b n0 .normal (ee4 x1 x2 x3 x7 x8 x9 x10) S = execL (C b) 1 c37 (k31 b n0) (ee4 x1 x2 x3 x7 x8 x9 x10) S from seqC_n _ _ _ _).trans ((show execL (C b) 1 c37 (k31 b n0) (ee4 x1 x2 x3 x7 x8 x9 x10) S = execL (C b) 2 c39 (k40 b n0) (ee4 x1 x2 x3 x7 x8 x9 x10) S from execL_block c37_h).trans (L2_in b n0 x1 x2 x3 x7 x8 x9 x10 S)))
theorem k38_l (b n0 : Nat) : seqC (fun e S => execL (C b) 1 c37 (k31 b n0) e S) (k31 b n0) = k38 b n0 := rfl
noncomputable def k71 (b n0 : Nat) : KT := seqC (fun e S => execL (C b) 1 c36 (k38 b n0) e S) (k31 b n0)
@[go_sem] theorem g72 (b : Nat) (K : KT) (x1 x2 x3 x7 x8 x9 x68 : PV) (S : Store) : execL (C b) 1 c36 K (ee7 x1 x2 x3 x7 x8 x9 x68) S =
  withV (some (.int .i64 0)) fun x10 =>
    K .normal (ee4 x1 x2 x3 x7 x8 x9 x10) S := nr (by kernel_rfl)
@[go_sem] theorem k71_n (b n0 : Nat) (e : Env) (S : Store) : k71 b n0 .normal e S = execL (C b) 1 c36 (k38 b n0) e S := nr (seqC_n _ _ _ _)
@[go_sem] theorem k71_ret (b n0 : Nat) (e : Env) (S : Store) : k71 b n0 .ret e S = (k31 b n0) .ret e S := nr (seqC_r _ _ _ _)
theorem k71_l (b n0 : Nat) : seqC (fun e S => execL (C b) 1 c35 (k31 b n0) e S) (k31 b n0) = k71 b n0 := link_seq c35_h (k38_l b n0)
noncomputable def k73 (b n0 : Nat) : KT := seqC (fun e S => execL (C b) 1 c34 (k71 b n0) e S) (k31 b n0)
noncomputable def c74 : Code := at0 c34
noncomputable def c75 : Code := at1 c34
theorem c34_h : c34 = .seq c74 c75 := by kernel_rfl
noncomputable def k76 (b n0 : Nat) : KT := seqC (fun e S => execL (C b) 1 c75 (k71 b n0) e S) (k71 b n0)
noncomputable def c77 : Code := atT c75
noncomputable def c78 : Code := atF c75
theorem c75_h : c75 = .cond (.tmp 68) c77 c78 := by kernel_rfl
noncomputable def c80 : Code := at0 c77
noncomputable def c81 : Code := at1 c77
theorem c77_h : c77 = .seq c80 c81 := by kernel_rfl
noncomputable def k82 (b n0 : Nat) : KT := seqC (fun e S => execL (C b) 1 c81 (k71 b n0) e S) (k71 b n0)
@[go_sem] theorem k82_n (b n0 : Nat) (x6 : PV) (S : Store) : k82 b n0 .normal (ee10 x6) S =
  (k71 b n0) .ret (ee10 x6) S := nr ((show k82 b n0 .normal (ee10 x6) S = execL (C b) 1 c81 (k71 b n0) (ee10 x6) S from seqC_n _ _ _ _).trans (execL_ret (by kernel_rfl)))
theorem k82_l (b n0 : Nat) : seqC (fun e S => execL (C b) 1 c81 (k71 b n0) e S) (k71 b n0) = k82 b n0 := rfl
@[go_sem] theorem g83 (b : Nat) (K : KT) (x1 x2 x3 x7 x8 x9 x68 : PV) (S : Store) : execL (C b) 1 c80 K (ee7 x1 x2 x3 x7 x8 x9 x68) S =
  withV (some (.bool false)) fun x6 =>
    K .normal (ee10 x6) S := nr (by kernel_rfl)
noncomputable def E79 (b n0 : Nat) (x1 x2 x3 x7 x8 x9 x68 : PV) (S : Store) : RT := execL (C b) 1 c77 (k71 b n0) (ee7 x1 x2 x3 x7 x8 x9 x68) S
@[go_sem] theorem E79_eq (b n0 : Nat) (x1 x2 x3 x7 x8 x9 x68 : PV) (S : Store) : E79 b n0 x1 x2 x3 x7 x8 x9 x68 S =
  execL (C b) 1 c80 (k82 b n0) (ee7 x1 x2 x3 x7 x8 x9 x68) S := nr ((enter_seq c77_h (k82_l b n0)).trans (rfl))
@[go_sem] theorem k76_n (b n0 : Nat) (x1 x2 x3 x7 x8 x9 x68 : PV) (S : Store) : k76 b n0 .normal (ee7 x1 x2 x3 x7 x8 x9 x68) S =
  condC x68 (E79 b n0 x1 x2 x3 x7 x8 x9 x68 S)
    ((k71 b n0) .normal (ee7 x1 x2 x3 x7 x8 x9 x68) S) := nr ((show k76 b n0 .normal (ee7 x1 x2 x3 x7 x8 x9 x68) S = execL (C b) 1 c75 (k71 b n0) (ee7 x1 x2 x3 x7 x8 x9 x68) S from seqC_n _ _ _ _).trans (execL_cond c75_h (rfl) (execL_skip (by kernel_rfl)) rfl))
theorem k76_l (b n0 : Nat) : seqC (fun e S => execL (C b) 1 c75 (k71 b n0) e S) (k71 b n0) = k76 b n0 := rfl
@[go_sem] theorem g84 (b : Nat) (K : KT) (x1 x2 x3 x7 x8 x9 : PV) (S : Store) : execL (C b) 1 c74 K (ee3 x1 x2 x3 x7 x8 x9) S =
  withV (evFieldAddr (tyi Try.prog 54) 0 x9) fun x43 =>
    withV (evLoad (tyi Try.prog 3) S x43) fun x44 =>
    withV (evBin .eql (tyi Try.prog 3) x44 (.int .i64 56)) fun x45 =>
    withV (some x45) fun x46 =>
    withV (gval x46 true (some x8)) fun x47 =>
    withV (gval x46 true (some x7)) fun x48 =>
    withV (gval x46 true (evBin .sub (tyi Try.prog 3) x48 (.int .i64 2))) fun x49 =>
    withV (gval x46 true (evBin .lss (tyi Try.prog 3) x47 x49)) fun x50 =>
    withV (pickO x46 x50 (.bool false)) fun x51 =>
    withV (some x51) fun x52 =>
    withV (gval x52 false (evFieldAddr (tyi Try.prog 54) 0 x9)) fun x53 =>
    withV (gval x52 false (evLoad (tyi Try.prog 3) S x53)) fun x54 =>
    withV (gval x52 false (evBin .neq (tyi Try.prog 3) x54 (.int .i64 56))) fun x55 =>
    withV (gval x52 false (some x55)) fun x56 =>
    withV (gval x56 true (evFieldAddr (tyi Try.prog 54) 0 x9)) fun x57 =>
    withV (gval x56 true (evLoad (tyi Try.prog 3) S x57)) fun x58 =>
    withV (gval x56 true (evBin .neq (tyi Try.prog 3) x58 (.int .i64 55))) fun x59 =>
    withV (gval x52 false (pickO x56 x59 (.bool false))) fun x60 =>
    withV (pickO x52 (.bool true) x60) fun x61 =>
    withV (some x61) fun x62 =>
    withV (gval x62 false (evLoad (tyi Try.prog 54) S x9)) fun x63 =>
    withV (gval x62 false (some x1)) fun x64 =>
    withV (gval x62 false (some x2)) fun x65 =>
    withN (gout x62 false (callO (callL Try.prog hints) S 65 [x63, (.int .i64 4), x64, x65])) S fun x66 S =>
    withV (gval x62 false (evUn .not x66)) fun x67 =>
    withV (pickO x62 (.bool true) x67) fun x68 =>
    K .normal (ee7 x1 x2 x3 x7 x8 x9 x68) S := nr (by kernel_rfl)
@[go_sem] theorem k73_n (b n0 : Nat) (x1 x2 x3 x7 x8 x9 : PV) (S : Store) : k73 b n0 .normal (ee3 x1 x2 x3 x7 x8 x9) S =
  execL (C b) 1 c74 (k76 b n0) (ee3 x1 x2 x3 x7 x8 x9) S := nr ((show k73 b n0 .normal (ee3 x1 x2 x3 x7 x8 x9) S = execL (C b) 1 c34 (k71 b n0) (ee3 x1 x2 x3 x7 x8 x9) S from seqC_n _ _ _ _).trans ((enter_seq c34_h (k76_l b n0)).trans (rfl)))
theorem k73_l (b n0 : Nat) : seqC (fun e S => execL (C b) 1 c33 (k31 b n0) e S) (k31 b n0) = k73 b n0 := link_seq c33_h (k71_l b n0)
@[go_sem] theorem g85 (b : Nat) (K : KT) (x1 x2 x3 x7 x8 x35 : PV) (S : Store) : execL (C b) 1 c32 K (ee8 x1 x2 x3 x7 x8 x35) S =
  withV (evFieldAddr (tyi Try.prog 54) 3 x3) fun x38 =>
    withV (evLoad (tyi Try.prog 52) S x38) fun x39 =>
    withV (some x8) fun x40 =>
    withV (indexAddrO Try.prog 52 S x39 x40) fun x41 =>
    withV (evLoad (tyi Try.prog 54) S x41) fun x42 =>
    withN (allocO (tyi Try.prog 54) (List.length S)) S fun x9 S =>
    withS (storeE (tyi Try.prog 54) S x9 x42) fun _u S =>
    K .normal (ee3 x1 x2 x3 x7 x8 x9) S := nr (by kernel_rfl)
@[go_sem] theorem k29_n (b n0 : Nat) (x1 x2 x3 x7 x8 x35 : PV) (S : Store) : k29 b n0 .normal (ee8 x1 x2 x3 x7 x8 x35) S =
  execL (C b) 1 c32 (k73 b n0) (ee8 x1 x2 x3 x7 x8 x35) S := nr ((show k29 b n0 .normal (ee8 x1 x2 x3 x7 x8 x35) S = execL (C b) 0 c25 (k27 b n0) (ee8 x1 x2 x3 x7 x8 x35) S from seqC_n _ _ _ _).trans ((show execL (C b) 0 c25 (k27 b n0) (ee8 x1 x2 x3 x7 x8 x35) S = execL (C b) 1 c30 (k31 b n0) (ee8 x1 x2 x3 x7 x8 x35) S from execL_block c25_h).trans ((enter_seq c30_h (k73_l b n0)).trans (rfl))))
@[go_sem] theorem k29_exit (b n0 : Nat) (i : Nat) (e : Env) (S : Store) : k29 b n0 (.exit i) e S = (k22 b n0) (.exit i) e S := nr (seqC_x _ _ _ _ _)
theorem k29_l (b n0 : Nat) : seqC (fun e S => execL (C b) 0 c24 (k22 b n0) e S) (k22 b n0) = k29 b n0 := link_seq c24_h (k27_l b n0)
noncomputable def c86 : Code := at0 c23
noncomputable def c87 : Code := at1 c23
theorem c23_h : c23 = .seq c86 c87 := by kernel_rfl
noncomputable def k88 (b n0 : Nat) : KT := seqC (fun e S => execL (C b) 0 c87 (k29 b n0) e S) (k29 b n0)
noncomputable def c89 : Code := atT c87
noncomputable def c90 : Code := atF c87
theorem c87_h : c87 = .cond (.tmp 35) c89 c90 := by kernel_rfl
@[go_sem] theorem k88_n (b n0 : Nat) (x1 x2 x3 x7 x8 x35 : PV) (S : Store) : k88 b n0 .normal (ee8 x1 x2 x3 x7 x8 x35) S =
  condC x35 ((k29 b n0) .normal (ee8 x1 x2 x3 x7 x8 x35) S)
    ((k29 b n0) (.exit 0) (ee8 x1 x2 x3 x7 x8 x35) S) := nr ((show k88 b n0 .normal (ee8 x1 x2 x3 x7 x8 x35) S = execL (C b) 0 c87 (k29 b n0) (ee8 x1 x2 x3 x7 x8 x35) S from seqC_n _ _ _ _).trans (execL_cond c87_h (execL_skip (by kernel_rfl)) (execL_exit (by kernel_rfl)) rfl))
theorem k88_l (b n0 : Nat) : seqC (fun e S => execL (C b) 0 c87 (k29 b n0) e S) (k29 b n0) = k88 b n0 := rfl
@[go_sem] theorem g91 (b : Nat) (K : KT) (x1 x2 x3 x7 x8 : PV) (S : Store) : execL (C b) 0 c86 K (ee2 x1 x2 x3 x7 x8) S =
  withV (some x8) fun x32 =>
    withV (some x7) fun x33 =>
    withV (evBin .sub (tyi Try.prog 3) x33 (.int .i64 1)) fun x34 =>
    withV (evBin .lss (tyi Try.prog 3) x32 x34) fun x35 =>
    K .normal (ee8 x1 x2 x3 x7 x8 x35) S := nr (by kernel_rfl)
noncomputable def B0 (b n0 : Nat) (x1 x2 x3 x7 x8 : PV) (S : Store) : RT := execL (C b) 0 c20 (k22 b n0) (ee2 x1 x2 x3 x7 x8) S
@[go_sem] theorem B0_eq (b n0 : Nat) (x1 x2 x3 x7 x8 : PV) (S : Store) : B0 b n0 x1 x2 x3 x7 x8 S =
  execL (C b) 0 c86 (k88 b n0) (ee2 x1 x2 x3 x7 x8) S := nr ((enter_seq c20_h (k29_l b n0)).trans ((enter_seq c23_h (k88_l b n0)).trans (rfl)))
theorem L0_step {b n0 : Nat} {x1 x2 x3 x7 x8 : PV} {S : Store} {z : PV × Store} (h : B0 b n0 x1 x2 x3 x7 x8 S = some z) : L0 b n0 x1 x2 x3 x7 x8 S = some z := loopL_step h
theorem L0_in (b : Nat) (x1 x2 x3 x7 x8 : PV) (S : Store) : execL (C b) 0 c18 (k19 b) (ee2 x1 x2 x3 x7 x8) S = L0 b (List.length S) x1 x2 x3 x7 x8 S := by kernel_rfl
@[go_sem] theorem k17_n (b : Nat) (x1 x2 x3 x7 x8 : PV) (S : Store) : k17 b .normal (ee2 x1 x2 x3 x7 x8) S =
  L0 b (List.length S) x1 x2 x3 x7 x8 S := nr ((show k17 b .normal (ee2 x1 x2 x3 x7 x8) S = execL (C b) 0 c16 (k12 b) (ee2 x1 x2 x3 x7 x8) S from seqC_n _ _ _ _).trans ((show execL (C b) 0 c16 (k12 b) (ee2 x1 x2 x3 x7 x8) S = execL (C b) 0 c18 (k19 b) (ee2 x1 x2 x3 x7 x8) S from execL_block c16_h).trans (L0_in b x1 x2 x3 x7 x8 S)))
theorem k17_l (b : Nat) : seqC (fun e S => execL (C b) 0 c16 (k12 b) e S) (k12 b) = k17 b := rfl
@[go_sem] theorem g93 (b : Nat) (K : KT) (x1 x2 x3 x7 x31 : PV) (S : Store) : execL (C b) 0 c15 K (ee9 x1 x2 x3 x7 x31) S =
  withV (some (.int .i64 0)) fun x8 =>
    K .normal (ee2 x1 x2 x3 x7 x8) S := nr (by kernel_rfl)
@[go_sem] theorem k14_n (b : Nat) (x1 x2 x3 x7 x31 : PV) (S : Store) : k14 b .normal (ee9 x1 x2 x3 x7 x31) S =
  execL (C b) 0 c15 (k17 b) (ee9 x1 x2 x3 x7 x31) S := nr ((show k14 b .normal (ee9 x1 x2 x3 x7 x31) S = execL (C b) 0 c7 (k12 b) (ee9 x1 x2 x3 x7 x31) S from seqC_n _ _ _ _).trans ((enter_seq c7_h (k17_l b)).trans (rfl)))
@[go_sem] theorem k14_ret (b : Nat) (e : Env) (S : Store) : k14 b .ret e S = (k0 b) .ret e S := nr (seqC_r _ _ _ _)
theorem k14_l (b : Nat) : seqC (fun e S => execL (C b) 0 c6 (k0 b) e S) (k0 b) = k14 b := link_seq c6_h (k12_l b)
noncomputable def k94 (b : Nat) : KT := seqC (fun e S => execL (C b) 0 c5 (k14 b) e S) (k0 b)
noncomputable def c95 : Code := at0 c5
noncomputable def c96 : Code := at1 c5
theorem c5_h : c5 = .seq c95 c96 := by kernel_rfl
noncomputable def k97 (b : Nat) : KT := seqC (fun e S => execL (C b) 0 c96 (k14 b) e S) (k14 b)
noncomputable def c98 : Code := atT c96
noncomputable def c99 : Code := atF c96
theorem c96_h : c96 = .cond (.tmp 31) c98 c99 := by kernel_rfl
noncomputable def c101 : Code := at0 c98
noncomputable def c102 : Code := at1 c98
theorem c98_h : c98 = .seq c101 c102 := by kernel_rfl
noncomputable def k103 (b : Nat) : KT := seqC (fun e S => execL (C b) 0 c102 (k14 b) e S) (k14 b)
@[go_sem] theorem k103_n (b : Nat) (x6 : PV) (S : Store) : k103 b .normal (ee10 x6) S =
  (k14 b) .ret (ee10 x6) S := nr ((show k103 b .normal (ee10 x6) S = execL (C b) 0 c102 (k14 b) (ee10 x6) S from seqC_n _ _ _ _).trans (execL_ret (by kernel_rfl)))
theorem k103_l (b : Nat) : seqC (fun e S => execL (C b) 0 c102 (k14 b) e S) (k14 b) = k103 b := rfl
@[go_sem] theorem g104 (b : Nat) (K : KT) (x1 x2 x3 x7 x31 : PV) (S : Store) : execL (C b) 0 c101 K (ee9 x1 x2 x3 x7 x31) S =
  withV (some (.bool false)) fun x6 =>
    K .normal (ee10 x6) S := nr (by kernel_rfl)
noncomputable def E100 (b : Nat) (x1 x2 x3 x7 x31 : PV) (S : Store) : RT := execL (C b) 0 c98 (k14 b) (ee9 x1 x2 x3 x7 x31) S
@[go_sem] theorem E100_eq (b : Nat) (x1 x2 x3 x7 x31 : PV) (S : Store) : E100 b x1 x2 x3 x7 x31 S =
  execL (C b) 0 c101 (k103 b) (ee9 x1 x2 x3 x7 x31) S := nr ((enter_seq c98_h (k103_l b)).trans (rfl))
@[go_sem] theorem k97_n (b : Nat) (x1 x2 x3 x7 x31 : PV) (S : Store) : k97 b .normal (ee9 x1 x2 x3 x7 x31) S =
  condC x31 (E100 b x1 x2 x3 x7 x31 S)
    ((k14 b) .normal (ee9 x1 x2 x3 x7 x31) S) := nr ((show k97 b .normal (ee9 x1 x2 x3 x7 x31) S = execL (C b) 0 c96 (k14 b) (ee9 x1 x2 x3 x7 x31) S from seqC_n _ _ _ _).trans (execL_cond c96_h (rfl) (execL_skip (by kernel_rfl)) rfl))
theorem k97_l (b : Nat) : seqC (fun e S => execL (C b) 0 c96 (k14 b) e S) (k14 b) = k97 b := rfl
@[go_sem] theorem g105 (b : Nat) (K : KT) (x1 x2 x3 x7 : PV) (S : Store) : execL (C b) 0 c95 K (ee1 x1 x2 x3 x7) S =
  withV (some x7) fun x14 =>
    withV (evBin .lss (tyi Try.prog 3) x14 (.int .i64 2)) fun x15 =>
    withV (some x15) fun x16 =>
    withV (gval x16 false (evLoad (tyi Try.prog 54) S x3)) fun x17 =>
    withN (gout x16 false (callO (callL Try.prog hints) S 95 [x17])) S fun x18 S =>
    withV (pickO x16 (.bool true) x18) fun x19 =>
    withV (some x19) fun x20 =>
    withV (gval x20 false (evFieldAddr (tyi Try.prog 54) 3 x3)) fun x21 =>
    withV (gval x20 false (evLoad (tyi Try.prog 52) S x21)) fun x22 =>
    withV (gval x20 false (some x7)) fun x23 =>
    withV (gval x20 false (evBin .sub (tyi Try.prog 3) x23 (.int .i64 1))) fun x24 =>
    withV (gval x20 false (indexAddrO Try.prog 52 S x22 x24)) fun x25 =>
    withV (gval x20 false (evLoad (tyi Try.prog 54) S x25)) fun x26 =>
    withV (gval x20 false (some x1)) fun x27 =>
    withV (gval x20 false (some x2)) fun x28 =>
    withN (gout x20 false (callO (callL Try.prog hints) S 65 [x26, (.int .i64 2), x27, x28])) S fun x29 S =>
    withV (gval x20 false (evUn .not x29)) fun x30 =>
    withV (pickO x20 (.bool true) x30) fun x31 =>
    K .normal (ee9 x1 x2 x3 x7 x31) S := nr (by kernel_rfl)
@[go_sem] theorem k94_n (b : Nat) (x1 x2 x3 x7 : PV) (S : Store) : k94 b .normal (ee1 x1 x2 x3 x7) S =
  execL (C b) 0 c95 (k97 b) (ee1 x1 x2 x3 x7) S := nr ((show k94 b .normal (ee1 x1 x2 x3 x7) S = execL (C b) 0 c5 (k14 b) (ee1 x1 x2 x3 x7) S from seqC_n _ _ _ _).trans ((enter_seq c5_h (k97_l b)).trans (rfl)))
theorem k94_l (b : Nat) : seqC (fun e S => execL (C b) 0 c4 (k0 b) e S) (k0 b) = k94 b := link_seq c4_h (k14_l b)
noncomputable def k106 (b : Nat) : KT := seqC (fun e S => execL (C b) 0 c3 (k94 b) e S) (k0 b)
@[go_sem] theorem g107 (b : Nat) (K : KT) (x1 x2 x3 : PV) (S : Store) : execL (C b) 0 c3 K (ee0 x1 x2 x3) S =
  withV (evFieldAddr (tyi Try.prog 54) 3 x3) fun x11 =>
    withV (evLoad (tyi Try.prog 52) S x11) fun x12 =>
    withV (lenO (tyi Try.prog 52) x12) fun x13 =>
    withV (some x13) fun x7 =>
    K .normal (ee1 x1 x2 x3 x7) S := nr (by kernel_rfl)
@[go_sem] theorem k106_n (b : Nat) (e : Env) (S : Store) : k106 b .normal e S = execL (C b) 0 c3 (k94 b) e S := nr (seqC_n _ _ _ _)
theorem k106_l (b : Nat) : seqC (fun e S => execL (C b) 0 c2 (k0 b) e S) (k0 b) = k106 b := link_seq c2_h (k94_l b)
@[go_sem] theorem g108 (b : Nat) (K : KT) (x0 x1 x2 : PV) (S : Store) : execL (C b) 0 c1 K [(0, x0), (1, x1), (2, x2)] S =
  withN (boxed S (List.length S) (TI.size (tyi Try.prog 54)) x0) S fun x3 S =>
    withV (some (.bool false)) fun x6 =>
    K .normal (ee0 x1 x2 x3) S := nr (by kernel_rfl)
noncomputable def E (b : Nat) (x0 x1 x2 : PV) (S : Store) : RT := execL (C b) 0 code (k0 b) [(0, x0), (1, x1), (2, x2)] S
@[go_sem] theorem E_eq (b : Nat) (x0 x1 x2 : PV) (S : Store) : E b x0 x1 x2 S =
  execL (C b) 0 c1 (k106 b) [(0, x0), (1, x1), (2, x2)] S := nr ((enter_seq code_h (k106_l b)).trans (rfl))
theorem call {x0 x1 x2 : PV} {r : PV × Store} {v : PV} (h : E 0 x0 x1 x2 [] = some r) (hv : fzPV r.2 r.1 = some v) : callL Try.prog hints 89 [x0, x1, x2] = some v := callL_of (fn := Try.f89) (c := code) (by kernel_rfl) (by kernel_rfl) (by decide) (by kernel_rfl) (Nat.le_of_ble_eq_true (by kernel_rfl)) h hv
end F89
/-! ### isochroneref08.well -/
namespace F65
def hint : Hint := { keep := [], loops := [(0, { live := [2, 3, 4, 9, 10], after := [4], own := [], fz := [] })], regs := [(0, [1, 2, 3, 4]), (1, [2, 3, 4, 35]), (2, [8]), (3, [2, 3, 4, 38]), (4, [2, 3, 4, 42, 59]), (5, [8]), (6, [2, 3, 4, 42, 59]), (7, [8]), (8, [2, 3, 4, 76]), (9, [8]), (10, [2, 3, 4, 79]), (11, [8]), (12, [2, 3, 4, 9]), (13, [2, 3, 4, 9, 94, 98]), (14, [2, 3, 4, 9, 94, 98]), (15, [2, 3, 4, 9, 94, 98]), (16, [2, 3, 4, 9, 104]), (17, [8]), (18, [2, 3, 4, 9, 10]), (19, [2, 3, 4, 9, 10, 108]), (20, [2, 3, 4, 9, 10]), (21, [2, 3, 4, 9, 10, 134]), (22, [8]), (23, [4, 136]), (24, [4, 136, 137]), (25, [8]), (26, [4, 136, 155]), (27, [8]), (28, [4, 172]), (29, [8]), (30, [8])] }
noncomputable def C (b : Nat) : Ctx := ctxL Try.prog hints b hint
noncomputable def code : Code := Try.f65.body.get rfl
noncomputable def k0 (b : Nat) : KT := endC Try.prog Try.f65
def ee0 (x1 x2 x3 x4 : PV) : Env := [(1, x1), (2, x2), (3, x3), (4, x4)]
def ee1 (x2 x3 x4 x9 : PV) : Env := [(2, x2), (3, x3), (4, x4), (9, x9)]
def ee2 (x2 x3 x4 x9 x10 : PV) : Env := [(2, x2), (3, x3), (4, x4), (9, x9), (10, x10)]
@[go_sem] theorem gc_ee2 (n : Nat) (x2 x3 x4 x9 x10 : PV) (S : Store) : gc n (ee2 x2 x3 x4 x9 x10) S = gc n [(2, x2), (3, x3), (4, x4), (9, x9), (10, x10)] S := nr (rfl)
def ee3 (x2 x3 x4 x9 x10 x108 : PV) : Env := [(2, x2), (3, x3), (4, x4), (9, x9), (10, x10), (108, x108)]
@[go_sem] theorem gc_ee3 (n : Nat) (x2 x3 x4 x9 x10 x108 : PV) (S : Store) : gc n (ee3 x2 x3 x4 x9 x10 x108) S = gc n [(2, x2), (3, x3), (4, x4), (9, x9), (10, x10), (108, x108)] S := nr (rfl)
def ee4 (x2 x3 x4 x9 x10 x134 : PV) : Env := [(2, x2), (3, x3), (4, x4), (9, x9), (10, x10), (134, x134)]
def ee5 (x2 x3 x4 x9 x94 x98 : PV) : Env := [(2, x2), (3, x3), (4, x4), (9, x9), (94, x94), (98, x98)]
def ee6 (x2 x3 x4 x9 x104 : PV) : Env := [(2, x2), (3, x3), (4, x4), (9, x9), (104, x104)]
def ee7 (x2 x3 x4 x35 : PV) : Env := [(2, x2), (3, x3), (4, x4), (35, x35)]
def ee8 (x2 x3 x4 x38 : PV) : Env := [(2, x2), (3, x3), (4, x4), (38, x38)]
def ee9 (x2 x3 x4 x42 x59 : PV) : Env := [(2, x2), (3, x3), (4, x4), (42, x42), (59, x59)]
def ee10 (x2 x3 x4 x76 : PV) : Env := [(2, x2), (3, x3), (4, x4), (76, x76)]
def ee11 (x2 x3 x4 x79 : PV) : Env := [(2, x2), (3, x3), (4, x4), (79, x79)]
def ee12 (x4 x136 : PV) : Env := [(4, x4), (136, x136)]
def ee13 (x4 x136 x137 : PV) : Env := [(4, x4), (136, x136), (137, x137)]
def ee14 (x4 x136 x155 : PV) : Env := [(4, x4), (136, x136), (155, x155)]
def ee15 (x4 x172 : PV) : Env := [(4, x4), (172, x172)]
def ee16 (x8 : PV) : Env := [(8, x8)]
@[go_sem] theorem k0_ret16 (b : Nat) (x8 : PV) (S : Store) : k0 b .ret (ee16 x8) S = some (x8, S) := nr (by kernel_rfl)
noncomputable def c1 : Code := at0 code
noncomputable def c2 : Code := at1 code
theorem code_h : code = .seq c1 c2 := by kernel_rfl
noncomputable def c3 : Code := at0 c2
noncomputable def c4 : Code := at1 c2
theorem c2_h : c2 = .seq c3 c4 := by kernel_rfl
noncomputable def c5 : Code := at0 c4
noncomputable def c6 : Code := at1 c4
theorem c4_h : c4 = .seq c5 c6 := by kernel_rfl
noncomputable def c7 : Code := at0 c6
noncomputable def c8 : Code := at1 c6
theorem c6_h : c6 = .seq c7 c8 := by kernel_rfl
noncomputable def c9 : Code := at0 c8
noncomputable def c10 : Code := at1 c8
theorem c8_h : c8 = .seq c9 c10 := by kernel_rfl
noncomputable def c11 : Code := at0 c10
noncomputable def c12 : Code := at1 c10
theorem c10_h : c10 = .seq c11 c12 := by kernel_rfl
noncomputable def c13 : Code := at0 c12
noncomputable def c14 : Code := at1 c12
theorem c12_h : c12 = .seq c13 c14 := by kernel_rfl
noncomputable def c15 : Code := at0 c14
noncomputable def c16 : Code := at1 c14
theorem c14_h : c14 = .seq c15 c16 := by kernel_rfl
noncomputable def c17 : Code := at0 c16
noncomputable def c18 : Code := at1 c16
theorem c16_h : c16 = .seq c17 c18 := by kernel_rfl
noncomputable def c19 : Code := at0 c18
noncomputable def c20 : Code := at1 c18
theorem c18_h : c18 = .seq c19 c20 := by kernel_rfl
noncomputable def c21 : Code := at0 c20
noncomputable def c22 : Code := at1 c20
theorem c20_h : c20 = .seq c21 c22 := by kernel_rfl
noncomputable def k23 (b : Nat) : KT := seqC (fun e S => execL (C b) 0 c22 (k0 b) e S) (k0 b)
@[go_sem] theorem k23_n (b : Nat) (x8 : PV) (S : Store) : k23 b .normal (ee16 x8) S =
  (k0 b) .ret (ee16 x8) S := nr ((show k23 b .normal (ee16 x8) S = execL (C b) 0 c22 (k0 b) (ee16 x8) S from seqC_n _ _ _ _).trans (execL_ret (by kernel_rfl)))
theorem k23_l (b : Nat) : seqC (fun e S => execL (C b) 0 c22 (k0 b) e S) (k0 b) = k23 b := rfl
noncomputable def k24 (b : Nat) : KT := seqC (fun e S => execL (C b) 0 c21 (k23 b) e S) (k0 b)
@[go_sem] theorem g25 (b : Nat) (K : KT) (x4 x172 : PV) (S : Store) : execL (C b) 0 c21 K (ee15 x4 x172) S =
  withV (some (.bool true)) fun x8 =>
    K .normal (ee16 x8) S := nr (by kernel_rfl)
@[go_sem] theorem k24_n (b : Nat) (e : Env) (S : Store) : k24 b .normal e S = execL (C b) 0 c21 (k23 b) e S := nr (seqC_n _ _ _ _)
@[go_sem] theorem k24_ret (b : Nat) (e : Env) (S : Store) : k24 b .ret e S = (k0 b) .ret e S := nr (seqC_r _ _ _ _)
theorem k24_l (b : Nat) : seqC (fun e S => execL (C b) 0 c20 (k0 b) e S) (k0 b) = k24 b := link_seq c20_h (k23_l b)
noncomputable def k26 (b : Nat) : KT := seqC (fun e S => execL (C b) 0 c19 (k24 b) e S) (k0 b)
noncomputable def c27 : Code := at0 c19
noncomputable def c28 : Code := at1 c19
theorem c19_h : c19 = .seq c27 c28 := by kernel_rfl
noncomputable def k29 (b : Nat) : KT := seqC (fun e S => execL (C b) 0 c28 (k24 b) e S) (k24 b)
noncomputable def c30 : Code := atB c28
theorem c28_h : c28 = .block 2 c30 := by kernel_rfl
noncomputable def k31 (b : Nat) : KT := blockC 2 (k24 b)
@[go_sem] theorem k31_n (b : Nat) (e : Env) (S : Store) : k31 b .normal e S = (k24 b) .normal e S := nr (blockC_n _ _ _ _)
@[go_sem] theorem k31_ret (b : Nat) (e : Env) (S : Store) : k31 b .ret e S = (k24 b) .ret e S := nr (blockC_r _ _ _ _)
noncomputable def c32 : Code := at0 c30
noncomputable def c33 : Code := at1 c30
theorem c30_h : c30 = .seq c32 c33 := by kernel_rfl
noncomputable def k34 (b : Nat) : KT := seqC (fun e S => execL (C b) 2 c33 (k31 b) e S) (k31 b)
noncomputable def c35 : Code := atT c33
noncomputable def c36 : Code := atF c33
theorem c33_h : c33 = .cond (.tmp 137) c35 c36 := by kernel_rfl
noncomputable def c38 : Code := at0 c35
noncomputable def c39 : Code := at1 c35
theorem c35_h : c35 = .seq c38 c39 := by kernel_rfl
noncomputable def k40 (b : Nat) : KT := seqC (fun e S => execL (C b) 2 c39 (k31 b) e S) (k31 b)
@[go_sem] theorem k40_n (b : Nat) (x8 : PV) (S : Store) : k40 b .normal (ee16 x8) S =
  (k31 b) .ret (ee16 x8) S := nr ((show k40 b .normal (ee16 x8) S = execL (C b) 2 c39 (k31 b) (ee16 x8) S from seqC_n _ _ _ _).trans (execL_ret (by kernel_rfl)))
theorem k40_l (b : Nat) : seqC (fun e S => execL (C b) 2 c39 (k31 b) e S) (k31 b) = k40 b := rfl
@[go_sem] theorem g41 (b : Nat) (K : KT) (x4 x136 x137 : PV) (S : Store) : execL (C b) 2 c38 K (ee13 x4 x136 x137) S =
  withV (evFieldAddr (tyi Try.prog 54) 3 x4) fun x139 =>
    withV (evLoad (tyi Try.prog 52) S x139) fun x140 =>
    withV (indexAddrO Try.prog 52 S x140 (.int .i64 1)) fun x141 =>
    withV (evFieldAddr (tyi Try.prog 54) 0 x141) fun x142 =>
    withV (evLoad (tyi Try.prog 3) S x142) fun x143 =>
    withV (evBin .eql (tyi Try.prog 3) x143 (.int .i64 1)) fun x144 =>
    withV (some x144) fun x145 =>
    withV (gval x145 true (evFieldAddr (tyi Try.prog 54) 3 x4)) fun x146 =>
    withV (gval x145 true (evLoad (tyi Try.prog 52) S x146)) fun x147 =>
    withV (gval x145 true (indexAddrO Try.prog 52 S x147 (.int .i64 1))) fun x148 =>
    withV (gval x145 true (evFieldAddr (tyi Try.prog 54) 2 x148)) fun x149 =>
    withV (gval x145 true (evFieldAddr (tyi Try.prog 51) 1 x149)) fun x150 =>
    withV (gval x145 true (evLoad (tyi Try.prog 49) S x150)) fun x151 =>
    withV (gval x145 true (lenO (tyi Try.prog 49) x151)) fun x152 =>
    withV (gval x145 true (evBin .gtr (tyi Try.prog 3) x152 (.int .i64 0))) fun x153 =>
    withV (pickO x145 x153 (.bool false)) fun x154 =>
    withV (some x154) fun x8 =>
    K .normal (ee16 x8) S := nr (by kernel_rfl)
noncomputable def E37 (b : Nat) (x4 x136 x137 : PV) (S : Store) : RT := execL (C b) 2 c35 (k31 b) (ee13 x4 x136 x137) S
@[go_sem] theorem E37_eq (b : Nat) (x4 x136 x137 : PV) (S : Store) : E37 b x4 x136 x137 S =
  execL (C b) 2 c38 (k40 b) (ee13 x4 x136 x137) S := nr ((enter_seq c35_h (k40_l b)).trans (rfl))
noncomputable def c43 : Code := at0 c36
noncomputable def c44 : Code := at1 c36
theorem c36_h : c36 = .seq c43 c44 := by kernel_rfl
noncomputable def k45 (b : Nat) : KT := seqC (fun e S => execL (C b) 2 c44 (k31 b) e S) (k31 b)
noncomputable def c46 : Code := atT c44
noncomputable def c47 : Code := atF c44
theorem c44_h : c44 = .cond (.tmp 155) c46 c47 := by kernel_rfl
noncomputable def c49 : Code := at0 c46
noncomputable def c50 : Code := at1 c46
theorem c46_h : c46 = .seq c49 c50 := by kernel_rfl
noncomputable def k51 (b : Nat) : KT := seqC (fun e S => execL (C b) 2 c50 (k31 b) e S) (k31 b)
@[go_sem] theorem k51_n (b : Nat) (x8 : PV) (S : Store) : k51 b .normal (ee16 x8) S =
  (k31 b) .ret (ee16 x8) S := nr ((show k51 b .normal (ee16 x8) S = execL (C b) 2 c50 (k31 b) (ee16 x8) S from seqC_n _ _ _ _).trans (execL_ret (by kernel_rfl)))
theorem k51_l (b : Nat) : seqC (fun e S => execL (C b) 2 c50 (k31 b) e S) (k31 b) = k51 b := rfl
@[go_sem] theorem g52 (b : Nat) (K : KT) (x4 x136 x155 : PV) (S : Store) : execL (C b) 2 c49 K (ee14 x4 x136 x155) S =
  withV (evFieldAddr (tyi Try.prog 54) 3 x4) fun x157 =>
    withV (evLoad (tyi Try.prog 52) S x157) fun x158 =>
    withV (indexAddrO Try.prog 52 S x158 (.int .i64 1)) fun x159 =>
    withV (evFieldAddr (tyi Try.prog 54) 0 x159) fun x160 =>
    withV (evLoad (tyi Try.prog 3) S x160) fun x161 =>
    withV (evBin .eql (tyi Try.prog 3) x161 (.int .i64 1)) fun x162 =>
    withV (some x162) fun x163 =>
    withV (gval x163 true (evFieldAddr (tyi Try.prog 54) 3 x4)) fun x164 =>
    withV (gval x163 true (evLoad (tyi Try.prog 52) S x164)) fun x165 =>
    withV (gval x163 true (indexAddrO Try.prog 52 S x165 (.int .i64 1))) fun x166 =>
    withV (gval x163 true (evFieldAddr (tyi Try.prog 54) 2 x166)) fun x167 =>
    withV (gval x163 true (evLoad (tyi Try.prog 51) S x167)) fun x168 =>
    withN (gout x163 true (callO (callL Try.prog hints) S 91 [x168, (.int .i64 20)])) S fun x169 S =>
    withV (gval x163 true (evBin .geq (tyi Try.prog 3) x169 (.int .i64 0))) fun x170 =>
    withV (pickO x163 x170 (.bool false)) fun x171 =>
    withV (some x171) fun x8 =>
    K .normal (ee16 x8) S := nr (by kernel_rfl)
noncomputable def E48 (b : Nat) (x4 x136 x155 : PV) (S : Store) : RT := execL (C b) 2 c46 (k31 b) (ee14 x4 x136 x155) S
@[go_sem] theorem E48_eq (b : Nat) (x4 x136 x155 : PV) (S : Store) : E48 b x4 x136 x155 S =
  execL (C b) 2 c49 (k51 b) (ee14 x4 x136 x155) S := nr ((enter_seq c46_h (k51_l b)).trans (rfl))
noncomputable def c54 : Code := at0 c47
noncomputable def c55 : Code := at1 c47
theorem c47_h : c47 = .seq c54 c55 := by kernel_rfl
noncomputable def k56 (b : Nat) : KT := seqC (fun e S => execL (C b) 2 c55 (k31 b) e S) (k31 b)
noncomputable def c57 : Code := atT c55
noncomputable def c58 : Code := atF c55
theorem c55_h : c55 = .cond (.tmp 172) c57 c58 := by kernel_rfl
noncomputable def c60 : Code := at0 c57
noncomputable def c61 : Code := at1 c57
theorem c57_h : c57 = .seq c60 c61 := by kernel_rfl
noncomputable def k62 (b : Nat) : KT := seqC (fun e S => execL (C b) 2 c61 (k31 b) e S) (k31 b)
@[go_sem] theorem k62_n (b : Nat) (x8 : PV) (S : Store) : k62 b .normal (ee16 x8) S =
  (k31 b) .ret (ee16 x8) S := nr ((show k62 b .normal (ee16 x8) S = execL (C b) 2 c61 (k31 b) (ee16 x8) S from seqC_n _ _ _ _).trans (execL_ret (by kernel_rfl)))
theorem k62_l (b : Nat) : seqC (fun e S => execL (C b) 2 c61 (k31 b) e S) (k31 b) = k62 b := rfl
@[go_sem] theorem g63 (b : Nat) (K : KT) (x4 x172 : PV) (S : Store) : execL (C b) 2 c60 K (ee15 x4 x172) S =
  withV (evFieldAddr (tyi Try.prog 54) 3 x4) fun x174 =>
    withV (evLoad (tyi Try.prog 52) S x174) fun x175 =>
    withV (indexAddrO Try.prog 52 S x175 (.int .i64 0)) fun x176 =>
    withV (evLoad (tyi Try.prog 54) S x176) fun x177 =>
    withN (callO (callL Try.prog hints) S 92 [x177]) S fun x178 S =>
    withV (some x178) fun x8 =>
    K .normal (ee16 x8) S := nr (by kernel_rfl)
noncomputable def E59 (b : Nat) (x4 x172 : PV) (S : Store) : RT := execL (C b) 2 c57 (k31 b) (ee15 x4 x172) S
@[go_sem] theorem E59_eq (b : Nat) (x4 x172 : PV) (S : Store) : E59 b x4 x172 S =
  execL (C b) 2 c60 (k62 b) (ee15 x4 x172) S := nr ((enter_seq c57_h (k62_l b)).trans (rfl))
@[go_sem] theorem k56_n (b : Nat) (x4 x172 : PV) (S : Store) : k56 b .normal (ee15 x4 x172) S =
  condC x172 (E59 b x4 x172 S)
    ((k31 b) .normal (ee15 x4 x172) S) := nr ((show k56 b .normal (ee15 x4 x172) S = execL (C b) 2 c55 (k31 b) (ee15 x4 x172) S from seqC_n _ _ _ _).trans (execL_cond c55_h (rfl) (execL_skip (by kernel_rfl)) rfl))
theorem k56_l (b : Nat) : seqC (fun e S => execL (C b) 2 c55 (k31 b) e S) (k31 b) = k56 b := rfl
@[go_sem] theorem g64 (b : Nat) (K : KT) (x4 x136 x155 : PV) (S : Store) : execL (C b) 2 c54 K (ee14 x4 x136 x155) S =
  withV (evBin .eql (tyi Try.prog 3) x136 (.int .i64 39)) fun x173 =>
    withV (some x173) fun x172 =>
    K .normal (ee15 x4 x172) S := nr (by kernel_rfl)
noncomputable def E53 (b : Nat) (x4 x136 x155 : PV) (S : Store) : RT := execL (C b) 2 c47 (k31 b) (ee14 x4 x136 x155) S
@[go_sem] theorem E53_eq (b : Nat) (x4 x136 x155 : PV) (S : Store) : E53 b x4 x136 x155 S =
  execL (C b) 2 c54 (k56 b) (ee14 x4 x136 x155) S := nr ((enter_seq c47_h (k56_l b)).trans (rfl))
@[go_sem] theorem k45_n (b : Nat) (x4 x136 x155 : PV) (S : Store) : k45 b .normal (ee14 x4 x136 x155) S =
  condC x155 (E48 b x4 x136 x155 S)
    (E53 b x4 x136 x155 S) := nr ((show k45 b .normal (ee14 x4 x136 x155) S = execL (C b) 2 c44 (k31 b) (ee14 x4 x136 x155) S from seqC_n _ _ _ _).trans (execL_cond c44_h (rfl) (rfl) rfl))
theorem k45_l (b : Nat) : seqC (fun e S => execL (C b) 2 c44 (k31 b) e S) (k31 b) = k45 b := rfl
@[go_sem] theorem g65 (b : Nat) (K : KT) (x4 x136 x137 : PV) (S : Store) : execL (C b) 2 c43 K (ee13 x4 x136 x137) S =
  withV (evBin .eql (tyi Try.prog 3) x136 (.int .i64 9)) fun x156 =>
    withV (some x156) fun x155 =>
    K .normal (ee14 x4 x136 x155) S := nr (by kernel_rfl)
noncomputable def E42 (b : Nat) (x4 x136 x137 : PV) (S : Store) : RT := execL (C b) 2 c36 (k31 b) (ee13 x4 x136 x137) S
@[go_sem] theorem E42_eq (b : Nat) (x4 x136 x137 : PV) (S : Store) : E42 b x4 x136 x137 S =
  execL (C b) 2 c43 (k45 b) (ee13 x4 x136 x137) S := nr ((enter_seq c36_h (k45_l b)).trans (rfl))
@[go_sem] theorem k34_n (b : Nat) (x4 x136 x137 : PV) (S : Store) : k34 b .normal (ee13 x4 x136 x137) S =
  condC x137 (E37 b x4 x136 x137 S)
    (E42 b x4 x136 x137 S) := nr ((show k34 b .normal (ee13 x4 x136 x137) S = execL (C b) 2 c33 (k31 b) (ee13 x4 x136 x137) S from seqC_n _ _ _ _).trans (execL_cond c33_h (rfl) (rfl) rfl))
theorem k34_l (b : Nat) : seqC (fun e S => execL (C b) 2 c33 (k31 b) e S) (k31 b) = k34 b := rfl
@[go_sem] theorem g66 (b : Nat) (K : KT) (x4 x136 : PV) (S : Store) : execL (C b) 2 c32 K (ee12 x4 x136) S =
  withV (evBin .eql (tyi Try.prog 3) x136 (.int .i64 8)) fun x138 =>
    withV (some x138) fun x137 =>
    K .normal (ee13 x4 x136 x137) S := nr (by kernel_rfl)
@[go_sem] theorem k29_n (b : Nat) (x4 x136 : PV) (S : Store) : k29 b .normal (ee12 x4 x136) S =
  execL (C b) 2 c32 (k34 b) (ee12 x4 x136) S := nr ((show k29 b .normal (ee12 x4 x136) S = execL (C b) 0 c28 (k24 b) (ee12 x4 x136) S from seqC_n _ _ _ _).trans ((show execL (C b) 0 c28 (k24 b) (ee12 x4 x136) S = execL (C b) 2 c30 (k31 b) (ee12 x4 x136) S from execL_block c28_h).trans ((enter_seq c30_h (k34_l b)).trans (rfl))))
theorem k29_l (b : Nat) : seqC (fun e S => execL (C b) 0 c28 (k24 b) e S) (k24 b) = k29 b := rfl
@[go_sem] theorem g67 (b : Nat) (K : KT) (x2 x3 x4 x9 x10 x108 : PV) (S : Store) : execL (C b) 0 c27 K (ee3 x2 x3 x4 x9 x10 x108) S =
  withV (evFieldAddr (tyi Try.prog 54) 0 x4) fun x135 =>
    withV (evLoad (tyi Try.prog 3) S x135) fun x136 =>
    K .normal (ee12 x4 x136) S := nr (by kernel_rfl)
@[go_sem] theorem k26_n (b : Nat) (x2 x3 x4 x9 x10 x108 : PV) (S : Store) : k26 b .normal (ee3 x2 x3 x4 x9 x10 x108) S =
  execL (C b) 0 c27 (k29 b) (ee3 x2 x3 x4 x9 x10 x108) S := nr ((show k26 b .normal (ee3 x2 x3 x4 x9 x10 x108) S = execL (C b) 0 c19 (k24 b) (ee3 x2 x3 x4 x9 x10 x108) S from seqC_n _ _ _ _).trans ((enter_seq c19_h (k29_l b)).trans (rfl)))
@[go_sem] theorem k26_ret (b : Nat) (e : Env) (S : Store) : k26 b .ret e S = (k0 b) .ret e S := nr (seqC_r _ _ _ _)
theorem k26_l (b : Nat) : seqC (fun e S => execL (C b) 0 c18 (k0 b) e S) (k0 b) = k26 b := link_seq c18_h (k24_l b)
noncomputable def k68 (b : Nat) : KT := seqC (fun e S => execL (C b) 0 c17 (k26 b) e S) (k0 b)
noncomputable def c69 : Code := at0 c17
noncomputable def c70 : Code := at1 c17
theorem c17_h : c17 = .seq c69 c70 := by kernel_rfl
noncomputable def k71 (b : Nat) : KT := seqC (fun e S => execL (C b) 0 c70 (k26 b) e S) (k26 b)
noncomputable def c72 : Code := atB c70
theorem c70_h : c70 = .block 0 c72 := by kernel_rfl
noncomputable def k73 (b : Nat) : KT := blockC 0 (k26 b)
@[go_sem] theorem k73_ret (b : Nat) (e : Env) (S : Store) : k73 b .ret e S = (k26 b) .ret e S := nr (blockC_r _ _ _ _)
@[go_sem] theorem k73_exit (b : Nat) (i : Nat) (e : Env) (S : Store) : k73 b (.exit i) e S = if i = 0 then (k26 b) .normal e S else (k26 b) (.exit i) e S := nr (blockC_x _ _ _ _ _)
noncomputable def c74 : Code := atL c72
noncomputable def k75 (b n0 : Nat) : KT := afterC 0 n0 [4] (k73 b)
noncomputable def L0g (b n0 : Nat) (e : Env) (S : Store) : RT := loopL (fun K e S => execL (C b) 0 c74 K e S) (normG [2, 3, 4, 9, 10] [] n0) (k75 b n0) e S
noncomputable def L0 (b n0 : Nat) (x2 x3 x4 x9 x10 : PV) (S : Store) : RT := L0g b n0 (ee2 x2 x3 x4 x9 x10) S
noncomputable def k76 (b n0 : Nat) : KT := stepC (normG [2, 3, 4, 9, 10] [] n0) (k75 b n0) (L0g b n0)
@[go_sem] theorem k76_n (b n0 : Nat) (x2 x3 x4 x9 x10 : PV) (S : Store) : k76 b n0 .normal (ee2 x2 x3 x4 x9 x10) S = L0 b n0 x2 x3 x4 x9 x10 (gc n0 (ee2 x2 x3 x4 x9 x10) S) := nr (by kernel_rfl)
@[go_sem] theorem k76_ret (b n0 : Nat) (e : Env) (S : Store) : k76 b n0 .ret e S = (k73 b) .ret e S := nr ((show k76 b n0 .ret e S = (k75 b n0) .ret e S from stepC_r _ _ _ _ _).trans (afterC_r _ _ _ _ _ _))
@[go_sem] theorem k76_x1 (b n0 : Nat) (x2 x3 x4 x9 x10 x108 : PV) (S : Store) : k76 b n0 (.exit 0) (ee3 x2 x3 x4 x9 x10 x108) S = (k73 b) (.exit 0) (ee3 .undef .undef x4 .undef .undef .undef) (gc n0 (ee3 .undef .undef x4 .undef .undef .undef) S) := nr ((show k76 b n0 (.exit 0) (ee3 x2 x3 x4 x9 x10 x108) S = (k75 b n0) (.exit 0) (ee3 x2 x3 x4 x9 x10 x108) S from stepC_x _ _ _ _ _ _).trans ((show (k75 b n0) (.exit 0) (ee3 x2 x3 x4 x9 x10 x108) S = _ from afterC_x _ _ _ _ _ _ _).trans (if_pos rfl)))
noncomputable def c77 : Code := at0 c74
noncomputable def c78 : Code := at1 c74
theorem c74_h : c74 = .seq c77 c78 := by kernel_rfl
noncomputable def c79 : Code := at0 c78
noncomputable def c80 : Code := at1 c78
theorem c78_h : c78 = .seq c79 c80 := by kernel_rfl
noncomputable def k81 (b n0 : Nat) : KT := seqC (fun e S => execL (C b) 0 c80 (k76 b n0) e S) (k76 b n0)
@[go_sem] theorem g82 (b : Nat) (K : KT) (x2 x3 x4 x9 x10 x134 : PV) (S : Store) : execL (C b) 0 c80 K (ee4 x2 x3 x4 x9 x10 x134) S =
  withV (some x10) fun x109 =>
    withV (evBin .add (tyi Try.prog 3) x109 (.int .i64 1)) fun x110 =>
    withV (some x110) fun x10 =>
    K .normal (ee2 x2 x3 x4 x9 x10) S := nr (by kernel_rfl)
@[go_sem] theorem k81_n (b n0 : Nat) (e : Env) (S : Store) : k81 b n0 .normal e S = execL (C b) 0 c80 (k76 b n0) e S := nr (seqC_n _ _ _ _)
@[go_sem] theorem k81_ret (b n0 : Nat) (e : Env) (S : Store) : k81 b n0 .ret e S = (k76 b n0) .ret e S := nr (seqC_r _ _ _ _)
theorem k81_l (b n0 : Nat) : seqC (fun e S => execL (C b) 0 c80 (k76 b n0) e S) (k76 b n0) = k81 b n0 := rfl
noncomputable def k83 (b n0 : Nat) : KT := seqC (fun e S => execL (C b) 0 c79 (k81 b n0) e S) (k76 b n0)
noncomputable def c84 : Code := atB c79
theorem c79_h : c79 = .block 1 c84 := by kernel_rfl
noncomputable def k85 (b n0 : Nat) : KT := blockC 1 (k81 b n0)
@[go_sem] theorem k85_n (b n0 : Nat) (e : Env) (S : Store) : k85 b n0 .normal e S = (k81 b n0) .normal e S := nr (blockC_n _ _ _ _)
@[go_sem] theorem k85_ret (b n0 : Nat) (e : Env) (S : Store) : k85 b n0 .ret e S = (k81 b n0) .ret e S := nr (blockC_r _ _ _ _)
noncomputable def c86 : Code := at0 c84
noncomputable def c87 : Code := at1 c84
theorem c84_h : c84 = .seq c86 c87 := by kernel_rfl
noncomputable def k88 (b n0 : Nat) : KT := seqC (fun e S => execL (C b) 1 c87 (k85 b n0) e S) (k85 b n0)
noncomputable def c89 : Code := atT c87
noncomputable def c90 : Code := atF c87
theorem c87_h : c87 = .cond (.tmp 134) c89 c90 := by kernel_rfl
noncomputable def c92 : Code := at0 c89
noncomputable def c93 : Code := at1 c89
theorem c89_h : c89 = .seq c92 c93 := by kernel_rfl
noncomputable def k94 (b n0 : Nat) : KT := seqC (fun e S => execL (C b) 1 c93 (k85 b n0) e S) (k85 b n0)
@[go_sem] theorem k94_n (b n0 : Nat) (x8 : PV) (S : Store) : k94 b n0 .normal (ee16 x8) S =
  (k85 b n0) .ret (ee16 x8) S := nr ((show k94 b n0 .normal (ee16 x8) S = execL (C b) 1 c93 (k85 b n0) (ee16 x8) S from seqC_n _ _ _ _).trans (execL_ret (by kernel_rfl)))
theorem k94_l (b n0 : Nat) : seqC (fun e S => execL (C b) 1 c93 (k85 b n0) e S) (k85 b n0) = k94 b n0 := rfl
@[go_sem] theorem g95 (b : Nat) (K : KT) (x2 x3 x4 x9 x10 x134 : PV) (S : Store) : execL (C b) 1 c92 K (ee4 x2 x3 x4 x9 x10 x134) S =
  withV (some (.bool false)) fun x8 =>
    K .normal (ee16 x8) S := nr (by kernel_rfl)
noncomputable def E91 (b n0 : Nat) (x2 x3 x4 x9 x10 x134 : PV) (S : Store) : RT := execL (C b) 1 c89 (k85 b n0) (ee4 x2 x3 x4 x9 x10 x134) S
@[go_sem] theorem E91_eq (b n0 : Nat) (x2 x3 x4 x9 x10 x134 : PV) (S : Store) : E91 b n0 x2 x3 x4 x9 x10 x134 S =
  execL (C b) 1 c92 (k94 b n0) (ee4 x2 x3 x4 x9 x10 x134) S := nr ((enter_seq c89_h (k94_l b n0)).trans (rfl))
@[go_sem] theorem k88_n (b n0 : Nat) (x2 x3 x4 x9 x10 x134 : PV) (S : Store) : k88 b n0 .normal (ee4 x2 x3 x4 x9 x10 x134) S =
  condC x134 (E91 b n0 x2 x3 x4 x9 x10 x134 S)
    ((k85 b n0) .normal (ee4 x2 x3 x4 x9 x10 x134) S) := nr ((show k88 b n0 .normal (ee4 x2 x3 x4 x9 x10 x134) S = execL (C b) 1 c87 (k85 b n0) (ee4 x2 x3 x4 x9 x10 x134) S from seqC_n _ _ _ _).trans (execL_cond c87_h (rfl) (execL_skip (by kernel_rfl)) rfl))
theorem k88_l (b n0 : Nat) : seqC (fun e S => execL (C b) 1 c87 (k85 b n0) e S) (k85 b n0) = k88 b n0 := rfl
@[go_sem] theorem g96 (b : Nat) (K : KT) (x2 x3 x4 x9 x10 x108 : PV) (S : Store) : execL (C b) 1 c86 K (ee3 x2 x3 x4 x9 x10 x108) S =
  withV (evFieldAddr (tyi Try.prog 54) 3 x4) fun x111 =>
    withV (evLoad (tyi Try.prog 52) S x111) fun x112 =>
    withV (some x10) fun x113 =>
    withV (indexAddrO Try.prog 52 S x112 x113) fun x114 =>
    withV (evLoad (tyi Try.prog 54) S x114) fun x115 =>
    withV (some x9) fun x116 =>
    withV (some x10) fun x117 =>
    withV (indexO Try.prog 9 x116 x117) fun x118 =>
    withV (evBin .sub (tyi Try.prog 5) x118 (.int .u8 48)) fun x119 =>
    withV (convertO Try.prog 5 3 x119) fun x120 =>
    withV (some x2) fun x121 =>
    withV (some x121) fun x122 =>
    withV (gval x122 false (evFieldAddr (tyi Try.prog 54) 0 x4)) fun x123 =>
    withV (gval x122 false (evLoad (tyi Try.prog 3) S x123)) fun x124 =>
    withV (gval x122 false (evBin .eql (tyi Try.prog 3) x124 (.int .i64 12))) fun x125 =>
    withV (pickO x122 (.bool true) x125) fun x126 =>
    withV (some x3) fun x127 =>
    withV (some x127) fun x128 =>
    withV (gval x128 false (evFieldAddr (tyi Try.prog 54) 0 x4)) fun x129 =>
    withV (gval x128 false (evLoad (tyi Try.prog 3) S x129)) fun x130 =>
    withV (gval x128 false (evBin .eql (tyi Try.prog 3) x130 (.int .i64 39))) fun x131 =>
    withV (pickO x128 (.bool true) x131) fun x132 =>
    withN (callO (callL Try.prog hints) S 65 [x115, x120, x126, x132]) S fun x133 S =>
    withV (evUn .not x133) fun x134 =>
    K .normal (ee4 x2 x3 x4 x9 x10 x134) S := nr (by kernel_rfl)
@[go_sem] theorem k83_n (b n0 : Nat) (x2 x3 x4 x9 x10 x108 : PV) (S : Store) : k83 b n0 .normal (ee3 x2 x3 x4 x9 x10 x108) S =
  execL (C b) 1 c86 (k88 b n0) (ee3 x2 x3 x4 x9 x10 x108) S := nr ((show k83 b n0 .normal (ee3 x2 x3 x4 x9 x10 x108) S = execL (C b) 0 c79 (k81 b n0) (ee3 x2 x3 x4 x9 x10 x108) S from seqC_n _ _ _ _).trans ((show execL (C b) 0 c79 (k81 b n0) (ee3 x2 x3 x4 x9 x10 x108) S = execL (C b) 1 c84 (k85 b n0) (ee3 x2 x3 x4 x9 x10 x108) S from execL_block c79_h).trans ((enter_seq c84_h (k88_l b n0)).trans (rfl))))
@[go_sem] theorem k83_exit (b n0 : Nat) (i : Nat) (e : Env) (S : Store) : k83 b n0 (.exit i) e S = (k76 b n0) (.exit i) e S := nr (seqC_x _ _ _ _ _)
theorem k83_l (b n0 : Nat) : seqC (fun e S => execL (C b) 0 c78 (k76 b n0) e S) (k76 b n0) = k83 b n0 := link_seq c78_h (k81_l b n0)
noncomputable def c97 : Code := at0 c77
noncomputable def c98 : Code := at1 c77
theorem c77_h : c77 = .seq c97 c98 := by kernel_rfl
noncomputable def k99 (b n0 : Nat) : KT := seqC (fun e S => execL (C b) 0 c98 (k83 b n0) e S) (k83 b n0)
noncomputable def c100 : Code := atT c98
noncomputable def c101 : Code := atF c98
theorem c98_h : c98 = .cond (.tmp 108) c100 c101 := by kernel_rfl
@[go_sem] theorem k99_n (b n0 : Nat) (x2 x3 x4 x9 x10 x108 : PV) (S : Store) : k99 b n0 .normal (ee3 x2 x3 x4 x9 x10 x108) S =
  condC x108 ((k83 b n0) .normal (ee3 x2 x3 x4 x9 x10 x108) S)
    ((k83 b n0) (.exit 0) (ee3 x2 x3 x4 x9 x10 x108) S) := nr ((show k99 b n0 .normal (ee3 x2 x3 x4 x9 x10 x108) S = execL (C b) 0 c98 (k83 b n0) (ee3 x2 x3 x4 x9 x10 x108) S from seqC_n _ _ _ _).trans (execL_cond c98_h (execL_skip (by kernel_rfl)) (execL_exit (by kernel_rfl)) rfl))
theorem k99_l (b n0 : Nat) : seqC (fun e S => execL (C b) 0 c98 (k83 b n0) e S) (k83 b n0) = k99 b n0 := rfl
@[go_sem] theorem g102 (b : Nat) (K : KT) (x2 x3 x4 x9 x10 : PV) (S : Store) : execL (C b) 0 c97 K (ee2 x2 x3 x4 x9 x10) S =
  withV (some x10) fun x105 =>
    withV (some x9) fun x106 =>
    withV (lenO (tyi Try.prog 9) x106) fun x107 =>
    withV (evBin .lss (tyi Try.prog 3) x105 x107) fun x108 =>
    K .normal (ee3 x2 x3 x4 x9 x10 x108) S := nr (by kernel_rfl)
noncomputable def B0 (b n0 : Nat) (x2 x3 x4 x9 x10 : PV) (S : Store) : RT := execL (C b) 0 c74 (k76 b n0) (ee2 x2 x3 x4 x9 x10) S
@[go_sem] theorem B0_eq (b n0 : Nat) (x2 x3 x4 x9 x10 : PV) (S : Store) : B0 b n0 x2 x3 x4 x9 x10 S =
  execL (C b) 0 c97 (k99 b n0) (ee2 x2 x3 x4 x9 x10) S := nr ((enter_seq c74_h (k83_l b n0)).trans ((enter_seq c77_h (k99_l b n0)).trans (rfl)))
theorem L0_step {b n0 : Nat} {x2 x3 x4 x9 x10 : PV} {S : Store} {z : PV × Store} (h : B0 b n0 x2 x3 x4 x9 x10 S = some z) : L0 b n0 x2 x3 x4 x9 x10 S = some z := loopL_step h
theorem L0_in (b : Nat) (x2 x3 x4 x9 x10 : PV) (S : Store) : execL (C b) 0 c72 (k73 b) (ee2 x2 x3 x4 x9 x10) S = L0 b (List.length S) x2 x3 x4 x9 x10 S := by kernel_rfl
@[go_sem] theorem k71_n (b : Nat) (x2 x3 x4 x9 x10 : PV) (S : Store) : k71 b .normal (ee2 x2 x3 x4 x9 x10) S =
  L0 b (List.length S) x2 x3 x4 x9 x10 S := nr ((show k71 b .normal (ee2 x2 x3 x4 x9 x10) S = execL (C b) 0 c70 (k26 b) (ee2 x2 x3 x4 x9 x10) S from seqC_n _ _ _ _).trans ((show execL (C b) 0 c70 (k26 b) (ee2 x2 x3 x4 x9 x10) S = execL (C b) 0 c72 (k73 b) (ee2 x2 x3 x4 x9 x10) S from execL_block c70_h).trans (L0_in b x2 x3 x4 x9 x10 S)))
theorem k71_l (b : Nat) : seqC (fun e S => execL (C b) 0 c70 (k26 b) e S) (k26 b) = k71 b := rfl
@[go_sem] theorem g104 (b : Nat) (K : KT) (x2 x3 x4 x9 x104 : PV) (S : Store) : execL (C b) 0 c69 K (ee6 x2 x3 x4 x9 x104) S =
  withV (some (.int .i64 0)) fun x10 =>
    K .normal (ee2 x2 x3 x4 x9 x10) S := nr (by kernel_rfl)
@[go_sem] theorem k68_n (b : Nat) (x2 x3 x4 x9 x104 : PV) (S : Store) : k68 b .normal (ee6 x2 x3 x4 x9 x104) S =
  execL (C b) 0 c69 (k71 b) (ee6 x2 x3 x4 x9 x104) S := nr ((show k68 b .normal (ee6 x2 x3 x4 x9 x104) S = execL (C b) 0 c17 (k26 b) (ee6 x2 x3 x4 x9 x104) S from seqC_n _ _ _ _).trans ((enter_seq c17_h (k71_l b)).trans (rfl)))
@[go_sem] theorem k68_ret (b : Nat) (e : Env) (S : Store) : k68 b .ret e S = (k0 b) .ret e S := nr (seqC_r _ _ _ _)
theorem k68_l (b : Nat) : seqC (fun e S => execL (C b) 0 c16 (k0 b) e S) (k0 b) = k68 b := link_seq c16_h (k26_l b)
noncomputable def k105 (b : Nat) : KT := seqC (fun e S => execL (C b) 0 c15 (k68 b) e S) (k0 b)
noncomputable def c106 : Code := at0 c15
noncomputable def c107 : Code := at1 c15
theorem c15_h : c15 = .seq c106 c107 := by kernel_rfl
noncomputable def k108 (b : Nat) : KT := seqC (fun e S => execL (C b) 0 c107 (k68 b) e S) (k68 b)
noncomputable def c109 : Code := atT c107
noncomputable def c110 : Code := atF c107
theorem c107_h : c107 = .cond (.tmp 104) c109 c110 := by kernel_rfl
noncomputable def c112 : Code := at0 c109
noncomputable def c113 : Code := at1 c109
theorem c109_h : c109 = .seq c112 c113 := by kernel_rfl
noncomputable def k114 (b : Nat) : KT := seqC (fun e S => execL (C b) 0 c113 (k68 b) e S) (k68 b)
@[go_sem] theorem k114_n (b : Nat) (x8 : PV) (S : Store) : k114 b .normal (ee16 x8) S =
  (k68 b) .ret (ee16 x8) S := nr ((show k114 b .normal (ee16 x8) S = execL (C b) 0 c113 (k68 b) (ee16 x8) S from seqC_n _ _ _ _).trans (execL_ret (by kernel_rfl)))
theorem k114_l (b : Nat) : seqC (fun e S => execL (C b) 0 c113 (k68 b) e S) (k68 b) = k114 b := rfl
@[go_sem] theorem g115 (b : Nat) (K : KT) (x2 x3 x4 x9 x104 : PV) (S : Store) : execL (C b) 0 c112 K (ee6 x2 x3 x4 x9 x104) S =
  withV (some (.bool false)) fun x8 =>
    K .normal (ee16 x8) S := nr (by kernel_rfl)
noncomputable def E111 (b : Nat) (x2 x3 x4 x9 x104 : PV) (S : Store) : RT := execL (C b) 0 c109 (k68 b) (ee6 x2 x3 x4 x9 x104) S
@[go_sem] theorem E111_eq (b : Nat) (x2 x3 x4 x9 x104 : PV) (S : Store) : E111 b x2 x3 x4 x9 x104 S =
  execL (C b) 0 c112 (k114 b) (ee6 x2 x3 x4 x9 x104) S := nr ((enter_seq c109_h (k114_l b)).trans (rfl))
@[go_sem] theorem k108_n (b : Nat) (x2 x3 x4 x9 x104 : PV) (S : Store) : k108 b .normal (ee6 x2 x3 x4 x9 x104) S =
  condC x104 (E111 b x2 x3 x4 x9 x104 S)
    ((k68 b) .normal (ee6 x2 x3 x4 x9 x104) S) := nr ((show k108 b .normal (ee6 x2 x3 x4 x9 x104) S = execL (C b) 0 c107 (k68 b) (ee6 x2 x3 x4 x9 x104) S from seqC_n _ _ _ _).trans (execL_cond c107_h (rfl) (execL_skip (by kernel_rfl)) rfl))
theorem k108_l (b : Nat) : seqC (fun e S => execL (C b) 0 c107 (k68 b) e S) (k68 b) = k108 b := rfl
@[go_sem] theorem g116 (b : Nat) (K : KT) (x2 x3 x4 x9 x94 x98 : PV) (S : Store) : execL (C b) 0 c106 K (ee5 x2 x3 x4 x9 x94 x98) S =
  withV (some x9) fun x99 =>
    withV (lenO (tyi Try.prog 9) x99) fun x100 =>
    withV (evFieldAddr (tyi Try.prog 54) 3 x4) fun x101 =>
    withV (evLoad (tyi Try.prog 52) S x101) fun x102 =>
    withV (lenO (tyi Try.prog 52) x102) fun x103 =>
    withV (evBin .neq (tyi Try.prog 3) x100 x103) fun x104 =>
    K .normal (ee6 x2 x3 x4 x9 x104) S := nr (by kernel_rfl)
@[go_sem] theorem k105_n (b : Nat) (x2 x3 x4 x9 x94 x98 : PV) (S : Store) : k105 b .normal (ee5 x2 x3 x4 x9 x94 x98) S =
  execL (C b) 0 c106 (k108 b) (ee5 x2 x3 x4 x9 x94 x98) S := nr ((show k105 b .normal (ee5 x2 x3 x4 x9 x94 x98) S = execL (C b) 0 c15 (k68 b) (ee5 x2 x3 x4 x9 x94 x98) S from seqC_n _ _ _ _).trans ((enter_seq c15_h (k108_l b)).trans (rfl)))
theorem k105_l (b : Nat) : seqC (fun e S => execL (C b) 0 c14 (k0 b) e S) (k0 b) = k105 b := link_seq c14_h (k68_l b)
noncomputable def k117 (b : Nat) : KT := seqC (fun e S => execL (C b) 0 c13 (k105 b) e S) (k0 b)
noncomputable def c118 : Code := at0 c13
noncomputable def c119 : Code := at1 c13
theorem c13_h : c13 = .seq c118 c119 := by kernel_rfl
noncomputable def k120 (b : Nat) : KT := seqC (fun e S => execL (C b) 0 c119 (k105 b) e S) (k105 b)
noncomputable def c121 : Code := atT c119
noncomputable def c122 : Code := atF c119
theorem c119_h : c119 = .cond (.tmp 94) c121 c122 := by kernel_rfl
noncomputable def c124 : Code := at0 c121
noncomputable def c125 : Code := at1 c121
theorem c121_h : c121 = .seq c124 c125 := by kernel_rfl
noncomputable def k126 (b : Nat) : KT := seqC (fun e S => execL (C b) 0 c125 (k105 b) e S) (k105 b)
noncomputable def c127 : Code := atT c125
noncomputable def c128 : Code := atF c125
theorem c125_h : c125 = .cond (.tmp 98) c127 c128 := by kernel_rfl
@[go_sem] theorem g130 (b : Nat) (K : KT) (x2 x3 x4 x9 x94 x98 : PV) (S : Store) : execL (C b) 0 c127 K (ee5 x2 x3 x4 x9 x94 x98) S =
  withV (some (.str ⟨#[49]⟩)) fun x9 =>
    K .normal (ee5 x2 x3 x4 x9 x94 x98) S := nr (by kernel_rfl)
noncomputable def E129 (b : Nat) (x2 x3 x4 x9 x94 x98 : PV) (S : Store) : RT := execL (C b) 0 c127 (k105 b) (ee5 x2 x3 x4 x9 x94 x98) S
@[go_sem] theorem E129_eq (b : Nat) (x2 x3 x4 x9 x94 x98 : PV) (S : Store) : E129 b x2 x3 x4 x9 x94 x98 S =
  execL (C b) 0 c127 (k105 b) (ee5 x2 x3 x4 x9 x94 x98) S := nr (rfl)
@[go_sem] theorem k126_n (b : Nat) (x2 x3 x4 x9 x94 x98 : PV) (S : Store) : k126 b .normal (ee5 x2 x3 x4 x9 x94 x98) S =
  condC x98 (E129 b x2 x3 x4 x9 x94 x98 S)
    ((k105 b) .normal (ee5 x2 x3 x4 x9 x94 x98) S) := nr ((show k126 b .normal (ee5 x2 x3 x4 x9 x94 x98) S = execL (C b) 0 c125 (k105 b) (ee5 x2 x3 x4 x9 x94 x98) S from seqC_n _ _ _ _).trans (execL_cond c125_h (rfl) (execL_skip (by kernel_rfl)) rfl))
theorem k126_l (b : Nat) : seqC (fun e S => execL (C b) 0 c125 (k105 b) e S) (k105 b) = k126 b := rfl
@[go_sem] theorem g131 (b : Nat) (K : KT) (x2 x3 x4 x9 x94 x98 : PV) (S : Store) : execL (C b) 0 c124 K (ee5 x2 x3 x4 x9 x94 x98) S =
  withV (evFieldAddr (tyi Try.prog 54) 3 x4) fun x95 =>
    withV (evLoad (tyi Try.prog 52) S x95) fun x96 =>
    withV (lenO (tyi Try.prog 52) x96) fun x97 =>
    withV (evBin .eql (tyi Try.prog 3) x97 (.int .i64 1)) fun x98 =>
    K .normal (ee5 x2 x3 x4 x9 x94 x98) S := nr (by kernel_rfl)
noncomputable def E123 (b : Nat) (x2 x3 x4 x9 x94 x98 : PV) (S : Store) : RT := execL (C b) 0 c121 (k105 b) (ee5 x2 x3 x4 x9 x94 x98) S
@[go_sem] theorem E123_eq (b : Nat) (x2 x3 x4 x9 x94 x98 : PV) (S : Store) : E123 b x2 x3 x4 x9 x94 x98 S =
  execL (C b) 0 c124 (k126 b) (ee5 x2 x3 x4 x9 x94 x98) S := nr ((enter_seq c121_h (k126_l b)).trans (rfl))
@[go_sem] theorem k120_n (b : Nat) (x2 x3 x4 x9 x94 x98 : PV) (S : Store) : k120 b .normal (ee5 x2 x3 x4 x9 x94 x98) S =
  condC x94 (E123 b x2 x3 x4 x9 x94 x98 S)
    ((k105 b) .normal (ee5 x2 x3 x4 x9 x94 x98) S) := nr ((show k120 b .normal (ee5 x2 x3 x4 x9 x94 x98) S = execL (C b) 0 c119 (k105 b) (ee5 x2 x3 x4 x9 x94 x98) S from seqC_n _ _ _ _).trans (execL_cond c119_h (rfl) (execL_skip (by kernel_rfl)) rfl))
theorem k120_l (b : Nat) : seqC (fun e S => execL (C b) 0 c119 (k105 b) e S) (k105 b) = k120 b := rfl
@[go_sem] theorem g132 (b : Nat) (K : KT) (x2 x3 x4 x9 : PV) (S : Store) : execL (C b) 0 c118 K (ee1 x2 x3 x4 x9) S =
  withV (evFieldAddr (tyi Try.prog 54) 0 x4) fun x87 =>
    withV (evLoad (tyi Try.prog 3) S x87) fun x88 =>
    withV (evBin .eql (tyi Try.prog 3) x88 (.int .i64 10)) fun x89 =>
    withV (some x89) fun x90 =>
    withV (gval x90 false (evFieldAddr (tyi Try.prog 54) 0 x4)) fun x91 =>
    withV (gval x90 false (evLoad (tyi Try.prog 3) S x91)) fun x92 =>
    withV (gval x90 false (evBin .eql (tyi Try.prog 3) x92 (.int .i64 37))) fun x93 =>
    withV (pickO x90 (.bool true) x93) fun x94 =>
    K .normal (ee5 x2 x3 x4 x9 x94 .undef) S := nr (by kernel_rfl)
@[go_sem] theorem k117_n (b : Nat) (x2 x3 x4 x9 : PV) (S : Store) : k117 b .normal (ee1 x2 x3 x4 x9) S =
  execL (C b) 0 c118 (k120 b) (ee1 x2 x3 x4 x9) S := nr ((show k117 b .normal (ee1 x2 x3 x4 x9) S = execL (C b) 0 c13 (k105 b) (ee1 x2 x3 x4 x9) S from seqC_n _ _ _ _).trans ((enter_seq c13_h (k120_l b)).trans (rfl)))
theorem k117_l (b : Nat) : seqC (fun e S => execL (C b) 0 c12 (k0 b) e S) (k0 b) = k117 b := link_seq c12_h (k105_l b)
noncomputable def k133 (b : Nat) : KT := seqC (fun e S => execL (C b) 0 c11 (k117 b) e S) (k0 b)
@[go_sem] theorem g134 (b : Nat) (K : KT) (x2 x3 x4 x79 : PV) (S : Store) : execL (C b) 0 c11 K (ee11 x2 x3 x4 x79) S =
  withV (evFieldAddr (tyi Try.prog 54) 0 x4) fun x84 =>
    withV (evLoad (tyi Try.prog 3) S x84) fun x85 =>
    withN (callO (callL Try.prog hints) S 90 [x85]) S fun x86 S =>
    withV (some x86) fun x9 =>
    K .normal (ee1 x2 x3 x4 x9) S := nr (by kernel_rfl)
@[go_sem] theorem k133_n (b : Nat) (e : Env) (S : Store) : k133 b .normal e S = execL (C b) 0 c11 (k117 b) e S := nr (seqC_n _ _ _ _)
@[go_sem] theorem k133_ret (b : Nat) (e : Env) (S : Store) : k133 b .ret e S = (k0 b) .ret e S := nr (seqC_r _ _ _ _)
theorem k133_l (b : Nat) : seqC (fun e S => execL (C b) 0 c10 (k0 b) e S) (k0 b) = k133 b := link_seq c10_h (k117_l b)
noncomputable def k135 (b : Nat) : KT := seqC (fun e S => execL (C b) 0 c9 (k133 b) e S) (k0 b)
noncomputable def c136 : Code := at0 c9
noncomputable def c137 : Code := at1 c9
theorem c9_h : c9 = .seq c136 c137 := by kernel_rfl
noncomputable def k138 (b : Nat) : KT := seqC (fun e S => execL (C b) 0 c137 (k133 b) e S) (k133 b)
noncomputable def c139 : Code := atT c137
noncomputable def c140 : Code := atF c137
theorem c137_h : c137 = .cond (.tmp 79) c139 c140 := by kernel_rfl
noncomputable def c142 : Code := at0 c139
noncomputable def c143 : Code := at1 c139
theorem c139_h : c139 = .seq c142 c143 := by kernel_rfl
noncomputable def k144 (b : Nat) : KT := seqC (fun e S => execL (C b) 0 c143 (k133 b) e S) (k133 b)
@[go_sem] theorem k144_n (b : Nat) (x8 : PV) (S : Store) : k144 b .normal (ee16 x8) S =
  (k133 b) .ret (ee16 x8) S := nr ((show k144 b .normal (ee16 x8) S = execL (C b) 0 c143 (k133 b) (ee16 x8) S from seqC_n _ _ _ _).trans (execL_ret (by kernel_rfl)))
theorem k144_l (b : Nat) : seqC (fun e S => execL (C b) 0 c143 (k133 b) e S) (k133 b) = k144 b := rfl
@[go_sem] theorem g145 (b : Nat) (K : KT) (x2 x3 x4 x79 : PV) (S : Store) : execL (C b) 0 c142 K (ee11 x2 x3 x4 x79) S =
  withV (evLoad (tyi Try.prog 54) S x4) fun x80 =>
    withV (some x2) fun x81 =>
    withV (some x3) fun x82 =>
    withN (callO (callL Try.prog hints) S 89 [x80, x81, x82]) S fun x83 S =>
    withV (some x83) fun x8 =>
    K .normal (ee16 x8) S := nr (by kernel_rfl)
noncomputable def E141 (b : Nat) (x2 x3 x4 x79 : PV) (S : Store) : RT := execL (C b) 0 c139 (k133 b) (ee11 x2 x3 x4 x79) S
@[go_sem] theorem E141_eq (b : Nat) (x2 x3 x4 x79 : PV) (S : Store) : E141 b x2 x3 x4 x79 S =
  execL (C b) 0 c142 (k144 b) (ee11 x2 x3 x4 x79) S := nr ((enter_seq c139_h (k144_l b)).trans (rfl))
@[go_sem] theorem k138_n (b : Nat) (x2 x3 x4 x79 : PV) (S : Store) : k138 b .normal (ee11 x2 x3 x4 x79) S =
  condC x79 (E141 b x2 x3 x4 x79 S)
    ((k133 b) .normal (ee11 x2 x3 x4 x79) S) := nr ((show k138 b .normal (ee11 x2 x3 x4 x79) S = execL (C b) 0 c137 (k133 b) (ee11 x2 x3 x4 x79) S from seqC_n _ _ _ _).trans (execL_cond c137_h (rfl) (execL_skip (by kernel_rfl)) rfl))
theorem k138_l (b : Nat) : seqC (fun e S => execL (C b) 0 c137 (k133 b) e S) (k133 b) = k138 b := rfl
@[go_sem] theorem g146 (b : Nat) (K : KT) (x2 x3 x4 x76 : PV) (S : Store) : execL (C b) 0 c136 K (ee10 x2 x3 x4 x76) S =
  withV (evFieldAddr (tyi Try.prog 54) 0 x4) fun x77 =>
    withV (evLoad (tyi Try.prog 3) S x77) fun x78 =>
    withV (evBin .eql (tyi Try.prog 3) x78 (.int .i64 54)) fun x79 =>
    K .normal (ee11 x2 x3 x4 x79) S := nr (by kernel_rfl)
@[go_sem] theorem k135_n (b : Nat) (x2 x3 x4 x76 : PV) (S : Store) : k135 b .normal (ee10 x2 x3 x4 x76) S =
  execL (C b) 0 c136 (k138 b) (ee10 x2 x3 x4 x76) S := nr ((show k135 b .normal (ee10 x2 x3 x4 x76) S = execL (C b) 0 c9 (k133 b) (ee10 x2 x3 x4 x76) S from seqC_n _ _ _ _).trans ((enter_seq c9_h (k138_l b)).trans (rfl)))
@[go_sem] theorem k135_ret (b : Nat) (e : Env) (S : Store) : k135 b .ret e S = (k0 b) .ret e S := nr (seqC_r _ _ _ _)
theorem k135_l (b : Nat) : seqC (fun e S => execL (C b) 0 c8 (k0 b) e S) (k0 b) = k135 b := link_seq c8_h (k133_l b)
noncomputable def k147 (b : Nat) : KT := seqC (fun e S => execL (C b) 0 c7 (k135 b) e S) (k0 b)
noncomputable def c148 : Code := at0 c7
noncomputable def c149 : Code := at1 c7
theorem c7_h : c7 = .seq c148 c149 := by kernel_rfl
noncomputable def k150 (b : Nat) : KT := seqC (fun e S => execL (C b) 0 c149 (k135 b) e S) (k135 b)
noncomputable def c151 : Code := atT c149
noncomputable def c152 : Code := atF c149
theorem c149_h : c149 = .cond (.tmp 76) c151 c152 := by kernel_rfl
noncomputable def c154 : Code := at0 c151
noncomputable def c155 : Code := at1 c151
theorem c151_h : c151 = .seq c154 c155 := by kernel_rfl
noncomputable def k156 (b : Nat) : KT := seqC (fun e S => execL (C b) 0 c155 (k135 b) e S) (k135 b)
@[go_sem] theorem k156_n (b : Nat) (x8 : PV) (S : Store) : k156 b .normal (ee16 x8) S =
  (k135 b) .ret (ee16 x8) S := nr ((show k156 b .normal (ee16 x8) S = execL (C b) 0 c155 (k135 b) (ee16 x8) S from seqC_n _ _ _ _).trans (execL_ret (by kernel_rfl)))
theorem k156_l (b : Nat) : seqC (fun e S => execL (C b) 0 c155 (k135 b) e S) (k135 b) = k156 b := rfl
@[go_sem] theorem g157 (b : Nat) (K : KT) (x2 x3 x4 x76 : PV) (S : Store) : execL (C b) 0 c154 K (ee10 x2 x3 x4 x76) S =
  withV (some (.bool false)) fun x8 =>
    K .normal (ee16 x8) S := nr (by kernel_rfl)
noncomputable def E153 (b : Nat) (x2 x3 x4 x76 : PV) (S : Store) : RT := execL (C b) 0 c151 (k135 b) (ee10 x2 x3 x4 x76) S
@[go_sem] theorem E153_eq (b : Nat) (x2 x3 x4 x76 : PV) (S : Store) : E153 b x2 x3 x4 x76 S =
  execL (C b) 0 c154 (k156 b) (ee10 x2 x3 x4 x76) S := nr ((enter_seq c151_h (k156_l b)).trans (rfl))
@[go_sem] theorem k150_n (b : Nat) (x2 x3 x4 x76 : PV) (S : Store) : k150 b .normal (ee10 x2 x3 x4 x76) S =
  condC x76 (E153 b x2 x3 x4 x76 S)
    ((k135 b) .normal (ee10 x2 x3 x4 x76) S) := nr ((show k150 b .normal (ee10 x2 x3 x4 x76) S = execL (C b) 0 c149 (k135 b) (ee10 x2 x3 x4 x76) S from seqC_n _ _ _ _).trans (execL_cond c149_h (rfl) (execL_skip (by kernel_rfl)) rfl))
theorem k150_l (b : Nat) : seqC (fun e S => execL (C b) 0 c149 (k135 b) e S) (k135 b) = k150 b := rfl
@[go_sem] theorem g158 (b : Nat) (K : KT) (x2 x3 x4 x42 x59 : PV) (S : Store) : execL (C b) 0 c148 K (ee9 x2 x3 x4 x42 x59) S =
  withV (some x2) fun x60 =>
    withV (some x60) fun x61 =>
    withV (gval x61 true (evFieldAddr (tyi Try.prog 54) 0 x4)) fun x62 =>
    withV (gval x61 true (evLoad (tyi Try.prog 3) S x62)) fun x63 =>
    withV (gval x61 true (evBin .eql (tyi Try.prog 3) x63 (.int .i64 12))) fun x64 =>
    withV (pickO x61 x64 (.bool false)) fun x65 =>
    withV (some x65) fun x66 =>
    withV (gval x66 false (some x2)) fun x67 =>
    withV (gval x66 false (some x67)) fun x68 =>
    withV (gval x68 false (some x3)) fun x69 =>
    withV (gval x66 false (pickO x68 (.bool true) x69)) fun x70 =>
    withV (gval x66 false (some x70)) fun x71 =>
    withV (gval x71 true (evFieldAddr (tyi Try.prog 54) 0 x4)) fun x72 =>
    withV (gval x71 true (evLoad (tyi Try.prog 3) S x72)) fun x73 =>
    withV (gval x71 true (evBin .eql (tyi Try.prog 3) x73 (.int .i64 3))) fun x74 =>
    withV (gval x66 false (pickO x71 x74 (.bool false))) fun x75 =>
    withV (pickO x66 (.bool true) x75) fun x76 =>
    K .normal (ee10 x2 x3 x4 x76) S := nr (by kernel_rfl)
@[go_sem] theorem k147_n (b : Nat) (x2 x3 x4 x42 x59 : PV) (S : Store) : k147 b .normal (ee9 x2 x3 x4 x42 x59) S =
  execL (C b) 0 c148 (k150 b) (ee9 x2 x3 x4 x42 x59) S := nr ((show k147 b .normal (ee9 x2 x3 x4 x42 x59) S = execL (C b) 0 c7 (k135 b) (ee9 x2 x3 x4 x42 x59) S from seqC_n _ _ _ _).trans ((enter_seq c7_h (k150_l b)).trans (rfl)))
@[go_sem] theorem k147_ret (b : Nat) (e : Env) (S : Store) : k147 b .ret e S = (k0 b) .ret e S := nr (seqC_r _ _ _ _)
theorem k147_l (b : Nat) : seqC (fun e S => execL (C b) 0 c6 (k0 b) e S) (k0 b) = k147 b := link_seq c6_h (k135_l b)
noncomputable def k159 (b : Nat) : KT := seqC (fun e S => execL (C b) 0 c5 (k147 b) e S) (k0 b)
noncomputable def c160 : Code := at0 c5
noncomputable def c161 : Code := at1 c5
theorem c5_h : c5 = .seq c160 c161 := by kernel_rfl
noncomputable def k162 (b : Nat) : KT := seqC (fun e S => execL (C b) 0 c161 (k147 b) e S) (k147 b)
noncomputable def c163 : Code := atT c161
noncomputable def c164 : Code := atF c161
theorem c161_h : c161 = .cond (.tmp 38) c163 c164 := by kernel_rfl
noncomputable def c166 : Code := at0 c163
noncomputable def c167 : Code := at1 c163
theorem c163_h : c163 = .seq c166 c167 := by kernel_rfl
noncomputable def k168 (b : Nat) : KT := seqC (fun e S => execL (C b) 0 c167 (k147 b) e S) (k147 b)
noncomputable def c169 : Code := atT c167
noncomputable def c170 : Code := atF c167
theorem c167_h : c167 = .cond (.tmp 42) c169 c170 := by kernel_rfl
noncomputable def c172 : Code := at0 c169
noncomputable def c173 : Code := at1 c169
theorem c169_h : c169 = .seq c172 c173 := by kernel_rfl
noncomputable def k174 (b : Nat) : KT := seqC (fun e S => execL (C b) 0 c173 (k147 b) e S) (k147 b)
@[go_sem] theorem k174_n (b : Nat) (x8 : PV) (S : Store) : k174 b .normal (ee16 x8) S =
  (k147 b) .ret (ee16 x8) S := nr ((show k174 b .normal (ee16 x8) S = execL (C b) 0 c173 (k147 b) (ee16 x8) S from seqC_n _ _ _ _).trans (execL_ret (by kernel_rfl)))
theorem k174_l (b : Nat) : seqC (fun e S => execL (C b) 0 c173 (k147 b) e S) (k147 b) = k174 b := rfl
@[go_sem] theorem g175 (b : Nat) (K : KT) (x2 x3 x4 x42 x59 : PV) (S : Store) : execL (C b) 0 c172 K (ee9 x2 x3 x4 x42 x59) S =
  withV (some (.bool false)) fun x8 =>
    K .normal (ee16 x8) S := nr (by kernel_rfl)
noncomputable def E171 (b : Nat) (x2 x3 x4 x42 x59 : PV) (S : Store) : RT := execL (C b) 0 c169 (k147 b) (ee9 x2 x3 x4 x42 x59) S
@[go_sem] theorem E171_eq (b : Nat) (x2 x3 x4 x42 x59 : PV) (S : Store) : E171 b x2 x3 x4 x42 x59 S =
  execL (C b) 0 c172 (k174 b) (ee9 x2 x3 x4 x42 x59) S := nr ((enter_seq c169_h (k174_l b)).trans (rfl))
@[go_sem] theorem k168_n (b : Nat) (x2 x3 x4 x42 x59 : PV) (S : Store) : k168 b .normal (ee9 x2 x3 x4 x42 x59) S =
  condC x42 (E171 b x2 x3 x4 x42 x59 S)
    ((k147 b) .normal (ee9 x2 x3 x4 x42 x59) S) := nr ((show k168 b .normal (ee9 x2 x3 x4 x42 x59) S = execL (C b) 0 c167 (k147 b) (ee9 x2 x3 x4 x42 x59) S from seqC_n _ _ _ _).trans (execL_cond c167_h (rfl) (execL_skip (by kernel_rfl)) rfl))
theorem k168_l (b : Nat) : seqC (fun e S => execL (C b) 0 c167 (k147 b) e S) (k147 b) = k168 b := rfl
@[go_sem] theorem g176 (b : Nat) (K : KT) (x2 x3 x4 x38 : PV) (S : Store) : execL (C b) 0 c166 K (ee8 x2 x3 x4 x38) S =
  withV (evFieldAddr (tyi Try.prog 54) 2 x4) fun x39 =>
    withV (evLoad (tyi Try.prog 51) S x39) fun x40 =>
    withN (callO (callL Try.prog hints) S 88 [x40]) S fun x41 S =>
    withV (evUn .not x41) fun x42 =>
    K .normal (ee9 x2 x3 x4 x42 .undef) S := nr (by kernel_rfl)
noncomputable def E165 (b : Nat) (x2 x3 x4 x38 : PV) (S : Store) : RT := execL (C b) 0 c163 (k147 b) (ee8 x2 x3 x4 x38) S
@[go_sem] theorem E165_eq (b : Nat) (x2 x3 x4 x38 : PV) (S : Store) : E165 b x2 x3 x4 x38 S =
  execL (C b) 0 c166 (k168 b) (ee8 x2 x3 x4 x38) S := nr ((enter_seq c163_h (k168_l b)).trans (rfl))
noncomputable def c178 : Code := at0 c164
noncomputable def c179 : Code := at1 c164
theorem c164_h : c164 = .seq c178 c179 := by kernel_rfl
noncomputable def k180 (b : Nat) : KT := seqC (fun e S => execL (C b) 0 c179 (k147 b) e S) (k147 b)
noncomputable def c181 : Code := atT c179
noncomputable def c182 : Code := atF c179
theorem c179_h : c179 = .cond (.tmp 59) c181 c182 := by kernel_rfl
noncomputable def c184 : Code := at0 c181
noncomputable def c185 : Code := at1 c181
theorem c181_h : c181 = .seq c184 c185 := by kernel_rfl
noncomputable def k186 (b : Nat) : KT := seqC (fun e S => execL (C b) 0 c185 (k147 b) e S) (k147 b)
@[go_sem] theorem k186_n (b : Nat) (x8 : PV) (S : Store) : k186 b .normal (ee16 x8) S =
  (k147 b) .ret (ee16 x8) S := nr ((show k186 b .normal (ee16 x8) S = execL (C b) 0 c185 (k147 b) (ee16 x8) S from seqC_n _ _ _ _).trans (execL_ret (by kernel_rfl)))
theorem k186_l (b : Nat) : seqC (fun e S => execL (C b) 0 c185 (k147 b) e S) (k147 b) = k186 b := rfl
@[go_sem] theorem g187 (b : Nat) (K : KT) (x2 x3 x4 x42 x59 : PV) (S : Store) : execL (C b) 0 c184 K (ee9 x2 x3 x4 x42 x59) S =
  withV (some (.bool false)) fun x8 =>
    K .normal (ee16 x8) S := nr (by kernel_rfl)
noncomputable def E183 (b : Nat) (x2 x3 x4 x42 x59 : PV) (S : Store) : RT := execL (C b) 0 c181 (k147 b) (ee9 x2 x3 x4 x42 x59) S
@[go_sem] theorem E183_eq (b : Nat) (x2 x3 x4 x42 x59 : PV) (S : Store) : E183 b x2 x3 x4 x42 x59 S =
  execL (C b) 0 c184 (k186 b) (ee9 x2 x3 x4 x42 x59) S := nr ((enter_seq c181_h (k186_l b)).trans (rfl))
@[go_sem] theorem k180_n (b : Nat) (x2 x3 x4 x42 x59 : PV) (S : Store) : k180 b .normal (ee9 x2 x3 x4 x42 x59) S =
  condC x59 (E183 b x2 x3 x4 x42 x59 S)
    ((k147 b) .normal (ee9 x2 x3 x4 x42 x59) S) := nr ((show k180 b .normal (ee9 x2 x3 x4 x42 x59) S = execL (C b) 0 c179 (k147 b) (ee9 x2 x3 x4 x42 x59) S from seqC_n _ _ _ _).trans (execL_cond c179_h (rfl) (execL_skip (by kernel_rfl)) rfl))
theorem k180_l (b : Nat) : seqC (fun e S => execL (C b) 0 c179 (k147 b) e S) (k147 b) = k180 b := rfl
@[go_sem] theorem g188 (b : Nat) (K : KT) (x2 x3 x4 x38 : PV) (S : Store) : execL (C b) 0 c178 K (ee8 x2 x3 x4 x38) S =
  withV (evFieldAddr (tyi Try.prog 54) 2 x4) fun x43 =>
    withV (evFieldAddr (tyi Try.prog 51) 0 x43) fun x44 =>
    withV (evLoad (tyi Try.prog 4) S x44) fun x45 =>
    withV (some x45) fun x46 =>
    withV (gval x46 false (evFieldAddr (tyi Try.prog 54) 2 x4)) fun x47 =>
    withV (gval x46 false (evFieldAddr (tyi Try.prog 51) 1 x47)) fun x48 =>
    withV (gval x46 false (evLoad (tyi Try.prog 49) S x48)) fun x49 =>
    withV (gval x46 false (lenO (tyi Try.prog 49) x49)) fun x50 =>
    withV (gval x46 false (evBin .gtr (tyi Try.prog 3) x50 (.int .i64 0))) fun x51 =>
    withV (pickO x46 (.bool true) x51) fun x52 =>
    withV (some x52) fun x53 =>
    withV (gval x53 false (evFieldAddr (tyi Try.prog 54) 2 x4)) fun x54 =>
    withV (gval x53 false (evFieldAddr (tyi Try.prog 51) 2 x54)) fun x55 =>
    withV (gval x53 false (evLoad (tyi Try.prog 49) S x55)) fun x56 =>
    withV (gval x53 false (lenO (tyi Try.prog 49) x56)) fun x57 =>
    withV (gval x53 false (evBin .gtr (tyi Try.prog 3) x57 (.int .i64 0))) fun x58 =>
    withV (pickO x53 (.bool true) x58) fun x59 =>
    K .normal (ee9 x2 x3 x4 .undef x59) S := nr (by kernel_rfl)
noncomputable def E177 (b : Nat) (x2 x3 x4 x38 : PV) (S : Store) : RT := execL (C b) 0 c164 (k147 b) (ee8 x2 x3 x4 x38) S
@[go_sem] theorem E177_eq (b : Nat) (x2 x3 x4 x38 : PV) (S : Store) : E177 b x2 x3 x4 x38 S =
  execL (C b) 0 c178 (k180 b) (ee8 x2 x3 x4 x38) S := nr ((enter_seq c164_h (k180_l b)).trans (rfl))
@[go_sem] theorem k162_n (b : Nat) (x2 x3 x4 x38 : PV) (S : Store) : k162 b .normal (ee8 x2 x3 x4 x38) S =
  condC x38 (E165 b x2 x3 x4 x38 S)
    (E177 b x2 x3 x4 x38 S) := nr ((show k162 b .normal (ee8 x2 x3 x4 x38) S = execL (C b) 0 c161 (k147 b) (ee8 x2 x3 x4 x38) S from seqC_n _ _ _ _).trans (execL_cond c161_h (rfl) (rfl) rfl))
theorem k162_l (b : Nat) : seqC (fun e S => execL (C b) 0 c161 (k147 b) e S) (k147 b) = k162 b := rfl
@[go_sem] theorem g189 (b : Nat) (K : KT) (x2 x3 x4 x35 : PV) (S : Store) : execL (C b) 0 c160 K (ee7 x2 x3 x4 x35) S =
  withV (evFieldAddr (tyi Try.prog 54) 0 x4) fun x36 =>
    withV (evLoad (tyi Try.prog 3) S x36) fun x37 =>
    withV (evBin .eql (tyi Try.prog 3) x37 (.int .i64 1)) fun x38 =>
    K .normal (ee8 x2 x3 x4 x38) S := nr (by kernel_rfl)
@[go_sem] theorem k159_n (b : Nat) (x2 x3 x4 x35 : PV) (S : Store) : k159 b .normal (ee7 x2 x3 x4 x35) S =
  execL (C b) 0 c160 (k162 b) (ee7 x2 x3 x4 x35) S := nr ((show k159 b .normal (ee7 x2 x3 x4 x35) S = execL (C b) 0 c5 (k147 b) (ee7 x2 x3 x4 x35) S from seqC_n _ _ _ _).trans ((enter_seq c5_h (k162_l b)).trans (rfl)))
@[go_sem] theorem k159_ret (b : Nat) (e : Env) (S : Store) : k159 b .ret e S = (k0 b) .ret e S := nr (seqC_r _ _ _ _)
theorem k159_l (b : Nat) : seqC (fun e S => execL (C b) 0 c4 (k0 b) e S) (k0 b) = k159 b := link_seq c4_h (k147_l b)
noncomputable def k190 (b : Nat) : KT := seqC (fun e S => execL (C b) 0 c3 (k159 b) e S) (k0 b)
noncomputable def c191 : Code := at0 c3
noncomputable def c192 : Code := at1 c3
theorem c3_h : c3 = .seq c191 c192 := by kernel_rfl
noncomputable def k193 (b : Nat) : KT := seqC (fun e S => execL (C b) 0 c192 (k159 b) e S) (k159 b)
noncomputable def c194 : Code := atT c192
noncomputable def c195 : Code := atF c192
theorem c192_h : c192 = .cond (.tmp 35) c194 c195 := by kernel_rfl
noncomputable def c197 : Code := at0 c194
noncomputable def c198 : Code := at1 c194
theorem c194_h : c194 = .seq c197 c198 := by kernel_rfl
noncomputable def k199 (b : Nat) : KT := seqC (fun e S => execL (C b) 0 c198 (k159 b) e S) (k159 b)
@[go_sem] theorem k199_n (b : Nat) (x8 : PV) (S : Store) : k199 b .normal (ee16 x8) S =
  (k159 b) .ret (ee16 x8) S := nr ((show k199 b .normal (ee16 x8) S = execL (C b) 0 c198 (k159 b) (ee16 x8) S from seqC_n _ _ _ _).trans (execL_ret (by kernel_rfl)))
theorem k199_l (b : Nat) : seqC (fun e S => execL (C b) 0 c198 (k159 b) e S) (k159 b) = k199 b := rfl
@[go_sem] theorem g200 (b : Nat) (K : KT) (x2 x3 x4 x35 : PV) (S : Store) : execL (C b) 0 c197 K (ee7 x2 x3 x4 x35) S =
  withV (some (.bool false)) fun x8 =>
    K .normal (ee16 x8) S := nr (by kernel_rfl)
noncomputable def E196 (b : Nat) (x2 x3 x4 x35 : PV) (S : Store) : RT := execL (C b) 0 c194 (k159 b) (ee7 x2 x3 x4 x35) S
@[go_sem] theorem E196_eq (b : Nat) (x2 x3 x4 x35 : PV) (S : Store) : E196 b x2 x3 x4 x35 S =
  execL (C b) 0 c197 (k199 b) (ee7 x2 x3 x4 x35) S := nr ((enter_seq c194_h (k199_l b)).trans (rfl))
@[go_sem] theorem k193_n (b : Nat) (x2 x3 x4 x35 : PV) (S : Store) : k193 b .normal (ee7 x2 x3 x4 x35) S =
  condC x35 (E196 b x2 x3 x4 x35 S)
    ((k159 b) .normal (ee7 x2 x3 x4 x35) S) := nr ((show k193 b .normal (ee7 x2 x3 x4 x35) S = execL (C b) 0 c192 (k159 b) (ee7 x2 x3 x4 x35) S from seqC_n _ _ _ _).trans (execL_cond c192_h (rfl) (execL_skip (by kernel_rfl)) rfl))
theorem k193_l (b : Nat) : seqC (fun e S => execL (C b) 0 c192 (k159 b) e S) (k159 b) = k193 b := rfl
@[go_sem] theorem g201 (b : Nat) (K : KT) (x1 x2 x3 x4 : PV) (S : Store) : execL (C b) 0 c191 K (ee0 x1 x2 x3 x4) S =
  withV (evFieldAddr (tyi Try.prog 54) 0 x4) fun x11 =>
    withV (evLoad (tyi Try.prog 3) S x11) fun x12 =>
    withN (callO (callL Try.prog hints) S 41 [x12]) S fun x13 S =>
    withV (some x1) fun x14 =>
    withV (evBin .neq (tyi Try.prog 3) x13 x14) fun x15 =>
    withV (some x15) fun x16 =>
    withV (gval x16 false (evFieldAddr (tyi Try.prog 54) 0 x4)) fun x17 =>
    withV (gval x16 false (evLoad (tyi Try.prog 3) S x17)) fun x18 =>
    withN (gout x16 false (callO (callL Try.prog hints) S 87 [x18])) S fun x19 S =>
    withV (gval x16 false (evFieldAddr (tyi Try.prog 54) 1 x4)) fun x20 =>
    withV (gval x16 false (evLoad (tyi Try.prog 9) S x20)) fun x21 =>
    withN (gout x16 false (callO (callL Try.prog hints) S 39 [x21])) S fun x22 S =>
    withV (gval x16 false (evBin .neq (tyi Try.prog 4) x19 x22)) fun x23 =>
    withV (pickO x16 (.bool true) x23) fun x24 =>
    withV (some x24) fun x25 =>
    withV (gval x25 false (evFieldAddr (tyi Try.prog 54) 0 x4)) fun x26 =>
    withV (gval x25 false (evLoad (tyi Try.prog 3) S x26)) fun x27 =>
    withN (gout x25 false (callO (callL Try.prog hints) S 87 [x27])) S fun x28 S =>
    withV (gval x25 false (evUn .not x28)) fun x29 =>
    withV (gval x25 false (some x29)) fun x30 =>
    withV (gval x30 true (evFieldAddr (tyi Try.prog 54) 1 x4)) fun x31 =>
    withV (gval x30 true (evLoad (tyi Try.prog 9) S x31)) fun x32 =>
    withV (gval x30 true (evBin .neq (tyi Try.prog 9) x32 (.str ⟨#[]⟩))) fun x33 =>
    withV (gval x25 false (pickO x30 x33 (.bool false))) fun x34 =>
    withV (pickO x25 (.bool true) x34) fun x35 =>
    K .normal (ee7 x2 x3 x4 x35) S := nr (by kernel_rfl)
@[go_sem] theorem k190_n (b : Nat) (x1 x2 x3 x4 : PV) (S : Store) : k190 b .normal (ee0 x1 x2 x3 x4) S =
  execL (C b) 0 c191 (k193 b) (ee0 x1 x2 x3 x4) S := nr ((show k190 b .normal (ee0 x1 x2 x3 x4) S = execL (C b) 0 c3 (k159 b) (ee0 x1 x2 x3 x4) S from seqC_n _ _ _ _).trans ((enter_seq c3_h (k193_l b)).trans (rfl)))
theorem k190_l (b : Nat) : seqC (fun e S => execL (C b) 0 c2 (k0 b) e S) (k0 b) = k190 b := link_seq c2_h (k159_l b)
@[go_sem] theorem g202 (b : Nat) (K : KT) (x0 x1 x2 x3 : PV) (S : Store) : execL (C b) 0 c1 K [(0, x0), (1, x1), (2, x2), (3, x3)] S =
  withN (boxed S (List.length S) (TI.size (tyi Try.prog 54)) x0) S fun x4 S =>
    withV (some (.bool false)) fun x8 =>
    K .normal (ee0 x1 x2 x3 x4) S := nr (by kernel_rfl)
noncomputable def E (b : Nat) (x0 x1 x2 x3 : PV) (S : Store) : RT := execL (C b) 0 code (k0 b) [(0, x0), (1, x1), (2, x2), (3, x3)] S
@[go_sem] theorem E_eq (b : Nat) (x0 x1 x2 x3 : PV) (S : Store) : E b x0 x1 x2 x3 S =
  execL (C b) 0 c1 (k190 b) [(0, x0), (1, x1), (2, x2), (3, x3)] S := nr ((enter_seq code_h (k190_l b)).trans (rfl))
theorem call {x0 x1 x2 x3 : PV} {r : PV × Store} {v : PV} (h : E 0 x0 x1 x2 x3 [] = some r) (hv : fzPV r.2 r.1 = some v) : callL Try.prog hints 65 [x0, x1, x2, x3] = some v := callL_of (fn := Try.f65) (c := code) (by kernel_rfl) (by kernel_rfl) (by decide) (by kernel_rfl) (Nat.le_of_ble_eq_true (by kernel_rfl)) h hv
end F65
/-! ### isochroneref08.Check -/
namespace F37
def hint : Hint := { keep := [], loops := [], regs := [(0, [1, 2]), (1, [1, 2, 5]), (2, [4]), (3, [1, 2, 12]), (4, [4]), (5, [1, 2, 21]), (6, [4]), (7, [27]), (8, [4]), (9, [4])] }
noncomputable def C (b : Nat) : Ctx := ctxL Try.prog hints b hint
noncomputable def code : Code := Try.f37.body.get rfl
noncomputable def k0 (b : Nat) : KT := endC Try.prog Try.f37
def ee0 (x1 x2 : PV) : Env := [(1, x1), (2, x2)]
def ee1 (x1 x2 x5 : PV) : Env := [(1, x1), (2, x2), (5, x5)]
def ee2 (x1 x2 x12 : PV) : Env := [(1, x1), (2, x2), (12, x12)]
def ee3 (x1 x2 x21 : PV) : Env := [(1, x1), (2, x2), (21, x21)]
def ee4 (x4 : PV) : Env := [(4, x4)]
@[go_sem] theorem k0_ret4 (b : Nat) (x4 : PV) (S : Store) : k0 b .ret (ee4 x4) S = some (x4, S) := nr (by kernel_rfl)
def ee5 (x27 : PV) : Env := [(27, x27)]
noncomputable def c1 : Code := at0 code
noncomputable def c2 : Code := at1 code
theorem code_h : code = .seq c1 c2 := by kernel_rfl
noncomputable def c3 : Code := at0 c2
noncomputable def c4 : Code := at1 c2
theorem c2_h : c2 = .seq c3 c4 := by kernel_rfl
noncomputable def c5 : Code := at0 c4
noncomputable def c6 : Code := at1 c4
theorem c4_h : c4 = .seq c5 c6 := by kernel_rfl
noncomputable def k7 (b : Nat) : KT := seqC (fun e S => execL (C b) 0 c6 (k0 b) e S) (k0 b)
@[go_sem] theorem k7_n (b : Nat) (x4 : PV) (S : Store) : k7 b .normal (ee4 x4) S =
  (k0 b) .ret (ee4 x4) S := nr ((show k7 b .normal (ee4 x4) S = execL (C b) 0 c6 (k0 b) (ee4 x4) S from seqC_n _ _ _ _).trans (execL_ret (by kernel_rfl)))
theorem k7_l (b : Nat) : seqC (fun e S => execL (C b) 0 c6 (k0 b) e S) (k0 b) = k7 b := rfl
noncomputable def k8 (b : Nat) : KT := seqC (fun e S => execL (C b) 0 c5 (k7 b) e S) (k0 b)
@[go_sem] theorem g9 (b : Nat) (K : KT) (x27 : PV) (S : Store) : execL (C b) 0 c5 K (ee5 x27) S =
  withV (some (.int .i64 0)) fun x4 =>
    K .normal (ee4 x4) S := nr (by kernel_rfl)
@[go_sem] theorem k8_n (b : Nat) (e : Env) (S : Store) : k8 b .normal e S = execL (C b) 0 c5 (k7 b) e S := nr (seqC_n _ _ _ _)
@[go_sem] theorem k8_ret (b : Nat) (e : Env) (S : Store) : k8 b .ret e S = (k0 b) .ret e S := nr (seqC_r _ _ _ _)
theorem k8_l (b : Nat) : seqC (fun e S => execL (C b) 0 c4 (k0 b) e S) (k0 b) = k8 b := link_seq c4_h (k7_l b)
noncomputable def k10 (b : Nat) : KT := seqC (fun e S => execL (C b) 0 c3 (k8 b) e S) (k0 b)
noncomputable def c11 : Code := atB c3
theorem c3_h : c3 = .block 0 c11 := by kernel_rfl
noncomputable def k12 (b : Nat) : KT := blockC 0 (k8 b)
@[go_sem] theorem k12_n (b : Nat) (e : Env) (S : Store) : k12 b .normal e S = (k8 b) .normal e S := nr (blockC_n _ _ _ _)
@[go_sem] theorem k12_ret (b : Nat) (e : Env) (S : Store) : k12 b .ret e S = (k8 b) .ret e S := nr (blockC_r _ _ _ _)
noncomputable def c13 : Code := at0 c11
noncomputable def c14 : Code := at1 c11
theorem c11_h : c11 = .seq c13 c14 := by kernel_rfl
noncomputable def k15 (b : Nat) : KT := seqC (fun e S => execL (C b) 0 c14 (k12 b) e S) (k12 b)
noncomputable def c16 : Code := atT c14
noncomputable def c17 : Code := atF c14
theorem c14_h : c14 = .cond (.tmp 5) c16 c17 := by kernel_rfl
noncomputable def c19 : Code := at0 c16
noncomputable def c20 : Code := at1 c16
theorem c16_h : c16 = .seq c19 c20 := by kernel_rfl
noncomputable def k21 (b : Nat) : KT := seqC (fun e S => execL (C b) 0 c20 (k12 b) e S) (k12 b)
@[go_sem] theorem k21_n (b : Nat) (x4 : PV) (S : Store) : k21 b .normal (ee4 x4) S =
  (k12 b) .ret (ee4 x4) S := nr ((show k21 b .normal (ee4 x4) S = execL (C b) 0 c20 (k12 b) (ee4 x4) S from seqC_n _ _ _ _).trans (execL_ret (by kernel_rfl)))
theorem k21_l (b : Nat) : seqC (fun e S => execL (C b) 0 c20 (k12 b) e S) (k12 b) = k21 b := rfl
@[go_sem] theorem g22 (b : Nat) (K : KT) (x1 x2 x5 : PV) (S : Store) : execL (C b) 0 c19 K (ee1 x1 x2 x5) S =
  withV (some (.int .i64 1)) fun x4 =>
    K .normal (ee4 x4) S := nr (by kernel_rfl)
noncomputable def E18 (b : Nat) (x1 x2 x5 : PV) (S : Store) : RT := execL (C b) 0 c16 (k12 b) (ee1 x1 x2 x5) S
@[go_sem] theorem E18_eq (b : Nat) (x1 x2 x5 : PV) (S : Store) : E18 b x1 x2 x5 S =
  execL (C b) 0 c19 (k21 b) (ee1 x1 x2 x5) S := nr ((enter_seq c16_h (k21_l b)).trans (rfl))
noncomputable def c24 : Code := at0 c17
noncomputable def c25 : Code := at1 c17
theorem c17_h : c17 = .seq c24 c25 := by kernel_rfl
noncomputable def k26 (b : Nat) : KT := seqC (fun e S => execL (C b) 0 c25 (k12 b) e S) (k12 b)
noncomputable def c27 : Code := atT c25
noncomputable def c28 : Code := atF c25
theorem c25_h : c25 = .cond (.tmp 12) c27 c28 := by kernel_rfl
noncomputable def c30 : Code := at0 c27
noncomputable def c31 : Code := at1 c27
theorem c27_h : c27 = .seq c30 c31 := by kernel_rfl
noncomputable def k32 (b : Nat) : KT := seqC (fun e S => execL (C b) 0 c31 (k12 b) e S) (k12 b)
@[go_sem] theorem k32_n (b : Nat) (x4 : PV) (S : Store) : k32 b .normal (ee4 x4) S =
  (k12 b) .ret (ee4 x4) S := nr ((show k32 b .normal (ee4 x4) S = execL (C b) 0 c31 (k12 b) (ee4 x4) S from seqC_n _ _ _ _).trans (execL_ret (by kernel_rfl)))
theorem k32_l (b : Nat) : seqC (fun e S => execL (C b) 0 c31 (k12 b) e S) (k12 b) = k32 b := rfl
@[go_sem] theorem g33 (b : Nat) (K : KT) (x1 x2 x12 : PV) (S : Store) : execL (C b) 0 c30 K (ee2 x1 x2 x12) S =
  withV (some (.int .i64 2)) fun x4 =>
    K .normal (ee4 x4) S := nr (by kernel_rfl)
noncomputable def E29 (b : Nat) (x1 x2 x12 : PV) (S : Store) : RT := execL (C b) 0 c27 (k12 b) (ee2 x1 x2 x12) S
@[go_sem] theorem E29_eq (b : Nat) (x1 x2 x12 : PV) (S : Store) : E29 b x1 x2 x12 S =
  execL (C b) 0 c30 (k32 b) (ee2 x1 x2 x12) S := nr ((enter_seq c27_h (k32_l b)).trans (rfl))
noncomputable def c35 : Code := at0 c28
noncomputable def c36 : Code := at1 c28
theorem c28_h : c28 = .seq c35 c36 := by kernel_rfl
noncomputable def k37 (b : Nat) : KT := seqC (fun e S => execL (C b) 0 c36 (k12 b) e S) (k12 b)
noncomputable def c38 : Code := atT c36
noncomputable def c39 : Code := atF c36
theorem c36_h : c36 = .cond (.tmp 21) c38 c39 := by kernel_rfl
noncomputable def c41 : Code := at0 c38
noncomputable def c42 : Code := at1 c38
theorem c38_h : c38 = .seq c41 c42 := by kernel_rfl
noncomputable def k43 (b : Nat) : KT := seqC (fun e S => execL (C b) 0 c42 (k12 b) e S) (k12 b)
@[go_sem] theorem k43_n (b : Nat) (x4 : PV) (S : Store) : k43 b .normal (ee4 x4) S =
  (k12 b) .ret (ee4 x4) S := nr ((show k43 b .normal (ee4 x4) S = execL (C b) 0 c42 (k12 b) (ee4 x4) S from seqC_n _ _ _ _).trans (execL_ret (by kernel_rfl)))
theorem k43_l (b : Nat) : seqC (fun e S => execL (C b) 0 c42 (k12 b) e S) (k12 b) = k43 b := rfl
@[go_sem] theorem g44 (b : Nat) (K : KT) (x1 x2 x21 : PV) (S : Store) : execL (C b) 0 c41 K (ee3 x1 x2 x21) S =
  withV (some (.int .i64 80)) fun x4 =>
    K .normal (ee4 x4) S := nr (by kernel_rfl)
noncomputable def E40 (b : Nat) (x1 x2 x21 : PV) (S : Store) : RT := execL (C b) 0 c38 (k12 b) (ee3 x1 x2 x21) S
@[go_sem] theorem E40_eq (b : Nat) (x1 x2 x21 : PV) (S : Store) : E40 b x1 x2 x21 S =
  execL (C b) 0 c41 (k43 b) (ee3 x1 x2 x21) S := nr ((enter_seq c38_h (k43_l b)).trans (rfl))
noncomputable def c46 : Code := at0 c39
noncomputable def c47 : Code := at1 c39
theorem c39_h : c39 = .seq c46 c47 := by kernel_rfl
noncomputable def k48 (b : Nat) : KT := seqC (fun e S => execL (C b) 0 c47 (k12 b) e S) (k12 b)
noncomputable def c49 : Code := atT c47
noncomputable def c50 : Code := atF c47
theorem c47_h : c47 = .cond (.tmp 27) c49 c50 := by kernel_rfl
noncomputable def c52 : Code := at0 c49
noncomputable def c53 : Code := at1 c49
theorem c49_h : c49 = .seq c52 c53 := by kernel_rfl
noncomputable def k54 (b : Nat) : KT := seqC (fun e S => execL (C b) 0 c53 (k12 b) e S) (k12 b)
@[go_sem] theorem k54_n (b : Nat) (x4 : PV) (S : Store) : k54 b .normal (ee4 x4) S =
  (k12 b) .ret (ee4 x4) S := nr ((show k54 b .normal (ee4 x4) S = execL (C b) 0 c53 (k12 b) (ee4 x4) S from seqC_n _ _ _ _).trans (execL_ret (by kernel_rfl)))
theorem k54_l (b : Nat) : seqC (fun e S => execL (C b) 0 c53 (k12 b) e S) (k12 b) = k54 b := rfl
@[go_sem] theorem g55 (b : Nat) (K : KT) (x27 : PV) (S : Store) : execL (C b) 0 c52 K (ee5 x27) S =
  withV (some (.int .i64 3)) fun x4 =>
    K .normal (ee4 x4) S := nr (by kernel_rfl)
noncomputable def E51 (b : Nat) (x27 : PV) (S : Store) : RT := execL (C b) 0 c49 (k12 b) (ee5 x27) S
@[go_sem] theorem E51_eq (b : Nat) (x27 : PV) (S : Store) : E51 b x27 S =
  execL (C b) 0 c52 (k54 b) (ee5 x27) S := nr ((enter_seq c49_h (k54_l b)).trans (rfl))
@[go_sem] theorem k48_n (b : Nat) (x27 : PV) (S : Store) : k48 b .normal (ee5 x27) S =
  condC x27 (E51 b x27 S)
    ((k12 b) .normal (ee5 x27) S) := nr ((show k48 b .normal (ee5 x27) S = execL (C b) 0 c47 (k12 b) (ee5 x27) S from seqC_n _ _ _ _).trans (execL_cond c47_h (rfl) (execL_skip (by kernel_rfl)) rfl))
theorem k48_l (b : Nat) : seqC (fun e S => execL (C b) 0 c47 (k12 b) e S) (k12 b) = k48 b := rfl
@[go_sem] theorem g56 (b : Nat) (K : KT) (x1 x2 x21 : PV) (S : Store) : execL (C b) 0 c46 K (ee3 x1 x2 x21) S =
  withV (evLoad (tyi Try.prog 54) S x2) fun x28 =>
    withV (some x1) fun x29 =>
    withN (callO (callL Try.prog hints) S 65 [x28, x29, (.bool false), (.bool false)]) S fun x30 S =>
    withV (evUn .not x30) fun x31 =>
    withV (some x31) fun x27 =>
    K .normal (ee5 x27) S := nr (by kernel_rfl)
noncomputable def E45 (b : Nat) (x1 x2 x21 : PV) (S : Store) : RT := execL (C b) 0 c39 (k12 b) (ee3 x1 x2 x21) S
@[go_sem] theorem E45_eq (b : Nat) (x1 x2 x21 : PV) (S : Store) : E45 b x1 x2 x21 S =
  execL (C b) 0 c46 (k48 b) (ee3 x1 x2 x21) S := nr ((enter_seq c39_h (k48_l b)).trans (rfl))
@[go_sem] theorem k37_n (b : Nat) (x1 x2 x21 : PV) (S : Store) : k37 b .normal (ee3 x1 x2 x21) S =
  condC x21 (E40 b x1 x2 x21 S)
    (E45 b x1 x2 x21 S) := nr ((show k37 b .normal (ee3 x1 x2 x21) S = execL (C b) 0 c36 (k12 b) (ee3 x1 x2 x21) S from seqC_n _ _ _ _).trans (execL_cond c36_h (rfl) (rfl) rfl))
theorem k37_l (b : Nat) : seqC (fun e S => execL (C b) 0 c36 (k12 b) e S) (k12 b) = k37 b := rfl
@[go_sem] theorem g57 (b : Nat) (K : KT) (x1 x2 x12 : PV) (S : Store) : execL (C b) 0 c35 K (ee2 x1 x2 x12) S =
  withV (evFieldAddr (tyi Try.prog 54) 0 x2) fun x22 =>
    withV (evLoad (tyi Try.prog 3) S x22) fun x23 =>
    withN (callO (callL Try.prog hints) S 41 [x23]) S fun x24 S =>
    withV (some x1) fun x25 =>
    withV (evBin .neq (tyi Try.prog 3) x24 x25) fun x26 =>
    withV (some x26) fun x21 =>
    K .normal (ee3 x1 x2 x21) S := nr (by kernel_rfl)
noncomputable def E34 (b : Nat) (x1 x2 x12 : PV) (S : Store) : RT := execL (C b) 0 c28 (k12 b) (ee2 x1 x2 x12) S
@[go_sem] theorem E34_eq (b : Nat) (x1 x2 x12 : PV) (S : Store) : E34 b x1 x2 x12 S =
  execL (C b) 0 c35 (k37 b) (ee2 x1 x2 x12) S := nr ((enter_seq c28_h (k37_l b)).trans (rfl))
@[go_sem] theorem k26_n (b : Nat) (x1 x2 x12 : PV) (S : Store) : k26 b .normal (ee2 x1 x2 x12) S =
  condC x12 (E29 b x1 x2 x12 S)
    (E34 b x1 x2 x12 S) := nr ((show k26 b .normal (ee2 x1 x2 x12) S = execL (C b) 0 c25 (k12 b) (ee2 x1 x2 x12) S from seqC_n _ _ _ _).trans (execL_cond c25_h (rfl) (rfl) rfl))
theorem k26_l (b : Nat) : seqC (fun e S => execL (C b) 0 c25 (k12 b) e S) (k12 b) = k26 b := rfl
@[go_sem] theorem g58 (b : Nat) (K : KT) (x1 x2 x5 : PV) (S : Store) : execL (C b) 0 c24 K (ee1 x1 x2 x5) S =
  withV (evLoad (tyi Try.prog 54) S x2) fun x13 =>
    withN (callO (callL Try.prog hints) S 35 [x13]) S fun x14 S =>
    withV (evBin .gtr (tyi Try.prog 3) x14 (.int .i64 4000)) fun x15 =>
    withV (some x15) fun x16 =>
    withV (gval x16 false (evLoad (tyi Try.prog 54) S x2)) fun x17 =>
    withN (gout x16 false (callO (callL Try.prog hints) S 45 [x17])) S fun x18 S =>
    withV (gval x16 false (evBin .gtr (tyi Try.prog 3) x18 (.int .i64 60))) fun x19 =>
    withV (pickO x16 (.bool true) x19) fun x20 =>
    withV (some x20) fun x12 =>
    K .normal (ee2 x1 x2 x12) S := nr (by kernel_rfl)
noncomputable def E23 (b : Nat) (x1 x2 x5 : PV) (S : Store) : RT := execL (C b) 0 c17 (k12 b) (ee1 x1 x2 x5) S
@[go_sem] theorem E23_eq (b : Nat) (x1 x2 x5 : PV) (S : Store) : E23 b x1 x2 x5 S =
  execL (C b) 0 c24 (k26 b) (ee1 x1 x2 x5) S := nr ((enter_seq c17_h (k26_l b)).trans (rfl))
@[go_sem] theorem k15_n (b : Nat) (x1 x2 x5 : PV) (S : Store) : k15 b .normal (ee1 x1 x2 x5) S =
  condC x5 (E18 b x1 x2 x5 S)
    (E23 b x1 x2 x5 S) := nr ((show k15 b .normal (ee1 x1 x2 x5) S = execL (C b) 0 c14 (k12 b) (ee1 x1 x2 x5) S from seqC_n _ _ _ _).trans (execL_cond c14_h (rfl) (rfl) rfl))
theorem k15_l (b : Nat) : seqC (fun e S => execL (C b) 0 c14 (k12 b) e S) (k12 b) = k15 b := rfl
@[go_sem] theorem g59 (b : Nat) (K : KT) (x1 x2 : PV) (S : Store) : execL (C b) 0 c13 K (ee0 x1 x2) S =
  withV (some x1) fun x6 =>
    withV (evBin .lss (tyi Try.prog 3) x6 (.int .i64 1)) fun x7 =>
    withV (some x7) fun x8 =>
    withV (gval x8 false (some x1)) fun x9 =>
    withV (gval x8 false (evBin .gtr (tyi Try.prog 3) x9 (.int .i64 3))) fun x10 =>
    withV (pickO x8 (.bool true) x10) fun x11 =>
    withV (some x11) fun x5 =>
    K .normal (ee1 x1 x2 x5) S := nr (by kernel_rfl)
@[go_sem] theorem k10_n (b : Nat) (x1 x2 : PV) (S : Store) : k10 b .normal (ee0 x1 x2) S =
  execL (C b) 0 c13 (k15 b) (ee0 x1 x2) S := nr ((show k10 b .normal (ee0 x1 x2) S = execL (C b) 0 c3 (k8 b) (ee0 x1 x2) S from seqC_n _ _ _ _).trans ((show execL (C b) 0 c3 (k8 b) (ee0 x1 x2) S = execL (C b) 0 c11 (k12 b) (ee0 x1 x2) S from execL_block c3_h).trans ((enter_seq c11_h (k15_l b)).trans (rfl))))
theorem k10_l (b : Nat) : seqC (fun e S => execL (C b) 0 c2 (k0 b) e S) (k0 b) = k10 b := link_seq c2_h (k8_l b)
@[go_sem] theorem g60 (b : Nat) (K : KT) (x0 x1 : PV) (S : Store) : execL (C b) 0 c1 K [(0, x0), (1, x1)] S =
  withN (boxed S (List.length S) (TI.size (tyi Try.prog 54)) x0) S fun x2 S =>
    withV (some (.int .i64 0)) fun x4 =>
    K .normal (ee0 x1 x2) S := nr (by kernel_rfl)
noncomputable def E (b : Nat) (x0 x1 : PV) (S : Store) : RT := execL (C b) 0 code (k0 b) [(0, x0), (1, x1)] S
@[go_sem] theorem E_eq (b : Nat) (x0 x1 : PV) (S : Store) : E b x0 x1 S =
  execL (C b) 0 c1 (k10 b) [(0, x0), (1, x1)] S := nr ((enter_seq code_h (k10_l b)).trans (rfl))
theorem call {x0 x1 : PV} {r : PV × Store} {v : PV} (h : E 0 x0 x1 [] = some r) (hv : fzPV r.2 r.1 = some v) : callL Try.prog hints 37 [x0, x1] = some v := callL_of (fn := Try.f37) (c := code) (by kernel_rfl) (by kernel_rfl) (by decide) (by kernel_rfl) (Nat.le_of_ble_eq_true (by kernel_rfl)) h hv
end F37
/-! ### isochronelaw08.TreeChecks -/
namespace F7
def hint : Hint := { keep := [], loops := [], regs := [(0, [1, 2]), (1, [1, 2, 6]), (2, [4]), (3, [4])] }
noncomputable def C (b : Nat) : Ctx := ctxL Try.prog hints b hint
noncomputable def code : Code := Try.f7.body.get rfl
noncomputable def k0 (b : Nat) : KT := endC Try.prog Try.f7
def ee0 (x1 x2 : PV) : Env := [(1, x1), (2, x2)]
def ee1 (x1 x2 x6 : PV) : Env := [(1, x1), (2, x2), (6, x6)]
def ee2 (x4 : PV) : Env := [(4, x4)]
@[go_sem] theorem k0_ret2 (b : Nat) (x4 : PV) (S : Store) : k0 b .ret (ee2 x4) S = some (x4, S) := nr (by kernel_rfl)
noncomputable def c1 : Code := at0 code
noncomputable def c2 : Code := at1 code
theorem code_h : code = .seq c1 c2 := by kernel_rfl
noncomputable def c3 : Code := at0 c2
noncomputable def c4 : Code := at1 c2
theorem c2_h : c2 = .seq c3 c4 := by kernel_rfl
noncomputable def c5 : Code := at0 c4
noncomputable def c6 : Code := at1 c4
theorem c4_h : c4 = .seq c5 c6 := by kernel_rfl
noncomputable def k7 (b : Nat) : KT := seqC (fun e S => execL (C b) 0 c6 (k0 b) e S) (k0 b)
@[go_sem] theorem k7_n (b : Nat) (x4 : PV) (S : Store) : k7 b .normal (ee2 x4) S =
  (k0 b) .ret (ee2 x4) S := nr ((show k7 b .normal (ee2 x4) S = execL (C b) 0 c6 (k0 b) (ee2 x4) S from seqC_n _ _ _ _).trans (execL_ret (by kernel_rfl)))
theorem k7_l (b : Nat) : seqC (fun e S => execL (C b) 0 c6 (k0 b) e S) (k0 b) = k7 b := rfl
noncomputable def k8 (b : Nat) : KT := seqC (fun e S => execL (C b) 0 c5 (k7 b) e S) (k0 b)
@[go_sem] theorem g9 (b : Nat) (K : KT) (x1 x2 x6 : PV) (S : Store) : execL (C b) 0 c5 K (ee1 x1 x2 x6) S =
  withV (evLoad (tyi Try.prog 54) S x2) fun x7 =>
    withN (callO (callL Try.prog hints) S 35 [x7]) S fun x8 S =>
    withV (evBin .gtr (tyi Try.prog 3) x8 (.int .i64 10000)) fun x9 =>
    withV (some x9) fun x10 =>
    withV (gval x10 false (evLoad (tyi Try.prog 54) S x2)) fun x11 =>
    withV (gval x10 false (some x1)) fun x12 =>
    withN (gout x10 false (callO (callL Try.prog hints) S 36 [x11, x12])) S fun x13 S =>
    withV (gval x10 false (evLoad (tyi Try.prog 54) S x2)) fun x14 =>
    withV (gval x10 false (some x1)) fun x15 =>
    withN (gout x10 false (callO (callL Try.prog hints) S 37 [x14, x15])) S fun x16 S =>
    withV (gval x10 false (evBin .eql (tyi Try.prog 29) x13 x16)) fun x17 =>
    withV (pickO x10 (.bool true) x17) fun x18 =>
    withV (some x18) fun x4 =>
    K .normal (ee2 x4) S := nr (by kernel_rfl)
@[go_sem] theorem k8_n (b : Nat) (e : Env) (S : Store) : k8 b .normal e S = execL (C b) 0 c5 (k7 b) e S := nr (seqC_n _ _ _ _)
theorem k8_l (b : Nat) : seqC (fun e S => execL (C b) 0 c4 (k0 b) e S) (k0 b) = k8 b := link_seq c4_h (k7_l b)
noncomputable def k10 (b : Nat) : KT := seqC (fun e S => execL (C b) 0 c3 (k8 b) e S) (k0 b)
noncomputable def c11 : Code := at0 c3
noncomputable def c12 : Code := at1 c3
theorem c3_h : c3 = .seq c11 c12 := by kernel_rfl
noncomputable def k13 (b : Nat) : KT := seqC (fun e S => execL (C b) 0 c12 (k8 b) e S) (k8 b)
noncomputable def c14 : Code := atT c12
noncomputable def c15 : Code := atF c12
theorem c12_h : c12 = .cond (.tmp 6) c14 c15 := by kernel_rfl
noncomputable def E16 (b : Nat) (x1 x2 x6 : PV) (S : Store) : RT := execL (C b) 0 c14 (k8 b) (ee1 x1 x2 x6) S
@[go_sem] theorem k13_n (b : Nat) (x1 x2 x6 : PV) (S : Store) : k13 b .normal (ee1 x1 x2 x6) S =
  condC x6 (E16 b x1 x2 x6 S)
    ((k8 b) .normal (ee1 x1 x2 x6) S) := nr ((show k13 b .normal (ee1 x1 x2 x6) S = execL (C b) 0 c12 (k8 b) (ee1 x1 x2 x6) S from seqC_n _ _ _ _).trans (execL_cond c12_h (rfl) (execL_skip (by kernel_rfl)) rfl))
theorem k13_l (b : Nat) : seqC (fun e S => execL (C b) 0 c12 (k8 b) e S) (k8 b) = k13 b := rfl
@[go_sem] theorem g21 (b : Nat) (K : KT) (x1 x2 : PV) (S : Store) : execL (C b) 0 c11 K (ee0 x1 x2) S =
  withN (callO (callL Try.prog hints) S 34 []) S fun x5 S =>
    withV (evUn .not x5) fun x6 =>
    K .normal (ee1 x1 x2 x6) S := nr (by kernel_rfl)
@[go_sem] theorem k10_n (b : Nat) (x1 x2 : PV) (S : Store) : k10 b .normal (ee0 x1 x2) S =
  execL (C b) 0 c11 (k13 b) (ee0 x1 x2) S := nr ((show k10 b .normal (ee0 x1 x2) S = execL (C b) 0 c3 (k8 b) (ee0 x1 x2) S from seqC_n _ _ _ _).trans ((enter_seq c3_h (k13_l b)).trans (rfl)))
theorem k10_l (b : Nat) : seqC (fun e S => execL (C b) 0 c2 (k0 b) e S) (k0 b) = k10 b := link_seq c2_h (k8_l b)
@[go_sem] theorem g22 (b : Nat) (K : KT) (x0 x1 : PV) (S : Store) : execL (C b) 0 c1 K [(0, x0), (1, x1)] S =
  withN (boxed S (List.length S) (TI.size (tyi Try.prog 54)) x0) S fun x2 S =>
    withV (some (.bool false)) fun x4 =>
    K .normal (ee0 x1 x2) S := nr (by kernel_rfl)
noncomputable def E (b : Nat) (x0 x1 : PV) (S : Store) : RT := execL (C b) 0 code (k0 b) [(0, x0), (1, x1)] S
@[go_sem] theorem E_eq (b : Nat) (x0 x1 : PV) (S : Store) : E b x0 x1 S =
  execL (C b) 0 c1 (k10 b) [(0, x0), (1, x1)] S := nr ((enter_seq code_h (k10_l b)).trans (rfl))
theorem call {x0 x1 : PV} {r : PV × Store} {v : PV} (h : E 0 x0 x1 [] = some r) (hv : fzPV r.2 r.1 = some v) : callL Try.prog hints 7 [x0, x1] = some v := callL_of (fn := Try.f7) (c := code) (by kernel_rfl) (by kernel_rfl) (by decide) (by kernel_rfl) (Nat.le_of_ble_eq_true (by kernel_rfl)) h hv
end F7
end Go.Vs
