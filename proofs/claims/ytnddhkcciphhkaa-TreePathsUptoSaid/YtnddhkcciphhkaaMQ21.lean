/- Printed by a program of mine (stage1.py): the functions 89, 65, 37, 7, piece by piece. -/

import Derived.Test.YtnddhkcciphhkaaMQ9
set_option linter.unusedVariables false
set_option linter.unusedSimpArgs false
namespace Go.Vs
open Go Go.Proofs
noncomputable section

/-! ### isochroneref08.flow -/
namespace F89
section
variable (b i n n0 n2 : Nat) (K : KT) (x0 x1 x2 x3 x6 x7 x8 x9 x10 x31 x35 x68 x71 x87 : PV) (e : Env) (S : Store)
noncomputable def hint : Hint := { keep := [], loops := [(2, { live := [1, 2, 3, 7, 8, 9, 10], after := [1, 2, 3, 7, 8], own := [], fz := [] }), (0, { live := [1, 2, 3, 7, 8], after := [], own := [], fz := [] })], regs := [(0, [1, 2, 3]), (1, [1, 2, 3, 7]), (2, [1, 2, 3, 7, 31]), (3, [6]), (4, [1, 2, 3, 7, 8]), (5, [1, 2, 3, 7, 8, 35]), (6, [1, 2, 3, 7, 8]), (7, [1, 2, 3, 7, 8, 9]), (8, [1, 2, 3, 7, 8, 9, 68]), (9, [6]), (10, [1, 2, 3, 7, 8, 9, 10]), (11, [1, 2, 3, 7, 8, 9, 10, 71]), (12, [1, 2, 3, 7, 8, 9, 10]), (13, [1, 2, 3, 7, 8, 9, 10, 87]), (14, [6]), (15, [6])] }
noncomputable def C (b : Nat) : Ctx := ctxL Try.prog hints b hint
noncomputable def code : Code := Try.f89.body.get rfl
noncomputable def k0 (b : Nat) : KT := endC Try.prog Try.f89
def ee0 (x1 x2 x3 : PV) : Env := [(1, x1), (2, x2), (3, x3)]
def ee1 (x1 x2 x3 x7 : PV) : Env := [(1, x1), (2, x2), (3, x3), (7, x7)]
def ee2 (x1 x2 x3 x7 x8 : PV) : Env := [(1, x1), (2, x2), (3, x3), (7, x7), (8, x8)]
def ee3 (x1 x2 x3 x7 x8 x9 : PV) : Env := [(1, x1), (2, x2), (3, x3), (7, x7), (8, x8), (9, x9)]
def ee4 (x1 x2 x3 x7 x8 x9 x10 : PV) : Env := [(1, x1), (2, x2), (3, x3), (7, x7), (8, x8), (9, x9), (10, x10)]
def ee5 (x1 x2 x3 x7 x8 x9 x10 x71 : PV) : Env := [(1, x1), (2, x2), (3, x3), (7, x7), (8, x8), (9, x9), (10, x10), (71, x71)]
def ee6 (x1 x2 x3 x7 x8 x9 x10 x87 : PV) : Env := [(1, x1), (2, x2), (3, x3), (7, x7), (8, x8), (9, x9), (10, x10), (87, x87)]
def ee7 (x1 x2 x3 x7 x8 x9 x68 : PV) : Env := [(1, x1), (2, x2), (3, x3), (7, x7), (8, x8), (9, x9), (68, x68)]
def ee8 (x1 x2 x3 x7 x8 x35 : PV) : Env := [(1, x1), (2, x2), (3, x3), (7, x7), (8, x8), (35, x35)]
def ee9 (x1 x2 x3 x7 x31 : PV) : Env := [(1, x1), (2, x2), (3, x3), (7, x7), (31, x31)]
def ee10 (x6 : PV) : Env := [(6, x6)]
def c1 : Code := at0 code
def c2 : Code := at1 code
def c3 : Code := at0 c2
def c4 : Code := at1 c2
def c5 : Code := at0 c4
def c6 : Code := at1 c4
def c7 : Code := at0 c6
def c8 : Code := at1 c6
def c9 : Code := at0 c8
def c10 : Code := at1 c8
def k11 (b : Nat) : KT := seqC (fun e S => execL (C b) 0 c10 (k0 b) e S) (k0 b)
@[go_sem] theorem k11_n : k11 b .normal (ee10 x6) S =
  (k0 b) .ret (ee10 x6) S := nr (seqN (execL_ret (by kernel_rfl)))
def k12 (b : Nat) : KT := seqC (fun e S => execL (C b) 0 c8 (k0 b) e S) (k0 b)
@[go_sem] theorem g13 : execL (C b) 0 c9 K (ee8 x1 x2 x3 x7 x8 x35) S =
  withV (some (.bool true)) fun x6 =>
    K .normal (ee10 x6) S := nr (by kernel_rfl)
@[go_sem] theorem k12_n : k12 b .normal e S = execL (C b) 0 c9 (k11 b) e S := nr (seqN (enterS (by kernel_rfl)))
@[go_sem] theorem k12_ret : k12 b .ret e S = (k0 b) .ret e S := nr (seqC_r _ _ _ _)
def k14 (b : Nat) : KT := seqC (fun e S => execL (C b) 0 c6 (k0 b) e S) (k0 b)
def c15 : Code := at0 c7
def c16 : Code := at1 c7
def k17 (b : Nat) : KT := seqC (fun e S => execL (C b) 0 c16 (k12 b) e S) (k12 b)
def c18 : Code := atB c16
def k19 (b : Nat) : KT := blockC 0 (k12 b)
@[go_sem] theorem k19_ret : k19 b .ret e S = (k12 b) .ret e S := nr (blockC_r _ _ _ _)
@[go_sem] theorem k19_exit : k19 b (.exit i) e S = if i = 0 then (k12 b) .normal e S else (k12 b) (.exit i) e S := nr (blockC_x _ _ _ _ _)
def c20 : Code := atL c18
def k21 (b n0 : Nat) : KT := afterC 0 n0 [] (k19 b)
def L0g (b n0 : Nat) (e : Env) (S : Store) : RT := loopL (fun K e S => execL (C b) 0 c20 K e S) (normG [1, 2, 3, 7, 8] [] n0) (k21 b n0) e S
def L0 (b n0 : Nat) (x1 x2 x3 x7 x8 : PV) (S : Store) : RT := L0g b n0 (ee2 x1 x2 x3 x7 x8) S
def k22 (b n0 : Nat) : KT := stepC (normG [1, 2, 3, 7, 8] [] n0) (k21 b n0) (L0g b n0)
@[go_sem] theorem k22_n : k22 b n0 .normal (ee2 x1 x2 x3 x7 x8) S = L0 b n0 x1 x2 x3 x7 x8 (gc n0 (ee2 x1 x2 x3 x7 x8) S) := nr (by kernel_rfl)
@[go_sem] theorem k22_ret : k22 b n0 .ret e S = (k19 b) .ret e S := nr ((show k22 b n0 .ret e S = (k21 b n0) .ret e S from stepC_r _ _ _ _ _).trans (afterC_r _ _ _ _ _ _))
@[go_sem] theorem k22_x1 : k22 b n0 (.exit 0) (ee8 x1 x2 x3 x7 x8 x35) S = (k19 b) (.exit 0) (ee8 .undef .undef .undef .undef .undef .undef) (gc n0 (ee8 .undef .undef .undef .undef .undef .undef) S) := nr ((show k22 b n0 (.exit 0) (ee8 x1 x2 x3 x7 x8 x35) S = (k21 b n0) (.exit 0) (ee8 x1 x2 x3 x7 x8 x35) S from stepC_x _ _ _ _ _ _).trans ((show (k21 b n0) (.exit 0) (ee8 x1 x2 x3 x7 x8 x35) S = _ from afterC_x _ _ _ _ _ _ _).trans (if_pos rfl)))
def c23 : Code := at0 c20
def c24 : Code := at1 c20
def c25 : Code := at0 c24
def c26 : Code := at1 c24
def k27 (b n0 : Nat) : KT := seqC (fun e S => execL (C b) 0 c26 (k22 b n0) e S) (k22 b n0)
@[go_sem] theorem g28 : execL (C b) 0 c26 K (ee5 x1 x2 x3 x7 x8 x9 x10 x71) S =
  withV (some x8) fun x36 =>
    withV (evBin .add (tyi Try.prog 3) x36 (.int .i64 1)) fun x37 =>
    withV (some x37) fun x8 =>
    K .normal (ee2 x1 x2 x3 x7 x8) S := nr (by kernel_rfl)
@[go_sem] theorem k27_n : k27 b n0 .normal e S = execL (C b) 0 c26 (k22 b n0) e S := nr (seqN rfl)
@[go_sem] theorem k27_ret : k27 b n0 .ret e S = (k22 b n0) .ret e S := nr (seqC_r _ _ _ _)
def k29 (b n0 : Nat) : KT := seqC (fun e S => execL (C b) 0 c24 (k22 b n0) e S) (k22 b n0)
def c30 : Code := atB c25
def k31 (b n0 : Nat) : KT := blockC 1 (k27 b n0)
@[go_sem] theorem k31_n : k31 b n0 .normal e S = (k27 b n0) .normal e S := nr (blockC_n _ _ _ _)
@[go_sem] theorem k31_ret : k31 b n0 .ret e S = (k27 b n0) .ret e S := nr (blockC_r _ _ _ _)
def c32 : Code := at0 c30
def c33 : Code := at1 c30
def c34 : Code := at0 c33
def c35 : Code := at1 c33
def c36 : Code := at0 c35
def c37 : Code := at1 c35
def k38 (b n0 : Nat) : KT := seqC (fun e S => execL (C b) 1 c37 (k31 b n0) e S) (k31 b n0)
def c39 : Code := atB c37
def k40 (b n0 : Nat) : KT := blockC 2 (k31 b n0)
@[go_sem] theorem k40_ret : k40 b n0 .ret e S = (k31 b n0) .ret e S := nr (blockC_r _ _ _ _)
@[go_sem] theorem k40_exit : k40 b n0 (.exit i) e S = if i = 2 then (k31 b n0) .normal e S else (k31 b n0) (.exit i) e S := nr (blockC_x _ _ _ _ _)
def c41 : Code := atL c39
def k42 (b n0 n2 : Nat) : KT := afterC 2 n2 [1, 2, 3, 7, 8] (k40 b n0)
def L2g (b n0 n2 : Nat) (e : Env) (S : Store) : RT := loopL (fun K e S => execL (C b) 2 c41 K e S) (normG [1, 2, 3, 7, 8, 9, 10] [] n2) (k42 b n0 n2) e S
def L2 (b n0 n2 : Nat) (x1 x2 x3 x7 x8 x9 x10 : PV) (S : Store) : RT := L2g b n0 n2 (ee4 x1 x2 x3 x7 x8 x9 x10) S
def k43 (b n0 n2 : Nat) : KT := stepC (normG [1, 2, 3, 7, 8, 9, 10] [] n2) (k42 b n0 n2) (L2g b n0 n2)
@[go_sem] theorem k43_n : k43 b n0 n2 .normal (ee4 x1 x2 x3 x7 x8 x9 x10) S = L2 b n0 n2 x1 x2 x3 x7 x8 x9 x10 (gc n2 (ee4 x1 x2 x3 x7 x8 x9 x10) S) := nr (by kernel_rfl)
@[go_sem] theorem k43_ret : k43 b n0 n2 .ret e S = (k40 b n0) .ret e S := nr ((show k43 b n0 n2 .ret e S = (k42 b n0 n2) .ret e S from stepC_r _ _ _ _ _).trans (afterC_r _ _ _ _ _ _))
@[go_sem] theorem k43_x1 : k43 b n0 n2 (.exit 2) (ee5 x1 x2 x3 x7 x8 x9 x10 x71) S = (k40 b n0) (.exit 2) (ee5 x1 x2 x3 x7 x8 .undef .undef .undef) (gc n2 (ee5 x1 x2 x3 x7 x8 .undef .undef .undef) S) := nr ((show k43 b n0 n2 (.exit 2) (ee5 x1 x2 x3 x7 x8 x9 x10 x71) S = (k42 b n0 n2) (.exit 2) (ee5 x1 x2 x3 x7 x8 x9 x10 x71) S from stepC_x _ _ _ _ _ _).trans ((show (k42 b n0 n2) (.exit 2) (ee5 x1 x2 x3 x7 x8 x9 x10 x71) S = _ from afterC_x _ _ _ _ _ _ _).trans (if_pos rfl)))
def c44 : Code := at0 c41
def c45 : Code := at1 c41
def c46 : Code := at0 c45
def c47 : Code := at1 c45
def k48 (b n0 n2 : Nat) : KT := seqC (fun e S => execL (C b) 2 c47 (k43 b n0 n2) e S) (k43 b n0 n2)
@[go_sem] theorem g49 : execL (C b) 2 c47 K (ee6 x1 x2 x3 x7 x8 x9 x10 x87) S =
  withV (some x10) fun x72 =>
    withV (evBin .add (tyi Try.prog 3) x72 (.int .i64 1)) fun x73 =>
    withV (some x73) fun x10 =>
    K .normal (ee4 x1 x2 x3 x7 x8 x9 x10) S := nr (by kernel_rfl)
@[go_sem] theorem k48_n : k48 b n0 n2 .normal e S = execL (C b) 2 c47 (k43 b n0 n2) e S := nr (seqN rfl)
@[go_sem] theorem k48_ret : k48 b n0 n2 .ret e S = (k43 b n0 n2) .ret e S := nr (seqC_r _ _ _ _)
def k50 (b n0 n2 : Nat) : KT := seqC (fun e S => execL (C b) 2 c45 (k43 b n0 n2) e S) (k43 b n0 n2)
def c51 : Code := atB c46
def k52 (b n0 n2 : Nat) : KT := blockC 3 (k48 b n0 n2)
@[go_sem] theorem k52_n : k52 b n0 n2 .normal e S = (k48 b n0 n2) .normal e S := nr (blockC_n _ _ _ _)
@[go_sem] theorem k52_ret : k52 b n0 n2 .ret e S = (k48 b n0 n2) .ret e S := nr (blockC_r _ _ _ _)
def c53 : Code := at0 c51
def c54 : Code := at1 c51
def k55 (b n0 n2 : Nat) : KT := seqC (fun e S => execL (C b) 3 c54 (k52 b n0 n2) e S) (k52 b n0 n2)
def c56 : Code := atT c54
def c59 : Code := at0 c56
def c60 : Code := at1 c56
def k61 (b n0 n2 : Nat) : KT := seqC (fun e S => execL (C b) 3 c60 (k52 b n0 n2) e S) (k52 b n0 n2)
@[go_sem] theorem k61_n : k61 b n0 n2 .normal (ee10 x6) S =
  (k52 b n0 n2) .ret (ee10 x6) S := nr (seqN (execL_ret (by kernel_rfl)))
@[go_sem] theorem g62 : execL (C b) 3 c59 K (ee6 x1 x2 x3 x7 x8 x9 x10 x87) S =
  withV (some (.bool false)) fun x6 =>
    K .normal (ee10 x6) S := nr (by kernel_rfl)
@[go_sem] theorem k55_n : k55 b n0 n2 .normal (ee6 x1 x2 x3 x7 x8 x9 x10 x87) S =
  condC x87 (execL (C b) 3 c59 (k61 b n0 n2) (ee6 x1 x2 x3 x7 x8 x9 x10 x87) S)
    ((k52 b n0 n2) .normal (ee6 x1 x2 x3 x7 x8 x9 x10 x87) S) := nr (seqN (condE (t := 87) (by kernel_rfl) (enterS (by kernel_rfl)) (execL_skip (by kernel_rfl)) rfl))
@[go_sem] theorem g63 : execL (C b) 3 c53 K (ee5 x1 x2 x3 x7 x8 x9 x10 x71) S =
  withV (evFieldAddr (tyi Try.prog 54) 0 x9) fun x74 =>
    withV (evLoad (tyi Try.prog 3) S x74) fun x75 =>
    withV (evBin .eql (tyi Try.prog 3) x75 (.int .i64 55)) fun x76 =>
    withV (some x76) fun x77 =>
    withV (gval x77 true (evFieldAddr (tyi Try.prog 54) 3 x3)) fun x78 =>
    withV (gval x77 true (evLoad (tyi Try.prog 52) S x78)) fun x79 =>
    withV (gval x77 true (some x10)) fun x80 =>
    withV (gval x77 true (indexAddrO Try.prog 52 S x79 x80)) fun x81 =>
    withV (gval x77 true (evFieldAddr (tyi Try.prog 54) 1 x81)) fun x82 =>
    withV (gval x77 true (evLoad (tyi Try.prog 9) S x82)) fun x83 =>
    withV (gval x77 true (evFieldAddr (tyi Try.prog 54) 1 x9)) fun x84 =>
    withV (gval x77 true (evLoad (tyi Try.prog 9) S x84)) fun x85 =>
    withV (gval x77 true (evBin .eql (tyi Try.prog 9) x83 x85)) fun x86 =>
    withV (pickO x77 x86 (.bool false)) fun x87 =>
    K .normal (ee6 x1 x2 x3 x7 x8 x9 x10 x87) S := nr (by kernel_rfl)
@[go_sem] theorem k50_n : k50 b n0 n2 .normal (ee5 x1 x2 x3 x7 x8 x9 x10 x71) S =
  execL (C b) 3 c53 (k55 b n0 n2) (ee5 x1 x2 x3 x7 x8 x9 x10 x71) S := nr (seqN ((enterS (by kernel_rfl)).trans ((blockE (by kernel_rfl)).trans (enterS (by kernel_rfl)))))
@[go_sem] theorem k50_exit : k50 b n0 n2 (.exit i) e S = (k43 b n0 n2) (.exit i) e S := nr (seqC_x _ _ _ _ _)
def c64 : Code := at0 c44
def c65 : Code := at1 c44
def k66 (b n0 n2 : Nat) : KT := seqC (fun e S => execL (C b) 2 c65 (k50 b n0 n2) e S) (k50 b n0 n2)
@[go_sem] theorem k66_n : k66 b n0 n2 .normal (ee5 x1 x2 x3 x7 x8 x9 x10 x71) S =
  condC x71 ((k50 b n0 n2) .normal (ee5 x1 x2 x3 x7 x8 x9 x10 x71) S)
    ((k50 b n0 n2) (.exit 2) (ee5 x1 x2 x3 x7 x8 x9 x10 x71) S) := nr (seqN (condE (t := 71) (by kernel_rfl) (execL_skip (by kernel_rfl)) (execL_exit (by kernel_rfl)) rfl))
@[go_sem] theorem g69 : execL (C b) 2 c64 K (ee4 x1 x2 x3 x7 x8 x9 x10) S =
  withV (some x10) fun x69 =>
    withV (some x8) fun x70 =>
    withV (evBin .lss (tyi Try.prog 3) x69 x70) fun x71 =>
    K .normal (ee5 x1 x2 x3 x7 x8 x9 x10 x71) S := nr (by kernel_rfl)
def B2 (b n0 n2 : Nat) (x1 x2 x3 x7 x8 x9 x10 : PV) (S : Store) : RT := execL (C b) 2 c41 (k43 b n0 n2) (ee4 x1 x2 x3 x7 x8 x9 x10) S
@[go_sem] theorem B2_eq : B2 b n0 n2 x1 x2 x3 x7 x8 x9 x10 S =
  execL (C b) 2 c64 (k66 b n0 n2) (ee4 x1 x2 x3 x7 x8 x9 x10) S := nr ((enterS (by kernel_rfl)).trans (enterS (by kernel_rfl)))
theorem L2_step {b n0 n2 : Nat} {x1 x2 x3 x7 x8 x9 x10 : PV} {S : Store} {z : PV × Store} (h : B2 b n0 n2 x1 x2 x3 x7 x8 x9 x10 S = some z) : L2 b n0 n2 x1 x2 x3 x7 x8 x9 x10 S = some z := loopL_step h
theorem L2_in (b n0 : Nat) (x1 x2 x3 x7 x8 x9 x10 : PV) (S : Store) : execL (C b) 2 c39 (k40 b n0) (ee4 x1 x2 x3 x7 x8 x9 x10) S = L2 b n0 (List.length S) x1 x2 x3 x7 x8 x9 x10 S := by kernel_rfl
@[go_sem] theorem k38_n : k38 b n0 .normal (ee4 x1 x2 x3 x7 x8 x9 x10) S =
  L2 b n0 (List.length S) x1 x2 x3 x7 x8 x9 x10 S := nr (seqN ((blockE (by kernel_rfl)).trans (L2_in b n0 x1 x2 x3 x7 x8 x9 x10 S)))
def k71 (b n0 : Nat) : KT := seqC (fun e S => execL (C b) 1 c35 (k31 b n0) e S) (k31 b n0)
@[go_sem] theorem g72 : execL (C b) 1 c36 K (ee7 x1 x2 x3 x7 x8 x9 x68) S =
  withV (some (.int .i64 0)) fun x10 =>
    K .normal (ee4 x1 x2 x3 x7 x8 x9 x10) S := nr (by kernel_rfl)
@[go_sem] theorem k71_n : k71 b n0 .normal e S = execL (C b) 1 c36 (k38 b n0) e S := nr (seqN (enterS (by kernel_rfl)))
@[go_sem] theorem k71_ret : k71 b n0 .ret e S = (k31 b n0) .ret e S := nr (seqC_r _ _ _ _)
def k73 (b n0 : Nat) : KT := seqC (fun e S => execL (C b) 1 c33 (k31 b n0) e S) (k31 b n0)
def c74 : Code := at0 c34
def c75 : Code := at1 c34
def k76 (b n0 : Nat) : KT := seqC (fun e S => execL (C b) 1 c75 (k71 b n0) e S) (k71 b n0)
def c77 : Code := atT c75
def c80 : Code := at0 c77
def c81 : Code := at1 c77
def k82 (b n0 : Nat) : KT := seqC (fun e S => execL (C b) 1 c81 (k71 b n0) e S) (k71 b n0)
@[go_sem] theorem k82_n : k82 b n0 .normal (ee10 x6) S =
  (k71 b n0) .ret (ee10 x6) S := nr (seqN (execL_ret (by kernel_rfl)))
@[go_sem] theorem g83 : execL (C b) 1 c80 K (ee7 x1 x2 x3 x7 x8 x9 x68) S =
  withV (some (.bool false)) fun x6 =>
    K .normal (ee10 x6) S := nr (by kernel_rfl)
@[go_sem] theorem k76_n : k76 b n0 .normal (ee7 x1 x2 x3 x7 x8 x9 x68) S =
  condC x68 (execL (C b) 1 c80 (k82 b n0) (ee7 x1 x2 x3 x7 x8 x9 x68) S)
    ((k71 b n0) .normal (ee7 x1 x2 x3 x7 x8 x9 x68) S) := nr (seqN (condE (t := 68) (by kernel_rfl) (enterS (by kernel_rfl)) (execL_skip (by kernel_rfl)) rfl))
@[go_sem] theorem g84 : execL (C b) 1 c74 K (ee3 x1 x2 x3 x7 x8 x9) S =
  withV (evFieldAddr (tyi Try.prog 54) 0 x9) fun x43 =>
    withV (evLoad (tyi Try.prog 3) S x43) fun x44 =>
    withV (evBin .eql (tyi Try.prog 3) x44 (.int .i64 56)) fun x45 =>
    withV (some x45) fun x46 =>
    withV (gval x46 true (some x8)) fun x47 =>
    withV (gval x46 true (some x7)) fun x48 =>
    withV (gval x46 true (evBin .sub (tyi Try.prog 3) x48 (.int .i64 2))) fun x49 =>
    withV (gval x46 true (evBin .lss (tyi Try.prog 3) x47 x49)) fun x50 =>
    withV (pickO x46 x50 (.bool false)) fun x51 =>
    withV (some x51) fun x52 =>
    withV (gval x52 false (evFieldAddr (tyi Try.prog 54) 0 x9)) fun x53 =>
    withV (gval x52 false (evLoad (tyi Try.prog 3) S x53)) fun x54 =>
    withV (gval x52 false (evBin .neq (tyi Try.prog 3) x54 (.int .i64 56))) fun x55 =>
    withV (gval x52 false (some x55)) fun x56 =>
    withV (gval x56 true (evFieldAddr (tyi Try.prog 54) 0 x9)) fun x57 =>
    withV (gval x56 true (evLoad (tyi Try.prog 3) S x57)) fun x58 =>
    withV (gval x56 true (evBin .neq (tyi Try.prog 3) x58 (.int .i64 55))) fun x59 =>
    withV (gval x52 false (pickO x56 x59 (.bool false))) fun x60 =>
    withV (pickO x52 (.bool true) x60) fun x61 =>
    withV (some x61) fun x62 =>
    withV (gval x62 false (evLoad (tyi Try.prog 54) S x9)) fun x63 =>
    withV (gval x62 false (some x1)) fun x64 =>
    withV (gval x62 false (some x2)) fun x65 =>
    withN (gout x62 false (callO (callL Try.prog hints) S 65 [x63, (.int .i64 4), x64, x65])) S fun x66 S =>
    withV (gval x62 false (evUn .not x66)) fun x67 =>
    withV (pickO x62 (.bool true) x67) fun x68 =>
    K .normal (ee7 x1 x2 x3 x7 x8 x9 x68) S := nr (by kernel_rfl)
@[go_sem] theorem k73_n : k73 b n0 .normal (ee3 x1 x2 x3 x7 x8 x9) S =
  execL (C b) 1 c74 (k76 b n0) (ee3 x1 x2 x3 x7 x8 x9) S := nr (seqN ((enterS (by kernel_rfl)).trans (enterS (by kernel_rfl))))
@[go_sem] theorem g85 : execL (C b) 1 c32 K (ee8 x1 x2 x3 x7 x8 x35) S =
  withV (evFieldAddr (tyi Try.prog 54) 3 x3) fun x38 =>
    withV (evLoad (tyi Try.prog 52) S x38) fun x39 =>
    withV (some x8) fun x40 =>
    withV (indexAddrO Try.prog 52 S x39 x40) fun x41 =>
    withV (evLoad (tyi Try.prog 54) S x41) fun x42 =>
    withN (allocO (tyi Try.prog 54) (List.length S)) S fun x9 S =>
    withS (storeE (tyi Try.prog 54) S x9 x42) fun _u S =>
    K .normal (ee3 x1 x2 x3 x7 x8 x9) S := nr (by kernel_rfl)
@[go_sem] theorem k29_n : k29 b n0 .normal (ee8 x1 x2 x3 x7 x8 x35) S =
  execL (C b) 1 c32 (k73 b n0) (ee8 x1 x2 x3 x7 x8 x35) S := nr (seqN ((enterS (by kernel_rfl)).trans ((blockE (by kernel_rfl)).trans (enterS (by kernel_rfl)))))
@[go_sem] theorem k29_exit : k29 b n0 (.exit i) e S = (k22 b n0) (.exit i) e S := nr (seqC_x _ _ _ _ _)
def c86 : Code := at0 c23
def c87 : Code := at1 c23
def k88 (b n0 : Nat) : KT := seqC (fun e S => execL (C b) 0 c87 (k29 b n0) e S) (k29 b n0)
@[go_sem] theorem k88_n : k88 b n0 .normal (ee8 x1 x2 x3 x7 x8 x35) S =
  condC x35 ((k29 b n0) .normal (ee8 x1 x2 x3 x7 x8 x35) S)
    ((k29 b n0) (.exit 0) (ee8 x1 x2 x3 x7 x8 x35) S) := nr (seqN (condE (t := 35) (by kernel_rfl) (execL_skip (by kernel_rfl)) (execL_exit (by kernel_rfl)) rfl))
@[go_sem] theorem g91 : execL (C b) 0 c86 K (ee2 x1 x2 x3 x7 x8) S =
  withV (some x8) fun x32 =>
    withV (some x7) fun x33 =>
    withV (evBin .sub (tyi Try.prog 3) x33 (.int .i64 1)) fun x34 =>
    withV (evBin .lss (tyi Try.prog 3) x32 x34) fun x35 =>
    K .normal (ee8 x1 x2 x3 x7 x8 x35) S := nr (by kernel_rfl)
def B0 (b n0 : Nat) (x1 x2 x3 x7 x8 : PV) (S : Store) : RT := execL (C b) 0 c20 (k22 b n0) (ee2 x1 x2 x3 x7 x8) S
@[go_sem] theorem B0_eq : B0 b n0 x1 x2 x3 x7 x8 S =
  execL (C b) 0 c86 (k88 b n0) (ee2 x1 x2 x3 x7 x8) S := nr ((enterS (by kernel_rfl)).trans (enterS (by kernel_rfl)))
theorem L0_step {b n0 : Nat} {x1 x2 x3 x7 x8 : PV} {S : Store} {z : PV × Store} (h : B0 b n0 x1 x2 x3 x7 x8 S = some z) : L0 b n0 x1 x2 x3 x7 x8 S = some z := loopL_step h
theorem L0_in (b : Nat) (x1 x2 x3 x7 x8 : PV) (S : Store) : execL (C b) 0 c18 (k19 b) (ee2 x1 x2 x3 x7 x8) S = L0 b (List.length S) x1 x2 x3 x7 x8 S := by kernel_rfl
@[go_sem] theorem k17_n : k17 b .normal (ee2 x1 x2 x3 x7 x8) S =
  L0 b (List.length S) x1 x2 x3 x7 x8 S := nr (seqN ((blockE (by kernel_rfl)).trans (L0_in b x1 x2 x3 x7 x8 S)))
@[go_sem] theorem g93 : execL (C b) 0 c15 K (ee9 x1 x2 x3 x7 x31) S =
  withV (some (.int .i64 0)) fun x8 =>
    K .normal (ee2 x1 x2 x3 x7 x8) S := nr (by kernel_rfl)
@[go_sem] theorem k14_n : k14 b .normal (ee9 x1 x2 x3 x7 x31) S =
  execL (C b) 0 c15 (k17 b) (ee9 x1 x2 x3 x7 x31) S := nr (seqN ((enterS (by kernel_rfl)).trans (enterS (by kernel_rfl))))
@[go_sem] theorem k14_ret : k14 b .ret e S = (k0 b) .ret e S := nr (seqC_r _ _ _ _)
def k94 (b : Nat) : KT := seqC (fun e S => execL (C b) 0 c4 (k0 b) e S) (k0 b)
def c95 : Code := at0 c5
def c96 : Code := at1 c5
def k97 (b : Nat) : KT := seqC (fun e S => execL (C b) 0 c96 (k14 b) e S) (k14 b)
def c98 : Code := atT c96
def c101 : Code := at0 c98
def c102 : Code := at1 c98
def k103 (b : Nat) : KT := seqC (fun e S => execL (C b) 0 c102 (k14 b) e S) (k14 b)
@[go_sem] theorem k103_n : k103 b .normal (ee10 x6) S =
  (k14 b) .ret (ee10 x6) S := nr (seqN (execL_ret (by kernel_rfl)))
@[go_sem] theorem g104 : execL (C b) 0 c101 K (ee9 x1 x2 x3 x7 x31) S =
  withV (some (.bool false)) fun x6 =>
    K .normal (ee10 x6) S := nr (by kernel_rfl)
@[go_sem] theorem k97_n : k97 b .normal (ee9 x1 x2 x3 x7 x31) S =
  condC x31 (execL (C b) 0 c101 (k103 b) (ee9 x1 x2 x3 x7 x31) S)
    ((k14 b) .normal (ee9 x1 x2 x3 x7 x31) S) := nr (seqN (condE (t := 31) (by kernel_rfl) (enterS (by kernel_rfl)) (execL_skip (by kernel_rfl)) rfl))
@[go_sem] theorem g105 : execL (C b) 0 c95 K (ee1 x1 x2 x3 x7) S =
  withV (some x7) fun x14 =>
    withV (evBin .lss (tyi Try.prog 3) x14 (.int .i64 2)) fun x15 =>
    withV (some x15) fun x16 =>
    withV (gval x16 false (evLoad (tyi Try.prog 54) S x3)) fun x17 =>
    withN (gout x16 false (callO (callL Try.prog hints) S 95 [x17])) S fun x18 S =>
    withV (pickO x16 (.bool true) x18) fun x19 =>
    withV (some x19) fun x20 =>
    withV (gval x20 false (evFieldAddr (tyi Try.prog 54) 3 x3)) fun x21 =>
    withV (gval x20 false (evLoad (tyi Try.prog 52) S x21)) fun x22 =>
    withV (gval x20 false (some x7)) fun x23 =>
    withV (gval x20 false (evBin .sub (tyi Try.prog 3) x23 (.int .i64 1))) fun x24 =>
    withV (gval x20 false (indexAddrO Try.prog 52 S x22 x24)) fun x25 =>
    withV (gval x20 false (evLoad (tyi Try.prog 54) S x25)) fun x26 =>
    withV (gval x20 false (some x1)) fun x27 =>
    withV (gval x20 false (some x2)) fun x28 =>
    withN (gout x20 false (callO (callL Try.prog hints) S 65 [x26, (.int .i64 2), x27, x28])) S fun x29 S =>
    withV (gval x20 false (evUn .not x29)) fun x30 =>
    withV (pickO x20 (.bool true) x30) fun x31 =>
    K .normal (ee9 x1 x2 x3 x7 x31) S := nr (by kernel_rfl)
@[go_sem] theorem k94_n : k94 b .normal (ee1 x1 x2 x3 x7) S =
  execL (C b) 0 c95 (k97 b) (ee1 x1 x2 x3 x7) S := nr (seqN ((enterS (by kernel_rfl)).trans (enterS (by kernel_rfl))))
def k106 (b : Nat) : KT := seqC (fun e S => execL (C b) 0 c2 (k0 b) e S) (k0 b)
@[go_sem] theorem g107 : execL (C b) 0 c3 K (ee0 x1 x2 x3) S =
  withV (evFieldAddr (tyi Try.prog 54) 3 x3) fun x11 =>
    withV (evLoad (tyi Try.prog 52) S x11) fun x12 =>
    withV (lenO (tyi Try.prog 52) x12) fun x13 =>
    withV (some x13) fun x7 =>
    K .normal (ee1 x1 x2 x3 x7) S := nr (by kernel_rfl)
@[go_sem] theorem k106_n : k106 b .normal e S = execL (C b) 0 c3 (k94 b) e S := nr (seqN (enterS (by kernel_rfl)))
@[go_sem] theorem g108 : execL (C b) 0 c1 K [(0, x0), (1, x1), (2, x2)] S =
  withN (boxed S (List.length S) (TI.size (tyi Try.prog 54)) x0) S fun x3 S =>
    withV (some (.bool false)) fun x6 =>
    K .normal (ee0 x1 x2 x3) S := nr (by kernel_rfl)
def E (b : Nat) (x0 x1 x2 : PV) (S : Store) : RT := execL (C b) 0 code (k0 b) [(0, x0), (1, x1), (2, x2)] S
@[go_sem] theorem E_eq : E b x0 x1 x2 S =
  execL (C b) 0 c1 (k106 b) [(0, x0), (1, x1), (2, x2)] S := nr (enterS (by kernel_rfl))
@[go_sem] theorem gc_ee2 : gc n (ee2 x1 x2 x3 x7 x8) S = gc n [(1, x1), (2, x2), (3, x3), (7, x7), (8, x8)] S := nr (rfl)
@[go_sem] theorem gc_ee4 : gc n (ee4 x1 x2 x3 x7 x8 x9 x10) S = gc n [(1, x1), (2, x2), (3, x3), (7, x7), (8, x8), (9, x9), (10, x10)] S := nr (rfl)
@[go_sem] theorem gc_ee5 : gc n (ee5 x1 x2 x3 x7 x8 x9 x10 x71) S = gc n [(1, x1), (2, x2), (3, x3), (7, x7), (8, x8), (9, x9), (10, x10), (71, x71)] S := nr (rfl)
@[go_sem] theorem gc_ee8 : gc n (ee8 x1 x2 x3 x7 x8 x35) S = gc n [(1, x1), (2, x2), (3, x3), (7, x7), (8, x8), (35, x35)] S := nr (rfl)
@[go_sem] theorem k0_ret10 : k0 b .ret (ee10 x6) S = some (x6, S) := nr (by kernel_rfl)
theorem call {x0 x1 x2 : PV} {r : PV × Store} {v : PV} (h : E 0 x0 x1 x2 [] = some r) (hv : fzPV r.2 r.1 = some v) : callL Try.prog hints 89 [x0, x1, x2] = some v := callL_of (fn := Try.f89) (c := code) (by kernel_rfl) (by kernel_rfl) (by decide) (by kernel_rfl) (Nat.le_of_ble_eq_true (by kernel_rfl)) h hv
end
end F89
/-! ### isochroneref08.well -/
namespace F65
section
variable (b i n n0 : Nat) (K : KT) (x0 x1 x2 x3 x4 x8 x9 x10 x35 x38 x42 x59 x76 x79 x94 x98 x104 x108 x134 x136 x137 x155 x172 : PV) (e : Env) (S : Store)
noncomputable def hint : Hint := { keep := [], loops := [(0, { live := [2, 3, 4, 9, 10], after := [4], own := [], fz := [] })], regs := [(0, [1, 2, 3, 4]), (1, [2, 3, 4, 35]), (2, [8]), (3, [2, 3, 4, 38]), (4, [2, 3, 4, 42, 59]), (5, [8]), (6, [2, 3, 4, 42, 59]), (7, [8]), (8, [2, 3, 4, 76]), (9, [8]), (10, [2, 3, 4, 79]), (11, [8]), (12, [2, 3, 4, 9]), (13, [2, 3, 4, 9, 94, 98]), (14, [2, 3, 4, 9, 94, 98]), (15, [2, 3, 4, 9, 94, 98]), (16, [2, 3, 4, 9, 104]), (17, [8]), (18, [2, 3, 4, 9, 10]), (19, [2, 3, 4, 9, 10, 108]), (20, [2, 3, 4, 9, 10]), (21, [2, 3, 4, 9, 10, 134]), (22, [8]), (23, [4, 136]), (24, [4, 136, 137]), (25, [8]), (26, [4, 136, 155]), (27, [8]), (28, [4, 172]), (29, [8]), (30, [8])] }
noncomputable def C (b : Nat) : Ctx := ctxL Try.prog hints b hint
noncomputable def code : Code := Try.f65.body.get rfl
noncomputable def k0 (b : Nat) : KT := endC Try.prog Try.f65
def ee0 (x1 x2 x3 x4 : PV) : Env := [(1, x1), (2, x2), (3, x3), (4, x4)]
def ee1 (x2 x3 x4 x9 : PV) : Env := [(2, x2), (3, x3), (4, x4), (9, x9)]
def ee2 (x2 x3 x4 x9 x10 : PV) : Env := [(2, x2), (3, x3), (4, x4), (9, x9), (10, x10)]
def ee3 (x2 x3 x4 x9 x10 x108 : PV) : Env := [(2, x2), (3, x3), (4, x4), (9, x9), (10, x10), (108, x108)]
def ee4 (x2 x3 x4 x9 x10 x134 : PV) : Env := [(2, x2), (3, x3), (4, x4), (9, x9), (10, x10), (134, x134)]
def ee5 (x2 x3 x4 x9 x94 x98 : PV) : Env := [(2, x2), (3, x3), (4, x4), (9, x9), (94, x94), (98, x98)]
def ee6 (x2 x3 x4 x9 x104 : PV) : Env := [(2, x2), (3, x3), (4, x4), (9, x9), (104, x104)]
def ee7 (x2 x3 x4 x35 : PV) : Env := [(2, x2), (3, x3), (4, x4), (35, x35)]
def ee8 (x2 x3 x4 x38 : PV) : Env := [(2, x2), (3, x3), (4, x4), (38, x38)]
def ee9 (x2 x3 x4 x42 x59 : PV) : Env := [(2, x2), (3, x3), (4, x4), (42, x42), (59, x59)]
def ee10 (x2 x3 x4 x76 : PV) : Env := [(2, x2), (3, x3), (4, x4), (76, x76)]
def ee11 (x2 x3 x4 x79 : PV) : Env := [(2, x2), (3, x3), (4, x4), (79, x79)]
def ee12 (x4 x136 : PV) : Env := [(4, x4), (136, x136)]
def ee13 (x4 x136 x137 : PV) : Env := [(4, x4), (136, x136), (137, x137)]
def ee14 (x4 x136 x155 : PV) : Env := [(4, x4), (136, x136), (155, x155)]
def ee15 (x4 x172 : PV) : Env := [(4, x4), (172, x172)]
def ee16 (x8 : PV) : Env := [(8, x8)]
def c1 : Code := at0 code
def c2 : Code := at1 code
def c3 : Code := at0 c2
def c4 : Code := at1 c2
def c5 : Code := at0 c4
def c6 : Code := at1 c4
def c7 : Code := at0 c6
def c8 : Code := at1 c6
def c9 : Code := at0 c8
def c10 : Code := at1 c8
def c11 : Code := at0 c10
def c12 : Code := at1 c10
def c13 : Code := at0 c12
def c14 : Code := at1 c12
def c15 : Code := at0 c14
def c16 : Code := at1 c14
def c17 : Code := at0 c16
def c18 : Code := at1 c16
def c19 : Code := at0 c18
def c20 : Code := at1 c18
def c21 : Code := at0 c20
def c22 : Code := at1 c20
def k23 (b : Nat) : KT := seqC (fun e S => execL (C b) 0 c22 (k0 b) e S) (k0 b)
@[go_sem] theorem k23_n : k23 b .normal (ee16 x8) S =
  (k0 b) .ret (ee16 x8) S := nr (seqN (execL_ret (by kernel_rfl)))
def k24 (b : Nat) : KT := seqC (fun e S => execL (C b) 0 c20 (k0 b) e S) (k0 b)
@[go_sem] theorem g25 : execL (C b) 0 c21 K (ee15 x4 x172) S =
  withV (some (.bool true)) fun x8 =>
    K .normal (ee16 x8) S := nr (by kernel_rfl)
@[go_sem] theorem k24_n : k24 b .normal e S = execL (C b) 0 c21 (k23 b) e S := nr (seqN (enterS (by kernel_rfl)))
@[go_sem] theorem k24_ret : k24 b .ret e S = (k0 b) .ret e S := nr (seqC_r _ _ _ _)
def k26 (b : Nat) : KT := seqC (fun e S => execL (C b) 0 c18 (k0 b) e S) (k0 b)
def c27 : Code := at0 c19
def c28 : Code := at1 c19
def k29 (b : Nat) : KT := seqC (fun e S => execL (C b) 0 c28 (k24 b) e S) (k24 b)
def c30 : Code := atB c28
def k31 (b : Nat) : KT := blockC 2 (k24 b)
@[go_sem] theorem k31_n : k31 b .normal e S = (k24 b) .normal e S := nr (blockC_n _ _ _ _)
@[go_sem] theorem k31_ret : k31 b .ret e S = (k24 b) .ret e S := nr (blockC_r _ _ _ _)
def c32 : Code := at0 c30
def c33 : Code := at1 c30
def k34 (b : Nat) : KT := seqC (fun e S => execL (C b) 2 c33 (k31 b) e S) (k31 b)
def c35 : Code := atT c33
def c36 : Code := atF c33
def c38 : Code := at0 c35
def c39 : Code := at1 c35
def k40 (b : Nat) : KT := seqC (fun e S => execL (C b) 2 c39 (k31 b) e S) (k31 b)
@[go_sem] theorem k40_n : k40 b .normal (ee16 x8) S =
  (k31 b) .ret (ee16 x8) S := nr (seqN (execL_ret (by kernel_rfl)))
@[go_sem] theorem g41 : execL (C b) 2 c38 K (ee13 x4 x136 x137) S =
  withV (evFieldAddr (tyi Try.prog 54) 3 x4) fun x139 =>
    withV (evLoad (tyi Try.prog 52) S x139) fun x140 =>
    withV (indexAddrO Try.prog 52 S x140 (.int .i64 1)) fun x141 =>
    withV (evFieldAddr (tyi Try.prog 54) 0 x141) fun x142 =>
    withV (evLoad (tyi Try.prog 3) S x142) fun x143 =>
    withV (evBin .eql (tyi Try.prog 3) x143 (.int .i64 1)) fun x144 =>
    withV (some x144) fun x145 =>
    withV (gval x145 true (evFieldAddr (tyi Try.prog 54) 3 x4)) fun x146 =>
    withV (gval x145 true (evLoad (tyi Try.prog 52) S x146)) fun x147 =>
    withV (gval x145 true (indexAddrO Try.prog 52 S x147 (.int .i64 1))) fun x148 =>
    withV (gval x145 true (evFieldAddr (tyi Try.prog 54) 2 x148)) fun x149 =>
    withV (gval x145 true (evFieldAddr (tyi Try.prog 51) 1 x149)) fun x150 =>
    withV (gval x145 true (evLoad (tyi Try.prog 49) S x150)) fun x151 =>
    withV (gval x145 true (lenO (tyi Try.prog 49) x151)) fun x152 =>
    withV (gval x145 true (evBin .gtr (tyi Try.prog 3) x152 (.int .i64 0))) fun x153 =>
    withV (pickO x145 x153 (.bool false)) fun x154 =>
    withV (some x154) fun x8 =>
    K .normal (ee16 x8) S := nr (by kernel_rfl)
def c43 : Code := at0 c36
def c44 : Code := at1 c36
def k45 (b : Nat) : KT := seqC (fun e S => execL (C b) 2 c44 (k31 b) e S) (k31 b)
def c46 : Code := atT c44
def c47 : Code := atF c44
def c49 : Code := at0 c46
def c50 : Code := at1 c46
def k51 (b : Nat) : KT := seqC (fun e S => execL (C b) 2 c50 (k31 b) e S) (k31 b)
@[go_sem] theorem k51_n : k51 b .normal (ee16 x8) S =
  (k31 b) .ret (ee16 x8) S := nr (seqN (execL_ret (by kernel_rfl)))
@[go_sem] theorem g52 : execL (C b) 2 c49 K (ee14 x4 x136 x155) S =
  withV (evFieldAddr (tyi Try.prog 54) 3 x4) fun x157 =>
    withV (evLoad (tyi Try.prog 52) S x157) fun x158 =>
    withV (indexAddrO Try.prog 52 S x158 (.int .i64 1)) fun x159 =>
    withV (evFieldAddr (tyi Try.prog 54) 0 x159) fun x160 =>
    withV (evLoad (tyi Try.prog 3) S x160) fun x161 =>
    withV (evBin .eql (tyi Try.prog 3) x161 (.int .i64 1)) fun x162 =>
    withV (some x162) fun x163 =>
    withV (gval x163 true (evFieldAddr (tyi Try.prog 54) 3 x4)) fun x164 =>
    withV (gval x163 true (evLoad (tyi Try.prog 52) S x164)) fun x165 =>
    withV (gval x163 true (indexAddrO Try.prog 52 S x165 (.int .i64 1))) fun x166 =>
    withV (gval x163 true (evFieldAddr (tyi Try.prog 54) 2 x166)) fun x167 =>
    withV (gval x163 true (evLoad (tyi Try.prog 51) S x167)) fun x168 =>
    withN (gout x163 true (callO (callL Try.prog hints) S 91 [x168, (.int .i64 20)])) S fun x169 S =>
    withV (gval x163 true (evBin .geq (tyi Try.prog 3) x169 (.int .i64 0))) fun x170 =>
    withV (pickO x163 x170 (.bool false)) fun x171 =>
    withV (some x171) fun x8 =>
    K .normal (ee16 x8) S := nr (by kernel_rfl)
def c54 : Code := at0 c47
def c55 : Code := at1 c47
def k56 (b : Nat) : KT := seqC (fun e S => execL (C b) 2 c55 (k31 b) e S) (k31 b)
def c57 : Code := atT c55
def c60 : Code := at0 c57
def c61 : Code := at1 c57
def k62 (b : Nat) : KT := seqC (fun e S => execL (C b) 2 c61 (k31 b) e S) (k31 b)
@[go_sem] theorem k62_n : k62 b .normal (ee16 x8) S =
  (k31 b) .ret (ee16 x8) S := nr (seqN (execL_ret (by kernel_rfl)))
@[go_sem] theorem g63 : execL (C b) 2 c60 K (ee15 x4 x172) S =
  withV (evFieldAddr (tyi Try.prog 54) 3 x4) fun x174 =>
    withV (evLoad (tyi Try.prog 52) S x174) fun x175 =>
    withV (indexAddrO Try.prog 52 S x175 (.int .i64 0)) fun x176 =>
    withV (evLoad (tyi Try.prog 54) S x176) fun x177 =>
    withN (callO (callL Try.prog hints) S 92 [x177]) S fun x178 S =>
    withV (some x178) fun x8 =>
    K .normal (ee16 x8) S := nr (by kernel_rfl)
@[go_sem] theorem k56_n : k56 b .normal (ee15 x4 x172) S =
  condC x172 (execL (C b) 2 c60 (k62 b) (ee15 x4 x172) S)
    ((k31 b) .normal (ee15 x4 x172) S) := nr (seqN (condE (t := 172) (by kernel_rfl) (enterS (by kernel_rfl)) (execL_skip (by kernel_rfl)) rfl))
@[go_sem] theorem g64 : execL (C b) 2 c54 K (ee14 x4 x136 x155) S =
  withV (evBin .eql (tyi Try.prog 3) x136 (.int .i64 39)) fun x173 =>
    withV (some x173) fun x172 =>
    K .normal (ee15 x4 x172) S := nr (by kernel_rfl)
@[go_sem] theorem k45_n : k45 b .normal (ee14 x4 x136 x155) S =
  condC x155 (execL (C b) 2 c49 (k51 b) (ee14 x4 x136 x155) S)
    (execL (C b) 2 c54 (k56 b) (ee14 x4 x136 x155) S) := nr (seqN (condE (t := 155) (by kernel_rfl) (enterS (by kernel_rfl)) (enterS (by kernel_rfl)) rfl))
@[go_sem] theorem g65 : execL (C b) 2 c43 K (ee13 x4 x136 x137) S =
  withV (evBin .eql (tyi Try.prog 3) x136 (.int .i64 9)) fun x156 =>
    withV (some x156) fun x155 =>
    K .normal (ee14 x4 x136 x155) S := nr (by kernel_rfl)
@[go_sem] theorem k34_n : k34 b .normal (ee13 x4 x136 x137) S =
  condC x137 (execL (C b) 2 c38 (k40 b) (ee13 x4 x136 x137) S)
    (execL (C b) 2 c43 (k45 b) (ee13 x4 x136 x137) S) := nr (seqN (condE (t := 137) (by kernel_rfl) (enterS (by kernel_rfl)) (enterS (by kernel_rfl)) rfl))
@[go_sem] theorem g66 : execL (C b) 2 c32 K (ee12 x4 x136) S =
  withV (evBin .eql (tyi Try.prog 3) x136 (.int .i64 8)) fun x138 =>
    withV (some x138) fun x137 =>
    K .normal (ee13 x4 x136 x137) S := nr (by kernel_rfl)
@[go_sem] theorem k29_n : k29 b .normal (ee12 x4 x136) S =
  execL (C b) 2 c32 (k34 b) (ee12 x4 x136) S := nr (seqN ((blockE (by kernel_rfl)).trans (enterS (by kernel_rfl))))
@[go_sem] theorem g67 : execL (C b) 0 c27 K (ee3 x2 x3 x4 x9 x10 x108) S =
  withV (evFieldAddr (tyi Try.prog 54) 0 x4) fun x135 =>
    withV (evLoad (tyi Try.prog 3) S x135) fun x136 =>
    K .normal (ee12 x4 x136) S := nr (by kernel_rfl)
@[go_sem] theorem k26_n : k26 b .normal (ee3 x2 x3 x4 x9 x10 x108) S =
  execL (C b) 0 c27 (k29 b) (ee3 x2 x3 x4 x9 x10 x108) S := nr (seqN ((enterS (by kernel_rfl)).trans (enterS (by kernel_rfl))))
@[go_sem] theorem k26_ret : k26 b .ret e S = (k0 b) .ret e S := nr (seqC_r _ _ _ _)
def k68 (b : Nat) : KT := seqC (fun e S => execL (C b) 0 c16 (k0 b) e S) (k0 b)
def c69 : Code := at0 c17
def c70 : Code := at1 c17
def k71 (b : Nat) : KT := seqC (fun e S => execL (C b) 0 c70 (k26 b) e S) (k26 b)
def c72 : Code := atB c70
def k73 (b : Nat) : KT := blockC 0 (k26 b)
@[go_sem] theorem k73_ret : k73 b .ret e S = (k26 b) .ret e S := nr (blockC_r _ _ _ _)
@[go_sem] theorem k73_exit : k73 b (.exit i) e S = if i = 0 then (k26 b) .normal e S else (k26 b) (.exit i) e S := nr (blockC_x _ _ _ _ _)
def c74 : Code := atL c72
def k75 (b n0 : Nat) : KT := afterC 0 n0 [4] (k73 b)
def L0g (b n0 : Nat) (e : Env) (S : Store) : RT := loopL (fun K e S => execL (C b) 0 c74 K e S) (normG [2, 3, 4, 9, 10] [] n0) (k75 b n0) e S
def L0 (b n0 : Nat) (x2 x3 x4 x9 x10 : PV) (S : Store) : RT := L0g b n0 (ee2 x2 x3 x4 x9 x10) S
def k76 (b n0 : Nat) : KT := stepC (normG [2, 3, 4, 9, 10] [] n0) (k75 b n0) (L0g b n0)
@[go_sem] theorem k76_n : k76 b n0 .normal (ee2 x2 x3 x4 x9 x10) S = L0 b n0 x2 x3 x4 x9 x10 (gc n0 (ee2 x2 x3 x4 x9 x10) S) := nr (by kernel_rfl)
@[go_sem] theorem k76_ret : k76 b n0 .ret e S = (k73 b) .ret e S := nr ((show k76 b n0 .ret e S = (k75 b n0) .ret e S from stepC_r _ _ _ _ _).trans (afterC_r _ _ _ _ _ _))
@[go_sem] theorem k76_x1 : k76 b n0 (.exit 0) (ee3 x2 x3 x4 x9 x10 x108) S = (k73 b) (.exit 0) (ee3 .undef .undef x4 .undef .undef .undef) (gc n0 (ee3 .undef .undef x4 .undef .undef .undef) S) := nr ((show k76 b n0 (.exit 0) (ee3 x2 x3 x4 x9 x10 x108) S = (k75 b n0) (.exit 0) (ee3 x2 x3 x4 x9 x10 x108) S from stepC_x _ _ _ _ _ _).trans ((show (k75 b n0) (.exit 0) (ee3 x2 x3 x4 x9 x10 x108) S = _ from afterC_x _ _ _ _ _ _ _).trans (if_pos rfl)))
def c77 : Code := at0 c74
def c78 : Code := at1 c74
def c79 : Code := at0 c78
def c80 : Code := at1 c78
def k81 (b n0 : Nat) : KT := seqC (fun e S => execL (C b) 0 c80 (k76 b n0) e S) (k76 b n0)
@[go_sem] theorem g82 : execL (C b) 0 c80 K (ee4 x2 x3 x4 x9 x10 x134) S =
  withV (some x10) fun x109 =>
    withV (evBin .add (tyi Try.prog 3) x109 (.int .i64 1)) fun x110 =>
    withV (some x110) fun x10 =>
    K .normal (ee2 x2 x3 x4 x9 x10) S := nr (by kernel_rfl)
@[go_sem] theorem k81_n : k81 b n0 .normal e S = execL (C b) 0 c80 (k76 b n0) e S := nr (seqN rfl)
@[go_sem] theorem k81_ret : k81 b n0 .ret e S = (k76 b n0) .ret e S := nr (seqC_r _ _ _ _)
def k83 (b n0 : Nat) : KT := seqC (fun e S => execL (C b) 0 c78 (k76 b n0) e S) (k76 b n0)
def c84 : Code := atB c79
def k85 (b n0 : Nat) : KT := blockC 1 (k81 b n0)
@[go_sem] theorem k85_n : k85 b n0 .normal e S = (k81 b n0) .normal e S := nr (blockC_n _ _ _ _)
@[go_sem] theorem k85_ret : k85 b n0 .ret e S = (k81 b n0) .ret e S := nr (blockC_r _ _ _ _)
def c86 : Code := at0 c84
def c87 : Code := at1 c84
def k88 (b n0 : Nat) : KT := seqC (fun e S => execL (C b) 1 c87 (k85 b n0) e S) (k85 b n0)
def c89 : Code := atT c87
def c92 : Code := at0 c89
def c93 : Code := at1 c89
def k94 (b n0 : Nat) : KT := seqC (fun e S => execL (C b) 1 c93 (k85 b n0) e S) (k85 b n0)
@[go_sem] theorem k94_n : k94 b n0 .normal (ee16 x8) S =
  (k85 b n0) .ret (ee16 x8) S := nr (seqN (execL_ret (by kernel_rfl)))
@[go_sem] theorem g95 : execL (C b) 1 c92 K (ee4 x2 x3 x4 x9 x10 x134) S =
  withV (some (.bool false)) fun x8 =>
    K .normal (ee16 x8) S := nr (by kernel_rfl)
@[go_sem] theorem k88_n : k88 b n0 .normal (ee4 x2 x3 x4 x9 x10 x134) S =
  condC x134 (execL (C b) 1 c92 (k94 b n0) (ee4 x2 x3 x4 x9 x10 x134) S)
    ((k85 b n0) .normal (ee4 x2 x3 x4 x9 x10 x134) S) := nr (seqN (condE (t := 134) (by kernel_rfl) (enterS (by kernel_rfl)) (execL_skip (by kernel_rfl)) rfl))
@[go_sem] theorem g96 : execL (C b) 1 c86 K (ee3 x2 x3 x4 x9 x10 x108) S =
  withV (evFieldAddr (tyi Try.prog 54) 3 x4) fun x111 =>
    withV (evLoad (tyi Try.prog 52) S x111) fun x112 =>
    withV (some x10) fun x113 =>
    withV (indexAddrO Try.prog 52 S x112 x113) fun x114 =>
    withV (evLoad (tyi Try.prog 54) S x114) fun x115 =>
    withV (some x9) fun x116 =>
    withV (some x10) fun x117 =>
    withV (indexO Try.prog 9 x116 x117) fun x118 =>
    withV (evBin .sub (tyi Try.prog 5) x118 (.int .u8 48)) fun x119 =>
    withV (convertO Try.prog 5 3 x119) fun x120 =>
    withV (some x2) fun x121 =>
    withV (some x121) fun x122 =>
    withV (gval x122 false (evFieldAddr (tyi Try.prog 54) 0 x4)) fun x123 =>
    withV (gval x122 false (evLoad (tyi Try.prog 3) S x123)) fun x124 =>
    withV (gval x122 false (evBin .eql (tyi Try.prog 3) x124 (.int .i64 12))) fun x125 =>
    withV (pickO x122 (.bool true) x125) fun x126 =>
    withV (some x3) fun x127 =>
    withV (some x127) fun x128 =>
    withV (gval x128 false (evFieldAddr (tyi Try.prog 54) 0 x4)) fun x129 =>
    withV (gval x128 false (evLoad (tyi Try.prog 3) S x129)) fun x130 =>
    withV (gval x128 false (evBin .eql (tyi Try.prog 3) x130 (.int .i64 39))) fun x131 =>
    withV (pickO x128 (.bool true) x131) fun x132 =>
    withN (callO (callL Try.prog hints) S 65 [x115, x120, x126, x132]) S fun x133 S =>
    withV (evUn .not x133) fun x134 =>
    K .normal (ee4 x2 x3 x4 x9 x10 x134) S := nr (by kernel_rfl)
@[go_sem] theorem k83_n : k83 b n0 .normal (ee3 x2 x3 x4 x9 x10 x108) S =
  execL (C b) 1 c86 (k88 b n0) (ee3 x2 x3 x4 x9 x10 x108) S := nr (seqN ((enterS (by kernel_rfl)).trans ((blockE (by kernel_rfl)).trans (enterS (by kernel_rfl)))))
@[go_sem] theorem k83_exit : k83 b n0 (.exit i) e S = (k76 b n0) (.exit i) e S := nr (seqC_x _ _ _ _ _)
def c97 : Code := at0 c77
def c98 : Code := at1 c77
def k99 (b n0 : Nat) : KT := seqC (fun e S => execL (C b) 0 c98 (k83 b n0) e S) (k83 b n0)
@[go_sem] theorem k99_n : k99 b n0 .normal (ee3 x2 x3 x4 x9 x10 x108) S =
  condC x108 ((k83 b n0) .normal (ee3 x2 x3 x4 x9 x10 x108) S)
    ((k83 b n0) (.exit 0) (ee3 x2 x3 x4 x9 x10 x108) S) := nr (seqN (condE (t := 108) (by kernel_rfl) (execL_skip (by kernel_rfl)) (execL_exit (by kernel_rfl)) rfl))
@[go_sem] theorem g102 : execL (C b) 0 c97 K (ee2 x2 x3 x4 x9 x10) S =
  withV (some x10) fun x105 =>
    withV (some x9) fun x106 =>
    withV (lenO (tyi Try.prog 9) x106) fun x107 =>
    withV (evBin .lss (tyi Try.prog 3) x105 x107) fun x108 =>
    K .normal (ee3 x2 x3 x4 x9 x10 x108) S := nr (by kernel_rfl)
def B0 (b n0 : Nat) (x2 x3 x4 x9 x10 : PV) (S : Store) : RT := execL (C b) 0 c74 (k76 b n0) (ee2 x2 x3 x4 x9 x10) S
@[go_sem] theorem B0_eq : B0 b n0 x2 x3 x4 x9 x10 S =
  execL (C b) 0 c97 (k99 b n0) (ee2 x2 x3 x4 x9 x10) S := nr ((enterS (by kernel_rfl)).trans (enterS (by kernel_rfl)))
theorem L0_step {b n0 : Nat} {x2 x3 x4 x9 x10 : PV} {S : Store} {z : PV × Store} (h : B0 b n0 x2 x3 x4 x9 x10 S = some z) : L0 b n0 x2 x3 x4 x9 x10 S = some z := loopL_step h
theorem L0_in (b : Nat) (x2 x3 x4 x9 x10 : PV) (S : Store) : execL (C b) 0 c72 (k73 b) (ee2 x2 x3 x4 x9 x10) S = L0 b (List.length S) x2 x3 x4 x9 x10 S := by kernel_rfl
@[go_sem] theorem k71_n : k71 b .normal (ee2 x2 x3 x4 x9 x10) S =
  L0 b (List.length S) x2 x3 x4 x9 x10 S := nr (seqN ((blockE (by kernel_rfl)).trans (L0_in b x2 x3 x4 x9 x10 S)))
@[go_sem] theorem g104 : execL (C b) 0 c69 K (ee6 x2 x3 x4 x9 x104) S =
  withV (some (.int .i64 0)) fun x10 =>
    K .normal (ee2 x2 x3 x4 x9 x10) S := nr (by kernel_rfl)
@[go_sem] theorem k68_n : k68 b .normal (ee6 x2 x3 x4 x9 x104) S =
  execL (C b) 0 c69 (k71 b) (ee6 x2 x3 x4 x9 x104) S := nr (seqN ((enterS (by kernel_rfl)).trans (enterS (by kernel_rfl))))
@[go_sem] theorem k68_ret : k68 b .ret e S = (k0 b) .ret e S := nr (seqC_r _ _ _ _)
def k105 (b : Nat) : KT := seqC (fun e S => execL (C b) 0 c14 (k0 b) e S) (k0 b)
def c106 : Code := at0 c15
def c107 : Code := at1 c15
def k108 (b : Nat) : KT := seqC (fun e S => execL (C b) 0 c107 (k68 b) e S) (k68 b)
def c109 : Code := atT c107
def c112 : Code := at0 c109
def c113 : Code := at1 c109
def k114 (b : Nat) : KT := seqC (fun e S => execL (C b) 0 c113 (k68 b) e S) (k68 b)
@[go_sem] theorem k114_n : k114 b .normal (ee16 x8) S =
  (k68 b) .ret (ee16 x8) S := nr (seqN (execL_ret (by kernel_rfl)))
@[go_sem] theorem g115 : execL (C b) 0 c112 K (ee6 x2 x3 x4 x9 x104) S =
  withV (some (.bool false)) fun x8 =>
    K .normal (ee16 x8) S := nr (by kernel_rfl)
@[go_sem] theorem k108_n : k108 b .normal (ee6 x2 x3 x4 x9 x104) S =
  condC x104 (execL (C b) 0 c112 (k114 b) (ee6 x2 x3 x4 x9 x104) S)
    ((k68 b) .normal (ee6 x2 x3 x4 x9 x104) S) := nr (seqN (condE (t := 104) (by kernel_rfl) (enterS (by kernel_rfl)) (execL_skip (by kernel_rfl)) rfl))
@[go_sem] theorem g116 : execL (C b) 0 c106 K (ee5 x2 x3 x4 x9 x94 x98) S =
  withV (some x9) fun x99 =>
    withV (lenO (tyi Try.prog 9) x99) fun x100 =>
    withV (evFieldAddr (tyi Try.prog 54) 3 x4) fun x101 =>
    withV (evLoad (tyi Try.prog 52) S x101) fun x102 =>
    withV (lenO (tyi Try.prog 52) x102) fun x103 =>
    withV (evBin .neq (tyi Try.prog 3) x100 x103) fun x104 =>
    K .normal (ee6 x2 x3 x4 x9 x104) S := nr (by kernel_rfl)
@[go_sem] theorem k105_n : k105 b .normal (ee5 x2 x3 x4 x9 x94 x98) S =
  execL (C b) 0 c106 (k108 b) (ee5 x2 x3 x4 x9 x94 x98) S := nr (seqN ((enterS (by kernel_rfl)).trans (enterS (by kernel_rfl))))
def k117 (b : Nat) : KT := seqC (fun e S => execL (C b) 0 c12 (k0 b) e S) (k0 b)
def c118 : Code := at0 c13
def c119 : Code := at1 c13
def k120 (b : Nat) : KT := seqC (fun e S => execL (C b) 0 c119 (k105 b) e S) (k105 b)
def c121 : Code := atT c119
def c124 : Code := at0 c121
def c125 : Code := at1 c121
def k126 (b : Nat) : KT := seqC (fun e S => execL (C b) 0 c125 (k105 b) e S) (k105 b)
def c127 : Code := atT c125
@[go_sem] theorem g130 : execL (C b) 0 c127 K (ee5 x2 x3 x4 x9 x94 x98) S =
  withV (some (.str ⟨#[49]⟩)) fun x9 =>
    K .normal (ee5 x2 x3 x4 x9 x94 x98) S := nr (by kernel_rfl)
@[go_sem] theorem k126_n : k126 b .normal (ee5 x2 x3 x4 x9 x94 x98) S =
  condC x98 (execL (C b) 0 c127 (k105 b) (ee5 x2 x3 x4 x9 x94 x98) S)
    ((k105 b) .normal (ee5 x2 x3 x4 x9 x94 x98) S) := nr (seqN (condE (t := 98) (by kernel_rfl) (rfl) (execL_skip (by kernel_rfl)) rfl))
@[go_sem] theorem g131 : execL (C b) 0 c124 K (ee5 x2 x3 x4 x9 x94 x98) S =
  withV (evFieldAddr (tyi Try.prog 54) 3 x4) fun x95 =>
    withV (evLoad (tyi Try.prog 52) S x95) fun x96 =>
    withV (lenO (tyi Try.prog 52) x96) fun x97 =>
    withV (evBin .eql (tyi Try.prog 3) x97 (.int .i64 1)) fun x98 =>
    K .normal (ee5 x2 x3 x4 x9 x94 x98) S := nr (by kernel_rfl)
@[go_sem] theorem k120_n : k120 b .normal (ee5 x2 x3 x4 x9 x94 x98) S =
  condC x94 (execL (C b) 0 c124 (k126 b) (ee5 x2 x3 x4 x9 x94 x98) S)
    ((k105 b) .normal (ee5 x2 x3 x4 x9 x94 x98) S) := nr (seqN (condE (t := 94) (by kernel_rfl) (enterS (by kernel_rfl)) (execL_skip (by kernel_rfl)) rfl))
@[go_sem] theorem g132 : execL (C b) 0 c118 K (ee1 x2 x3 x4 x9) S =
  withV (evFieldAddr (tyi Try.prog 54) 0 x4) fun x87 =>
    withV (evLoad (tyi Try.prog 3) S x87) fun x88 =>
    withV (evBin .eql (tyi Try.prog 3) x88 (.int .i64 10)) fun x89 =>
    withV (some x89) fun x90 =>
    withV (gval x90 false (evFieldAddr (tyi Try.prog 54) 0 x4)) fun x91 =>
    withV (gval x90 false (evLoad (tyi Try.prog 3) S x91)) fun x92 =>
    withV (gval x90 false (evBin .eql (tyi Try.prog 3) x92 (.int .i64 37))) fun x93 =>
    withV (pickO x90 (.bool true) x93) fun x94 =>
    K .normal (ee5 x2 x3 x4 x9 x94 .undef) S := nr (by kernel_rfl)
@[go_sem] theorem k117_n : k117 b .normal (ee1 x2 x3 x4 x9) S =
  execL (C b) 0 c118 (k120 b) (ee1 x2 x3 x4 x9) S := nr (seqN ((enterS (by kernel_rfl)).trans (enterS (by kernel_rfl))))
def k133 (b : Nat) : KT := seqC (fun e S => execL (C b) 0 c10 (k0 b) e S) (k0 b)
@[go_sem] theorem g134 : execL (C b) 0 c11 K (ee11 x2 x3 x4 x79) S =
  withV (evFieldAddr (tyi Try.prog 54) 0 x4) fun x84 =>
    withV (evLoad (tyi Try.prog 3) S x84) fun x85 =>
    withN (callO (callL Try.prog hints) S 90 [x85]) S fun x86 S =>
    withV (some x86) fun x9 =>
    K .normal (ee1 x2 x3 x4 x9) S := nr (by kernel_rfl)
@[go_sem] theorem k133_n : k133 b .normal e S = execL (C b) 0 c11 (k117 b) e S := nr (seqN (enterS (by kernel_rfl)))
@[go_sem] theorem k133_ret : k133 b .ret e S = (k0 b) .ret e S := nr (seqC_r _ _ _ _)
def k135 (b : Nat) : KT := seqC (fun e S => execL (C b) 0 c8 (k0 b) e S) (k0 b)
def c136 : Code := at0 c9
def c137 : Code := at1 c9
def k138 (b : Nat) : KT := seqC (fun e S => execL (C b) 0 c137 (k133 b) e S) (k133 b)
def c139 : Code := atT c137
def c142 : Code := at0 c139
def c143 : Code := at1 c139
def k144 (b : Nat) : KT := seqC (fun e S => execL (C b) 0 c143 (k133 b) e S) (k133 b)
@[go_sem] theorem k144_n : k144 b .normal (ee16 x8) S =
  (k133 b) .ret (ee16 x8) S := nr (seqN (execL_ret (by kernel_rfl)))
@[go_sem] theorem g145 : execL (C b) 0 c142 K (ee11 x2 x3 x4 x79) S =
  withV (evLoad (tyi Try.prog 54) S x4) fun x80 =>
    withV (some x2) fun x81 =>
    withV (some x3) fun x82 =>
    withN (callO (callL Try.prog hints) S 89 [x80, x81, x82]) S fun x83 S =>
    withV (some x83) fun x8 =>
    K .normal (ee16 x8) S := nr (by kernel_rfl)
@[go_sem] theorem k138_n : k138 b .normal (ee11 x2 x3 x4 x79) S =
  condC x79 (execL (C b) 0 c142 (k144 b) (ee11 x2 x3 x4 x79) S)
    ((k133 b) .normal (ee11 x2 x3 x4 x79) S) := nr (seqN (condE (t := 79) (by kernel_rfl) (enterS (by kernel_rfl)) (execL_skip (by kernel_rfl)) rfl))
@[go_sem] theorem g146 : execL (C b) 0 c136 K (ee10 x2 x3 x4 x76) S =
  withV (evFieldAddr (tyi Try.prog 54) 0 x4) fun x77 =>
    withV (evLoad (tyi Try.prog 3) S x77) fun x78 =>
    withV (evBin .eql (tyi Try.prog 3) x78 (.int .i64 54)) fun x79 =>
    K .normal (ee11 x2 x3 x4 x79) S := nr (by kernel_rfl)
@[go_sem] theorem k135_n : k135 b .normal (ee10 x2 x3 x4 x76) S =
  execL (C b) 0 c136 (k138 b) (ee10 x2 x3 x4 x76) S := nr (seqN ((enterS (by kernel_rfl)).trans (enterS (by kernel_rfl))))
@[go_sem] theorem k135_ret : k135 b .ret e S = (k0 b) .ret e S := nr (seqC_r _ _ _ _)
def k147 (b : Nat) : KT := seqC (fun e S => execL (C b) 0 c6 (k0 b) e S) (k0 b)
def c148 : Code := at0 c7
def c149 : Code := at1 c7
def k150 (b : Nat) : KT := seqC (fun e S => execL (C b) 0 c149 (k135 b) e S) (k135 b)
def c151 : Code := atT c149
def c154 : Code := at0 c151
def c155 : Code := at1 c151
def k156 (b : Nat) : KT := seqC (fun e S => execL (C b) 0 c155 (k135 b) e S) (k135 b)
@[go_sem] theorem k156_n : k156 b .normal (ee16 x8) S =
  (k135 b) .ret (ee16 x8) S := nr (seqN (execL_ret (by kernel_rfl)))
@[go_sem] theorem g157 : execL (C b) 0 c154 K (ee10 x2 x3 x4 x76) S =
  withV (some (.bool false)) fun x8 =>
    K .normal (ee16 x8) S := nr (by kernel_rfl)
@[go_sem] theorem k150_n : k150 b .normal (ee10 x2 x3 x4 x76) S =
  condC x76 (execL (C b) 0 c154 (k156 b) (ee10 x2 x3 x4 x76) S)
    ((k135 b) .normal (ee10 x2 x3 x4 x76) S) := nr (seqN (condE (t := 76) (by kernel_rfl) (enterS (by kernel_rfl)) (execL_skip (by kernel_rfl)) rfl))
@[go_sem] theorem g158 : execL (C b) 0 c148 K (ee9 x2 x3 x4 x42 x59) S =
  withV (some x2) fun x60 =>
    withV (some x60) fun x61 =>
    withV (gval x61 true (evFieldAddr (tyi Try.prog 54) 0 x4)) fun x62 =>
    withV (gval x61 true (evLoad (tyi Try.prog 3) S x62)) fun x63 =>
    withV (gval x61 true (evBin .eql (tyi Try.prog 3) x63 (.int .i64 12))) fun x64 =>
    withV (pickO x61 x64 (.bool false)) fun x65 =>
    withV (some x65) fun x66 =>
    withV (gval x66 false (some x2)) fun x67 =>
    withV (gval x66 false (some x67)) fun x68 =>
    withV (gval x68 false (some x3)) fun x69 =>
    withV (gval x66 false (pickO x68 (.bool true) x69)) fun x70 =>
    withV (gval x66 false (some x70)) fun x71 =>
    withV (gval x71 true (evFieldAddr (tyi Try.prog 54) 0 x4)) fun x72 =>
    withV (gval x71 true (evLoad (tyi Try.prog 3) S x72)) fun x73 =>
    withV (gval x71 true (evBin .eql (tyi Try.prog 3) x73 (.int .i64 3))) fun x74 =>
    withV (gval x66 false (pickO x71 x74 (.bool false))) fun x75 =>
    withV (pickO x66 (.bool true) x75) fun x76 =>
    K .normal (ee10 x2 x3 x4 x76) S := nr (by kernel_rfl)
@[go_sem] theorem k147_n : k147 b .normal (ee9 x2 x3 x4 x42 x59) S =
  execL (C b) 0 c148 (k150 b) (ee9 x2 x3 x4 x42 x59) S := nr (seqN ((enterS (by kernel_rfl)).trans (enterS (by kernel_rfl))))
@[go_sem] theorem k147_ret : k147 b .ret e S = (k0 b) .ret e S := nr (seqC_r _ _ _ _)
def k159 (b : Nat) : KT := seqC (fun e S => execL (C b) 0 c4 (k0 b) e S) (k0 b)
def c160 : Code := at0 c5
def c161 : Code := at1 c5
def k162 (b : Nat) : KT := seqC (fun e S => execL (C b) 0 c161 (k147 b) e S) (k147 b)
def c163 : Code := atT c161
def c164 : Code := atF c161
def c166 : Code := at0 c163
def c167 : Code := at1 c163
def k168 (b : Nat) : KT := seqC (fun e S => execL (C b) 0 c167 (k147 b) e S) (k147 b)
def c169 : Code := atT c167
def c172 : Code := at0 c169
def c173 : Code := at1 c169
def k174 (b : Nat) : KT := seqC (fun e S => execL (C b) 0 c173 (k147 b) e S) (k147 b)
@[go_sem] theorem k174_n : k174 b .normal (ee16 x8) S =
  (k147 b) .ret (ee16 x8) S := nr (seqN (execL_ret (by kernel_rfl)))
@[go_sem] theorem g175 : execL (C b) 0 c172 K (ee9 x2 x3 x4 x42 x59) S =
  withV (some (.bool false)) fun x8 =>
    K .normal (ee16 x8) S := nr (by kernel_rfl)
@[go_sem] theorem k168_n : k168 b .normal (ee9 x2 x3 x4 x42 x59) S =
  condC x42 (execL (C b) 0 c172 (k174 b) (ee9 x2 x3 x4 x42 x59) S)
    ((k147 b) .normal (ee9 x2 x3 x4 x42 x59) S) := nr (seqN (condE (t := 42) (by kernel_rfl) (enterS (by kernel_rfl)) (execL_skip (by kernel_rfl)) rfl))
@[go_sem] theorem g176 : execL (C b) 0 c166 K (ee8 x2 x3 x4 x38) S =
  withV (evFieldAddr (tyi Try.prog 54) 2 x4) fun x39 =>
    withV (evLoad (tyi Try.prog 51) S x39) fun x40 =>
    withN (callO (callL Try.prog hints) S 88 [x40]) S fun x41 S =>
    withV (evUn .not x41) fun x42 =>
    K .normal (ee9 x2 x3 x4 x42 .undef) S := nr (by kernel_rfl)
def c178 : Code := at0 c164
def c179 : Code := at1 c164
def k180 (b : Nat) : KT := seqC (fun e S => execL (C b) 0 c179 (k147 b) e S) (k147 b)
def c181 : Code := atT c179
def c184 : Code := at0 c181
def c185 : Code := at1 c181
def k186 (b : Nat) : KT := seqC (fun e S => execL (C b) 0 c185 (k147 b) e S) (k147 b)
@[go_sem] theorem k186_n : k186 b .normal (ee16 x8) S =
  (k147 b) .ret (ee16 x8) S := nr (seqN (execL_ret (by kernel_rfl)))
@[go_sem] theorem g187 : execL (C b) 0 c184 K (ee9 x2 x3 x4 x42 x59) S =
  withV (some (.bool false)) fun x8 =>
    K .normal (ee16 x8) S := nr (by kernel_rfl)
@[go_sem] theorem k180_n : k180 b .normal (ee9 x2 x3 x4 x42 x59) S =
  condC x59 (execL (C b) 0 c184 (k186 b) (ee9 x2 x3 x4 x42 x59) S)
    ((k147 b) .normal (ee9 x2 x3 x4 x42 x59) S) := nr (seqN (condE (t := 59) (by kernel_rfl) (enterS (by kernel_rfl)) (execL_skip (by kernel_rfl)) rfl))
@[go_sem] theorem g188 : execL (C b) 0 c178 K (ee8 x2 x3 x4 x38) S =
  withV (evFieldAddr (tyi Try.prog 54) 2 x4) fun x43 =>
    withV (evFieldAddr (tyi Try.prog 51) 0 x43) fun x44 =>
    withV (evLoad (tyi Try.prog 4) S x44) fun x45 =>
    withV (some x45) fun x46 =>
    withV (gval x46 false (evFieldAddr (tyi Try.prog 54) 2 x4)) fun x47 =>
    withV (gval x46 false (evFieldAddr (tyi Try.prog 51) 1 x47)) fun x48 =>
    withV (gval x46 false (evLoad (tyi Try.prog 49) S x48)) fun x49 =>
    withV (gval x46 false (lenO (tyi Try.prog 49) x49)) fun x50 =>
    withV (gval x46 false (evBin .gtr (tyi Try.prog 3) x50 (.int .i64 0))) fun x51 =>
    withV (pickO x46 (.bool true) x51) fun x52 =>
    withV (some x52) fun x53 =>
    withV (gval x53 false (evFieldAddr (tyi Try.prog 54) 2 x4)) fun x54 =>
    withV (gval x53 false (evFieldAddr (tyi Try.prog 51) 2 x54)) fun x55 =>
    withV (gval x53 false (evLoad (tyi Try.prog 49) S x55)) fun x56 =>
    withV (gval x53 false (lenO (tyi Try.prog 49) x56)) fun x57 =>
    withV (gval x53 false (evBin .gtr (tyi Try.prog 3) x57 (.int .i64 0))) fun x58 =>
    withV (pickO x53 (.bool true) x58) fun x59 =>
    K .normal (ee9 x2 x3 x4 .undef x59) S := nr (by kernel_rfl)
@[go_sem] theorem k162_n : k162 b .normal (ee8 x2 x3 x4 x38) S =
  condC x38 (execL (C b) 0 c166 (k168 b) (ee8 x2 x3 x4 x38) S)
    (execL (C b) 0 c178 (k180 b) (ee8 x2 x3 x4 x38) S) := nr (seqN (condE (t := 38) (by kernel_rfl) (enterS (by kernel_rfl)) (enterS (by kernel_rfl)) rfl))
@[go_sem] theorem g189 : execL (C b) 0 c160 K (ee7 x2 x3 x4 x35) S =
  withV (evFieldAddr (tyi Try.prog 54) 0 x4) fun x36 =>
    withV (evLoad (tyi Try.prog 3) S x36) fun x37 =>
    withV (evBin .eql (tyi Try.prog 3) x37 (.int .i64 1)) fun x38 =>
    K .normal (ee8 x2 x3 x4 x38) S := nr (by kernel_rfl)
@[go_sem] theorem k159_n : k159 b .normal (ee7 x2 x3 x4 x35) S =
  execL (C b) 0 c160 (k162 b) (ee7 x2 x3 x4 x35) S := nr (seqN ((enterS (by kernel_rfl)).trans (enterS (by kernel_rfl))))
@[go_sem] theorem k159_ret : k159 b .ret e S = (k0 b) .ret e S := nr (seqC_r _ _ _ _)
def k190 (b : Nat) : KT := seqC (fun e S => execL (C b) 0 c2 (k0 b) e S) (k0 b)
def c191 : Code := at0 c3
def c192 : Code := at1 c3
def k193 (b : Nat) : KT := seqC (fun e S => execL (C b) 0 c192 (k159 b) e S) (k159 b)
def c194 : Code := atT c192
def c197 : Code := at0 c194
def c198 : Code := at1 c194
def k199 (b : Nat) : KT := seqC (fun e S => execL (C b) 0 c198 (k159 b) e S) (k159 b)
@[go_sem] theorem k199_n : k199 b .normal (ee16 x8) S =
  (k159 b) .ret (ee16 x8) S := nr (seqN (execL_ret (by kernel_rfl)))
@[go_sem] theorem g200 : execL (C b) 0 c197 K (ee7 x2 x3 x4 x35) S =
  withV (some (.bool false)) fun x8 =>
    K .normal (ee16 x8) S := nr (by kernel_rfl)
@[go_sem] theorem k193_n : k193 b .normal (ee7 x2 x3 x4 x35) S =
  condC x35 (execL (C b) 0 c197 (k199 b) (ee7 x2 x3 x4 x35) S)
    ((k159 b) .normal (ee7 x2 x3 x4 x35) S) := nr (seqN (condE (t := 35) (by kernel_rfl) (enterS (by kernel_rfl)) (execL_skip (by kernel_rfl)) rfl))
@[go_sem] theorem g201 : execL (C b) 0 c191 K (ee0 x1 x2 x3 x4) S =
  withV (evFieldAddr (tyi Try.prog 54) 0 x4) fun x11 =>
    withV (evLoad (tyi Try.prog 3) S x11) fun x12 =>
    withN (callO (callL Try.prog hints) S 41 [x12]) S fun x13 S =>
    withV (some x1) fun x14 =>
    withV (evBin .neq (tyi Try.prog 3) x13 x14) fun x15 =>
    withV (some x15) fun x16 =>
    withV (gval x16 false (evFieldAddr (tyi Try.prog 54) 0 x4)) fun x17 =>
    withV (gval x16 false (evLoad (tyi Try.prog 3) S x17)) fun x18 =>
    withN (gout x16 false (callO (callL Try.prog hints) S 87 [x18])) S fun x19 S =>
    withV (gval x16 false (evFieldAddr (tyi Try.prog 54) 1 x4)) fun x20 =>
    withV (gval x16 false (evLoad (tyi Try.prog 9) S x20)) fun x21 =>
    withN (gout x16 false (callO (callL Try.prog hints) S 39 [x21])) S fun x22 S =>
    withV (gval x16 false (evBin .neq (tyi Try.prog 4) x19 x22)) fun x23 =>
    withV (pickO x16 (.bool true) x23) fun x24 =>
    withV (some x24) fun x25 =>
    withV (gval x25 false (evFieldAddr (tyi Try.prog 54) 0 x4)) fun x26 =>
    withV (gval x25 false (evLoad (tyi Try.prog 3) S x26)) fun x27 =>
    withN (gout x25 false (callO (callL Try.prog hints) S 87 [x27])) S fun x28 S =>
    withV (gval x25 false (evUn .not x28)) fun x29 =>
    withV (gval x25 false (some x29)) fun x30 =>
    withV (gval x30 true (evFieldAddr (tyi Try.prog 54) 1 x4)) fun x31 =>
    withV (gval x30 true (evLoad (tyi Try.prog 9) S x31)) fun x32 =>
    withV (gval x30 true (evBin .neq (tyi Try.prog 9) x32 (.str ⟨#[]⟩))) fun x33 =>
    withV (gval x25 false (pickO x30 x33 (.bool false))) fun x34 =>
    withV (pickO x25 (.bool true) x34) fun x35 =>
    K .normal (ee7 x2 x3 x4 x35) S := nr (by kernel_rfl)
@[go_sem] theorem k190_n : k190 b .normal (ee0 x1 x2 x3 x4) S =
  execL (C b) 0 c191 (k193 b) (ee0 x1 x2 x3 x4) S := nr (seqN ((enterS (by kernel_rfl)).trans (enterS (by kernel_rfl))))
@[go_sem] theorem g202 : execL (C b) 0 c1 K [(0, x0), (1, x1), (2, x2), (3, x3)] S =
  withN (boxed S (List.length S) (TI.size (tyi Try.prog 54)) x0) S fun x4 S =>
    withV (some (.bool false)) fun x8 =>
    K .normal (ee0 x1 x2 x3 x4) S := nr (by kernel_rfl)
def E (b : Nat) (x0 x1 x2 x3 : PV) (S : Store) : RT := execL (C b) 0 code (k0 b) [(0, x0), (1, x1), (2, x2), (3, x3)] S
@[go_sem] theorem E_eq : E b x0 x1 x2 x3 S =
  execL (C b) 0 c1 (k190 b) [(0, x0), (1, x1), (2, x2), (3, x3)] S := nr (enterS (by kernel_rfl))
@[go_sem] theorem gc_ee2 : gc n (ee2 x2 x3 x4 x9 x10) S = gc n [(2, x2), (3, x3), (4, x4), (9, x9), (10, x10)] S := nr (rfl)
@[go_sem] theorem gc_ee3 : gc n (ee3 x2 x3 x4 x9 x10 x108) S = gc n [(2, x2), (3, x3), (4, x4), (9, x9), (10, x10), (108, x108)] S := nr (rfl)
@[go_sem] theorem k0_ret16 : k0 b .ret (ee16 x8) S = some (x8, S) := nr (by kernel_rfl)
theorem call {x0 x1 x2 x3 : PV} {r : PV × Store} {v : PV} (h : E 0 x0 x1 x2 x3 [] = some r) (hv : fzPV r.2 r.1 = some v) : callL Try.prog hints 65 [x0, x1, x2, x3] = some v := callL_of (fn := Try.f65) (c := code) (by kernel_rfl) (by kernel_rfl) (by decide) (by kernel_rfl) (Nat.le_of_ble_eq_true (by kernel_rfl)) h hv
end
end F65
/-! ### isochroneref08.Check -/
namespace F37
section
variable (b : Nat) (K : KT) (x0 x1 x2 x4 x5 x12 x21 x27 : PV) (e : Env) (S : Store)
noncomputable def hint : Hint := { keep := [], loops := [], regs := [(0, [1, 2]), (1, [1, 2, 5]), (2, [4]), (3, [1, 2, 12]), (4, [4]), (5, [1, 2, 21]), (6, [4]), (7, [27]), (8, [4]), (9, [4])] }
noncomputable def C (b : Nat) : Ctx := ctxL Try.prog hints b hint
noncomputable def code : Code := Try.f37.body.get rfl
noncomputable def k0 (b : Nat) : KT := endC Try.prog Try.f37
def ee0 (x1 x2 : PV) : Env := [(1, x1), (2, x2)]
def ee1 (x1 x2 x5 : PV) : Env := [(1, x1), (2, x2), (5, x5)]
def ee2 (x1 x2 x12 : PV) : Env := [(1, x1), (2, x2), (12, x12)]
def ee3 (x1 x2 x21 : PV) : Env := [(1, x1), (2, x2), (21, x21)]
def ee4 (x4 : PV) : Env := [(4, x4)]
def ee5 (x27 : PV) : Env := [(27, x27)]
def c1 : Code := at0 code
def c2 : Code := at1 code
def c3 : Code := at0 c2
def c4 : Code := at1 c2
def c5 : Code := at0 c4
def c6 : Code := at1 c4
def k7 (b : Nat) : KT := seqC (fun e S => execL (C b) 0 c6 (k0 b) e S) (k0 b)
@[go_sem] theorem k7_n : k7 b .normal (ee4 x4) S =
  (k0 b) .ret (ee4 x4) S := nr (seqN (execL_ret (by kernel_rfl)))
def k8 (b : Nat) : KT := seqC (fun e S => execL (C b) 0 c4 (k0 b) e S) (k0 b)
@[go_sem] theorem g9 : execL (C b) 0 c5 K (ee5 x27) S =
  withV (some (.int .i64 0)) fun x4 =>
    K .normal (ee4 x4) S := nr (by kernel_rfl)
@[go_sem] theorem k8_n : k8 b .normal e S = execL (C b) 0 c5 (k7 b) e S := nr (seqN (enterS (by kernel_rfl)))
@[go_sem] theorem k8_ret : k8 b .ret e S = (k0 b) .ret e S := nr (seqC_r _ _ _ _)
def k10 (b : Nat) : KT := seqC (fun e S => execL (C b) 0 c2 (k0 b) e S) (k0 b)
def c11 : Code := atB c3
def k12 (b : Nat) : KT := blockC 0 (k8 b)
@[go_sem] theorem k12_n : k12 b .normal e S = (k8 b) .normal e S := nr (blockC_n _ _ _ _)
@[go_sem] theorem k12_ret : k12 b .ret e S = (k8 b) .ret e S := nr (blockC_r _ _ _ _)
def c13 : Code := at0 c11
def c14 : Code := at1 c11
def k15 (b : Nat) : KT := seqC (fun e S => execL (C b) 0 c14 (k12 b) e S) (k12 b)
def c16 : Code := atT c14
def c17 : Code := atF c14
def c19 : Code := at0 c16
def c20 : Code := at1 c16
def k21 (b : Nat) : KT := seqC (fun e S => execL (C b) 0 c20 (k12 b) e S) (k12 b)
@[go_sem] theorem k21_n : k21 b .normal (ee4 x4) S =
  (k12 b) .ret (ee4 x4) S := nr (seqN (execL_ret (by kernel_rfl)))
@[go_sem] theorem g22 : execL (C b) 0 c19 K (ee1 x1 x2 x5) S =
  withV (some (.int .i64 1)) fun x4 =>
    K .normal (ee4 x4) S := nr (by kernel_rfl)
def c24 : Code := at0 c17
def c25 : Code := at1 c17
def k26 (b : Nat) : KT := seqC (fun e S => execL (C b) 0 c25 (k12 b) e S) (k12 b)
def c27 : Code := atT c25
def c28 : Code := atF c25
def c30 : Code := at0 c27
def c31 : Code := at1 c27
def k32 (b : Nat) : KT := seqC (fun e S => execL (C b) 0 c31 (k12 b) e S) (k12 b)
@[go_sem] theorem k32_n : k32 b .normal (ee4 x4) S =
  (k12 b) .ret (ee4 x4) S := nr (seqN (execL_ret (by kernel_rfl)))
@[go_sem] theorem g33 : execL (C b) 0 c30 K (ee2 x1 x2 x12) S =
  withV (some (.int .i64 2)) fun x4 =>
    K .normal (ee4 x4) S := nr (by kernel_rfl)
def c35 : Code := at0 c28
def c36 : Code := at1 c28
def k37 (b : Nat) : KT := seqC (fun e S => execL (C b) 0 c36 (k12 b) e S) (k12 b)
def c38 : Code := atT c36
def c39 : Code := atF c36
def c41 : Code := at0 c38
def c42 : Code := at1 c38
def k43 (b : Nat) : KT := seqC (fun e S => execL (C b) 0 c42 (k12 b) e S) (k12 b)
@[go_sem] theorem k43_n : k43 b .normal (ee4 x4) S =
  (k12 b) .ret (ee4 x4) S := nr (seqN (execL_ret (by kernel_rfl)))
@[go_sem] theorem g44 : execL (C b) 0 c41 K (ee3 x1 x2 x21) S =
  withV (some (.int .i64 80)) fun x4 =>
    K .normal (ee4 x4) S := nr (by kernel_rfl)
def c46 : Code := at0 c39
def c47 : Code := at1 c39
def k48 (b : Nat) : KT := seqC (fun e S => execL (C b) 0 c47 (k12 b) e S) (k12 b)
def c49 : Code := atT c47
def c52 : Code := at0 c49
def c53 : Code := at1 c49
def k54 (b : Nat) : KT := seqC (fun e S => execL (C b) 0 c53 (k12 b) e S) (k12 b)
@[go_sem] theorem k54_n : k54 b .normal (ee4 x4) S =
  (k12 b) .ret (ee4 x4) S := nr (seqN (execL_ret (by kernel_rfl)))
@[go_sem] theorem g55 : execL (C b) 0 c52 K (ee5 x27) S =
  withV (some (.int .i64 3)) fun x4 =>
    K .normal (ee4 x4) S := nr (by kernel_rfl)
@[go_sem] theorem k48_n : k48 b .normal (ee5 x27) S =
  condC x27 (execL (C b) 0 c52 (k54 b) (ee5 x27) S)
    ((k12 b) .normal (ee5 x27) S) := nr (seqN (condE (t := 27) (by kernel_rfl) (enterS (by kernel_rfl)) (execL_skip (by kernel_rfl)) rfl))
@[go_sem] theorem g56 : execL (C b) 0 c46 K (ee3 x1 x2 x21) S =
  withV (evLoad (tyi Try.prog 54) S x2) fun x28 =>
    withV (some x1) fun x29 =>
    withN (callO (callL Try.prog hints) S 65 [x28, x29, (.bool false), (.bool false)]) S fun x30 S =>
    withV (evUn .not x30) fun x31 =>
    withV (some x31) fun x27 =>
    K .normal (ee5 x27) S := nr (by kernel_rfl)
@[go_sem] theorem k37_n : k37 b .normal (ee3 x1 x2 x21) S =
  condC x21 (execL (C b) 0 c41 (k43 b) (ee3 x1 x2 x21) S)
    (execL (C b) 0 c46 (k48 b) (ee3 x1 x2 x21) S) := nr (seqN (condE (t := 21) (by kernel_rfl) (enterS (by kernel_rfl)) (enterS (by kernel_rfl)) rfl))
@[go_sem] theorem g57 : execL (C b) 0 c35 K (ee2 x1 x2 x12) S =
  withV (evFieldAddr (tyi Try.prog 54) 0 x2) fun x22 =>
    withV (evLoad (tyi Try.prog 3) S x22) fun x23 =>
    withN (callO (callL Try.prog hints) S 41 [x23]) S fun x24 S =>
    withV (some x1) fun x25 =>
    withV (evBin .neq (tyi Try.prog 3) x24 x25) fun x26 =>
    withV (some x26) fun x21 =>
    K .normal (ee3 x1 x2 x21) S := nr (by kernel_rfl)
@[go_sem] theorem k26_n : k26 b .normal (ee2 x1 x2 x12) S =
  condC x12 (execL (C b) 0 c30 (k32 b) (ee2 x1 x2 x12) S)
    (execL (C b) 0 c35 (k37 b) (ee2 x1 x2 x12) S) := nr (seqN (condE (t := 12) (by kernel_rfl) (enterS (by kernel_rfl)) (enterS (by kernel_rfl)) rfl))
@[go_sem] theorem g58 : execL (C b) 0 c24 K (ee1 x1 x2 x5) S =
  withV (evLoad (tyi Try.prog 54) S x2) fun x13 =>
    withN (callO (callL Try.prog hints) S 35 [x13]) S fun x14 S =>
    withV (evBin .gtr (tyi Try.prog 3) x14 (.int .i64 4000)) fun x15 =>
    withV (some x15) fun x16 =>
    withV (gval x16 false (evLoad (tyi Try.prog 54) S x2)) fun x17 =>
    withN (gout x16 false (callO (callL Try.prog hints) S 45 [x17])) S fun x18 S =>
    withV (gval x16 false (evBin .gtr (tyi Try.prog 3) x18 (.int .i64 60))) fun x19 =>
    withV (pickO x16 (.bool true) x19) fun x20 =>
    withV (some x20) fun x12 =>
    K .normal (ee2 x1 x2 x12) S := nr (by kernel_rfl)
@[go_sem] theorem k15_n : k15 b .normal (ee1 x1 x2 x5) S =
  condC x5 (execL (C b) 0 c19 (k21 b) (ee1 x1 x2 x5) S)
    (execL (C b) 0 c24 (k26 b) (ee1 x1 x2 x5) S) := nr (seqN (condE (t := 5) (by kernel_rfl) (enterS (by kernel_rfl)) (enterS (by kernel_rfl)) rfl))
@[go_sem] theorem g59 : execL (C b) 0 c13 K (ee0 x1 x2) S =
  withV (some x1) fun x6 =>
    withV (evBin .lss (tyi Try.prog 3) x6 (.int .i64 1)) fun x7 =>
    withV (some x7) fun x8 =>
    withV (gval x8 false (some x1)) fun x9 =>
    withV (gval x8 false (evBin .gtr (tyi Try.prog 3) x9 (.int .i64 3))) fun x10 =>
    withV (pickO x8 (.bool true) x10) fun x11 =>
    withV (some x11) fun x5 =>
    K .normal (ee1 x1 x2 x5) S := nr (by kernel_rfl)
@[go_sem] theorem k10_n : k10 b .normal (ee0 x1 x2) S =
  execL (C b) 0 c13 (k15 b) (ee0 x1 x2) S := nr (seqN ((enterS (by kernel_rfl)).trans ((blockE (by kernel_rfl)).trans (enterS (by kernel_rfl)))))
@[go_sem] theorem g60 : execL (C b) 0 c1 K [(0, x0), (1, x1)] S =
  withN (boxed S (List.length S) (TI.size (tyi Try.prog 54)) x0) S fun x2 S =>
    withV (some (.int .i64 0)) fun x4 =>
    K .normal (ee0 x1 x2) S := nr (by kernel_rfl)
def E (b : Nat) (x0 x1 : PV) (S : Store) : RT := execL (C b) 0 code (k0 b) [(0, x0), (1, x1)] S
@[go_sem] theorem E_eq : E b x0 x1 S =
  execL (C b) 0 c1 (k10 b) [(0, x0), (1, x1)] S := nr (enterS (by kernel_rfl))
@[go_sem] theorem k0_ret4 : k0 b .ret (ee4 x4) S = some (x4, S) := nr (by kernel_rfl)
theorem call {x0 x1 : PV} {r : PV × Store} {v : PV} (h : E 0 x0 x1 [] = some r) (hv : fzPV r.2 r.1 = some v) : callL Try.prog hints 37 [x0, x1] = some v := callL_of (fn := Try.f37) (c := code) (by kernel_rfl) (by kernel_rfl) (by decide) (by kernel_rfl) (Nat.le_of_ble_eq_true (by kernel_rfl)) h hv
end
end F37
/-! ### isochronelaw08.TreeChecks -/
namespace F7
section
variable (b : Nat) (K : KT) (x0 x1 x2 x4 x6 : PV) (e : Env) (S : Store)
end
end F7
end
end Go.Vs
