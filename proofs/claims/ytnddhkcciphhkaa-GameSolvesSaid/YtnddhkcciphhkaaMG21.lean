/- Printed by a program of mine (stage1.py): the functions 24, 25, piece by piece. -/

import Derived.Test.YtnddhkcciphhkaaMG9
set_option linter.unusedVariables false
set_option linter.unusedSimpArgs false
namespace Go.Vs
open Go Go.Proofs
noncomputable section

/-! ### game.Strategy -/
namespace F24
section
variable (b i n n0 n2 : Nat) (K : KT) (x0 x1 x2 x4 x5 x6 x7 x8 x9 x10 x12 x16 x23 x28 x29 x30 x60 x65 x66 x67 x68 x95 : PV) (e : Env) (S : Store)
noncomputable def hint : Hint := { keep := [], loops := [(2, { live := [1, 2, 7, 8, 9, 10, 28, 29, 65, 66, 67], after := [1, 2, 7, 8, 10, 28, 29], own := [], fz := [] }), (0, { live := [1, 2, 7, 8, 28, 29], after := [8], own := [], fz := [] })], regs := [(0, [1, 2]), (1, [1, 2, 6]), (2, [1, 2, 6, 16]), (3, [4, 5]), (4, [1, 2, 23]), (5, [4, 5]), (6, [1, 2, 7]), (7, [1, 2, 7, 8]), (8, [1, 2, 7, 8, 28, 29]), (9, [1, 2, 7, 8, 28, 29, 30]), (10, [1, 2, 7, 8, 9, 28, 29]), (11, [1, 2, 7, 8, 9, 10, 28, 29]), (12, [1, 2, 7, 8, 9, 10, 28, 29, 60, 65, 66, 67, 68]), (13, [1, 2, 7, 8, 9, 10, 28, 29, 65, 66, 67]), (14, [1, 2, 7, 8, 9, 10, 28, 29, 60, 65, 66, 67, 68]), (15, [1, 2, 7, 8, 9, 10, 12, 28, 29, 65, 66, 67]), (16, [1, 2, 7, 8, 9, 10, 12, 28, 29, 65, 66, 67, 95]), (17, [1, 2, 7, 8, 9, 10, 28, 29, 60, 65, 66, 67, 68]), (18, [1, 2, 7, 8, 9, 10, 28, 29, 65, 66, 67]), (19, [1, 2, 7, 8, 28, 29]), (20, [1, 2, 7, 8, 28, 29]), (21, [4, 5])] }
noncomputable def C (b : Nat) : Ctx := ctxL Try.prog hints b hint
noncomputable def code : Code := Try.f24.body.get rfl
noncomputable def k0 (b : Nat) : KT := endC Try.prog Try.f24
def ee0 (x1 x2 : PV) : Env := [(1, x1), (2, x2)]
def ee1 (x1 x2 x6 : PV) : Env := [(1, x1), (2, x2), (6, x6)]
def ee2 (x1 x2 x6 x16 : PV) : Env := [(1, x1), (2, x2), (6, x6), (16, x16)]
def ee3 (x1 x2 x7 : PV) : Env := [(1, x1), (2, x2), (7, x7)]
def ee4 (x1 x2 x7 x8 : PV) : Env := [(1, x1), (2, x2), (7, x7), (8, x8)]
def ee5 (x1 x2 x7 x8 x9 x10 x12 x28 x29 x65 x66 x67 : PV) : Env := [(1, x1), (2, x2), (7, x7), (8, x8), (9, x9), (10, x10), (12, x12), (28, x28), (29, x29), (65, x65), (66, x66), (67, x67)]
def ee6 (x1 x2 x7 x8 x9 x10 x12 x28 x29 x65 x66 x67 x95 : PV) : Env := [(1, x1), (2, x2), (7, x7), (8, x8), (9, x9), (10, x10), (12, x12), (28, x28), (29, x29), (65, x65), (66, x66), (67, x67), (95, x95)]
def ee7 (x1 x2 x7 x8 x9 x10 x28 x29 : PV) : Env := [(1, x1), (2, x2), (7, x7), (8, x8), (9, x9), (10, x10), (28, x28), (29, x29)]
def ee8 (x1 x2 x7 x8 x9 x10 x28 x29 x60 x65 x66 x67 x68 : PV) : Env := [(1, x1), (2, x2), (7, x7), (8, x8), (9, x9), (10, x10), (28, x28), (29, x29), (60, x60), (65, x65), (66, x66), (67, x67), (68, x68)]
def ee9 (x1 x2 x7 x8 x9 x10 x28 x29 x65 x66 x67 : PV) : Env := [(1, x1), (2, x2), (7, x7), (8, x8), (9, x9), (10, x10), (28, x28), (29, x29), (65, x65), (66, x66), (67, x67)]
def ee10 (x1 x2 x7 x8 x9 x28 x29 : PV) : Env := [(1, x1), (2, x2), (7, x7), (8, x8), (9, x9), (28, x28), (29, x29)]
def ee11 (x1 x2 x7 x8 x28 x29 : PV) : Env := [(1, x1), (2, x2), (7, x7), (8, x8), (28, x28), (29, x29)]
def ee12 (x1 x2 x7 x8 x28 x29 x30 : PV) : Env := [(1, x1), (2, x2), (7, x7), (8, x8), (28, x28), (29, x29), (30, x30)]
def ee13 (x1 x2 x23 : PV) : Env := [(1, x1), (2, x2), (23, x23)]
def ee14 (x4 x5 : PV) : Env := [(4, x4), (5, x5)]
def c1 : Code := at0 code
def c2 : Code := at1 code
def c3 : Code := at0 c2
def c4 : Code := at1 c2
def c5 : Code := at0 c4
def c6 : Code := at1 c4
def c7 : Code := at0 c6
def c8 : Code := at1 c6
def c9 : Code := at0 c8
def c10 : Code := at1 c8
def c11 : Code := at0 c10
def c12 : Code := at1 c10
def c13 : Code := at0 c12
def c14 : Code := at1 c12
def k15 (b : Nat) : KT := seqC (fun e S => execL (C b) 0 c14 (k0 b) e S) (k0 b)
@[go_sem] theorem k15_n : k15 b .normal (ee14 x4 x5) S =
  (k0 b) .ret (ee14 x4 x5) S := nr (seqN (execL_ret (by kernel_rfl)))
def k16 (b : Nat) : KT := seqC (fun e S => execL (C b) 0 c12 (k0 b) e S) (k0 b)
@[go_sem] theorem g17 : execL (C b) 0 c13 K (ee12 x1 x2 x7 x8 x28 x29 x30) S =
  withV (some x8) fun x103 =>
    withV (some x103) fun x4 =>
    withV (some (.int .i64 0)) fun x5 =>
    K .normal (ee14 x4 x5) S := nr (by kernel_rfl)
@[go_sem] theorem k16_n : k16 b .normal e S = execL (C b) 0 c13 (k15 b) e S := nr (seqN (enterS (by kernel_rfl)))
def k18 (b : Nat) : KT := seqC (fun e S => execL (C b) 0 c10 (k0 b) e S) (k0 b)
def c19 : Code := at0 c11
def c20 : Code := at1 c11
def k21 (b : Nat) : KT := seqC (fun e S => execL (C b) 0 c20 (k16 b) e S) (k16 b)
def c22 : Code := atB c20
def k23 (b : Nat) : KT := blockC 0 (k16 b)
@[go_sem] theorem k23_exit : k23 b (.exit i) e S = if i = 0 then (k16 b) .normal e S else (k16 b) (.exit i) e S := nr (blockC_x _ _ _ _ _)
def c24 : Code := atL c22
def k25 (b n0 : Nat) : KT := afterC 0 n0 [8] (k23 b)
def L0g (b n0 : Nat) (e : Env) (S : Store) : RT := loopL (fun K e S => execL (C b) 0 c24 K e S) (normG [1, 2, 7, 8, 28, 29] [] n0) (k25 b n0) e S
def L0 (b n0 : Nat) (x1 x2 x7 x8 x28 x29 : PV) (S : Store) : RT := L0g b n0 (ee11 x1 x2 x7 x8 x28 x29) S
def k26 (b n0 : Nat) : KT := stepC (normG [1, 2, 7, 8, 28, 29] [] n0) (k25 b n0) (L0g b n0)
@[go_sem] theorem k26_n : k26 b n0 .normal (ee11 x1 x2 x7 x8 x28 x29) S = L0 b n0 x1 x2 x7 x8 x28 x29 (gc n0 (ee11 x1 x2 x7 x8 x28 x29) S) := nr (by kernel_rfl)
@[go_sem] theorem k26_x1 : k26 b n0 (.exit 0) (ee12 x1 x2 x7 x8 x28 x29 x30) S = (k23 b) (.exit 0) (ee12 .undef .undef .undef x8 .undef .undef .undef) (gc n0 (ee12 .undef .undef .undef x8 .undef .undef .undef) S) := nr ((show k26 b n0 (.exit 0) (ee12 x1 x2 x7 x8 x28 x29 x30) S = (k25 b n0) (.exit 0) (ee12 x1 x2 x7 x8 x28 x29 x30) S from stepC_x _ _ _ _ _ _).trans ((show (k25 b n0) (.exit 0) (ee12 x1 x2 x7 x8 x28 x29 x30) S = _ from afterC_x _ _ _ _ _ _ _).trans (if_pos rfl)))
def c27 : Code := at0 c24
def c28 : Code := at1 c24
def c30 : Code := at1 c28
def c31 : Code := at0 c30
def c32 : Code := at1 c30
def k33 (b n0 : Nat) : KT := seqC (fun e S => execL (C b) 0 c32 (k26 b n0) e S) (k26 b n0)
@[go_sem] theorem g34 : execL (C b) 0 c32 K (ee11 x1 x2 x7 x8 x28 x29) S =
  withV (evBin .add (tyi Try.prog 3) x29 (.int .i64 1)) fun x102 =>
    withV (some x102) fun x29 =>
    K .normal (ee11 x1 x2 x7 x8 x28 x29) S := nr (by kernel_rfl)
@[go_sem] theorem k33_n : k33 b n0 .normal e S = execL (C b) 0 c32 (k26 b n0) e S := nr (seqN rfl)
def k35 (b n0 : Nat) : KT := seqC (fun e S => execL (C b) 0 c30 (k26 b n0) e S) (k26 b n0)
def c36 : Code := atB c31
def k37 (b n0 : Nat) : KT := blockC 1 (k33 b n0)
@[go_sem] theorem k37_n : k37 b n0 .normal e S = (k33 b n0) .normal e S := nr (blockC_n _ _ _ _)
def c38 : Code := at0 c36
def c39 : Code := at1 c36
def c40 : Code := at0 c39
def c41 : Code := at1 c39
def c42 : Code := at0 c41
def c43 : Code := at1 c41
def k44 (b n0 : Nat) : KT := seqC (fun e S => execL (C b) 1 c43 (k37 b n0) e S) (k37 b n0)
@[go_sem] theorem g45 : execL (C b) 1 c43 K (ee8 x1 x2 x7 x8 x9 x10 x28 x29 x60 x65 x66 x67 x68) S =
  withV (some x8) fun x98 =>
    withV (some x10) fun x99 =>
    withN (buildSliceO Try.prog 22 (List.length S) 1 [0] [PV.cells x99]) S fun x100 S =>
    withE (appendE Try.prog b 22 22 S x98 x100) [(1, x1), (2, x2), (7, x7), (8, x8), (9, x9), (10, x10), (28, x28), (29, x29), (60, x60), (65, x65), (66, x66), (67, x67), (68, x68), (98, x98), (99, x99), (100, x100)] fun x101 e1 S =>
    withV (some (Vs.get (put e1 101 x101) 101)) fun x8 =>
    K .normal (ee11 (Vs.get (put (put e1 101 x101) 8 x8) 1) (Vs.get (put (put e1 101 x101) 8 x8) 2) (Vs.get (put (put e1 101 x101) 8 x8) 7) (Vs.get (put (put e1 101 x101) 8 x8) 8) (Vs.get (put (put e1 101 x101) 8 x8) 28) (Vs.get (put (put e1 101 x101) 8 x8) 29)) S := nr (by kernel_rfl)
@[go_sem] theorem k44_n : k44 b n0 .normal e S = execL (C b) 1 c43 (k37 b n0) e S := nr (seqN rfl)
def k46 (b n0 : Nat) : KT := seqC (fun e S => execL (C b) 1 c41 (k37 b n0) e S) (k37 b n0)
def c47 : Code := at0 c42
def c48 : Code := at1 c42
def k49 (b n0 : Nat) : KT := seqC (fun e S => execL (C b) 1 c48 (k44 b n0) e S) (k44 b n0)
def c50 : Code := atT c48
def c53 : Code := at0 c50
def c54 : Code := at1 c50
def k55 (b n0 : Nat) : KT := seqC (fun e S => execL (C b) 1 c54 (k44 b n0) e S) (k44 b n0)
def c56 : Code := atB c54
def k57 (b n0 : Nat) : KT := blockC 2 (k44 b n0)
@[go_sem] theorem k57_exit : k57 b n0 (.exit i) e S = if i = 2 then (k44 b n0) .normal e S else (k44 b n0) (.exit i) e S := nr (blockC_x _ _ _ _ _)
def c58 : Code := atL c56
def k59 (b n0 n2 : Nat) : KT := afterC 2 n2 [1, 2, 7, 8, 10, 28, 29] (k57 b n0)
def L2g (b n0 n2 : Nat) (e : Env) (S : Store) : RT := loopL (fun K e S => execL (C b) 2 c58 K e S) (normG [1, 2, 7, 8, 9, 10, 28, 29, 65, 66, 67] [] n2) (k59 b n0 n2) e S
def L2 (b n0 n2 : Nat) (x1 x2 x7 x8 x9 x10 x28 x29 x65 x66 x67 : PV) (S : Store) : RT := L2g b n0 n2 (ee9 x1 x2 x7 x8 x9 x10 x28 x29 x65 x66 x67) S
def k60 (b n0 n2 : Nat) : KT := stepC (normG [1, 2, 7, 8, 9, 10, 28, 29, 65, 66, 67] [] n2) (k59 b n0 n2) (L2g b n0 n2)
@[go_sem] theorem k60_n : k60 b n0 n2 .normal (ee9 x1 x2 x7 x8 x9 x10 x28 x29 x65 x66 x67) S = L2 b n0 n2 x1 x2 x7 x8 x9 x10 x28 x29 x65 x66 x67 (gc n2 (ee9 x1 x2 x7 x8 x9 x10 x28 x29 x65 x66 x67) S) := nr (by kernel_rfl)
@[go_sem] theorem k60_x1 : k60 b n0 n2 (.exit 2) (ee8 x1 x2 x7 x8 x9 x10 x28 x29 x60 x65 x66 x67 x68) S = (k57 b n0) (.exit 2) (ee8 x1 x2 x7 x8 .undef x10 x28 x29 .undef .undef .undef .undef .undef) (gc n2 (ee8 x1 x2 x7 x8 .undef x10 x28 x29 .undef .undef .undef .undef .undef) S) := nr ((show k60 b n0 n2 (.exit 2) (ee8 x1 x2 x7 x8 x9 x10 x28 x29 x60 x65 x66 x67 x68) S = (k59 b n0 n2) (.exit 2) (ee8 x1 x2 x7 x8 x9 x10 x28 x29 x60 x65 x66 x67 x68) S from stepC_x _ _ _ _ _ _).trans ((show (k59 b n0 n2) (.exit 2) (ee8 x1 x2 x7 x8 x9 x10 x28 x29 x60 x65 x66 x67 x68) S = _ from afterC_x _ _ _ _ _ _ _).trans (if_pos rfl)))
def c61 : Code := at0 c58
def c62 : Code := at1 c58
def c64 : Code := at1 c62
def c65 : Code := at0 c64
def c66 : Code := at1 c64
def k67 (b n0 n2 : Nat) : KT := seqC (fun e S => execL (C b) 2 c66 (k60 b n0 n2) e S) (k60 b n0 n2)
@[go_sem] theorem g68 : execL (C b) 2 c66 K (ee6 x1 x2 x7 x8 x9 x10 x12 x28 x29 x65 x66 x67 x95) S =
  withV (evBin .add (tyi Try.prog 3) x67 (.int .i64 1)) fun x97 =>
    withV (some x97) fun x67 =>
    K .normal (ee9 x1 x2 x7 x8 x9 x10 x28 x29 x65 x66 x67) S := nr (by kernel_rfl)
@[go_sem] theorem k67_n : k67 b n0 n2 .normal e S = execL (C b) 2 c66 (k60 b n0 n2) e S := nr (seqN rfl)
@[go_sem] theorem k67_exit : k67 b n0 n2 (.exit i) e S = (k60 b n0 n2) (.exit i) e S := nr (seqC_x _ _ _ _ _)
def k69 (b n0 n2 : Nat) : KT := seqC (fun e S => execL (C b) 2 c64 (k60 b n0 n2) e S) (k60 b n0 n2)
def c70 : Code := atB c65
def k71 (b n0 n2 : Nat) : KT := blockC 3 (k67 b n0 n2)
@[go_sem] theorem k71_n : k71 b n0 n2 .normal e S = (k67 b n0 n2) .normal e S := nr (blockC_n _ _ _ _)
@[go_sem] theorem k71_exit : k71 b n0 n2 (.exit i) e S = if i = 3 then (k67 b n0 n2) .normal e S else (k67 b n0 n2) (.exit i) e S := nr (blockC_x _ _ _ _ _)
def c72 : Code := at0 c70
def c73 : Code := at1 c70
def c74 : Code := at0 c73
def c75 : Code := at1 c73
def k76 (b n0 n2 : Nat) : KT := seqC (fun e S => execL (C b) 3 c75 (k71 b n0 n2) e S) (k71 b n0 n2)
def c77 : Code := atT c75
def c80 : Code := at0 c77
def c81 : Code := at1 c77
def k82 (b n0 n2 : Nat) : KT := seqC (fun e S => execL (C b) 3 c81 (k71 b n0 n2) e S) (k71 b n0 n2)
@[go_sem] theorem k82_n : k82 b n0 n2 .normal (ee8 x1 x2 x7 x8 x9 x10 x28 x29 x60 x65 x66 x67 x68) S =
  (k71 b n0 n2) (.exit 2) (ee8 x1 x2 x7 x8 x9 x10 x28 x29 x60 x65 x66 x67 x68) S := nr (seqN (execL_exit (by kernel_rfl)))
@[go_sem] theorem g83 : execL (C b) 3 c80 K (ee6 x1 x2 x7 x8 x9 x10 x12 x28 x29 x65 x66 x67 x95) S =
  withV (some x12) fun x96 =>
    withV (some x96) fun x10 =>
    K .normal (ee8 x1 x2 x7 x8 x9 x10 x28 x29 .undef x65 x66 x67 .undef) S := nr (by kernel_rfl)
@[go_sem] theorem k76_n : k76 b n0 n2 .normal (ee6 x1 x2 x7 x8 x9 x10 x12 x28 x29 x65 x66 x67 x95) S =
  condC x95 (execL (C b) 3 c80 (k82 b n0 n2) (ee6 x1 x2 x7 x8 x9 x10 x12 x28 x29 x65 x66 x67 x95) S)
    ((k71 b n0 n2) .normal (ee6 x1 x2 x7 x8 x9 x10 x12 x28 x29 x65 x66 x67 x95) S) := nr (seqN (condE (t := 95) (by kernel_rfl) (enterS (by kernel_rfl)) (execL_skip (by kernel_rfl)) rfl))
def k84 (b n0 n2 : Nat) : KT := seqC (fun e S => execL (C b) 3 c73 (k71 b n0 n2) e S) (k71 b n0 n2)
@[go_sem] theorem g85 : execL (C b) 3 c74 K (ee5 x1 x2 x7 x8 x9 x10 x12 x28 x29 x65 x66 x67) S =
  withV (some x1) fun x71 =>
    withV (evBin .eql (tyi Try.prog 3) x71 (.int .i64 0)) fun x72 =>
    withV (some x72) fun x73 =>
    withV (gval x73 true (some x7)) fun x74 =>
    withV (gval x73 true (some x12)) fun x75 =>
    withV (gval x73 true (indexAddrO Try.prog 22 S x74 x75)) fun x76 =>
    withV (gval x73 true (evLoad (tyi Try.prog 3) S x76)) fun x77 =>
    withV (gval x73 true (some x7)) fun x78 =>
    withV (gval x73 true (some x9)) fun x79 =>
    withV (gval x73 true (indexAddrO Try.prog 22 S x78 x79)) fun x80 =>
    withV (gval x73 true (evLoad (tyi Try.prog 3) S x80)) fun x81 =>
    withV (gval x73 true (evBin .sub (tyi Try.prog 3) x81 (.int .i64 1))) fun x82 =>
    withV (gval x73 true (evBin .eql (tyi Try.prog 3) x77 x82)) fun x83 =>
    withV (pickO x73 x83 (.bool false)) fun x84 =>
    withV (some x84) fun x85 =>
    withV (gval x85 false (some x1)) fun x86 =>
    withV (gval x85 false (evBin .eql (tyi Try.prog 3) x86 (.int .i64 1))) fun x87 =>
    withV (gval x85 false (some x87)) fun x88 =>
    withV (gval x88 true (some x7)) fun x89 =>
    withV (gval x88 true (some x12)) fun x90 =>
    withV (gval x88 true (indexAddrO Try.prog 22 S x89 x90)) fun x91 =>
    withV (gval x88 true (evLoad (tyi Try.prog 3) S x91)) fun x92 =>
    withV (gval x88 true (evBin .lss (tyi Try.prog 3) x92 (.int .i64 0))) fun x93 =>
    withV (gval x85 false (pickO x88 x93 (.bool false))) fun x94 =>
    withV (pickO x85 (.bool true) x94) fun x95 =>
    K .normal (ee6 x1 x2 x7 x8 x9 x10 x12 x28 x29 x65 x66 x67 x95) S := nr (by kernel_rfl)
@[go_sem] theorem k84_n : k84 b n0 n2 .normal e S = execL (C b) 3 c74 (k76 b n0 n2) e S := nr (seqN (enterS (by kernel_rfl)))
@[go_sem] theorem g86 : execL (C b) 3 c72 K (ee8 x1 x2 x7 x8 x9 x10 x28 x29 x60 x65 x66 x67 x68) S =
  withV (indexAddrO Try.prog 22 S x65 x67) fun x69 =>
    withV (evLoad (tyi Try.prog 3) S x69) fun x70 =>
    withV (some x70) fun x12 =>
    K .normal (ee5 x1 x2 x7 x8 x9 x10 x12 x28 x29 x65 x66 x67) S := nr (by kernel_rfl)
@[go_sem] theorem k69_n : k69 b n0 n2 .normal (ee8 x1 x2 x7 x8 x9 x10 x28 x29 x60 x65 x66 x67 x68) S =
  execL (C b) 3 c72 (k84 b n0 n2) (ee8 x1 x2 x7 x8 x9 x10 x28 x29 x60 x65 x66 x67 x68) S := nr (seqN ((enterS (by kernel_rfl)).trans ((blockE (by kernel_rfl)).trans (enterS (by kernel_rfl)))))
@[go_sem] theorem k69_exit : k69 b n0 n2 (.exit i) e S = (k60 b n0 n2) (.exit i) e S := nr (seqC_x _ _ _ _ _)
def k87 (b n0 n2 : Nat) : KT := seqC (fun e S => execL (C b) 2 c62 (k60 b n0 n2) e S) (k60 b n0 n2)
@[go_sem] theorem k87_n : k87 b n0 n2 .normal (ee8 x1 x2 x7 x8 x9 x10 x28 x29 x60 x65 x66 x67 x68) S =
  condC x68 ((k69 b n0 n2) .normal (ee8 x1 x2 x7 x8 x9 x10 x28 x29 x60 x65 x66 x67 x68) S)
    ((k69 b n0 n2) (.exit 2) (ee8 x1 x2 x7 x8 x9 x10 x28 x29 x60 x65 x66 x67 x68) S) := nr (seqN ((enterS (by kernel_rfl)).trans (condE (t := 68) (by kernel_rfl) (execL_skip (by kernel_rfl)) (execL_exit (by kernel_rfl)) rfl)))
@[go_sem] theorem g90 : execL (C b) 2 c61 K (ee9 x1 x2 x7 x8 x9 x10 x28 x29 x65 x66 x67) S =
  withV (evBin .lss (tyi Try.prog 3) x67 x66) fun x68 =>
    K .normal (ee8 x1 x2 x7 x8 x9 x10 x28 x29 .undef x65 x66 x67 x68) S := nr (by kernel_rfl)
def B2 (b n0 n2 : Nat) (x1 x2 x7 x8 x9 x10 x28 x29 x65 x66 x67 : PV) (S : Store) : RT := execL (C b) 2 c58 (k60 b n0 n2) (ee9 x1 x2 x7 x8 x9 x10 x28 x29 x65 x66 x67) S
@[go_sem] theorem B2_eq : B2 b n0 n2 x1 x2 x7 x8 x9 x10 x28 x29 x65 x66 x67 S =
  execL (C b) 2 c61 (k87 b n0 n2) (ee9 x1 x2 x7 x8 x9 x10 x28 x29 x65 x66 x67) S := nr (enterS (by kernel_rfl))
theorem L2_step {b n0 n2 : Nat} {x1 x2 x7 x8 x9 x10 x28 x29 x65 x66 x67 : PV} {S : Store} {z : PV × Store} (h : B2 b n0 n2 x1 x2 x7 x8 x9 x10 x28 x29 x65 x66 x67 S = some z) : L2 b n0 n2 x1 x2 x7 x8 x9 x10 x28 x29 x65 x66 x67 S = some z := loopL_step h
theorem L2_in (b n0 : Nat) (x1 x2 x7 x8 x9 x10 x28 x29 x65 x66 x67 : PV) (S : Store) : execL (C b) 2 c56 (k57 b n0) (ee9 x1 x2 x7 x8 x9 x10 x28 x29 x65 x66 x67) S = L2 b n0 (List.length S) x1 x2 x7 x8 x9 x10 x28 x29 x65 x66 x67 S := by kernel_rfl
@[go_sem] theorem k55_n : k55 b n0 .normal (ee9 x1 x2 x7 x8 x9 x10 x28 x29 x65 x66 x67) S =
  L2 b n0 (List.length S) x1 x2 x7 x8 x9 x10 x28 x29 x65 x66 x67 S := nr (seqN ((blockE (by kernel_rfl)).trans (L2_in b n0 x1 x2 x7 x8 x9 x10 x28 x29 x65 x66 x67 S)))
@[go_sem] theorem g92 : execL (C b) 1 c53 K (ee8 x1 x2 x7 x8 x9 x10 x28 x29 x60 x65 x66 x67 x68) S =
  withV (evFieldAddr (tyi Try.prog 26) 1 x2) fun x61 =>
    withV (evLoad (tyi Try.prog 23) S x61) fun x62 =>
    withV (some x9) fun x63 =>
    withV (indexAddrO Try.prog 23 S x62 x63) fun x64 =>
    withV (evLoad (tyi Try.prog 22) S x64) fun x65 =>
    withV (lenO (tyi Try.prog 22) x65) fun x66 =>
    withV (some (.int .i64 0)) fun x67 =>
    K .normal (ee9 x1 x2 x7 x8 x9 x10 x28 x29 x65 x66 x67) S := nr (by kernel_rfl)
@[go_sem] theorem k49_n : k49 b n0 .normal (ee8 x1 x2 x7 x8 x9 x10 x28 x29 x60 x65 x66 x67 x68) S =
  condC x60 (execL (C b) 1 c53 (k55 b n0) (ee8 x1 x2 x7 x8 x9 x10 x28 x29 x60 x65 x66 x67 x68) S)
    ((k44 b n0) .normal (ee8 x1 x2 x7 x8 x9 x10 x28 x29 x60 x65 x66 x67 x68) S) := nr (seqN (condE (t := 60) (by kernel_rfl) (enterS (by kernel_rfl)) (execL_skip (by kernel_rfl)) rfl))
@[go_sem] theorem g93 : execL (C b) 1 c47 K (ee7 x1 x2 x7 x8 x9 x10 x28 x29) S =
  withV (evFieldAddr (tyi Try.prog 26) 0 x2) fun x32 =>
    withV (evLoad (tyi Try.prog 22) S x32) fun x33 =>
    withV (some x9) fun x34 =>
    withV (indexAddrO Try.prog 22 S x33 x34) fun x35 =>
    withV (evLoad (tyi Try.prog 3) S x35) fun x36 =>
    withV (some x1) fun x37 =>
    withV (evBin .eql (tyi Try.prog 3) x36 x37) fun x38 =>
    withV (some x38) fun x39 =>
    withV (gval x39 true (some x7)) fun x40 =>
    withV (gval x39 true (some x9)) fun x41 =>
    withV (gval x39 true (indexAddrO Try.prog 22 S x40 x41)) fun x42 =>
    withV (gval x39 true (evLoad (tyi Try.prog 3) S x42)) fun x43 =>
    withV (gval x39 true (evBin .gtr (tyi Try.prog 3) x43 (.int .i64 0))) fun x44 =>
    withV (gval x39 true (some x44)) fun x45 =>
    withV (gval x45 true (some x1)) fun x46 =>
    withV (gval x45 true (evBin .eql (tyi Try.prog 3) x46 (.int .i64 0))) fun x47 =>
    withV (gval x39 true (pickO x45 x47 (.bool false))) fun x48 =>
    withV (gval x39 true (some x48)) fun x49 =>
    withV (gval x49 false (some x7)) fun x50 =>
    withV (gval x49 false (some x9)) fun x51 =>
    withV (gval x49 false (indexAddrO Try.prog 22 S x50 x51)) fun x52 =>
    withV (gval x49 false (evLoad (tyi Try.prog 3) S x52)) fun x53 =>
    withV (gval x49 false (evBin .lss (tyi Try.prog 3) x53 (.int .i64 0))) fun x54 =>
    withV (gval x49 false (some x54)) fun x55 =>
    withV (gval x55 true (some x1)) fun x56 =>
    withV (gval x55 true (evBin .eql (tyi Try.prog 3) x56 (.int .i64 1))) fun x57 =>
    withV (gval x49 false (pickO x55 x57 (.bool false))) fun x58 =>
    withV (gval x39 true (pickO x49 (.bool true) x58)) fun x59 =>
    withV (pickO x39 x59 (.bool false)) fun x60 =>
    K .normal (ee8 x1 x2 x7 x8 x9 x10 x28 x29 x60 .undef .undef .undef .undef) S := nr (by kernel_rfl)
@[go_sem] theorem k46_n : k46 b n0 .normal (ee7 x1 x2 x7 x8 x9 x10 x28 x29) S =
  execL (C b) 1 c47 (k49 b n0) (ee7 x1 x2 x7 x8 x9 x10 x28 x29) S := nr (seqN ((enterS (by kernel_rfl)).trans (enterS (by kernel_rfl))))
def k94 (b n0 : Nat) : KT := seqC (fun e S => execL (C b) 1 c39 (k37 b n0) e S) (k37 b n0)
@[go_sem] theorem g95 : execL (C b) 1 c40 K (ee10 x1 x2 x7 x8 x9 x28 x29) S =
  withV (some (.int .i64 (-1))) fun x10 =>
    K .normal (ee7 x1 x2 x7 x8 x9 x10 x28 x29) S := nr (by kernel_rfl)
@[go_sem] theorem k94_n : k94 b n0 .normal e S = execL (C b) 1 c40 (k46 b n0) e S := nr (seqN (enterS (by kernel_rfl)))
@[go_sem] theorem g96 : execL (C b) 1 c38 K (ee12 x1 x2 x7 x8 x28 x29 x30) S =
  withV (some x29) fun x31 =>
    withV (some x31) fun x9 =>
    K .normal (ee10 x1 x2 x7 x8 x9 x28 x29) S := nr (by kernel_rfl)
@[go_sem] theorem k35_n : k35 b n0 .normal (ee12 x1 x2 x7 x8 x28 x29 x30) S =
  execL (C b) 1 c38 (k94 b n0) (ee12 x1 x2 x7 x8 x28 x29 x30) S := nr (seqN ((enterS (by kernel_rfl)).trans ((blockE (by kernel_rfl)).trans (enterS (by kernel_rfl)))))
@[go_sem] theorem k35_exit : k35 b n0 (.exit i) e S = (k26 b n0) (.exit i) e S := nr (seqC_x _ _ _ _ _)
def k97 (b n0 : Nat) : KT := seqC (fun e S => execL (C b) 0 c28 (k26 b n0) e S) (k26 b n0)
@[go_sem] theorem k97_n : k97 b n0 .normal (ee12 x1 x2 x7 x8 x28 x29 x30) S =
  condC x30 ((k35 b n0) .normal (ee12 x1 x2 x7 x8 x28 x29 x30) S)
    ((k35 b n0) (.exit 0) (ee12 x1 x2 x7 x8 x28 x29 x30) S) := nr (seqN ((enterS (by kernel_rfl)).trans (condE (t := 30) (by kernel_rfl) (execL_skip (by kernel_rfl)) (execL_exit (by kernel_rfl)) rfl)))
@[go_sem] theorem g100 : execL (C b) 0 c27 K (ee11 x1 x2 x7 x8 x28 x29) S =
  withV (evBin .lss (tyi Try.prog 3) x29 x28) fun x30 =>
    K .normal (ee12 x1 x2 x7 x8 x28 x29 x30) S := nr (by kernel_rfl)
def B0 (b n0 : Nat) (x1 x2 x7 x8 x28 x29 : PV) (S : Store) : RT := execL (C b) 0 c24 (k26 b n0) (ee11 x1 x2 x7 x8 x28 x29) S
@[go_sem] theorem B0_eq : B0 b n0 x1 x2 x7 x8 x28 x29 S =
  execL (C b) 0 c27 (k97 b n0) (ee11 x1 x2 x7 x8 x28 x29) S := nr (enterS (by kernel_rfl))
theorem L0_step {b n0 : Nat} {x1 x2 x7 x8 x28 x29 : PV} {S : Store} {z : PV × Store} (h : B0 b n0 x1 x2 x7 x8 x28 x29 S = some z) : L0 b n0 x1 x2 x7 x8 x28 x29 S = some z := loopL_step h
theorem L0_in (b : Nat) (x1 x2 x7 x8 x28 x29 : PV) (S : Store) : execL (C b) 0 c22 (k23 b) (ee11 x1 x2 x7 x8 x28 x29) S = L0 b (List.length S) x1 x2 x7 x8 x28 x29 S := by kernel_rfl
@[go_sem] theorem k21_n : k21 b .normal (ee11 x1 x2 x7 x8 x28 x29) S =
  L0 b (List.length S) x1 x2 x7 x8 x28 x29 S := nr (seqN ((blockE (by kernel_rfl)).trans (L0_in b x1 x2 x7 x8 x28 x29 S)))
@[go_sem] theorem g102 : execL (C b) 0 c19 K (ee4 x1 x2 x7 x8) S =
  withV (evFieldAddr (tyi Try.prog 26) 0 x2) fun x26 =>
    withV (evLoad (tyi Try.prog 22) S x26) fun x27 =>
    withV (lenO (tyi Try.prog 22) x27) fun x28 =>
    withV (some (.int .i64 0)) fun x29 =>
    K .normal (ee11 x1 x2 x7 x8 x28 x29) S := nr (by kernel_rfl)
@[go_sem] theorem k18_n : k18 b .normal (ee4 x1 x2 x7 x8) S =
  execL (C b) 0 c19 (k21 b) (ee4 x1 x2 x7 x8) S := nr (seqN ((enterS (by kernel_rfl)).trans (enterS (by kernel_rfl))))
def k103 (b : Nat) : KT := seqC (fun e S => execL (C b) 0 c8 (k0 b) e S) (k0 b)
@[go_sem] theorem g104 : execL (C b) 0 c9 K (ee3 x1 x2 x7) S =
  withV (some (.sl [] true)) fun x8 =>
    K .normal (ee4 x1 x2 x7 x8) S := nr (by kernel_rfl)
@[go_sem] theorem k103_n : k103 b .normal e S = execL (C b) 0 c9 (k18 b) e S := nr (seqN (enterS (by kernel_rfl)))
def k105 (b : Nat) : KT := seqC (fun e S => execL (C b) 0 c6 (k0 b) e S) (k0 b)
@[go_sem] theorem g106 : execL (C b) 0 c7 K (ee13 x1 x2 x23) S =
  withV (evLoad (tyi Try.prog 26) S x2) fun x24 =>
    withN (callO (callL Try.prog hints) S 57 [x24]) S fun x25 S =>
    withV (some x25) fun x7 =>
    K .normal (ee3 x1 x2 x7) S := nr (by kernel_rfl)
@[go_sem] theorem k105_n : k105 b .normal e S = execL (C b) 0 c7 (k103 b) e S := nr (seqN (enterS (by kernel_rfl)))
@[go_sem] theorem k105_ret : k105 b .ret e S = (k0 b) .ret e S := nr (seqC_r _ _ _ _)
def k107 (b : Nat) : KT := seqC (fun e S => execL (C b) 0 c4 (k0 b) e S) (k0 b)
def c108 : Code := at0 c5
def c109 : Code := at1 c5
def k110 (b : Nat) : KT := seqC (fun e S => execL (C b) 0 c109 (k105 b) e S) (k105 b)
def c111 : Code := atT c109
def c114 : Code := at0 c111
def c115 : Code := at1 c111
def k116 (b : Nat) : KT := seqC (fun e S => execL (C b) 0 c115 (k105 b) e S) (k105 b)
@[go_sem] theorem k116_n : k116 b .normal (ee14 x4 x5) S =
  (k105 b) .ret (ee14 x4 x5) S := nr (seqN (execL_ret (by kernel_rfl)))
@[go_sem] theorem g117 : execL (C b) 0 c114 K (ee13 x1 x2 x23) S =
  withV (some (.sl [] true)) fun x4 =>
    withV (some (.int .i64 1)) fun x5 =>
    K .normal (ee14 x4 x5) S := nr (by kernel_rfl)
@[go_sem] theorem k110_n : k110 b .normal (ee13 x1 x2 x23) S =
  condC x23 (execL (C b) 0 c114 (k116 b) (ee13 x1 x2 x23) S)
    ((k105 b) .normal (ee13 x1 x2 x23) S) := nr (seqN (condE (t := 23) (by kernel_rfl) (enterS (by kernel_rfl)) (execL_skip (by kernel_rfl)) rfl))
@[go_sem] theorem g118 : execL (C b) 0 c108 K (ee2 x1 x2 x6 x16) S =
  withV (some x1) fun x18 =>
    withV (evBin .neq (tyi Try.prog 3) x18 (.int .i64 0)) fun x19 =>
    withV (some x19) fun x20 =>
    withV (gval x20 true (some x1)) fun x21 =>
    withV (gval x20 true (evBin .neq (tyi Try.prog 3) x21 (.int .i64 1))) fun x22 =>
    withV (pickO x20 x22 (.bool false)) fun x23 =>
    K .normal (ee13 x1 x2 x23) S := nr (by kernel_rfl)
@[go_sem] theorem k107_n : k107 b .normal (ee2 x1 x2 x6 x16) S =
  execL (C b) 0 c108 (k110 b) (ee2 x1 x2 x6 x16) S := nr (seqN ((enterS (by kernel_rfl)).trans (enterS (by kernel_rfl))))
@[go_sem] theorem k107_ret : k107 b .ret e S = (k0 b) .ret e S := nr (seqC_r _ _ _ _)
def k119 (b : Nat) : KT := seqC (fun e S => execL (C b) 0 c2 (k0 b) e S) (k0 b)
def c120 : Code := at0 c3
def c121 : Code := at1 c3
def c122 : Code := at0 c121
def c123 : Code := at1 c121
def k124 (b : Nat) : KT := seqC (fun e S => execL (C b) 0 c123 (k107 b) e S) (k107 b)
def c125 : Code := atT c123
def c128 : Code := at0 c125
def c129 : Code := at1 c125
def k130 (b : Nat) : KT := seqC (fun e S => execL (C b) 0 c129 (k107 b) e S) (k107 b)
@[go_sem] theorem k130_n : k130 b .normal (ee14 x4 x5) S =
  (k107 b) .ret (ee14 x4 x5) S := nr (seqN (execL_ret (by kernel_rfl)))
@[go_sem] theorem g131 : execL (C b) 0 c128 K (ee2 x1 x2 x6 x16) S =
  withV (some x6) fun x17 =>
    withV (some (.sl [] true)) fun x4 =>
    withV (some x17) fun x5 =>
    K .normal (ee14 x4 x5) S := nr (by kernel_rfl)
@[go_sem] theorem k124_n : k124 b .normal (ee2 x1 x2 x6 x16) S =
  condC x16 (execL (C b) 0 c128 (k130 b) (ee2 x1 x2 x6 x16) S)
    ((k107 b) .normal (ee2 x1 x2 x6 x16) S) := nr (seqN (condE (t := 16) (by kernel_rfl) (enterS (by kernel_rfl)) (execL_skip (by kernel_rfl)) rfl))
def k132 (b : Nat) : KT := seqC (fun e S => execL (C b) 0 c121 (k107 b) e S) (k107 b)
@[go_sem] theorem g133 : execL (C b) 0 c122 K (ee1 x1 x2 x6) S =
  withV (some x6) fun x15 =>
    withV (evBin .neq (tyi Try.prog 29) x15 (.int .i64 0)) fun x16 =>
    K .normal (ee2 x1 x2 x6 x16) S := nr (by kernel_rfl)
@[go_sem] theorem k132_n : k132 b .normal e S = execL (C b) 0 c122 (k124 b) e S := nr (seqN (enterS (by kernel_rfl)))
@[go_sem] theorem g134 : execL (C b) 0 c120 K (ee0 x1 x2) S =
  withV (evLoad (tyi Try.prog 26) S x2) fun x13 =>
    withN (callO (callL Try.prog hints) S 17 [x13]) S fun x14 S =>
    withV (some x14) fun x6 =>
    K .normal (ee1 x1 x2 x6) S := nr (by kernel_rfl)
@[go_sem] theorem k119_n : k119 b .normal (ee0 x1 x2) S =
  execL (C b) 0 c120 (k132 b) (ee0 x1 x2) S := nr (seqN ((enterS (by kernel_rfl)).trans (enterS (by kernel_rfl))))
@[go_sem] theorem g135 : execL (C b) 0 c1 K [(0, x0), (1, x1)] S =
  withN (boxed S (List.length S) (TI.size (tyi Try.prog 26)) x0) S fun x2 S =>
    withV (some (.sl [] true)) fun x4 =>
    withV (some (.int .i64 0)) fun x5 =>
    K .normal (ee0 x1 x2) S := nr (by kernel_rfl)
def E (b : Nat) (x0 x1 : PV) (S : Store) : RT := execL (C b) 0 code (k0 b) [(0, x0), (1, x1)] S
@[go_sem] theorem E_eq : E b x0 x1 S =
  execL (C b) 0 c1 (k119 b) [(0, x0), (1, x1)] S := nr (enterS (by kernel_rfl))
@[go_sem] theorem k0_ret14 : k0 b .ret (ee14 x4 x5) S = some ((.tup [x4, x5]), S) := nr (by kernel_rfl)
theorem call {x0 x1 : PV} {r : PV × Store} {v : PV} (h : E 0 x0 x1 [] = some r) (hv : fzPV r.2 r.1 = some v) : callL Try.prog hints 24 [x0, x1] = some v := callL_of (fn := Try.f24) (c := code) (by kernel_rfl) (by kernel_rfl) (by decide) (by kernel_rfl) (Nat.le_of_ble_eq_true (by kernel_rfl)) h hv
end
end F24
/-! ### isochroneref23.Strategy -/
namespace F25
section
variable (b i n n0 n2 : Nat) (K : KT) (x0 x1 x2 x4 x5 x6 x7 x8 x9 x10 x11 x15 x22 x31 x65 x74 x109 : PV) (e : Env) (S : Store)
noncomputable def hint : Hint := { keep := [], loops := [(2, { live := [1, 2, 7, 8, 9, 10], after := [1, 2, 7, 8, 9], own := [], fz := [] }), (0, { live := [1, 2, 7, 8, 9], after := [8], own := [], fz := [] })], regs := [(0, [1, 2]), (1, [1, 2, 6]), (2, [1, 2, 6, 15]), (3, [4, 5]), (4, [1, 2, 22]), (5, [4, 5]), (6, [1, 2, 7]), (7, [1, 2, 7, 8]), (8, [1, 2, 7, 8, 9]), (9, [1, 2, 7, 8, 9, 31]), (10, [1, 2, 7, 8, 9]), (11, [1, 2, 7, 8, 9]), (12, [1, 2, 7, 8, 9, 10, 65, 74]), (13, [1, 2, 7, 8, 9, 10]), (14, [1, 2, 7, 8, 9, 10, 65, 74]), (15, [1, 2, 7, 8, 9, 10]), (16, [1, 2, 7, 8, 9, 10, 11]), (17, [1, 2, 7, 8, 9, 10, 11, 109]), (18, [1, 2, 7, 8, 9, 10, 11, 109]), (19, [4, 5])] }
noncomputable def C (b : Nat) : Ctx := ctxL Try.prog hints b hint
noncomputable def code : Code := Try.f25.body.get rfl
noncomputable def k0 (b : Nat) : KT := endC Try.prog Try.f25
def ee0 (x1 x2 : PV) : Env := [(1, x1), (2, x2)]
def ee1 (x1 x2 x6 : PV) : Env := [(1, x1), (2, x2), (6, x6)]
def ee2 (x1 x2 x6 x15 : PV) : Env := [(1, x1), (2, x2), (6, x6), (15, x15)]
def ee3 (x1 x2 x7 : PV) : Env := [(1, x1), (2, x2), (7, x7)]
def ee4 (x1 x2 x7 x8 : PV) : Env := [(1, x1), (2, x2), (7, x7), (8, x8)]
def ee5 (x1 x2 x7 x8 x9 : PV) : Env := [(1, x1), (2, x2), (7, x7), (8, x8), (9, x9)]
def ee6 (x1 x2 x7 x8 x9 x10 : PV) : Env := [(1, x1), (2, x2), (7, x7), (8, x8), (9, x9), (10, x10)]
def ee7 (x1 x2 x7 x8 x9 x10 x11 : PV) : Env := [(1, x1), (2, x2), (7, x7), (8, x8), (9, x9), (10, x10), (11, x11)]
def ee8 (x1 x2 x7 x8 x9 x10 x11 x109 : PV) : Env := [(1, x1), (2, x2), (7, x7), (8, x8), (9, x9), (10, x10), (11, x11), (109, x109)]
def ee9 (x1 x2 x7 x8 x9 x10 x65 x74 : PV) : Env := [(1, x1), (2, x2), (7, x7), (8, x8), (9, x9), (10, x10), (65, x65), (74, x74)]
def ee10 (x1 x2 x7 x8 x9 x31 : PV) : Env := [(1, x1), (2, x2), (7, x7), (8, x8), (9, x9), (31, x31)]
def ee11 (x1 x2 x22 : PV) : Env := [(1, x1), (2, x2), (22, x22)]
def ee12 (x4 x5 : PV) : Env := [(4, x4), (5, x5)]
def c1 : Code := at0 code
def c2 : Code := at1 code
def c3 : Code := at0 c2
def c4 : Code := at1 c2
def c5 : Code := at0 c4
def c6 : Code := at1 c4
def c7 : Code := at0 c6
def c8 : Code := at1 c6
def c9 : Code := at0 c8
def c10 : Code := at1 c8
def c11 : Code := at0 c10
def c12 : Code := at1 c10
def c13 : Code := at0 c12
def c14 : Code := at1 c12
def k15 (b : Nat) : KT := seqC (fun e S => execL (C b) 0 c14 (k0 b) e S) (k0 b)
@[go_sem] theorem k15_n : k15 b .normal (ee12 x4 x5) S =
  (k0 b) .ret (ee12 x4 x5) S := nr (seqN (execL_ret (by kernel_rfl)))
def k16 (b : Nat) : KT := seqC (fun e S => execL (C b) 0 c12 (k0 b) e S) (k0 b)
@[go_sem] theorem g17 : execL (C b) 0 c13 K (ee10 x1 x2 x7 x8 x9 x31) S =
  withV (some x8) fun x114 =>
    withV (some x114) fun x4 =>
    withV (some (.int .i64 0)) fun x5 =>
    K .normal (ee12 x4 x5) S := nr (by kernel_rfl)
@[go_sem] theorem k16_n : k16 b .normal e S = execL (C b) 0 c13 (k15 b) e S := nr (seqN (enterS (by kernel_rfl)))
def k18 (b : Nat) : KT := seqC (fun e S => execL (C b) 0 c10 (k0 b) e S) (k0 b)
def c19 : Code := at0 c11
def c20 : Code := at1 c11
def k21 (b : Nat) : KT := seqC (fun e S => execL (C b) 0 c20 (k16 b) e S) (k16 b)
def c22 : Code := atB c20
def k23 (b : Nat) : KT := blockC 0 (k16 b)
@[go_sem] theorem k23_exit : k23 b (.exit i) e S = if i = 0 then (k16 b) .normal e S else (k16 b) (.exit i) e S := nr (blockC_x _ _ _ _ _)
def c24 : Code := atL c22
def k25 (b n0 : Nat) : KT := afterC 0 n0 [8] (k23 b)
def L0g (b n0 : Nat) (e : Env) (S : Store) : RT := loopL (fun K e S => execL (C b) 0 c24 K e S) (normG [1, 2, 7, 8, 9] [] n0) (k25 b n0) e S
def L0 (b n0 : Nat) (x1 x2 x7 x8 x9 : PV) (S : Store) : RT := L0g b n0 (ee5 x1 x2 x7 x8 x9) S
def k26 (b n0 : Nat) : KT := stepC (normG [1, 2, 7, 8, 9] [] n0) (k25 b n0) (L0g b n0)
@[go_sem] theorem k26_n : k26 b n0 .normal (ee5 x1 x2 x7 x8 x9) S = L0 b n0 x1 x2 x7 x8 x9 (gc n0 (ee5 x1 x2 x7 x8 x9) S) := nr (by kernel_rfl)
@[go_sem] theorem k26_x1 : k26 b n0 (.exit 0) (ee10 x1 x2 x7 x8 x9 x31) S = (k23 b) (.exit 0) (ee10 .undef .undef .undef x8 .undef .undef) (gc n0 (ee10 .undef .undef .undef x8 .undef .undef) S) := nr ((show k26 b n0 (.exit 0) (ee10 x1 x2 x7 x8 x9 x31) S = (k25 b n0) (.exit 0) (ee10 x1 x2 x7 x8 x9 x31) S from stepC_x _ _ _ _ _ _).trans ((show (k25 b n0) (.exit 0) (ee10 x1 x2 x7 x8 x9 x31) S = _ from afterC_x _ _ _ _ _ _ _).trans (if_pos rfl)))
def c27 : Code := at0 c24
def c28 : Code := at1 c24
def c29 : Code := at0 c28
def c30 : Code := at1 c28
def k31 (b n0 : Nat) : KT := seqC (fun e S => execL (C b) 0 c30 (k26 b n0) e S) (k26 b n0)
@[go_sem] theorem g32 : execL (C b) 0 c30 K (ee9 x1 x2 x7 x8 x9 x10 x65 x74) S =
  withV (some x9) fun x32 =>
    withV (evBin .add (tyi Try.prog 3) x32 (.int .i64 1)) fun x33 =>
    withV (some x33) fun x9 =>
    K .normal (ee5 x1 x2 x7 x8 x9) S := nr (by kernel_rfl)
@[go_sem] theorem k31_n : k31 b n0 .normal e S = execL (C b) 0 c30 (k26 b n0) e S := nr (seqN rfl)
def k33 (b n0 : Nat) : KT := seqC (fun e S => execL (C b) 0 c28 (k26 b n0) e S) (k26 b n0)
def c34 : Code := atB c29
def k35 (b n0 : Nat) : KT := blockC 1 (k31 b n0)
@[go_sem] theorem k35_n : k35 b n0 .normal e S = (k31 b n0) .normal e S := nr (blockC_n _ _ _ _)
@[go_sem] theorem k35_exit : k35 b n0 (.exit i) e S = if i = 1 then (k31 b n0) .normal e S else (k31 b n0) (.exit i) e S := nr (blockC_x _ _ _ _ _)
def c36 : Code := at0 c34
def c37 : Code := at1 c34
def c38 : Code := at0 c37
def c39 : Code := at1 c37
def c40 : Code := at0 c39
def c41 : Code := at1 c39
def k42 (b n0 : Nat) : KT := seqC (fun e S => execL (C b) 1 c41 (k35 b n0) e S) (k35 b n0)
def c43 : Code := atB c41
def k44 (b n0 : Nat) : KT := blockC 2 (k35 b n0)
@[go_sem] theorem k44_exit : k44 b n0 (.exit i) e S = if i = 2 then (k35 b n0) .normal e S else (k35 b n0) (.exit i) e S := nr (blockC_x _ _ _ _ _)
def c45 : Code := atL c43
def k46 (b n0 n2 : Nat) : KT := afterC 2 n2 [1, 2, 7, 8, 9] (k44 b n0)
def L2g (b n0 n2 : Nat) (e : Env) (S : Store) : RT := loopL (fun K e S => execL (C b) 2 c45 K e S) (normG [1, 2, 7, 8, 9, 10] [] n2) (k46 b n0 n2) e S
def L2 (b n0 n2 : Nat) (x1 x2 x7 x8 x9 x10 : PV) (S : Store) : RT := L2g b n0 n2 (ee6 x1 x2 x7 x8 x9 x10) S
def k47 (b n0 n2 : Nat) : KT := stepC (normG [1, 2, 7, 8, 9, 10] [] n2) (k46 b n0 n2) (L2g b n0 n2)
@[go_sem] theorem k47_n : k47 b n0 n2 .normal (ee6 x1 x2 x7 x8 x9 x10) S = L2 b n0 n2 x1 x2 x7 x8 x9 x10 (gc n2 (ee6 x1 x2 x7 x8 x9 x10) S) := nr (by kernel_rfl)
@[go_sem] theorem k47_x1 : k47 b n0 n2 (.exit 2) (ee9 x1 x2 x7 x8 x9 x10 x65 x74) S = (k44 b n0) (.exit 2) (ee9 x1 x2 x7 x8 x9 .undef .undef .undef) (gc n2 (ee9 x1 x2 x7 x8 x9 .undef .undef .undef) S) := nr ((show k47 b n0 n2 (.exit 2) (ee9 x1 x2 x7 x8 x9 x10 x65 x74) S = (k46 b n0 n2) (.exit 2) (ee9 x1 x2 x7 x8 x9 x10 x65 x74) S from stepC_x _ _ _ _ _ _).trans ((show (k46 b n0 n2) (.exit 2) (ee9 x1 x2 x7 x8 x9 x10 x65 x74) S = _ from afterC_x _ _ _ _ _ _ _).trans (if_pos rfl)))
def c48 : Code := at0 c45
def c49 : Code := at1 c45
def c50 : Code := at0 c49
def c51 : Code := at1 c49
def k52 (b n0 n2 : Nat) : KT := seqC (fun e S => execL (C b) 2 c51 (k47 b n0 n2) e S) (k47 b n0 n2)
@[go_sem] theorem g53 : execL (C b) 2 c51 K (ee8 x1 x2 x7 x8 x9 x10 x11 x109) S =
  withV (some x10) fun x75 =>
    withV (evBin .sub (tyi Try.prog 3) x75 (.int .i64 1)) fun x76 =>
    withV (some x76) fun x10 =>
    K .normal (ee6 x1 x2 x7 x8 x9 x10) S := nr (by kernel_rfl)
@[go_sem] theorem k52_n : k52 b n0 n2 .normal e S = execL (C b) 2 c51 (k47 b n0 n2) e S := nr (seqN rfl)
def k54 (b n0 n2 : Nat) : KT := seqC (fun e S => execL (C b) 2 c49 (k47 b n0 n2) e S) (k47 b n0 n2)
def c55 : Code := atB c50
def k56 (b n0 n2 : Nat) : KT := blockC 3 (k52 b n0 n2)
@[go_sem] theorem k56_n : k56 b n0 n2 .normal e S = (k52 b n0 n2) .normal e S := nr (blockC_n _ _ _ _)
def c57 : Code := at0 c55
def c58 : Code := at1 c55
def c59 : Code := at0 c58
def c60 : Code := at1 c58
def k61 (b n0 n2 : Nat) : KT := seqC (fun e S => execL (C b) 3 c60 (k56 b n0 n2) e S) (k56 b n0 n2)
def c62 : Code := atT c60
@[go_sem] theorem g65 : execL (C b) 3 c62 K (ee8 x1 x2 x7 x8 x9 x10 x11 x109) S =
  withV (some x8) fun x110 =>
    withV (some x9) fun x111 =>
    withV (some x11) fun x112 =>
    withV (indexAddrO Try.prog 22 S x110 x111) fun x113 =>
    withS (storeE (tyi Try.prog 3) S x113 x112) fun _u S =>
    K .normal (ee8 x1 x2 x7 x8 x9 x10 x11 x109) S := nr (by kernel_rfl)
@[go_sem] theorem k61_n : k61 b n0 n2 .normal (ee8 x1 x2 x7 x8 x9 x10 x11 x109) S =
  condC x109 (execL (C b) 3 c62 (k56 b n0 n2) (ee8 x1 x2 x7 x8 x9 x10 x11 x109) S)
    ((k56 b n0 n2) .normal (ee8 x1 x2 x7 x8 x9 x10 x11 x109) S) := nr (seqN (condE (t := 109) (by kernel_rfl) (rfl) (execL_skip (by kernel_rfl)) rfl))
def k66 (b n0 n2 : Nat) : KT := seqC (fun e S => execL (C b) 3 c58 (k56 b n0 n2) e S) (k56 b n0 n2)
@[go_sem] theorem g67 : execL (C b) 3 c59 K (ee7 x1 x2 x7 x8 x9 x10 x11) S =
  withV (some x1) fun x85 =>
    withV (evBin .eql (tyi Try.prog 3) x85 (.int .i64 0)) fun x86 =>
    withV (some x86) fun x87 =>
    withV (gval x87 true (some x7)) fun x88 =>
    withV (gval x87 true (some x11)) fun x89 =>
    withV (gval x87 true (indexAddrO Try.prog 22 S x88 x89)) fun x90 =>
    withV (gval x87 true (evLoad (tyi Try.prog 3) S x90)) fun x91 =>
    withV (gval x87 true (some x7)) fun x92 =>
    withV (gval x87 true (some x9)) fun x93 =>
    withV (gval x87 true (indexAddrO Try.prog 22 S x92 x93)) fun x94 =>
    withV (gval x87 true (evLoad (tyi Try.prog 3) S x94)) fun x95 =>
    withV (gval x87 true (evBin .sub (tyi Try.prog 3) x95 (.int .i64 1))) fun x96 =>
    withV (gval x87 true (evBin .eql (tyi Try.prog 3) x91 x96)) fun x97 =>
    withV (pickO x87 x97 (.bool false)) fun x98 =>
    withV (some x98) fun x99 =>
    withV (gval x99 false (some x1)) fun x100 =>
    withV (gval x99 false (evBin .eql (tyi Try.prog 3) x100 (.int .i64 1))) fun x101 =>
    withV (gval x99 false (some x101)) fun x102 =>
    withV (gval x102 true (some x7)) fun x103 =>
    withV (gval x102 true (some x11)) fun x104 =>
    withV (gval x102 true (indexAddrO Try.prog 22 S x103 x104)) fun x105 =>
    withV (gval x102 true (evLoad (tyi Try.prog 3) S x105)) fun x106 =>
    withV (gval x102 true (evBin .lss (tyi Try.prog 3) x106 (.int .i64 0))) fun x107 =>
    withV (gval x99 false (pickO x102 x107 (.bool false))) fun x108 =>
    withV (pickO x99 (.bool true) x108) fun x109 =>
    K .normal (ee8 x1 x2 x7 x8 x9 x10 x11 x109) S := nr (by kernel_rfl)
@[go_sem] theorem k66_n : k66 b n0 n2 .normal e S = execL (C b) 3 c59 (k61 b n0 n2) e S := nr (seqN (enterS (by kernel_rfl)))
@[go_sem] theorem g68 : execL (C b) 3 c57 K (ee9 x1 x2 x7 x8 x9 x10 x65 x74) S =
  withV (evFieldAddr (tyi Try.prog 26) 1 x2) fun x77 =>
    withV (evLoad (tyi Try.prog 23) S x77) fun x78 =>
    withV (some x9) fun x79 =>
    withV (indexAddrO Try.prog 23 S x78 x79) fun x80 =>
    withV (evLoad (tyi Try.prog 22) S x80) fun x81 =>
    withV (some x10) fun x82 =>
    withV (indexAddrO Try.prog 22 S x81 x82) fun x83 =>
    withV (evLoad (tyi Try.prog 3) S x83) fun x84 =>
    withV (some x84) fun x11 =>
    K .normal (ee7 x1 x2 x7 x8 x9 x10 x11) S := nr (by kernel_rfl)
@[go_sem] theorem k54_n : k54 b n0 n2 .normal (ee9 x1 x2 x7 x8 x9 x10 x65 x74) S =
  execL (C b) 3 c57 (k66 b n0 n2) (ee9 x1 x2 x7 x8 x9 x10 x65 x74) S := nr (seqN ((enterS (by kernel_rfl)).trans ((blockE (by kernel_rfl)).trans (enterS (by kernel_rfl)))))
@[go_sem] theorem k54_exit : k54 b n0 n2 (.exit i) e S = (k47 b n0 n2) (.exit i) e S := nr (seqC_x _ _ _ _ _)
def c69 : Code := at0 c48
def c70 : Code := at1 c48
def k71 (b n0 n2 : Nat) : KT := seqC (fun e S => execL (C b) 2 c70 (k54 b n0 n2) e S) (k54 b n0 n2)
@[go_sem] theorem k71_n : k71 b n0 n2 .normal (ee9 x1 x2 x7 x8 x9 x10 x65 x74) S =
  condC x74 ((k54 b n0 n2) .normal (ee9 x1 x2 x7 x8 x9 x10 x65 x74) S)
    ((k54 b n0 n2) (.exit 2) (ee9 x1 x2 x7 x8 x9 x10 x65 x74) S) := nr (seqN (condE (t := 74) (by kernel_rfl) (execL_skip (by kernel_rfl)) (execL_exit (by kernel_rfl)) rfl))
@[go_sem] theorem g74 : execL (C b) 2 c69 K (ee6 x1 x2 x7 x8 x9 x10) S =
  withV (some x10) fun x73 =>
    withV (evBin .geq (tyi Try.prog 3) x73 (.int .i64 0)) fun x74 =>
    K .normal (ee9 x1 x2 x7 x8 x9 x10 .undef x74) S := nr (by kernel_rfl)
def B2 (b n0 n2 : Nat) (x1 x2 x7 x8 x9 x10 : PV) (S : Store) : RT := execL (C b) 2 c45 (k47 b n0 n2) (ee6 x1 x2 x7 x8 x9 x10) S
@[go_sem] theorem B2_eq : B2 b n0 n2 x1 x2 x7 x8 x9 x10 S =
  execL (C b) 2 c69 (k71 b n0 n2) (ee6 x1 x2 x7 x8 x9 x10) S := nr ((enterS (by kernel_rfl)).trans (enterS (by kernel_rfl)))
theorem L2_step {b n0 n2 : Nat} {x1 x2 x7 x8 x9 x10 : PV} {S : Store} {z : PV × Store} (h : B2 b n0 n2 x1 x2 x7 x8 x9 x10 S = some z) : L2 b n0 n2 x1 x2 x7 x8 x9 x10 S = some z := loopL_step h
theorem L2_in (b n0 : Nat) (x1 x2 x7 x8 x9 x10 : PV) (S : Store) : execL (C b) 2 c43 (k44 b n0) (ee6 x1 x2 x7 x8 x9 x10) S = L2 b n0 (List.length S) x1 x2 x7 x8 x9 x10 S := by kernel_rfl
@[go_sem] theorem k42_n : k42 b n0 .normal (ee6 x1 x2 x7 x8 x9 x10) S =
  L2 b n0 (List.length S) x1 x2 x7 x8 x9 x10 S := nr (seqN ((blockE (by kernel_rfl)).trans (L2_in b n0 x1 x2 x7 x8 x9 x10 S)))
def k76 (b n0 : Nat) : KT := seqC (fun e S => execL (C b) 1 c39 (k35 b n0) e S) (k35 b n0)
@[go_sem] theorem g77 : execL (C b) 1 c40 K (ee9 x1 x2 x7 x8 x9 x10 x65 x74) S =
  withV (evFieldAddr (tyi Try.prog 26) 1 x2) fun x66 =>
    withV (evLoad (tyi Try.prog 23) S x66) fun x67 =>
    withV (some x9) fun x68 =>
    withV (indexAddrO Try.prog 23 S x67 x68) fun x69 =>
    withV (evLoad (tyi Try.prog 22) S x69) fun x70 =>
    withV (lenO (tyi Try.prog 22) x70) fun x71 =>
    withV (evBin .sub (tyi Try.prog 3) x71 (.int .i64 1)) fun x72 =>
    withV (some x72) fun x10 =>
    K .normal (ee6 x1 x2 x7 x8 x9 x10) S := nr (by kernel_rfl)
@[go_sem] theorem k76_n : k76 b n0 .normal e S = execL (C b) 1 c40 (k42 b n0) e S := nr (seqN (enterS (by kernel_rfl)))
@[go_sem] theorem k76_exit : k76 b n0 (.exit i) e S = (k35 b n0) (.exit i) e S := nr (seqC_x _ _ _ _ _)
def k78 (b n0 : Nat) : KT := seqC (fun e S => execL (C b) 1 c37 (k35 b n0) e S) (k35 b n0)
def c79 : Code := at0 c38
def c80 : Code := at1 c38
def k81 (b n0 : Nat) : KT := seqC (fun e S => execL (C b) 1 c80 (k76 b n0) e S) (k76 b n0)
@[go_sem] theorem k81_n : k81 b n0 .normal (ee9 x1 x2 x7 x8 x9 x10 x65 x74) S =
  condC x65 ((k76 b n0) (.exit 1) (ee9 x1 x2 x7 x8 x9 x10 x65 x74) S)
    ((k76 b n0) .normal (ee9 x1 x2 x7 x8 x9 x10 x65 x74) S) := nr (seqN (condE (t := 65) (by kernel_rfl) (execL_exit (by kernel_rfl)) (execL_skip (by kernel_rfl)) rfl))
@[go_sem] theorem g84 : execL (C b) 1 c79 K (ee5 x1 x2 x7 x8 x9) S =
  withV (evFieldAddr (tyi Try.prog 26) 0 x2) fun x37 =>
    withV (evLoad (tyi Try.prog 22) S x37) fun x38 =>
    withV (some x9) fun x39 =>
    withV (indexAddrO Try.prog 22 S x38 x39) fun x40 =>
    withV (evLoad (tyi Try.prog 3) S x40) fun x41 =>
    withV (some x1) fun x42 =>
    withV (evBin .neq (tyi Try.prog 3) x41 x42) fun x43 =>
    withV (some x43) fun x44 =>
    withV (gval x44 false (some x1)) fun x45 =>
    withV (gval x44 false (evBin .eql (tyi Try.prog 3) x45 (.int .i64 0))) fun x46 =>
    withV (gval x44 false (some x46)) fun x47 =>
    withV (gval x47 true (some x7)) fun x48 =>
    withV (gval x47 true (some x9)) fun x49 =>
    withV (gval x47 true (indexAddrO Try.prog 22 S x48 x49)) fun x50 =>
    withV (gval x47 true (evLoad (tyi Try.prog 3) S x50)) fun x51 =>
    withV (gval x47 true (evBin .leq (tyi Try.prog 3) x51 (.int .i64 0))) fun x52 =>
    withV (gval x44 false (pickO x47 x52 (.bool false))) fun x53 =>
    withV (pickO x44 (.bool true) x53) fun x54 =>
    withV (some x54) fun x55 =>
    withV (gval x55 false (some x1)) fun x56 =>
    withV (gval x55 false (evBin .eql (tyi Try.prog 3) x56 (.int .i64 1))) fun x57 =>
    withV (gval x55 false (some x57)) fun x58 =>
    withV (gval x58 true (some x7)) fun x59 =>
    withV (gval x58 true (some x9)) fun x60 =>
    withV (gval x58 true (indexAddrO Try.prog 22 S x59 x60)) fun x61 =>
    withV (gval x58 true (evLoad (tyi Try.prog 3) S x61)) fun x62 =>
    withV (gval x58 true (evBin .geq (tyi Try.prog 3) x62 (.int .i64 0))) fun x63 =>
    withV (gval x55 false (pickO x58 x63 (.bool false))) fun x64 =>
    withV (pickO x55 (.bool true) x64) fun x65 =>
    K .normal (ee9 x1 x2 x7 x8 x9 .undef x65 .undef) S := nr (by kernel_rfl)
@[go_sem] theorem k78_n : k78 b n0 .normal (ee5 x1 x2 x7 x8 x9) S =
  execL (C b) 1 c79 (k81 b n0) (ee5 x1 x2 x7 x8 x9) S := nr (seqN ((enterS (by kernel_rfl)).trans (enterS (by kernel_rfl))))
@[go_sem] theorem g85 : execL (C b) 1 c36 K (ee10 x1 x2 x7 x8 x9 x31) S =
  withV (some x8) fun x34 =>
    withV (some x9) fun x35 =>
    withV (indexAddrO Try.prog 22 S x34 x35) fun x36 =>
    withS (storeE (tyi Try.prog 3) S x36 (.int .i64 (-1))) fun _u S =>
    K .normal (ee5 x1 x2 x7 x8 x9) S := nr (by kernel_rfl)
@[go_sem] theorem k33_n : k33 b n0 .normal (ee10 x1 x2 x7 x8 x9 x31) S =
  execL (C b) 1 c36 (k78 b n0) (ee10 x1 x2 x7 x8 x9 x31) S := nr (seqN ((enterS (by kernel_rfl)).trans ((blockE (by kernel_rfl)).trans (enterS (by kernel_rfl)))))
@[go_sem] theorem k33_exit : k33 b n0 (.exit i) e S = (k26 b n0) (.exit i) e S := nr (seqC_x _ _ _ _ _)
def c86 : Code := at0 c27
def c87 : Code := at1 c27
def k88 (b n0 : Nat) : KT := seqC (fun e S => execL (C b) 0 c87 (k33 b n0) e S) (k33 b n0)
@[go_sem] theorem k88_n : k88 b n0 .normal (ee10 x1 x2 x7 x8 x9 x31) S =
  condC x31 ((k33 b n0) .normal (ee10 x1 x2 x7 x8 x9 x31) S)
    ((k33 b n0) (.exit 0) (ee10 x1 x2 x7 x8 x9 x31) S) := nr (seqN (condE (t := 31) (by kernel_rfl) (execL_skip (by kernel_rfl)) (execL_exit (by kernel_rfl)) rfl))
@[go_sem] theorem g91 : execL (C b) 0 c86 K (ee5 x1 x2 x7 x8 x9) S =
  withV (some x9) fun x28 =>
    withV (some x7) fun x29 =>
    withV (lenO (tyi Try.prog 22) x29) fun x30 =>
    withV (evBin .lss (tyi Try.prog 3) x28 x30) fun x31 =>
    K .normal (ee10 x1 x2 x7 x8 x9 x31) S := nr (by kernel_rfl)
def B0 (b n0 : Nat) (x1 x2 x7 x8 x9 : PV) (S : Store) : RT := execL (C b) 0 c24 (k26 b n0) (ee5 x1 x2 x7 x8 x9) S
@[go_sem] theorem B0_eq : B0 b n0 x1 x2 x7 x8 x9 S =
  execL (C b) 0 c86 (k88 b n0) (ee5 x1 x2 x7 x8 x9) S := nr ((enterS (by kernel_rfl)).trans (enterS (by kernel_rfl)))
theorem L0_step {b n0 : Nat} {x1 x2 x7 x8 x9 : PV} {S : Store} {z : PV × Store} (h : B0 b n0 x1 x2 x7 x8 x9 S = some z) : L0 b n0 x1 x2 x7 x8 x9 S = some z := loopL_step h
theorem L0_in (b : Nat) (x1 x2 x7 x8 x9 : PV) (S : Store) : execL (C b) 0 c22 (k23 b) (ee5 x1 x2 x7 x8 x9) S = L0 b (List.length S) x1 x2 x7 x8 x9 S := by kernel_rfl
@[go_sem] theorem k21_n : k21 b .normal (ee5 x1 x2 x7 x8 x9) S =
  L0 b (List.length S) x1 x2 x7 x8 x9 S := nr (seqN ((blockE (by kernel_rfl)).trans (L0_in b x1 x2 x7 x8 x9 S)))
@[go_sem] theorem g93 : execL (C b) 0 c19 K (ee4 x1 x2 x7 x8) S =
  withV (some (.int .i64 0)) fun x9 =>
    K .normal (ee5 x1 x2 x7 x8 x9) S := nr (by kernel_rfl)
@[go_sem] theorem k18_n : k18 b .normal (ee4 x1 x2 x7 x8) S =
  execL (C b) 0 c19 (k21 b) (ee4 x1 x2 x7 x8) S := nr (seqN ((enterS (by kernel_rfl)).trans (enterS (by kernel_rfl))))
def k94 (b : Nat) : KT := seqC (fun e S => execL (C b) 0 c8 (k0 b) e S) (k0 b)
@[go_sem] theorem g95 : execL (C b) 0 c9 K (ee3 x1 x2 x7) S =
  withV (some x7) fun x25 =>
    withV (lenO (tyi Try.prog 22) x25) fun x26 =>
    withN (makeSliceO Try.prog 22 (List.length S) x26 x26) S fun x27 S =>
    withV (some x27) fun x8 =>
    K .normal (ee4 x1 x2 x7 x8) S := nr (by kernel_rfl)
@[go_sem] theorem k94_n : k94 b .normal e S = execL (C b) 0 c9 (k18 b) e S := nr (seqN (enterS (by kernel_rfl)))
def k96 (b : Nat) : KT := seqC (fun e S => execL (C b) 0 c6 (k0 b) e S) (k0 b)
@[go_sem] theorem g97 : execL (C b) 0 c7 K (ee11 x1 x2 x22) S =
  withV (evLoad (tyi Try.prog 26) S x2) fun x23 =>
    withN (callO (callL Try.prog hints) S 58 [x23]) S fun x24 S =>
    withV (some x24) fun x7 =>
    K .normal (ee3 x1 x2 x7) S := nr (by kernel_rfl)
@[go_sem] theorem k96_n : k96 b .normal e S = execL (C b) 0 c7 (k94 b) e S := nr (seqN (enterS (by kernel_rfl)))
@[go_sem] theorem k96_ret : k96 b .ret e S = (k0 b) .ret e S := nr (seqC_r _ _ _ _)
def k98 (b : Nat) : KT := seqC (fun e S => execL (C b) 0 c4 (k0 b) e S) (k0 b)
def c99 : Code := at0 c5
def c100 : Code := at1 c5
def k101 (b : Nat) : KT := seqC (fun e S => execL (C b) 0 c100 (k96 b) e S) (k96 b)
def c102 : Code := atT c100
def c105 : Code := at0 c102
def c106 : Code := at1 c102
def k107 (b : Nat) : KT := seqC (fun e S => execL (C b) 0 c106 (k96 b) e S) (k96 b)
@[go_sem] theorem k107_n : k107 b .normal (ee12 x4 x5) S =
  (k96 b) .ret (ee12 x4 x5) S := nr (seqN (execL_ret (by kernel_rfl)))
@[go_sem] theorem g108 : execL (C b) 0 c105 K (ee11 x1 x2 x22) S =
  withV (some (.sl [] true)) fun x4 =>
    withV (some (.int .i64 1)) fun x5 =>
    K .normal (ee12 x4 x5) S := nr (by kernel_rfl)
@[go_sem] theorem k101_n : k101 b .normal (ee11 x1 x2 x22) S =
  condC x22 (execL (C b) 0 c105 (k107 b) (ee11 x1 x2 x22) S)
    ((k96 b) .normal (ee11 x1 x2 x22) S) := nr (seqN (condE (t := 22) (by kernel_rfl) (enterS (by kernel_rfl)) (execL_skip (by kernel_rfl)) rfl))
@[go_sem] theorem g109 : execL (C b) 0 c99 K (ee2 x1 x2 x6 x15) S =
  withV (some x1) fun x17 =>
    withV (evBin .neq (tyi Try.prog 3) x17 (.int .i64 0)) fun x18 =>
    withV (some x18) fun x19 =>
    withV (gval x19 true (some x1)) fun x20 =>
    withV (gval x19 true (evBin .neq (tyi Try.prog 3) x20 (.int .i64 1))) fun x21 =>
    withV (pickO x19 x21 (.bool false)) fun x22 =>
    K .normal (ee11 x1 x2 x22) S := nr (by kernel_rfl)
@[go_sem] theorem k98_n : k98 b .normal (ee2 x1 x2 x6 x15) S =
  execL (C b) 0 c99 (k101 b) (ee2 x1 x2 x6 x15) S := nr (seqN ((enterS (by kernel_rfl)).trans (enterS (by kernel_rfl))))
@[go_sem] theorem k98_ret : k98 b .ret e S = (k0 b) .ret e S := nr (seqC_r _ _ _ _)
def k110 (b : Nat) : KT := seqC (fun e S => execL (C b) 0 c2 (k0 b) e S) (k0 b)
def c111 : Code := at0 c3
def c112 : Code := at1 c3
def c113 : Code := at0 c112
def c114 : Code := at1 c112
def k115 (b : Nat) : KT := seqC (fun e S => execL (C b) 0 c114 (k98 b) e S) (k98 b)
def c116 : Code := atT c114
def c119 : Code := at0 c116
def c120 : Code := at1 c116
def k121 (b : Nat) : KT := seqC (fun e S => execL (C b) 0 c120 (k98 b) e S) (k98 b)
@[go_sem] theorem k121_n : k121 b .normal (ee12 x4 x5) S =
  (k98 b) .ret (ee12 x4 x5) S := nr (seqN (execL_ret (by kernel_rfl)))
@[go_sem] theorem g122 : execL (C b) 0 c119 K (ee2 x1 x2 x6 x15) S =
  withV (some x6) fun x16 =>
    withV (some (.sl [] true)) fun x4 =>
    withV (some x16) fun x5 =>
    K .normal (ee12 x4 x5) S := nr (by kernel_rfl)
@[go_sem] theorem k115_n : k115 b .normal (ee2 x1 x2 x6 x15) S =
  condC x15 (execL (C b) 0 c119 (k121 b) (ee2 x1 x2 x6 x15) S)
    ((k98 b) .normal (ee2 x1 x2 x6 x15) S) := nr (seqN (condE (t := 15) (by kernel_rfl) (enterS (by kernel_rfl)) (execL_skip (by kernel_rfl)) rfl))
def k123 (b : Nat) : KT := seqC (fun e S => execL (C b) 0 c112 (k98 b) e S) (k98 b)
@[go_sem] theorem g124 : execL (C b) 0 c113 K (ee1 x1 x2 x6) S =
  withV (some x6) fun x14 =>
    withV (evBin .neq (tyi Try.prog 29) x14 (.int .i64 0)) fun x15 =>
    K .normal (ee2 x1 x2 x6 x15) S := nr (by kernel_rfl)
@[go_sem] theorem k123_n : k123 b .normal e S = execL (C b) 0 c113 (k115 b) e S := nr (seqN (enterS (by kernel_rfl)))
@[go_sem] theorem g125 : execL (C b) 0 c111 K (ee0 x1 x2) S =
  withV (evLoad (tyi Try.prog 26) S x2) fun x12 =>
    withN (callO (callL Try.prog hints) S 18 [x12]) S fun x13 S =>
    withV (some x13) fun x6 =>
    K .normal (ee1 x1 x2 x6) S := nr (by kernel_rfl)
@[go_sem] theorem k110_n : k110 b .normal (ee0 x1 x2) S =
  execL (C b) 0 c111 (k123 b) (ee0 x1 x2) S := nr (seqN ((enterS (by kernel_rfl)).trans (enterS (by kernel_rfl))))
@[go_sem] theorem g126 : execL (C b) 0 c1 K [(0, x0), (1, x1)] S =
  withN (boxed S (List.length S) (TI.size (tyi Try.prog 26)) x0) S fun x2 S =>
    withV (some (.sl [] true)) fun x4 =>
    withV (some (.int .i64 0)) fun x5 =>
    K .normal (ee0 x1 x2) S := nr (by kernel_rfl)
def E (b : Nat) (x0 x1 : PV) (S : Store) : RT := execL (C b) 0 code (k0 b) [(0, x0), (1, x1)] S
@[go_sem] theorem E_eq : E b x0 x1 S =
  execL (C b) 0 c1 (k110 b) [(0, x0), (1, x1)] S := nr (enterS (by kernel_rfl))
@[go_sem] theorem k0_ret12 : k0 b .ret (ee12 x4 x5) S = some ((.tup [x4, x5]), S) := nr (by kernel_rfl)
theorem call {x0 x1 : PV} {r : PV × Store} {v : PV} (h : E 0 x0 x1 [] = some r) (hv : fzPV r.2 r.1 = some v) : callL Try.prog hints 25 [x0, x1] = some v := callL_of (fn := Try.f25) (c := code) (by kernel_rfl) (by kernel_rfl) (by decide) (by kernel_rfl) (Nat.le_of_ble_eq_true (by kernel_rfl)) h hv
end
end F25
end
end Go.Vs
