/- Printed by a program of mine (stage1.py): the functions 24, 25, piece by piece. -/

import Derived.Test.YtnddhkcciphhkaaMX10
import Derived.Test.YtnddhkcciphhkaaMX22
section
set_option linter.unusedVariables false
set_option linter.unusedSimpArgs false
namespace Go.Vs
open Go Go.Proofs
noncomputable section

/-! ### game.Strategy -/
namespace F24
section
variable (b i n n0 n2 : Nat) (K : KT) (x0 x1 x2 x4 x5 x6 x7 x8 x9 x10 x12 x16 x23 x28 x29 x30 x60 x65 x66 x67 x68 x95 : PV) (e : Env) (S : Store)
noncomputable def hint : Hint := { keep := [], loops := [(2, { live := [1, 2, 7, 8, 9, 10, 28, 29, 65, 66, 67], after := [1, 2, 7, 8, 10, 28, 29], own := [], fz := [] }), (0, { live := [1, 2, 7, 8, 28, 29], after := [8], own := [], fz := [] })], regs := [(0, [1, 2]), (1, [1, 2, 6]), (2, [1, 2, 6, 16]), (3, [4, 5]), (4, [1, 2, 23]), (5, [4, 5]), (6, [1, 2, 7]), (7, [1, 2, 7, 8]), (8, [1, 2, 7, 8, 28, 29]), (9, [1, 2, 7, 8, 28, 29, 30]), (10, [1, 2, 7, 8, 9, 28, 29]), (11, [1, 2, 7, 8, 9, 10, 28, 29]), (12, [1, 2, 7, 8, 9, 10, 28, 29, 60, 65, 66, 67, 68]), (13, [1, 2, 7, 8, 9, 10, 28, 29, 65, 66, 67]), (14, [1, 2, 7, 8, 9, 10, 28, 29, 60, 65, 66, 67, 68]), (15, [1, 2, 7, 8, 9, 10, 12, 28, 29, 65, 66, 67]), (16, [1, 2, 7, 8, 9, 10, 12, 28, 29, 65, 66, 67, 95]), (17, [1, 2, 7, 8, 9, 10, 28, 29, 60, 65, 66, 67, 68]), (18, [1, 2, 7, 8, 9, 10, 28, 29, 65, 66, 67]), (19, [1, 2, 7, 8, 28, 29]), (20, [1, 2, 7, 8, 28, 29]), (21, [4, 5])] }
noncomputable def C (b : Nat) : Ctx := ctxL Try.prog hints b hint
noncomputable def code : Code := Try.f24.body.get rfl
noncomputable def k0 (b : Nat) : KT := endC Try.prog Try.f24
def ee0 (x1 x2 : PV) : Env := [(1, x1), (2, x2)]
def ee1 (x1 x2 x6 : PV) : Env := [(1, x1), (2, x2), (6, x6)]
def ee2 (x1 x2 x6 x16 : PV) : Env := [(1, x1), (2, x2), (6, x6), (16, x16)]
def ee3 (x1 x2 x7 : PV) : Env := [(1, x1), (2, x2), (7, x7)]
def ee4 (x1 x2 x7 x8 : PV) : Env := [(1, x1), (2, x2), (7, x7), (8, x8)]
def ee5 (x1 x2 x7 x8 x9 x10 x12 x28 x29 x65 x66 x67 : PV) : Env := [(1, x1), (2, x2), (7, x7), (8, x8), (9, x9), (10, x10), (12, x12), (28, x28), (29, x29), (65, x65), (66, x66), (67, x67)]
def ee6 (x1 x2 x7 x8 x9 x10 x12 x28 x29 x65 x66 x67 x95 : PV) : Env := [(1, x1), (2, x2), (7, x7), (8, x8), (9, x9), (10, x10), (12, x12), (28, x28), (29, x29), (65, x65), (66, x66), (67, x67), (95, x95)]
def ee7 (x1 x2 x7 x8 x9 x10 x28 x29 : PV) : Env := [(1, x1), (2, x2), (7, x7), (8, x8), (9, x9), (10, x10), (28, x28), (29, x29)]
def ee8 (x1 x2 x7 x8 x9 x10 x28 x29 x60 x65 x66 x67 x68 : PV) : Env := [(1, x1), (2, x2), (7, x7), (8, x8), (9, x9), (10, x10), (28, x28), (29, x29), (60, x60), (65, x65), (66, x66), (67, x67), (68, x68)]
def ee9 (x1 x2 x7 x8 x9 x10 x28 x29 x65 x66 x67 : PV) : Env := [(1, x1), (2, x2), (7, x7), (8, x8), (9, x9), (10, x10), (28, x28), (29, x29), (65, x65), (66, x66), (67, x67)]
def ee10 (x1 x2 x7 x8 x9 x28 x29 : PV) : Env := [(1, x1), (2, x2), (7, x7), (8, x8), (9, x9), (28, x28), (29, x29)]
def ee11 (x1 x2 x7 x8 x28 x29 : PV) : Env := [(1, x1), (2, x2), (7, x7), (8, x8), (28, x28), (29, x29)]
def ee12 (x1 x2 x7 x8 x28 x29 x30 : PV) : Env := [(1, x1), (2, x2), (7, x7), (8, x8), (28, x28), (29, x29), (30, x30)]
def ee13 (x1 x2 x23 : PV) : Env := [(1, x1), (2, x2), (23, x23)]
def ee14 (x4 x5 : PV) : Env := [(4, x4), (5, x5)]
def c1 : Code := at0 code
def c2 : Code := at1 code
def c3 : Code := at0 c2
def c4 : Code := at1 c2
def c5 : Code := at0 c4
def c6 : Code := at1 c4
def c7 : Code := at0 c6
def c8 : Code := at1 c6
def c9 : Code := at0 c8
def c10 : Code := at1 c8
def c11 : Code := at0 c10
def c12 : Code := at1 c10
def c13 : Code := at0 c12
def c14 : Code := at1 c12
def k15 (b : Nat) : KT := seqC (fun e S => execL (C b) 0 c14 (k0 b) e S) (k0 b)
@[go_sem] theorem k15_n : k15 b .normal (ee14 x4 x5) S =
  (k0 b) .ret (ee14 x4 x5) S := nr (seqN (execL_ret (by kernel_rfl)))
def k16 (b : Nat) : KT := seqC (fun e S => execL (C b) 0 c12 (k0 b) e S) (k0 b)
@[go_sem] theorem g17 : execL (C b) 0 c13 K (ee12 x1 x2 x7 x8 x28 x29 x30) S =
  withV (some x8) fun x103 =>
    withV (some x103) fun x4 =>
    withV (some (.int .i64 0)) fun x5 =>
    K .normal (ee14 x4 x5) S := nr (by kernel_rfl)
@[go_sem] theorem k16_n : k16 b .normal e S = execL (C b) 0 c13 (k15 b) e S := nr (seqN (enterS (by kernel_rfl)))
def k18 (b : Nat) : KT := seqC (fun e S => execL (C b) 0 c10 (k0 b) e S) (k0 b)
def c19 : Code := at0 c11
def c20 : Code := at1 c11
def k21 (b : Nat) : KT := seqC (fun e S => execL (C b) 0 c20 (k16 b) e S) (k16 b)
def c22 : Code := atB c20
def k23 (b : Nat) : KT := blockC 0 (k16 b)
@[go_sem] theorem k23_exit : k23 b (.exit i) e S = if i = 0 then (k16 b) .normal e S else (k16 b) (.exit i) e S := nr (blockC_x _ _ _ _ _)
def c24 : Code := atL c22
def k25 (b n0 : Nat) : KT := afterC 0 n0 [8] (k23 b)
def L0g (b n0 : Nat) (e : Env) (S : Store) : RT := loopL (fun K e S => execL (C b) 0 c24 K e S) (normG [1, 2, 7, 8, 28, 29] [] n0) (k25 b n0) e S
def L0 (b n0 : Nat) (x1 x2 x7 x8 x28 x29 : PV) (S : Store) : RT := L0g b n0 (ee11 x1 x2 x7 x8 x28 x29) S
def k26 (b n0 : Nat) : KT := stepC (normG [1, 2, 7, 8, 28, 29] [] n0) (k25 b n0) (L0g b n0)
@[go_sem] theorem k26_n : k26 b n0 .normal (ee11 x1 x2 x7 x8 x28 x29) S = L0 b n0 x1 x2 x7 x8 x28 x29 (gc n0 (ee11 x1 x2 x7 x8 x28 x29) S) := nr (by kernel_rfl)
@[go_sem] theorem k26_x1 : k26 b n0 (.exit 0) (ee12 x1 x2 x7 x8 x28 x29 x30) S = (k23 b) (.exit 0) (ee12 .undef .undef .undef x8 .undef .undef .undef) (gc n0 (ee12 .undef .undef .undef x8 .undef .undef .undef) S) := nr ((show k26 b n0 (.exit 0) (ee12 x1 x2 x7 x8 x28 x29 x30) S = (k25 b n0) (.exit 0) (ee12 x1 x2 x7 x8 x28 x29 x30) S from stepC_x _ _ _ _ _ _).trans ((show (k25 b n0) (.exit 0) (ee12 x1 x2 x7 x8 x28 x29 x30) S = _ from afterC_x _ _ _ _ _ _ _).trans (if_pos rfl)))
def c27 : Code := at0 c24
def c28 : Code := at1 c24
def c30 : Code := at1 c28
def c31 : Code := at0 c30
def c32 : Code := at1 c30
def k33 (b n0 : Nat) : KT := seqC (fun e S => execL (C b) 0 c32 (k26 b n0) e S) (k26 b n0)
@[go_sem] theorem g34 : execL (C b) 0 c32 K (ee11 x1 x2 x7 x8 x28 x29) S =
  withV (evBin .add (tyi Try.prog 3) x29 (.int .i64 1)) fun x102 =>
    withV (some x102) fun x29 =>
    K .normal (ee11 x1 x2 x7 x8 x28 x29) S := nr (by kernel_rfl)
@[go_sem] theorem k33_n : k33 b n0 .normal e S = execL (C b) 0 c32 (k26 b n0) e S := nr (seqN rfl)
def k35 (b n0 : Nat) : KT := seqC (fun e S => execL (C b) 0 c30 (k26 b n0) e S) (k26 b n0)
def c36 : Code := atB c31
def k37 (b n0 : Nat) : KT := blockC 1 (k33 b n0)
@[go_sem] theorem k37_n : k37 b n0 .normal e S = (k33 b n0) .normal e S := nr (blockC_n _ _ _ _)
def c38 : Code := at0 c36
def c39 : Code := at1 c36
def c40 : Code := at0 c39
def c41 : Code := at1 c39
def c42 : Code := at0 c41
def c43 : Code := at1 c41
def k44 (b n0 : Nat) : KT := seqC (fun e S => execL (C b) 1 c43 (k37 b n0) e S) (k37 b n0)
@[go_sem] theorem g45 : execL (C b) 1 c43 K (ee8 x1 x2 x7 x8 x9 x10 x28 x29 x60 x65 x66 x67 x68) S =
  withV (some x8) fun x98 =>
    withV (some x10) fun x99 =>
    withN (buildSliceO Try.prog 22 (List.length S) 1 [0] [PV.cells x99]) S fun x100 S =>
    withE (appendE Try.prog b 22 22 S x98 x100) [(1, x1), (2, x2), (7, x7), (8, x8), (9, x9), (10, x10), (28, x28), (29, x29), (60, x60), (65, x65), (66, x66), (67, x67), (68, x68), (98, x98), (99, x99), (100, x100)] fun x101 e1 S =>
    withV (some (Vs.get (put e1 101 x101) 101)) fun x8 =>
    K .normal (ee11 (Vs.get (put (put e1 101 x101) 8 x8) 1) (Vs.get (put (put e1 101 x101) 8 x8) 2) (Vs.get (put (put e1 101 x101) 8 x8) 7) (Vs.get (put (put e1 101 x101) 8 x8) 8) (Vs.get (put (put e1 101 x101) 8 x8) 28) (Vs.get (put (put e1 101 x101) 8 x8) 29)) S := nr (by kernel_rfl)
@[go_sem] theorem k44_n : k44 b n0 .normal e S = execL (C b) 1 c43 (k37 b n0) e S := nr (seqN rfl)
def k46 (b n0 : Nat) : KT := seqC (fun e S => execL (C b) 1 c41 (k37 b n0) e S) (k37 b n0)
def c47 : Code := at0 c42
def c48 : Code := at1 c42
def k49 (b n0 : Nat) : KT := seqC (fun e S => execL (C b) 1 c48 (k44 b n0) e S) (k44 b n0)
def c50 : Code := atT c48
def c53 : Code := at0 c50
def c54 : Code := at1 c50
def k55 (b n0 : Nat) : KT := seqC (fun e S => execL (C b) 1 c54 (k44 b n0) e S) (k44 b n0)
def c56 : Code := atB c54
def k57 (b n0 : Nat) : KT := blockC 2 (k44 b n0)
@[go_sem] theorem k57_exit : k57 b n0 (.exit i) e S = if i = 2 then (k44 b n0) .normal e S else (k44 b n0) (.exit i) e S := nr (blockC_x _ _ _ _ _)
def c58 : Code := atL c56
def k59 (b n0 n2 : Nat) : KT := afterC 2 n2 [1, 2, 7, 8, 10, 28, 29] (k57 b n0)
def L2g (b n0 n2 : Nat) (e : Env) (S : Store) : RT := loopL (fun K e S => execL (C b) 2 c58 K e S) (normG [1, 2, 7, 8, 9, 10, 28, 29, 65, 66, 67] [] n2) (k59 b n0 n2) e S
def L2 (b n0 n2 : Nat) (x1 x2 x7 x8 x9 x10 x28 x29 x65 x66 x67 : PV) (S : Store) : RT := L2g b n0 n2 (ee9 x1 x2 x7 x8 x9 x10 x28 x29 x65 x66 x67) S
def k60 (b n0 n2 : Nat) : KT := stepC (normG [1, 2, 7, 8, 9, 10, 28, 29, 65, 66, 67] [] n2) (k59 b n0 n2) (L2g b n0 n2)
@[go_sem] theorem k60_n : k60 b n0 n2 .normal (ee9 x1 x2 x7 x8 x9 x10 x28 x29 x65 x66 x67) S = L2 b n0 n2 x1 x2 x7 x8 x9 x10 x28 x29 x65 x66 x67 (gc n2 (ee9 x1 x2 x7 x8 x9 x10 x28 x29 x65 x66 x67) S) := nr (by kernel_rfl)
@[go_sem] theorem k60_x1 : k60 b n0 n2 (.exit 2) (ee8 x1 x2 x7 x8 x9 x10 x28 x29 x60 x65 x66 x67 x68) S = (k57 b n0) (.exit 2) (ee8 x1 x2 x7 x8 .undef x10 x28 x29 .undef .undef .undef .undef .undef) (gc n2 (ee8 x1 x2 x7 x8 .undef x10 x28 x29 .undef .undef .undef .undef .undef) S) := nr ((show k60 b n0 n2 (.exit 2) (ee8 x1 x2 x7 x8 x9 x10 x28 x29 x60 x65 x66 x67 x68) S = (k59 b n0 n2) (.exit 2) (ee8 x1 x2 x7 x8 x9 x10 x28 x29 x60 x65 x66 x67 x68) S from stepC_x _ _ _ _ _ _).trans ((show (k59 b n0 n2) (.exit 2) (ee8 x1 x2 x7 x8 x9 x10 x28 x29 x60 x65 x66 x67 x68) S = _ from afterC_x _ _ _ _ _ _ _).trans (if_pos rfl)))
def c61 : Code := at0 c58
def c62 : Code := at1 c58
def c64 : Code := at1 c62
def c65 : Code := at0 c64
def c66 : Code := at1 c64
def k67 (b n0 n2 : Nat) : KT := seqC (fun e S => execL (C b) 2 c66 (k60 b n0 n2) e S) (k60 b n0 n2)
@[go_sem] theorem g68 : execL (C b) 2 c66 K (ee6 x1 x2 x7 x8 x9 x10 x12 x28 x29 x65 x66 x67 x95) S =
  withV (evBin .add (tyi Try.prog 3) x67 (.int .i64 1)) fun x97 =>
    withV (some x97) fun x67 =>
    K .normal (ee9 x1 x2 x7 x8 x9 x10 x28 x29 x65 x66 x67) S := nr (by kernel_rfl)
@[go_sem] theorem k67_n : k67 b n0 n2 .normal e S = execL (C b) 2 c66 (k60 b n0 n2) e S := nr (seqN rfl)
@[go_sem] theorem k67_exit : k67 b n0 n2 (.exit i) e S = (k60 b n0 n2) (.exit i) e S := nr (seqC_x _ _ _ _ _)
def k69 (b n0 n2 : Nat) : KT := seqC (fun e S => execL (C b) 2 c64 (k60 b n0 n2) e S) (k60 b n0 n2)
def c70 : Code := atB c65
def k71 (b n0 n2 : Nat) : KT := blockC 3 (k67 b n0 n2)
@[go_sem] theorem k71_n : k71 b n0 n2 .normal e S = (k67 b n0 n2) .normal e S := nr (blockC_n _ _ _ _)
@[go_sem] theorem k71_exit : k71 b n0 n2 (.exit i) e S = if i = 3 then (k67 b n0 n2) .normal e S else (k67 b n0 n2) (.exit i) e S := nr (blockC_x _ _ _ _ _)
def c72 : Code := at0 c70
def c73 : Code := at1 c70
def c74 : Code := at0 c73
def c75 : Code := at1 c73
def k76 (b n0 n2 : Nat) : KT := seqC (fun e S => execL (C b) 3 c75 (k71 b n0 n2) e S) (k71 b n0 n2)
def c77 : Code := atT c75
def c80 : Code := at0 c77
def c81 : Code := at1 c77
def k82 (b n0 n2 : Nat) : KT := seqC (fun e S => execL (C b) 3 c81 (k71 b n0 n2) e S) (k71 b n0 n2)
@[go_sem] theorem k82_n : k82 b n0 n2 .normal (ee8 x1 x2 x7 x8 x9 x10 x28 x29 x60 x65 x66 x67 x68) S =
  (k71 b n0 n2) (.exit 2) (ee8 x1 x2 x7 x8 x9 x10 x28 x29 x60 x65 x66 x67 x68) S := nr (seqN (execL_exit (by kernel_rfl)))
@[go_sem] theorem g83 : execL (C b) 3 c80 K (ee6 x1 x2 x7 x8 x9 x10 x12 x28 x29 x65 x66 x67 x95) S =
  withV (some x12) fun x96 =>
    withV (some x96) fun x10 =>
    K .normal (ee8 x1 x2 x7 x8 x9 x10 x28 x29 .undef x65 x66 x67 .undef) S := nr (by kernel_rfl)
@[go_sem] theorem k76_n : k76 b n0 n2 .normal (ee6 x1 x2 x7 x8 x9 x10 x12 x28 x29 x65 x66 x67 x95) S =
  condC x95 (execL (C b) 3 c80 (k82 b n0 n2) (ee6 x1 x2 x7 x8 x9 x10 x12 x28 x29 x65 x66 x67 x95) S)
    ((k71 b n0 n2) .normal (ee6 x1 x2 x7 x8 x9 x10 x12 x28 x29 x65 x66 x67 x95) S) := nr (seqN (condE (t := 95) (by kernel_rfl) (enterS (by kernel_rfl)) (execL_skip (by kernel_rfl)) rfl))
def k84 (b n0 n2 : Nat) : KT := seqC (fun e S => execL (C b) 3 c73 (k71 b n0 n2) e S) (k71 b n0 n2)
@[go_sem] theorem g85 : execL (C b) 3 c74 K (ee5 x1 x2 x7 x8 x9 x10 x12 x28 x29 x65 x66 x67) S =
  withV (some x1) fun x71 =>
    withV (evBin .eql (tyi Try.prog 3) x71 (.int .i64 0)) fun x72 =>
    withV (some x72) fun x73 =>
    withV (gval x73 true (some x7)) fun x74 =>
    withV (gval x73 true (some x12)) fun x75 =>
    withV (gval x73 true (indexAddrO Try.prog 22 S x74 x75)) fun x76 =>
    withV (gval x73 true (evLoad (tyi Try.prog 3) S x76)) fun x77 =>
    withV (gval x73 true (some x7)) fun x78 =>
    withV (gval x73 true (some x9)) fun x79 =>
    withV (gval x73 true (indexAddrO Try.prog 22 S x78 x79)) fun x80 =>
    withV (gval x73 true (evLoad (tyi Try.prog 3) S x80)) fun x81 =>
    withV (gval x73 true (evBin .sub (tyi Try.prog 3) x81 (.int .i64 1))) fun x82 =>
    withV (gval x73 true (evBin .eql (tyi Try.prog 3) x77 x82)) fun x83 =>
    withV (pickO x73 x83 (.bool false)) fun x84 =>
    withV (some x84) fun x85 =>
    withV (gval x85 false (some x1)) fun x86 =>
    withV (gval x85 false (evBin .eql (tyi Try.prog 3) x86 (.int .i64 1))) fun x87 =>
    withV (gval x85 false (some x87)) fun x88 =>
    withV (gval x88 true (some x7)) fun x89 =>
    withV (gval x88 true (some x12)) fun x90 =>
    withV (gval x88 true (indexAddrO Try.prog 22 S x89 x90)) fun x91 =>
    withV (gval x88 true (evLoad (tyi Try.prog 3) S x91)) fun x92 =>
    withV (gval x88 true (evBin .lss (tyi Try.prog 3) x92 (.int .i64 0))) fun x93 =>
    withV (gval x85 false (pickO x88 x93 (.bool false))) fun x94 =>
    withV (pickO x85 (.bool true) x94) fun x95 =>
    K .normal (ee6 x1 x2 x7 x8 x9 x10 x12 x28 x29 x65 x66 x67 x95) S := nr (by kernel_rfl)
@[go_sem] theorem k84_n : k84 b n0 n2 .normal e S = execL (C b) 3 c74 (k76 b n0 n2) e S := nr (seqN (enterS (by kernel_rfl)))
@[go_sem] theorem g86 : execL (C b) 3 c72 K (ee8 x1 x2 x7 x8 x9 x10 x28 x29 x60 x65 x66 x67 x68) S =
  withV (indexAddrO Try.prog 22 S x65 x67) fun x69 =>
    withV (evLoad (tyi Try.prog 3) S x69) fun x70 =>
    withV (some x70) fun x12 =>
    K .normal (ee5 x1 x2 x7 x8 x9 x10 x12 x28 x29 x65 x66 x67) S := nr (by kernel_rfl)
@[go_sem] theorem k69_n : k69 b n0 n2 .normal (ee8 x1 x2 x7 x8 x9 x10 x28 x29 x60 x65 x66 x67 x68) S =
  execL (C b) 3 c72 (k84 b n0 n2) (ee8 x1 x2 x7 x8 x9 x10 x28 x29 x60 x65 x66 x67 x68) S := nr (seqN ((enterS (by kernel_rfl)).trans ((blockE (by kernel_rfl)).trans (enterS (by kernel_rfl)))))
@[go_sem] theorem k69_exit : k69 b n0 n2 (.exit i) e S = (k60 b n0 n2) (.exit i) e S := nr (seqC_x _ _ _ _ _)
def k87 (b n0 n2 : Nat) : KT := seqC (fun e S => execL (C b) 2 c62 (k60 b n0 n2) e S) (k60 b n0 n2)
@[go_sem] theorem k87_n : k87 b n0 n2 .normal (ee8 x1 x2 x7 x8 x9 x10 x28 x29 x60 x65 x66 x67 x68) S =
  condC x68 ((k69 b n0 n2) .normal (ee8 x1 x2 x7 x8 x9 x10 x28 x29 x60 x65 x66 x67 x68) S)
    ((k69 b n0 n2) (.exit 2) (ee8 x1 x2 x7 x8 x9 x10 x28 x29 x60 x65 x66 x67 x68) S) := nr (seqN ((enterS (by kernel_rfl)).trans (condE (t := 68) (by kernel_rfl) (execL_skip (by kernel_rfl)) (execL_exit (by kernel_rfl)) rfl)))
@[go_sem] theorem g90 : execL (C b) 2 c61 K (ee9 x1 x2 x7 x8 x9 x10 x28 x29 x65 x66 x67) S =
  withV (evBin .lss (tyi Try.prog 3) x67 x66) fun x68 =>
    K .normal (ee8 x1 x2 x7 x8 x9 x10 x28 x29 .undef x65 x66 x67 x68) S := nr (by kernel_rfl)
def B2 (b n0 n2 : Nat) (x1 x2 x7 x8 x9 x10 x28 x29 x65 x66 x67 : PV) (S : Store) : RT := execL (C b) 2 c58 (k60 b n0 n2) (ee9 x1 x2 x7 x8 x9 x10 x28 x29 x65 x66 x67) S
@[go_sem] theorem B2_eq : B2 b n0 n2 x1 x2 x7 x8 x9 x10 x28 x29 x65 x66 x67 S =
  execL (C b) 2 c61 (k87 b n0 n2) (ee9 x1 x2 x7 x8 x9 x10 x28 x29 x65 x66 x67) S := nr (enterS (by kernel_rfl))
theorem L2_step {b n0 n2 : Nat} {x1 x2 x7 x8 x9 x10 x28 x29 x65 x66 x67 : PV} {S : Store} {z : PV × Store} (h : B2 b n0 n2 x1 x2 x7 x8 x9 x10 x28 x29 x65 x66 x67 S = some z) : L2 b n0 n2 x1 x2 x7 x8 x9 x10 x28 x29 x65 x66 x67 S = some z := loopL_step h
theorem L2_in (b n0 : Nat) (x1 x2 x7 x8 x9 x10 x28 x29 x65 x66 x67 : PV) (S : Store) : execL (C b) 2 c56 (k57 b n0) (ee9 x1 x2 x7 x8 x9 x10 x28 x29 x65 x66 x67) S = L2 b n0 (List.length S) x1 x2 x7 x8 x9 x10 x28 x29 x65 x66 x67 S := by kernel_rfl
@[go_sem] theorem k55_n : k55 b n0 .normal (ee9 x1 x2 x7 x8 x9 x10 x28 x29 x65 x66 x67) S =
  L2 b n0 (List.length S) x1 x2 x7 x8 x9 x10 x28 x29 x65 x66 x67 S := nr (seqN ((blockE (by kernel_rfl)).trans (L2_in b n0 x1 x2 x7 x8 x9 x10 x28 x29 x65 x66 x67 S)))
@[go_sem] theorem g92 : execL (C b) 1 c53 K (ee8 x1 x2 x7 x8 x9 x10 x28 x29 x60 x65 x66 x67 x68) S =
  withV (evFieldAddr (tyi Try.prog 26) 1 x2) fun x61 =>
    withV (evLoad (tyi Try.prog 23) S x61) fun x62 =>
    withV (some x9) fun x63 =>
    withV (indexAddrO Try.prog 23 S x62 x63) fun x64 =>
    withV (evLoad (tyi Try.prog 22) S x64) fun x65 =>
    withV (lenO (tyi Try.prog 22) x65) fun x66 =>
    withV (some (.int .i64 0)) fun x67 =>
    K .normal (ee9 x1 x2 x7 x8 x9 x10 x28 x29 x65 x66 x67) S := nr (by kernel_rfl)
@[go_sem] theorem k49_n : k49 b n0 .normal (ee8 x1 x2 x7 x8 x9 x10 x28 x29 x60 x65 x66 x67 x68) S =
  condC x60 (execL (C b) 1 c53 (k55 b n0) (ee8 x1 x2 x7 x8 x9 x10 x28 x29 x60 x65 x66 x67 x68) S)
    ((k44 b n0) .normal (ee8 x1 x2 x7 x8 x9 x10 x28 x29 x60 x65 x66 x67 x68) S) := nr (seqN (condE (t := 60) (by kernel_rfl) (enterS (by kernel_rfl)) (execL_skip (by kernel_rfl)) rfl))
@[go_sem] theorem g93 : execL (C b) 1 c47 K (ee7 x1 x2 x7 x8 x9 x10 x28 x29) S =
  withV (evFieldAddr (tyi Try.prog 26) 0 x2) fun x32 =>
    withV (evLoad (tyi Try.prog 22) S x32) fun x33 =>
    withV (some x9) fun x34 =>
    withV (indexAddrO Try.prog 22 S x33 x34) fun x35 =>
    withV (evLoad (tyi Try.prog 3) S x35) fun x36 =>
    withV (some x1) fun x37 =>
    withV (evBin .eql (tyi Try.prog 3) x36 x37) fun x38 =>
    withV (some x38) fun x39 =>
    withV (gval x39 true (some x7)) fun x40 =>
    withV (gval x39 true (some x9)) fun x41 =>
    withV (gval x39 true (indexAddrO Try.prog 22 S x40 x41)) fun x42 =>
    withV (gval x39 true (evLoad (tyi Try.prog 3) S x42)) fun x43 =>
    withV (gval x39 true (evBin .gtr (tyi Try.prog 3) x43 (.int .i64 0))) fun x44 =>
    withV (gval x39 true (some x44)) fun x45 =>
    withV (gval x45 true (some x1)) fun x46 =>
    withV (gval x45 true (evBin .eql (tyi Try.prog 3) x46 (.int .i64 0))) fun x47 =>
    withV (gval x39 true (pickO x45 x47 (.bool false))) fun x48 =>
    withV (gval x39 true (some x48)) fun x49 =>
    withV (gval x49 false (some x7)) fun x50 =>
    withV (gval x49 false (some x9)) fun x51 =>
    withV (gval x49 false (indexAddrO Try.prog 22 S x50 x51)) fun x52 =>
    withV (gval x49 false (evLoad (tyi Try.prog 3) S x52)) fun x53 =>
    withV (gval x49 false (evBin .lss (tyi Try.prog 3) x53 (.int .i64 0))) fun x54 =>
    withV (gval x49 false (some x54)) fun x55 =>
    withV (gval x55 true (some x1)) fun x56 =>
    withV (gval x55 true (evBin .eql (tyi Try.prog 3) x56 (.int .i64 1))) fun x57 =>
    withV (gval x49 false (pickO x55 x57 (.bool false))) fun x58 =>
    withV (gval x39 true (pickO x49 (.bool true) x58)) fun x59 =>
    withV (pickO x39 x59 (.bool false)) fun x60 =>
    K .normal (ee8 x1 x2 x7 x8 x9 x10 x28 x29 x60 .undef .undef .undef .undef) S := nr (by kernel_rfl)
@[go_sem] theorem k46_n : k46 b n0 .normal (ee7 x1 x2 x7 x8 x9 x10 x28 x29) S =
  execL (C b) 1 c47 (k49 b n0) (ee7 x1 x2 x7 x8 x9 x10 x28 x29) S := nr (seqN ((enterS (by kernel_rfl)).trans (enterS (by kernel_rfl))))
def k94 (b n0 : Nat) : KT := seqC (fun e S => execL (C b) 1 c39 (k37 b n0) e S) (k37 b n0)
@[go_sem] theorem g95 : execL (C b) 1 c40 K (ee10 x1 x2 x7 x8 x9 x28 x29) S =
  withV (some (.int .i64 (-1))) fun x10 =>
    K .normal (ee7 x1 x2 x7 x8 x9 x10 x28 x29) S := nr (by kernel_rfl)
@[go_sem] theorem k94_n : k94 b n0 .normal e S = execL (C b) 1 c40 (k46 b n0) e S := nr (seqN (enterS (by kernel_rfl)))
@[go_sem] theorem g96 : execL (C b) 1 c38 K (ee12 x1 x2 x7 x8 x28 x29 x30) S =
  withV (some x29) fun x31 =>
    withV (some x31) fun x9 =>
    K .normal (ee10 x1 x2 x7 x8 x9 x28 x29) S := nr (by kernel_rfl)
@[go_sem] theorem k35_n : k35 b n0 .normal (ee12 x1 x2 x7 x8 x28 x29 x30) S =
  execL (C b) 1 c38 (k94 b n0) (ee12 x1 x2 x7 x8 x28 x29 x30) S := nr (seqN ((enterS (by kernel_rfl)).trans ((blockE (by kernel_rfl)).trans (enterS (by kernel_rfl)))))
@[go_sem] theorem k35_exit : k35 b n0 (.exit i) e S = (k26 b n0) (.exit i) e S := nr (seqC_x _ _ _ _ _)
def k97 (b n0 : Nat) : KT := seqC (fun e S => execL (C b) 0 c28 (k26 b n0) e S) (k26 b n0)
@[go_sem] theorem k97_n : k97 b n0 .normal (ee12 x1 x2 x7 x8 x28 x29 x30) S =
  condC x30 ((k35 b n0) .normal (ee12 x1 x2 x7 x8 x28 x29 x30) S)
    ((k35 b n0) (.exit 0) (ee12 x1 x2 x7 x8 x28 x29 x30) S) := nr (seqN ((enterS (by kernel_rfl)).trans (condE (t := 30) (by kernel_rfl) (execL_skip (by kernel_rfl)) (execL_exit (by kernel_rfl)) rfl)))
@[go_sem] theorem g100 : execL (C b) 0 c27 K (ee11 x1 x2 x7 x8 x28 x29) S =
  withV (evBin .lss (tyi Try.prog 3) x29 x28) fun x30 =>
    K .normal (ee12 x1 x2 x7 x8 x28 x29 x30) S := nr (by kernel_rfl)
def B0 (b n0 : Nat) (x1 x2 x7 x8 x28 x29 : PV) (S : Store) : RT := execL (C b) 0 c24 (k26 b n0) (ee11 x1 x2 x7 x8 x28 x29) S
@[go_sem] theorem B0_eq : B0 b n0 x1 x2 x7 x8 x28 x29 S =
  execL (C b) 0 c27 (k97 b n0) (ee11 x1 x2 x7 x8 x28 x29) S := nr (enterS (by kernel_rfl))
theorem L0_step {b n0 : Nat} {x1 x2 x7 x8 x28 x29 : PV} {S : Store} {z : PV × Store} (h : B0 b n0 x1 x2 x7 x8 x28 x29 S = some z) : L0 b n0 x1 x2 x7 x8 x28 x29 S = some z := loopL_step h
theorem L0_in (b : Nat) (x1 x2 x7 x8 x28 x29 : PV) (S : Store) : execL (C b) 0 c22 (k23 b) (ee11 x1 x2 x7 x8 x28 x29) S = L0 b (List.length S) x1 x2 x7 x8 x28 x29 S := by kernel_rfl
@[go_sem] theorem k21_n : k21 b .normal (ee11 x1 x2 x7 x8 x28 x29) S =
  L0 b (List.length S) x1 x2 x7 x8 x28 x29 S := nr (seqN ((blockE (by kernel_rfl)).trans (L0_in b x1 x2 x7 x8 x28 x29 S)))
@[go_sem] theorem g102 : execL (C b) 0 c19 K (ee4 x1 x2 x7 x8) S =
  withV (evFieldAddr (tyi Try.prog 26) 0 x2) fun x26 =>
    withV (evLoad (tyi Try.prog 22) S x26) fun x27 =>
    withV (lenO (tyi Try.prog 22) x27) fun x28 =>
    withV (some (.int .i64 0)) fun x29 =>
    K .normal (ee11 x1 x2 x7 x8 x28 x29) S := nr (by kernel_rfl)
@[go_sem] theorem k18_n : k18 b .normal (ee4 x1 x2 x7 x8) S =
  execL (C b) 0 c19 (k21 b) (ee4 x1 x2 x7 x8) S := nr (seqN ((enterS (by kernel_rfl)).trans (enterS (by kernel_rfl))))
def k103 (b : Nat) : KT := seqC (fun e S => execL (C b) 0 c8 (k0 b) e S) (k0 b)
@[go_sem] theorem g104 : execL (C b) 0 c9 K (ee3 x1 x2 x7) S =
  withV (some (.sl [] true)) fun x8 =>
    K .normal (ee4 x1 x2 x7 x8) S := nr (by kernel_rfl)
@[go_sem] theorem k103_n : k103 b .normal e S = execL (C b) 0 c9 (k18 b) e S := nr (seqN (enterS (by kernel_rfl)))
def k105 (b : Nat) : KT := seqC (fun e S => execL (C b) 0 c6 (k0 b) e S) (k0 b)
@[go_sem] theorem g106 : execL (C b) 0 c7 K (ee13 x1 x2 x23) S =
  withV (evLoad (tyi Try.prog 26) S x2) fun x24 =>
    withN (callO (callL Try.prog hints) S 57 [x24]) S fun x25 S =>
    withV (some x25) fun x7 =>
    K .normal (ee3 x1 x2 x7) S := nr (by kernel_rfl)
@[go_sem] theorem k105_n : k105 b .normal e S = execL (C b) 0 c7 (k103 b) e S := nr (seqN (enterS (by kernel_rfl)))
@[go_sem] theorem k105_ret : k105 b .ret e S = (k0 b) .ret e S := nr (seqC_r _ _ _ _)
def k107 (b : Nat) : KT := seqC (fun e S => execL (C b) 0 c4 (k0 b) e S) (k0 b)
def c108 : Code := at0 c5
def c109 : Code := at1 c5
def k110 (b : Nat) : KT := seqC (fun e S => execL (C b) 0 c109 (k105 b) e S) (k105 b)
def c111 : Code := atT c109
def c114 : Code := at0 c111
def c115 : Code := at1 c111
def k116 (b : Nat) : KT := seqC (fun e S => execL (C b) 0 c115 (k105 b) e S) (k105 b)
@[go_sem] theorem k116_n : k116 b .normal (ee14 x4 x5) S =
  (k105 b) .ret (ee14 x4 x5) S := nr (seqN (execL_ret (by kernel_rfl)))
@[go_sem] theorem g117 : execL (C b) 0 c114 K (ee13 x1 x2 x23) S =
  withV (some (.sl [] true)) fun x4 =>
    withV (some (.int .i64 1)) fun x5 =>
    K .normal (ee14 x4 x5) S := nr (by kernel_rfl)
@[go_sem] theorem k110_n : k110 b .normal (ee13 x1 x2 x23) S =
  condC x23 (execL (C b) 0 c114 (k116 b) (ee13 x1 x2 x23) S)
    ((k105 b) .normal (ee13 x1 x2 x23) S) := nr (seqN (condE (t := 23) (by kernel_rfl) (enterS (by kernel_rfl)) (execL_skip (by kernel_rfl)) rfl))
@[go_sem] theorem g118 : execL (C b) 0 c108 K (ee2 x1 x2 x6 x16) S =
  withV (some x1) fun x18 =>
    withV (evBin .neq (tyi Try.prog 3) x18 (.int .i64 0)) fun x19 =>
    withV (some x19) fun x20 =>
    withV (gval x20 true (some x1)) fun x21 =>
    withV (gval x20 true (evBin .neq (tyi Try.prog 3) x21 (.int .i64 1))) fun x22 =>
    withV (pickO x20 x22 (.bool false)) fun x23 =>
    K .normal (ee13 x1 x2 x23) S := nr (by kernel_rfl)
@[go_sem] theorem k107_n : k107 b .normal (ee2 x1 x2 x6 x16) S =
  execL (C b) 0 c108 (k110 b) (ee2 x1 x2 x6 x16) S := nr (seqN ((enterS (by kernel_rfl)).trans (enterS (by kernel_rfl))))
@[go_sem] theorem k107_ret : k107 b .ret e S = (k0 b) .ret e S := nr (seqC_r _ _ _ _)
def k119 (b : Nat) : KT := seqC (fun e S => execL (C b) 0 c2 (k0 b) e S) (k0 b)
def c120 : Code := at0 c3
def c121 : Code := at1 c3
def c122 : Code := at0 c121
def c123 : Code := at1 c121
def k124 (b : Nat) : KT := seqC (fun e S => execL (C b) 0 c123 (k107 b) e S) (k107 b)
def c125 : Code := atT c123
def c128 : Code := at0 c125
def c129 : Code := at1 c125
def k130 (b : Nat) : KT := seqC (fun e S => execL (C b) 0 c129 (k107 b) e S) (k107 b)
@[go_sem] theorem k130_n : k130 b .normal (ee14 x4 x5) S =
  (k107 b) .ret (ee14 x4 x5) S := nr (seqN (execL_ret (by kernel_rfl)))
@[go_sem] theorem g131 : execL (C b) 0 c128 K (ee2 x1 x2 x6 x16) S =
  withV (some x6) fun x17 =>
    withV (some (.sl [] true)) fun x4 =>
    withV (some x17) fun x5 =>
    K .normal (ee14 x4 x5) S := nr (by kernel_rfl)
@[go_sem] theorem k124_n : k124 b .normal (ee2 x1 x2 x6 x16) S =
  condC x16 (execL (C b) 0 c128 (k130 b) (ee2 x1 x2 x6 x16) S)
    ((k107 b) .normal (ee2 x1 x2 x6 x16) S) := nr (seqN (condE (t := 16) (by kernel_rfl) (enterS (by kernel_rfl)) (execL_skip (by kernel_rfl)) rfl))
def k132 (b : Nat) : KT := seqC (fun e S => execL (C b) 0 c121 (k107 b) e S) (k107 b)
@[go_sem] theorem g133 : execL (C b) 0 c122 K (ee1 x1 x2 x6) S =
  withV (some x6) fun x15 =>
    withV (evBin .neq (tyi Try.prog 29) x15 (.int .i64 0)) fun x16 =>
    K .normal (ee2 x1 x2 x6 x16) S := nr (by kernel_rfl)
@[go_sem] theorem k132_n : k132 b .normal e S = execL (C b) 0 c122 (k124 b) e S := nr (seqN (enterS (by kernel_rfl)))
@[go_sem] theorem g134 : execL (C b) 0 c120 K (ee0 x1 x2) S =
  withV (evLoad (tyi Try.prog 26) S x2) fun x13 =>
    withN (callO (callL Try.prog hints) S 17 [x13]) S fun x14 S =>
    withV (some x14) fun x6 =>
    K .normal (ee1 x1 x2 x6) S := nr (by kernel_rfl)
@[go_sem] theorem k119_n : k119 b .normal (ee0 x1 x2) S =
  execL (C b) 0 c120 (k132 b) (ee0 x1 x2) S := nr (seqN ((enterS (by kernel_rfl)).trans (enterS (by kernel_rfl))))
@[go_sem] theorem g135 : execL (C b) 0 c1 K [(0, x0), (1, x1)] S =
  withN (boxed S (List.length S) (TI.size (tyi Try.prog 26)) x0) S fun x2 S =>
    withV (some (.sl [] true)) fun x4 =>
    withV (some (.int .i64 0)) fun x5 =>
    K .normal (ee0 x1 x2) S := nr (by kernel_rfl)
def E (b : Nat) (x0 x1 : PV) (S : Store) : RT := execL (C b) 0 code (k0 b) [(0, x0), (1, x1)] S
@[go_sem] theorem E_eq : E b x0 x1 S =
  execL (C b) 0 c1 (k119 b) [(0, x0), (1, x1)] S := nr (enterS (by kernel_rfl))
@[go_sem] theorem k0_ret14 : k0 b .ret (ee14 x4 x5) S = some ((.tup [x4, x5]), S) := nr (by kernel_rfl)
theorem call {x0 x1 : PV} {r : PV × Store} {v : PV} (h : E 0 x0 x1 [] = some r) (hv : fzPV r.2 r.1 = some v) : callL Try.prog hints 24 [x0, x1] = some v := callL_of (fn := Try.f24) (c := code) (by kernel_rfl) (by kernel_rfl) (by decide) (by kernel_rfl) (Nat.le_of_ble_eq_true (by kernel_rfl)) h hv
end
end F24
/-! ### isochroneref23.Strategy -/
namespace F25
section
variable (b i n n0 n2 : Nat) (K : KT) (x0 x1 x2 x4 x5 x6 x7 x8 x9 x10 x11 x15 x22 x31 x65 x74 x109 : PV) (e : Env) (S : Store)
end
end F25
end
end Go.Vs
end
/- game.Strategy: the move that it takes. -/
section
set_option linter.unusedVariables false
set_option linter.unusedSimpArgs false
namespace Go.Vs
open Go Go.Proofs
/-- Is the move to m one of the strategy? -/
def okM (p ri rm : Int) : Bool := (decide (p = 0) && decide (rm = ri - 1)) || (decide (p = 1) && decide (rm < 0))
/-- The first such move, -1 if there is none. -/
def pickM (p ri : Int) (R : List Int) : List Int → Int
  | [] => -1
  | m :: l => if okM p ri (R.getD m.toNat 0) = true then m else pickM p ri R l
theorem loop24_2 (g : Game) (p ri : Int) (R : List Int) (hri : -1000000000 ≤ ri ∧ ri ≤ 1000000000) (v : PV) (i : Nat) (hiR : i < R.length) (hr : R.getD i 0 = ri) (l : List Int) (hl : l.length ≤ 4000) (hx : ∀ x ∈ l, ∃ j : Nat, j < R.length ∧ x = j) (nn : Int) (S : Store) {z : PV × Store} : ∀ (m k : Nat), k + m = l.length →
    F24.k44 0 1 .normal (F24.ee8 (.int .i64 p) (.mp 0 0 0) (.sl (intRows R) false) v .undef (.int .i64 (pickM p ri R (l.drop k))) (.int .i64 nn) (.int .i64 i) .undef .undef .undef .undef .undef) S = some z →
    F24.L2 0 1 S.length (.int .i64 p) (.mp 0 0 0) (.sl (intRows R) false) v (.int .i64 i) (.int .i64 (-1)) (.int .i64 nn) (.int .i64 i) (.sl (intRows l) false) (.int .i64 l.length) (.int .i64 k) S = some z := by
  have hm4 : (4000 : Nat) ≤ maxLen := by decide
  intro m
  induction m with
  | zero =>
    intro k hk hz
    have c1 : ¬ (k : Int) < (l.length : Int) := by omega
    rw [List.drop_of_length_le (by omega), pickM] at hz
    refine F24.L2_step ?_
    have s1 : ∀ (K : KT), execL (F24.C 0) 2 F24.c61 K (F24.ee9 (.int .i64 p) (.mp 0 0 0) (.sl (intRows R) false) v (.int .i64 i) (.int .i64 (-1)) (.int .i64 nn) (.int .i64 i) (.sl (intRows l) false) (.int .i64 l.length) (.int .i64 k)) S = K .normal (F24.ee8 (.int .i64 p) (.mp 0 0 0) (.sl (intRows R) false) v (.int .i64 i) (.int .i64 (-1)) (.int .i64 nn) (.int .i64 i) .undef (.sl (intRows l) false) (.int .i64 l.length) (.int .i64 k) (.bool false)) S := fun K => by
      simp only [go_sem, ↓reduceIte, Nat.reduceEqDiff, Nat.reduceBEq, Nat.reduceAdd, Nat.reduceMul, Nat.reduceSub, Nat.reduceLT, Nat.reduceLeDiff, reduceCtorEq, Int.reduceToNat, Int.reduceLE, Int.reduceLT, Int.reduceEq, c1]
    simp only [F24.B2_eq, s1, F24.k87_n, condC_false, F24.k69_exit, F24.k60_x1, gc_full, F24.k57_exit, if_true]
    exact hz
  | succ m hm =>
    intro k hk hz
    have c1 : (k : Int) < (l.length : Int) := by omega
    have hkl : k < l.length := by omega
    have w1 := wrap_succ (i := k) (n := l.length) hkl (by omega)
    have h5 : 0 ≤ (k : Int) ∧ (k : Int) < (l.length : Int) := ⟨by omega, c1⟩
    obtain ⟨j, hj, ej⟩ := hx (l.getD k 0) (by simp [List.getD_eq_getElem?_getD, hkl])
    have ed : l.drop k = (j : Int) :: l.drop (k + 1) := by
      rw [List.drop_eq_getElem_cons hkl]
      simp only [List.getD_eq_getElem?_getD, List.getElem?_eq_getElem hkl, Option.getD_some] at ej
      rw [ej]
    rw [ed, pickM, Int.toNat_natCast] at hz
    have w2 := wrap_dec hri.1 hri.2
    have h6 : 0 ≤ (j : Int) ∧ (j : Int) < (R.length : Int) := ⟨by omega, by omega⟩
    have h7 : 0 ≤ (i : Int) ∧ (i : Int) < (R.length : Int) := ⟨by omega, by omega⟩
    have s1 : ∀ (K : KT), execL (F24.C 0) 2 F24.c61 K (F24.ee9 (.int .i64 p) (.mp 0 0 0) (.sl (intRows R) false) v (.int .i64 i) (.int .i64 (-1)) (.int .i64 nn) (.int .i64 i) (.sl (intRows l) false) (.int .i64 l.length) (.int .i64 k)) S = K .normal (F24.ee8 (.int .i64 p) (.mp 0 0 0) (.sl (intRows R) false) v (.int .i64 i) (.int .i64 (-1)) (.int .i64 nn) (.int .i64 i) .undef (.sl (intRows l) false) (.int .i64 l.length) (.int .i64 k) (.bool true)) S := fun K => by
      simp only [go_sem, ↓reduceIte, Nat.reduceEqDiff, Nat.reduceBEq, Nat.reduceAdd, Nat.reduceMul, Nat.reduceSub, Nat.reduceLT, Nat.reduceLeDiff, reduceCtorEq, Int.reduceToNat, Int.reduceLE, Int.reduceLT, Int.reduceEq, c1]
    have s2 : ∀ (K : KT), execL (F24.C 0) 3 F24.c72 K (F24.ee8 (.int .i64 p) (.mp 0 0 0) (.sl (intRows R) false) v (.int .i64 i) (.int .i64 (-1)) (.int .i64 nn) (.int .i64 i) .undef (.sl (intRows l) false) (.int .i64 l.length) (.int .i64 k) (.bool true)) S = K .normal (F24.ee5 (.int .i64 p) (.mp 0 0 0) (.sl (intRows R) false) v (.int .i64 i) (.int .i64 (-1)) (.int .i64 j) (.int .i64 nn) (.int .i64 i) (.sl (intRows l) false) (.int .i64 l.length) (.int .i64 k)) S := fun K => by
      simp only [go_sem, ↓reduceIte, Nat.reduceEqDiff, Nat.reduceBEq, Nat.reduceAdd, Nat.reduceMul, Nat.reduceSub, Nat.reduceLT, Nat.reduceLeDiff, reduceCtorEq, Int.reduceToNat, Int.reduceLE, Int.reduceLT, Int.reduceEq, withV_any, h5, Int.toNat_natCast, ej]
    have s3 : ∀ (K : KT), execL (F24.C 0) 3 F24.c74 K (F24.ee5 (.int .i64 p) (.mp 0 0 0) (.sl (intRows R) false) v (.int .i64 i) (.int .i64 (-1)) (.int .i64 j) (.int .i64 nn) (.int .i64 i) (.sl (intRows l) false) (.int .i64 l.length) (.int .i64 k)) S = K .normal (F24.ee6 (.int .i64 p) (.mp 0 0 0) (.sl (intRows R) false) v (.int .i64 i) (.int .i64 (-1)) (.int .i64 j) (.int .i64 nn) (.int .i64 i) (.sl (intRows l) false) (.int .i64 l.length) (.int .i64 k) (.bool (okM p ri (R.getD j 0)))) S := fun K => by
      by_cases a0 : p = 0
      · subst a0
        by_cases b : R.getD j 0 = ri - 1
        · have e : okM 0 ri (R.getD j 0) = true := by simp only [okM, b, decide_true, Bool.and_self, Bool.true_or]
          rw [e]
          simp only [go_sem, ↓reduceIte, Nat.reduceEqDiff, Nat.reduceBEq, Nat.reduceAdd, Nat.reduceMul, Nat.reduceSub, Nat.reduceLT, Nat.reduceLeDiff, reduceCtorEq, Int.reduceToNat, Int.reduceLE, Int.reduceLT, Int.reduceEq, withV_any, h6, h7, Int.toNat_natCast, hr, w2, b, decide_true]
        · have e : okM 0 ri (R.getD j 0) = false := by simp only [okM, b, decide_false, Bool.and_false, show ¬ (0 : Int) = 1 by decide, Bool.false_and, Bool.or_self]
          rw [e]
          simp only [go_sem, ↓reduceIte, Nat.reduceEqDiff, Nat.reduceBEq, Nat.reduceAdd, Nat.reduceMul, Nat.reduceSub, Nat.reduceLT, Nat.reduceLeDiff, reduceCtorEq, Int.reduceToNat, Int.reduceLE, Int.reduceLT, Int.reduceEq, withV_any, h6, h7, Int.toNat_natCast, hr, w2, b, decide_false]
      · by_cases a1 : p = 1
        · subst a1
          by_cases b : R.getD j 0 < 0
          · have e : okM 1 ri (R.getD j 0) = true := by simp only [okM, b, decide_true, Bool.and_self, Bool.or_true]
            rw [e]
            simp only [go_sem, ↓reduceIte, Nat.reduceEqDiff, Nat.reduceBEq, Nat.reduceAdd, Nat.reduceMul, Nat.reduceSub, Nat.reduceLT, Nat.reduceLeDiff, reduceCtorEq, Int.reduceToNat, Int.reduceLE, Int.reduceLT, Int.reduceEq, withV_any, h6, h7, Int.toNat_natCast, b, decide_true]
          · have e : okM 1 ri (R.getD j 0) = false := by simp only [okM, b, decide_false, Bool.and_false, show ¬ (1 : Int) = 0 by decide, Bool.false_and, Bool.or_self]
            rw [e]
            simp only [go_sem, ↓reduceIte, Nat.reduceEqDiff, Nat.reduceBEq, Nat.reduceAdd, Nat.reduceMul, Nat.reduceSub, Nat.reduceLT, Nat.reduceLeDiff, reduceCtorEq, Int.reduceToNat, Int.reduceLE, Int.reduceLT, Int.reduceEq, withV_any, h6, h7, Int.toNat_natCast, b, decide_false]
        · have e : okM p ri (R.getD j 0) = false := by simp [okM, a0, a1]
          rw [e]
          simp only [go_sem, ↓reduceIte, Nat.reduceEqDiff, Nat.reduceBEq, Nat.reduceAdd, Nat.reduceMul, Nat.reduceSub, Nat.reduceLT, Nat.reduceLeDiff, reduceCtorEq, Int.reduceToNat, Int.reduceLE, Int.reduceLT, Int.reduceEq, withV_any, a0, a1]
    have s9 : ∀ (K : KT) (x : PV), execL (F24.C 0) 2 F24.c66 K (F24.ee6 (.int .i64 p) (.mp 0 0 0) (.sl (intRows R) false) v (.int .i64 i) (.int .i64 (-1)) (.int .i64 j) (.int .i64 nn) (.int .i64 i) (.sl (intRows l) false) (.int .i64 l.length) (.int .i64 k) x) S = K .normal (F24.ee9 (.int .i64 p) (.mp 0 0 0) (.sl (intRows R) false) v (.int .i64 i) (.int .i64 (-1)) (.int .i64 nn) (.int .i64 i) (.sl (intRows l) false) (.int .i64 l.length) (.int .i64 (k + 1 : Nat))) S := fun K x => by
      simp only [go_sem, ↓reduceIte, Nat.reduceEqDiff, Nat.reduceBEq, Nat.reduceAdd, Nat.reduceMul, Nat.reduceSub, Nat.reduceLT, Nat.reduceLeDiff, reduceCtorEq, Int.reduceToNat, Int.reduceLE, Int.reduceLT, Int.reduceEq, withV_any, w1]
    refine F24.L2_step ?_
    cases hb : okM p ri (R.getD j 0) with
    | true =>
      rw [hb, if_pos rfl] at hz
      rw [hb] at s3
      have s4 : ∀ (K : KT), execL (F24.C 0) 3 F24.c80 K (F24.ee6 (.int .i64 p) (.mp 0 0 0) (.sl (intRows R) false) v (.int .i64 i) (.int .i64 (-1)) (.int .i64 j) (.int .i64 nn) (.int .i64 i) (.sl (intRows l) false) (.int .i64 l.length) (.int .i64 k) (.bool true)) S = K .normal (F24.ee8 (.int .i64 p) (.mp 0 0 0) (.sl (intRows R) false) v (.int .i64 i) (.int .i64 j) (.int .i64 nn) (.int .i64 i) .undef (.sl (intRows l) false) (.int .i64 l.length) (.int .i64 k) .undef) S := fun K => by
        simp only [F24.g83, withV_any]
      have ne3 : ¬ (2 : Nat) = 3 := by decide
      simp only [F24.B2_eq, s1, F24.k87_n, condC_true, F24.k69_n, s2, F24.k84_n, s3, F24.k76_n, s4, F24.k82_n, F24.k71_exit, ne3, if_false, F24.k67_exit, F24.k60_x1, gc_full, F24.k57_exit, if_true]
      exact hz
    | false =>
      rw [hb, if_neg (by simp)] at hz
      rw [hb] at s3
      simp only [F24.B2_eq, s1, F24.k87_n, condC_true, F24.k69_n, s2, F24.k84_n, s3, F24.k76_n, condC_false, F24.k71_n, F24.k67_n, s9, F24.k60_n, gc_full]
      exact hm (k + 1) (by omega) hz
end Go.Vs
end
/- game.Strategy: its loop. -/
section
set_option linter.unusedVariables false
set_option linter.unusedSimpArgs false
namespace Go.Vs
open Go Go.Proofs
/-- Has the player's strategy a move here? -/
def takeB (p ow ri : Int) : Bool := decide (ow = p) && ((decide (0 < ri) && decide (p = 0)) || (decide (ri < 0) && decide (p = 1)))
def stratAt (g : Game) (p : Int) (R : List Int) (i : Nat) : Int := if takeB p (g.owner.getD i 0) (R.getD i 0) = true then pickM p (R.getD i 0) R (g.moves.getD i []) else -1
theorem loop24_0 (g : Game) (hg : g.good) (p : Int) (R : List Int) (hR : R.length = g.owner.length) (hri : ∀ i, -1000000000 ≤ R.getD i 0 ∧ R.getD i 0 ≤ 1000000000) : ∀ (m i : Nat), i + m = g.owner.length → ∀ (S : Store) (v : PV) (L : List Int), S[0]? = some (.arr [g.cells] none false) → IntO S v L → (∀ r ∈ v.refs, 1 ≤ r) → L.length + m ≤ 2000000 →
    ∃ v' S', F24.L0 0 1 (.int .i64 p) (.mp 0 0 0) (.sl (intRows R) false) v (.int .i64 g.owner.length) (.int .i64 i) S = some (.tup [v', .int .i64 0], S') ∧ IntO S' v' (L ++ (List.range' i m).map (stratAt g p R)) := by
  have hN := hg.n
  have hm4 : (4000 : Nat) ≤ maxLen := by decide
  have gcO : ∀ (e : Env) (S : Store) (v : PV) (L : List Int), (∃ t, (t, v) ∈ e) → IntO S v L → (∀ r ∈ v.refs, 1 ≤ r) → IntO (Vs.gc 1 e S) v L := fun e S v L he h hv => by
    cases h with
    | nil => exact .nil
    | arr id L g hg h =>
      obtain ⟨t, ht⟩ := he
      rw [gc_no ht (r := id) (by simp [PV.refs]) (hv id (by simp [PV.refs]))]
      exact .arr id L g hg h
  intro m
  induction m with
  | zero =>
    intro i hi S v L h0 h hv hL
    have c1 : ¬ (i : Int) < (g.owner.length : Int) := by omega
    rw [List.range'_zero, List.map_nil, List.append_nil]
    refine ⟨v, Vs.gc 1 (F24.ee12 .undef .undef .undef v .undef .undef .undef) S, F24.L0_step ?_, gcO _ S v L ⟨8, by simp [F24.ee12]⟩ h hv⟩
    have s1 : ∀ (K : KT), execL (F24.C 0) 0 F24.c27 K (F24.ee11 (.int .i64 p) (.mp 0 0 0) (.sl (intRows R) false) v (.int .i64 g.owner.length) (.int .i64 i)) S = K .normal (F24.ee12 (.int .i64 p) (.mp 0 0 0) (.sl (intRows R) false) v (.int .i64 g.owner.length) (.int .i64 i) (.bool false)) S := fun K => by
      simp only [go_sem, ↓reduceIte, Nat.reduceEqDiff, Nat.reduceBEq, Nat.reduceAdd, Nat.reduceMul, Nat.reduceSub, Nat.reduceLT, Nat.reduceLeDiff, reduceCtorEq, Int.reduceToNat, Int.reduceLE, Int.reduceLT, Int.reduceEq, c1]
    simp only [F24.B0_eq, s1, F24.k97_n, condC_false, F24.k35_exit, F24.k26_x1, F24.k23_exit, if_true, F24.k16_n, F24.g17, withV_any, F24.k15_n, F24.k0_ret14]
  | succ m hm =>
    intro i hi S v L h0 h hv hL
    have c1 : (i : Int) < (g.owner.length : Int) := by omega
    have hiN : i < g.owner.length := by omega
    have w1 := wrap_succ (i := i) (n := g.owner.length) hiN (by omega)
    have h5 : 0 ≤ (i : Int) ∧ (i : Int) < (g.owner.length : Int) := ⟨by omega, c1⟩
    have h6 : 0 ≤ (i : Int) ∧ (i : Int) < (R.length : Int) := ⟨by omega, by omega⟩
    have h4 : 0 ≤ (i : Int) ∧ (i : Int) < (g.moves.length : Int) := ⟨by omega, by rw [hg.m]; exact c1⟩
    have r0 := rowsAt_of h0
    have hSl := (List.getElem?_eq_some_iff.1 h0).1
    -- the append
    have hO1 : IntO (S ++ [.arr [[.int .i64 (stratAt g p R i)]] (some (some 1)) false]) v L := h.same fun r hr => by rw [List.getElem?_append_left (h.lt r hr)]
    obtain ⟨v1, S1, ks, a1, a2, a3, a4, a5, a6⟩ := appendInt (b := 0) hO1 (y := .msl S.length 0 1 true) (l := [stratAt g p R i]) (.msl S.length [stratAt g p R i] true (some (some 1)) false (by simp [intRows])) (by simp) (by simp only [List.length_cons, List.length_nil]; omega)
    have h01 : S1[0]? = some (.arr [g.cells] none false) := by
      rw [a6 0 (by simp) (fun hx => by have := hv 0 hx; omega), List.getElem?_append_left hSl, h0]
      simp only [Option.map_some, killObj_arr]
      rw [killRows_id (fun r hr => by
        simp only [rowsRefs_cons, rowsRefs_nil, Game.refs, List.append_nil] at hr
        cases hr)]
    have hv1 : ∀ r ∈ v1.refs, 1 ≤ r := fun r hr => by
      rcases a5 r hr with hx | hx
      · exact hv r hx
      · simp only [List.length_append, List.length_cons, List.length_nil] at hx; omega
    have hex : ∃ r, r ∈ v1.refs := by
      cases hh : v1 with
      | msl id o n ex => exact ⟨id, by simp [PV.refs]⟩
      | _ =>
        rw [hh] at a2
        generalize eL : L ++ [stratAt g p R i] = L1 at a2
        cases a2
        all_goals (simp at eL)
    obtain ⟨r1, hr1⟩ := hex
    have e1 : Vs.gc 1 (F24.ee11 (.int .i64 p) (.mp 0 0 0) (.sl (intRows R) false) v1 (.int .i64 g.owner.length) (.int .i64 (i + 1 : Nat))) S1 = S1 := gc_no (t := 8) (v := v1) (by simp [F24.ee11]) hr1 (hv1 r1 hr1)
    obtain ⟨v', S', q1, q2⟩ := hm (i + 1) (by omega) S1 v1 (L ++ [stratAt g p R i]) h01 a2 hv1 (by simp only [List.length_append, List.length_cons, List.length_nil]; omega)
    refine ⟨v', S', F24.L0_step ?_, by rw [List.range'_succ, List.map_cons]; simpa using q2⟩
    have ki : ∀ z : Int, kill1 ks (.int .i64 z) = .int .i64 z := fun z => rfl
    have kl : kill1 ks (.sl (intRows R) false) = .sl (intRows R) false := rfl
    have km : kill1 ks (.mp 0 0 0) = .mp 0 0 0 := kill1_id fun r hr hx => by
      simp only [PV.refs, List.mem_singleton] at hr
      subst hr
      have := hv 0 (a4 0 hx)
      omega
    have s1 : ∀ (K : KT), execL (F24.C 0) 0 F24.c27 K (F24.ee11 (.int .i64 p) (.mp 0 0 0) (.sl (intRows R) false) v (.int .i64 g.owner.length) (.int .i64 i)) S = K .normal (F24.ee12 (.int .i64 p) (.mp 0 0 0) (.sl (intRows R) false) v (.int .i64 g.owner.length) (.int .i64 i) (.bool true)) S := fun K => by
      simp only [go_sem, ↓reduceIte, Nat.reduceEqDiff, Nat.reduceBEq, Nat.reduceAdd, Nat.reduceMul, Nat.reduceSub, Nat.reduceLT, Nat.reduceLeDiff, reduceCtorEq, Int.reduceToNat, Int.reduceLE, Int.reduceLT, Int.reduceEq, c1]
    have s2 : ∀ (K : KT), execL (F24.C 0) 1 F24.c38 K (F24.ee12 (.int .i64 p) (.mp 0 0 0) (.sl (intRows R) false) v (.int .i64 g.owner.length) (.int .i64 i) (.bool true)) S = K .normal (F24.ee10 (.int .i64 p) (.mp 0 0 0) (.sl (intRows R) false) v (.int .i64 i) (.int .i64 g.owner.length) (.int .i64 i)) S := fun K => by
      simp only [go_sem, ↓reduceIte, Nat.reduceEqDiff, Nat.reduceBEq, Nat.reduceAdd, Nat.reduceMul, Nat.reduceSub, Nat.reduceLT, Nat.reduceLeDiff, reduceCtorEq, Int.reduceToNat, Int.reduceLE, Int.reduceLT, Int.reduceEq, withV_any]
    have s3 : ∀ (K : KT), execL (F24.C 0) 1 F24.c47 K (F24.ee7 (.int .i64 p) (.mp 0 0 0) (.sl (intRows R) false) v (.int .i64 i) (.int .i64 (-1)) (.int .i64 g.owner.length) (.int .i64 i)) S = K .normal (F24.ee8 (.int .i64 p) (.mp 0 0 0) (.sl (intRows R) false) v (.int .i64 i) (.int .i64 (-1)) (.int .i64 g.owner.length) (.int .i64 i) (.bool (takeB p (g.owner.getD i 0) (R.getD i 0))) .undef .undef .undef .undef) S := fun K => by
      by_cases b0 : g.owner.getD i 0 = p
      · by_cases b1 : 0 < R.getD i 0 <;> by_cases b2 : p = 0 <;> by_cases b3 : R.getD i 0 < 0 <;> by_cases b4 : p = 1 <;> simp only [takeB, go_sem, ↓reduceIte, Nat.reduceEqDiff, Nat.reduceBEq, Nat.reduceAdd, Nat.reduceMul, Nat.reduceSub, Nat.reduceLT, Nat.reduceLeDiff, reduceCtorEq, Int.reduceToNat, Int.reduceLE, Int.reduceLT, Int.reduceEq, withV_any, r0, h5, h6, Int.toNat_natCast, b0, b1, b2, b3, b4, decide_true, decide_false, Bool.and_self, Bool.and_false, Bool.false_and, Bool.or_self, Bool.or_false, Bool.or_true, Bool.true_or, Bool.false_or, Bool.true_and]
      · simp only [takeB, go_sem, ↓reduceIte, Nat.reduceEqDiff, Nat.reduceBEq, Nat.reduceAdd, Nat.reduceMul, Nat.reduceSub, Nat.reduceLT, Nat.reduceLeDiff, reduceCtorEq, Int.reduceToNat, Int.reduceLE, Int.reduceLT, Int.reduceEq, withV_any, r0, h5, h6, Int.toNat_natCast, b0, decide_false, Bool.false_and]
    have s5 : ∀ (K : KT) (x9 x60 x65 x66 x67 x68 : PV), execL (F24.C 0) 1 F24.c43 K (F24.ee8 (.int .i64 p) (.mp 0 0 0) (.sl (intRows R) false) v x9 (.int .i64 (stratAt g p R i)) (.int .i64 g.owner.length) (.int .i64 i) x60 x65 x66 x67 x68) S = K .normal (F24.ee11 (.int .i64 p) (.mp 0 0 0) (.sl (intRows R) false) v1 (.int .i64 g.owner.length) (.int .i64 i)) S1 := fun K x9 x60 x65 x66 x67 x68 => by
      simp only [go_sem, ↓reduceIte, Nat.reduceEqDiff, Nat.reduceBEq, Nat.reduceAdd, Nat.reduceMul, Nat.reduceSub, Nat.reduceLT, Nat.reduceLeDiff, reduceCtorEq, Int.reduceToNat, Int.reduceLE, Int.reduceLT, Int.reduceEq, withV_any, a1, get_put, get_killE, ki, kl, km]
    have s6 : ∀ (K : KT), execL (F24.C 0) 0 F24.c32 K (F24.ee11 (.int .i64 p) (.mp 0 0 0) (.sl (intRows R) false) v1 (.int .i64 g.owner.length) (.int .i64 i)) S1 = K .normal (F24.ee11 (.int .i64 p) (.mp 0 0 0) (.sl (intRows R) false) v1 (.int .i64 g.owner.length) (.int .i64 (i + 1 : Nat))) S1 := fun K => by
      simp only [go_sem, ↓reduceIte, Nat.reduceEqDiff, Nat.reduceBEq, Nat.reduceAdd, Nat.reduceMul, Nat.reduceSub, Nat.reduceLT, Nat.reduceLeDiff, reduceCtorEq, Int.reduceToNat, Int.reduceLE, Int.reduceLT, Int.reduceEq, withV_any, w1]
    have rest : ∀ x9 x60 x65 x66 x67 x68 : PV, F24.k44 0 1 .normal (F24.ee8 (.int .i64 p) (.mp 0 0 0) (.sl (intRows R) false) v x9 (.int .i64 (stratAt g p R i)) (.int .i64 g.owner.length) (.int .i64 i) x60 x65 x66 x67 x68) S = some (.tup [v', .int .i64 0], S') := fun x9 x60 x65 x66 x67 x68 => by
      simp only [F24.k44_n, s5, F24.k37_n, F24.k33_n, s6, F24.k26_n, e1]
      exact q1
    cases ht : takeB p (g.owner.getD i 0) (R.getD i 0) with
    | false =>
      rw [ht] at s3
      have es : stratAt g p R i = -1 := by unfold stratAt; rw [ht]; rfl
      have := rest (.int .i64 i) (.bool false) .undef .undef .undef .undef
      rw [es] at this
      simp only [F24.B0_eq, s1, F24.k97_n, condC_true, F24.k35_n, s2, F24.k94_n, F24.g95, withV_any, F24.k46_n, s3, F24.k49_n, condC_false]
      exact this
    | true =>
      rw [ht] at s3
      have es : stratAt g p R i = pickM p (R.getD i 0) R (g.moves.getD i []) := by unfold stratAt; rw [ht, if_pos rfl]
      have s4 : ∀ (K : KT), execL (F24.C 0) 1 F24.c53 K (F24.ee8 (.int .i64 p) (.mp 0 0 0) (.sl (intRows R) false) v (.int .i64 i) (.int .i64 (-1)) (.int .i64 g.owner.length) (.int .i64 i) (.bool true) .undef .undef .undef .undef) S = K .normal (F24.ee9 (.int .i64 p) (.mp 0 0 0) (.sl (intRows R) false) v (.int .i64 i) (.int .i64 (-1)) (.int .i64 g.owner.length) (.int .i64 i) (.sl (intRows (g.moves.getD i [])) false) (.int .i64 (g.moves.getD i []).length) (.int .i64 (0 : Nat))) S := fun K => by
        simp only [go_sem, ↓reduceIte, Nat.reduceEqDiff, Nat.reduceBEq, Nat.reduceAdd, Nat.reduceMul, Nat.reduceSub, Nat.reduceLT, Nat.reduceLeDiff, reduceCtorEq, Int.reduceToNat, Int.reduceLE, Int.reduceLT, Int.reduceEq, withV_any, r0, h4, Int.toNat_natCast, Int.natCast_zero]
      have hx : ∀ x ∈ g.moves.getD i [], ∃ j : Nat, j < R.length ∧ x = j := fun x hx => by
        obtain ⟨y1, y2⟩ := hg.ok.mv i (by simp only [Game.toG]; omega) x hx
        simp only [Game.toG] at y2
        exact ⟨x.toNat, by omega, by omega⟩
      have key := loop24_2 g p (R.getD i 0) R (hri i) v i (by omega) rfl (g.moves.getD i []) (hg.s i) hx g.owner.length S (z := (.tup [v', .int .i64 0], S')) (g.moves.getD i []).length 0 (by omega) (by
        rw [List.drop_zero, ← es]
        exact rest .undef .undef .undef .undef .undef .undef)
      simp only [F24.B0_eq, s1, F24.k97_n, condC_true, F24.k35_n, s2, F24.k94_n, F24.g95, withV_any, F24.k46_n, s3, F24.k49_n, s4, F24.k55_n]
      exact key
end Go.Vs
end
/- game.Strategy: what it returns. -/
section
set_option linter.unusedVariables false
set_option linter.unusedSimpArgs false
namespace Go.Vs
open Go Go.Proofs
/-- A list of ints as a value; nil only if it is empty. -/
def IsInts (v : PV) (l : List Int) : Prop := ∃ ex, v = .sl (intRows l) ex ∧ (ex = true → l = [])
theorem IsInts.plain {v : PV} {l : List Int} (h : IsInts v l) : Plain v := by
  obtain ⟨ex, rfl, h2⟩ := h
  cases ex with
  | false => exact .sl _
  | true => rw [h2 rfl]; exact .nil
theorem IntO.fz {S : Store} {v : PV} {L : List Int} (h : IntO S v L) : ∃ w, IsInts w L ∧ fzPV1 S v = some w := by
  cases h with
  | nil => exact ⟨.sl [] true, ⟨true, rfl, fun _ => rfl⟩, rfl⟩
  | arr id L g hg h => exact ⟨.sl (intRows L) false, ⟨false, rfl, fun h => by cases h⟩, (Ints.msl id L false _ _ h).fz 6⟩
def Game.strat (g : Game) (p : Int) : List Int := (List.range g.owner.length).map (stratAt g p g.ranks)
theorem ranks_range (g : Game) (h : g.owner.length ≤ 400) (i : Nat) : -1000000000 ≤ g.ranks.getD i 0 ∧ g.ranks.getD i 0 ≤ 1000000000 := by
  by_cases hi : i < g.owner.length
  · have := Rk.rk_range g.toG (g.owner.length + 1) i hi
    have e : g.ranks.getD i 0 = Rk.rk (Rk.lvl g.toG (g.owner.length + 1)) i := getD_rk (by rw [ranks_len]; exact hi)
    rw [e]
    omega
  · have e : g.ranks.getD i 0 = 0 := by
      rw [List.getD_eq_getElem?_getD, List.getElem?_eq_none (by rw [ranks_len]; omega)]; rfl
    omega
/-- A result of Strategy: the list if there is no error, nil otherwise. -/
def IsStrat (g : Game) (p : Int) (v : PV) : Prop := ∃ w, v = .tup [w, .int .i64 (g.winsErr p)] ∧ (g.winsErr p = 0 → IsInts w (g.strat p)) ∧ (g.winsErr p ≠ 0 → w = .sl [] true)
theorem call24 (g : Game) (hg : g.ok) (p : Int) : ∃ v, IsStrat g p v ∧ callL Try.prog hints 24 [.agg g.cells, .int .i64 p] = some v := by
  have c1 := fun S => callG S (call17 g hg)
  by_cases h : g.check = 0
  · by_cases hp : p = 0 ∨ p = 1
    · have hgood := good_of h
      have c2' : ∀ S, callO (callL Try.prog hints) S 57 [.agg g.cells] = some { v := .sl (intRows g.ranks) false } := fun S => callG S (call57 g hgood)
      have hN := hgood.n
      obtain ⟨v', S', a1, a2⟩ := loop24_0 g hgood p g.ranks (ranks_len g) (ranks_range g hN) g.owner.length 0 (by omega) [.arr [g.cells] none false] (.sl [] true) [] rfl .nil (by intro r hr; cases hr) (by simp; omega)
      rw [List.nil_append, ← List.range_eq_range'] at a2
      obtain ⟨w, b1, b2⟩ := a2.fz
      have e0 := winsErr_ok h hp
      refine ⟨.tup [w, .int .i64 (g.winsErr p)], ⟨w, rfl, fun _ => b1, fun hn => absurd e0 hn⟩, ?_⟩
      rw [e0]
      refine F24.call (r := (.tup [v', .int .i64 0], S')) ?_ ?_
      · simp only [Int.natCast_zero] at a1
        rcases hp with rfl | rfl
        · simp only [go_sem, ↓reduceIte, Nat.reduceEqDiff, Nat.reduceBEq, Nat.reduceAdd, Nat.reduceMul, Nat.reduceSub, Nat.reduceLT, Nat.reduceLeDiff, reduceCtorEq, Int.reduceToNat, Int.reduceLE, Int.reduceLT, Int.reduceEq, withV_any, c1, h, c2', a1]
        · simp only [go_sem, ↓reduceIte, Nat.reduceEqDiff, Nat.reduceBEq, Nat.reduceAdd, Nat.reduceMul, Nat.reduceSub, Nat.reduceLT, Nat.reduceLeDiff, reduceCtorEq, Int.reduceToNat, Int.reduceLE, Int.reduceLT, Int.reduceEq, withV_any, c1, h, c2', a1]
      · show (mapO (fzPV1 S') [v', .int .i64 0]).map PV.tup = _
        simp only [mapO, b2, Option.bind_some]
        rfl
    · have e0 : g.winsErr p = 1 := by unfold Game.winsErr; rw [if_pos h, if_neg hp]
      refine ⟨.tup [.sl [] true, .int .i64 (g.winsErr p)], ⟨.sl [] true, rfl, fun hn => by rw [e0] at hn; exact absurd hn (by decide), fun _ => rfl⟩, ?_⟩
      rw [e0]
      have h0 : ¬ p = 0 := fun e => hp (.inl e)
      have h1 : ¬ p = 1 := fun e => hp (.inr e)
      refine F24.call (r := (.tup [.sl [] true, .int .i64 1], [.arr [g.cells] none false])) ?_ rfl
      simp only [go_sem, ↓reduceIte, Nat.reduceEqDiff, Nat.reduceBEq, Nat.reduceAdd, Nat.reduceMul, Nat.reduceSub, Nat.reduceLT, Nat.reduceLeDiff, reduceCtorEq, Int.reduceToNat, Int.reduceLE, Int.reduceLT, Int.reduceEq, withV_any, c1, h, h0, h1, decide_false, Bool.not_false]
  · have e0 : g.winsErr p = g.check := by unfold Game.winsErr; rw [if_neg h]
    refine ⟨.tup [.sl [] true, .int .i64 (g.winsErr p)], ⟨.sl [] true, rfl, fun hn => absurd (e0 ▸ hn) h, fun _ => rfl⟩, ?_⟩
    rw [e0]
    refine F24.call (r := (.tup [.sl [] true, .int .i64 g.check], [.arr [g.cells] none false])) ?_ rfl
    simp only [go_sem, ↓reduceIte, Nat.reduceEqDiff, Nat.reduceBEq, Nat.reduceAdd, Nat.reduceMul, Nat.reduceSub, Nat.reduceLT, Nat.reduceLeDiff, reduceCtorEq, Int.reduceToNat, Int.reduceLE, Int.reduceLT, Int.reduceEq, withV_any, c1, h, decide_false, Bool.not_false]
end Go.Vs
end
