/- Printed by a program of mine (stage1.py): the functions 58, piece by piece. -/

import Derived.Test.YtnddhkcciphhkaaMB9
import Derived.Test.YtnddhkcciphhkaaMB18
section
set_option linter.unusedVariables false
set_option linter.unusedSimpArgs false
namespace Go.Vs
open Go Go.Proofs
noncomputable section

/-! ### isochroneref23.ranks -/
namespace F58
section
variable (b i n n0 n2 n4 n6 : Nat) (K : KT) (x0 x1 x2 x3 x4 x5 x6 x7 x8 x9 x10 x11 x19 x29 x36 x46 x53 x61 x75 x95 : PV) (e : Env) (S : Store)
noncomputable def hint : Hint := { keep := [], loops := [(6, { live := [1, 3, 4, 6, 7, 8, 9, 10, 11], after := [1, 3, 4, 6, 7, 8, 9, 10], own := [], fz := [] }), (4, { live := [1, 3, 4, 6, 7, 8], after := [1, 3, 6, 7], own := [], fz := [] }), (2, { live := [1, 3, 4, 6], after := [4], own := [], fz := [] }), (0, { live := [1, 3, 4, 5], after := [1, 3, 4], own := [], fz := [] })], regs := [(0, [1]), (1, [1, 3]), (2, [1, 3, 4]), (3, [1, 3, 4, 5]), (4, [1, 3, 4, 5, 19]), (5, [1, 3, 4, 5]), (6, [1, 3, 4, 5]), (7, [1, 3, 4, 5, 29]), (8, [1, 3, 4, 5, 29]), (9, [1, 3, 4, 6]), (10, [1, 3, 4, 6, 36]), (11, [1, 3, 4, 6]), (12, [1, 3, 4, 6, 7]), (13, [1, 3, 4, 6, 7]), (14, [1, 3, 4, 6, 7, 8]), (15, [1, 3, 4, 6, 7, 8, 46]), (16, [1, 3, 4, 6, 7, 8]), (17, [1, 3, 4, 6, 7, 8, 53, 95]), (18, [1, 3, 4, 6, 7, 8, 9, 10]), (19, [1, 3, 4, 6, 7, 8, 9, 10, 11]), (20, [1, 3, 4, 6, 7, 8, 9, 10, 11, 61]), (21, [1, 3, 4, 6, 7, 8, 9, 10, 11]), (22, [1, 3, 4, 6, 7, 8, 9, 10, 11, 75]), (23, [1, 3, 4, 6, 7, 8, 9, 10, 11]), (24, [1, 3, 4, 6, 7, 8, 9, 10, 11]), (25, [1, 3, 4, 6, 7, 8, 53, 95]), (26, [1, 3, 4, 6, 7, 8, 53, 95]), (27, [1, 3, 4, 6]), (28, [2])] }
noncomputable def C (b : Nat) : Ctx := ctxL Try.prog hints b hint
noncomputable def code : Code := Try.f58.body.get rfl
noncomputable def k0 (b : Nat) : KT := endC Try.prog Try.f58
def ee0 (x1 : PV) : Env := [(1, x1)]
def ee1 (x1 x3 : PV) : Env := [(1, x1), (3, x3)]
def ee2 (x1 x3 x4 : PV) : Env := [(1, x1), (3, x3), (4, x4)]
def ee3 (x1 x3 x4 x5 : PV) : Env := [(1, x1), (3, x3), (4, x4), (5, x5)]
def ee4 (x1 x3 x4 x5 x19 : PV) : Env := [(1, x1), (3, x3), (4, x4), (5, x5), (19, x19)]
def ee5 (x1 x3 x4 x5 x29 : PV) : Env := [(1, x1), (3, x3), (4, x4), (5, x5), (29, x29)]
def ee6 (x1 x3 x4 x6 : PV) : Env := [(1, x1), (3, x3), (4, x4), (6, x6)]
def ee7 (x1 x3 x4 x6 x7 : PV) : Env := [(1, x1), (3, x3), (4, x4), (6, x6), (7, x7)]
def ee8 (x1 x3 x4 x6 x7 x8 : PV) : Env := [(1, x1), (3, x3), (4, x4), (6, x6), (7, x7), (8, x8)]
def ee9 (x1 x3 x4 x6 x7 x8 x9 x10 : PV) : Env := [(1, x1), (3, x3), (4, x4), (6, x6), (7, x7), (8, x8), (9, x9), (10, x10)]
def ee10 (x1 x3 x4 x6 x7 x8 x9 x10 x11 : PV) : Env := [(1, x1), (3, x3), (4, x4), (6, x6), (7, x7), (8, x8), (9, x9), (10, x10), (11, x11)]
def ee11 (x1 x3 x4 x6 x7 x8 x9 x10 x11 x61 : PV) : Env := [(1, x1), (3, x3), (4, x4), (6, x6), (7, x7), (8, x8), (9, x9), (10, x10), (11, x11), (61, x61)]
def ee12 (x1 x3 x4 x6 x7 x8 x9 x10 x11 x75 : PV) : Env := [(1, x1), (3, x3), (4, x4), (6, x6), (7, x7), (8, x8), (9, x9), (10, x10), (11, x11), (75, x75)]
def ee13 (x1 x3 x4 x6 x7 x8 x46 : PV) : Env := [(1, x1), (3, x3), (4, x4), (6, x6), (7, x7), (8, x8), (46, x46)]
def ee14 (x1 x3 x4 x6 x7 x8 x53 x95 : PV) : Env := [(1, x1), (3, x3), (4, x4), (6, x6), (7, x7), (8, x8), (53, x53), (95, x95)]
def ee15 (x1 x3 x4 x6 x36 : PV) : Env := [(1, x1), (3, x3), (4, x4), (6, x6), (36, x36)]
def ee16 (x2 : PV) : Env := [(2, x2)]
def c1 : Code := at0 code
def c2 : Code := at1 code
def c3 : Code := at0 c2
def c4 : Code := at1 c2
def c5 : Code := at0 c4
def c6 : Code := at1 c4
def c7 : Code := at0 c6
def c8 : Code := at1 c6
def c9 : Code := at0 c8
def c10 : Code := at1 c8
def c11 : Code := at0 c10
def c12 : Code := at1 c10
def k13 (b : Nat) : KT := seqC (fun e S => execL (C b) 0 c12 (k0 b) e S) (k0 b)
@[go_sem] theorem k13_n : k13 b .normal (ee16 x2) S =
  (k0 b) .ret (ee16 x2) S := nr (seqN (execL_ret (by kernel_rfl)))
def k14 (b : Nat) : KT := seqC (fun e S => execL (C b) 0 c10 (k0 b) e S) (k0 b)
@[go_sem] theorem g15 : execL (C b) 0 c11 K (ee15 x1 x3 x4 x6 x36) S =
  withV (some x4) fun x101 =>
    withV (some x101) fun x2 =>
    K .normal (ee16 x2) S := nr (by kernel_rfl)
@[go_sem] theorem k14_n : k14 b .normal e S = execL (C b) 0 c11 (k13 b) e S := nr (seqN (enterS (by kernel_rfl)))
def k16 (b : Nat) : KT := seqC (fun e S => execL (C b) 0 c8 (k0 b) e S) (k0 b)
def c17 : Code := at0 c9
def c18 : Code := at1 c9
def k19 (b : Nat) : KT := seqC (fun e S => execL (C b) 0 c18 (k14 b) e S) (k14 b)
def c20 : Code := atB c18
def k21 (b : Nat) : KT := blockC 2 (k14 b)
@[go_sem] theorem k21_exit : k21 b (.exit i) e S = if i = 2 then (k14 b) .normal e S else (k14 b) (.exit i) e S := nr (blockC_x _ _ _ _ _)
def c22 : Code := atL c20
def k23 (b n2 : Nat) : KT := afterC 2 n2 [4] (k21 b)
def L2g (b n2 : Nat) (e : Env) (S : Store) : RT := loopL (fun K e S => execL (C b) 2 c22 K e S) (normG [1, 3, 4, 6] [] n2) (k23 b n2) e S
def L2 (b n2 : Nat) (x1 x3 x4 x6 : PV) (S : Store) : RT := L2g b n2 (ee6 x1 x3 x4 x6) S
def k24 (b n2 : Nat) : KT := stepC (normG [1, 3, 4, 6] [] n2) (k23 b n2) (L2g b n2)
@[go_sem] theorem k24_n : k24 b n2 .normal (ee6 x1 x3 x4 x6) S = L2 b n2 x1 x3 x4 x6 (gc n2 (ee6 x1 x3 x4 x6) S) := nr (by kernel_rfl)
@[go_sem] theorem k24_x1 : k24 b n2 (.exit 2) (ee15 x1 x3 x4 x6 x36) S = (k21 b) (.exit 2) (ee15 .undef .undef x4 .undef .undef) (gc n2 (ee15 .undef .undef x4 .undef .undef) S) := nr ((show k24 b n2 (.exit 2) (ee15 x1 x3 x4 x6 x36) S = (k23 b n2) (.exit 2) (ee15 x1 x3 x4 x6 x36) S from stepC_x _ _ _ _ _ _).trans ((show (k23 b n2) (.exit 2) (ee15 x1 x3 x4 x6 x36) S = _ from afterC_x _ _ _ _ _ _ _).trans (if_pos rfl)))
def c25 : Code := at0 c22
def c26 : Code := at1 c22
def c27 : Code := at0 c26
def c28 : Code := at1 c26
def k29 (b n2 : Nat) : KT := seqC (fun e S => execL (C b) 2 c28 (k24 b n2) e S) (k24 b n2)
@[go_sem] theorem g30 : execL (C b) 2 c28 K (ee6 x1 x3 x4 x6) S =
  withV (some x6) fun x37 =>
    withV (evBin .add (tyi Try.prog 3) x37 (.int .i64 1)) fun x38 =>
    withV (some x38) fun x6 =>
    K .normal (ee6 x1 x3 x4 x6) S := nr (by kernel_rfl)
@[go_sem] theorem k29_n : k29 b n2 .normal e S = execL (C b) 2 c28 (k24 b n2) e S := nr (seqN rfl)
def k31 (b n2 : Nat) : KT := seqC (fun e S => execL (C b) 2 c26 (k24 b n2) e S) (k24 b n2)
def c32 : Code := atB c27
def k33 (b n2 : Nat) : KT := blockC 3 (k29 b n2)
@[go_sem] theorem k33_n : k33 b n2 .normal e S = (k29 b n2) .normal e S := nr (blockC_n _ _ _ _)
def c34 : Code := at0 c32
def c35 : Code := at1 c32
def c36 : Code := at0 c35
def c37 : Code := at1 c35
def c38 : Code := at0 c37
def c39 : Code := at1 c37
def k40 (b n2 : Nat) : KT := seqC (fun e S => execL (C b) 3 c39 (k33 b n2) e S) (k33 b n2)
@[go_sem] theorem g41 : execL (C b) 3 c39 K (ee13 x1 x3 x4 x6 x7 x8 x46) S =
  withV (some x7) fun x100 =>
    withV (some x100) fun x4 =>
    K .normal (ee6 x1 x3 x4 x6) S := nr (by kernel_rfl)
@[go_sem] theorem k40_n : k40 b n2 .normal e S = execL (C b) 3 c39 (k33 b n2) e S := nr (seqN rfl)
def k42 (b n2 : Nat) : KT := seqC (fun e S => execL (C b) 3 c37 (k33 b n2) e S) (k33 b n2)
def c43 : Code := at0 c38
def c44 : Code := at1 c38
def k45 (b n2 : Nat) : KT := seqC (fun e S => execL (C b) 3 c44 (k40 b n2) e S) (k40 b n2)
def c46 : Code := atB c44
def k47 (b n2 : Nat) : KT := blockC 4 (k40 b n2)
@[go_sem] theorem k47_exit : k47 b n2 (.exit i) e S = if i = 4 then (k40 b n2) .normal e S else (k40 b n2) (.exit i) e S := nr (blockC_x _ _ _ _ _)
def c48 : Code := atL c46
def k49 (b n2 n4 : Nat) : KT := afterC 4 n4 [1, 3, 6, 7] (k47 b n2)
def L4g (b n2 n4 : Nat) (e : Env) (S : Store) : RT := loopL (fun K e S => execL (C b) 4 c48 K e S) (normG [1, 3, 4, 6, 7, 8] [] n4) (k49 b n2 n4) e S
def L4 (b n2 n4 : Nat) (x1 x3 x4 x6 x7 x8 : PV) (S : Store) : RT := L4g b n2 n4 (ee8 x1 x3 x4 x6 x7 x8) S
def k50 (b n2 n4 : Nat) : KT := stepC (normG [1, 3, 4, 6, 7, 8] [] n4) (k49 b n2 n4) (L4g b n2 n4)
@[go_sem] theorem k50_n : k50 b n2 n4 .normal (ee8 x1 x3 x4 x6 x7 x8) S = L4 b n2 n4 x1 x3 x4 x6 x7 x8 (gc n4 (ee8 x1 x3 x4 x6 x7 x8) S) := nr (by kernel_rfl)
@[go_sem] theorem k50_x1 : k50 b n2 n4 (.exit 4) (ee13 x1 x3 x4 x6 x7 x8 x46) S = (k47 b n2) (.exit 4) (ee13 x1 x3 .undef x6 x7 .undef .undef) (gc n4 (ee13 x1 x3 .undef x6 x7 .undef .undef) S) := nr ((show k50 b n2 n4 (.exit 4) (ee13 x1 x3 x4 x6 x7 x8 x46) S = (k49 b n2 n4) (.exit 4) (ee13 x1 x3 x4 x6 x7 x8 x46) S from stepC_x _ _ _ _ _ _).trans ((show (k49 b n2 n4) (.exit 4) (ee13 x1 x3 x4 x6 x7 x8 x46) S = _ from afterC_x _ _ _ _ _ _ _).trans (if_pos rfl)))
def c51 : Code := at0 c48
def c52 : Code := at1 c48
def c53 : Code := at0 c52
def c54 : Code := at1 c52
def k55 (b n2 n4 : Nat) : KT := seqC (fun e S => execL (C b) 4 c54 (k50 b n2 n4) e S) (k50 b n2 n4)
@[go_sem] theorem g56 : execL (C b) 4 c54 K (ee14 x1 x3 x4 x6 x7 x8 x53 x95) S =
  withV (some x8) fun x47 =>
    withV (evBin .add (tyi Try.prog 3) x47 (.int .i64 1)) fun x48 =>
    withV (some x48) fun x8 =>
    K .normal (ee8 x1 x3 x4 x6 x7 x8) S := nr (by kernel_rfl)
@[go_sem] theorem k55_n : k55 b n2 n4 .normal e S = execL (C b) 4 c54 (k50 b n2 n4) e S := nr (seqN rfl)
def k57 (b n2 n4 : Nat) : KT := seqC (fun e S => execL (C b) 4 c52 (k50 b n2 n4) e S) (k50 b n2 n4)
def c58 : Code := atB c53
def k59 (b n2 n4 : Nat) : KT := blockC 5 (k55 b n2 n4)
@[go_sem] theorem k59_n : k59 b n2 n4 .normal e S = (k55 b n2 n4) .normal e S := nr (blockC_n _ _ _ _)
@[go_sem] theorem k59_exit : k59 b n2 n4 (.exit i) e S = if i = 5 then (k55 b n2 n4) .normal e S else (k55 b n2 n4) (.exit i) e S := nr (blockC_x _ _ _ _ _)
def c60 : Code := at0 c58
def c61 : Code := at1 c58
def c62 : Code := at0 c61
def c63 : Code := at1 c61
def c64 : Code := at0 c63
def c65 : Code := at1 c63
def c66 : Code := at0 c65
def c67 : Code := at1 c65
def k68 (b n2 n4 : Nat) : KT := seqC (fun e S => execL (C b) 5 c67 (k59 b n2 n4) e S) (k59 b n2 n4)
def c69 : Code := atT c67
@[go_sem] theorem g72 : execL (C b) 5 c69 K (ee14 x1 x3 x4 x6 x7 x8 x53 x95) S =
  withV (some x7) fun x96 =>
    withV (some x8) fun x97 =>
    withV (some x6) fun x98 =>
    withV (indexAddrO Try.prog 22 S x96 x97) fun x99 =>
    withS (storeE (tyi Try.prog 3) S x99 x98) fun _u S =>
    K .normal (ee14 x1 x3 x4 x6 x7 x8 x53 x95) S := nr (by kernel_rfl)
@[go_sem] theorem k68_n : k68 b n2 n4 .normal (ee14 x1 x3 x4 x6 x7 x8 x53 x95) S =
  condC x95 (execL (C b) 5 c69 (k59 b n2 n4) (ee14 x1 x3 x4 x6 x7 x8 x53 x95) S)
    ((k59 b n2 n4) .normal (ee14 x1 x3 x4 x6 x7 x8 x53 x95) S) := nr (seqN (condE (t := 95) (by kernel_rfl) (rfl) (execL_skip (by kernel_rfl)) rfl))
def k73 (b n2 n4 : Nat) : KT := seqC (fun e S => execL (C b) 5 c65 (k59 b n2 n4) e S) (k59 b n2 n4)
@[go_sem] theorem g74 : execL (C b) 5 c66 K (ee11 x1 x3 x4 x6 x7 x8 x9 x10 x11 x61) S =
  withV (evFieldAddr (tyi Try.prog 26) 0 x1) fun x76 =>
    withV (evLoad (tyi Try.prog 22) S x76) fun x77 =>
    withV (some x8) fun x78 =>
    withV (indexAddrO Try.prog 22 S x77 x78) fun x79 =>
    withV (evLoad (tyi Try.prog 3) S x79) fun x80 =>
    withV (evBin .eql (tyi Try.prog 3) x80 (.int .i64 0)) fun x81 =>
    withV (some x81) fun x82 =>
    withV (gval x82 true (some x9)) fun x83 =>
    withV (pickO x82 x83 (.bool false)) fun x84 =>
    withV (some x84) fun x85 =>
    withV (gval x85 false (evFieldAddr (tyi Try.prog 26) 0 x1)) fun x86 =>
    withV (gval x85 false (evLoad (tyi Try.prog 22) S x86)) fun x87 =>
    withV (gval x85 false (some x8)) fun x88 =>
    withV (gval x85 false (indexAddrO Try.prog 22 S x87 x88)) fun x89 =>
    withV (gval x85 false (evLoad (tyi Try.prog 3) S x89)) fun x90 =>
    withV (gval x85 false (evBin .eql (tyi Try.prog 3) x90 (.int .i64 1))) fun x91 =>
    withV (gval x85 false (some x91)) fun x92 =>
    withV (gval x92 true (some x10)) fun x93 =>
    withV (gval x85 false (pickO x92 x93 (.bool false))) fun x94 =>
    withV (pickO x85 (.bool true) x94) fun x95 =>
    K .normal (ee14 x1 x3 x4 x6 x7 x8 .undef x95) S := nr (by kernel_rfl)
@[go_sem] theorem k73_n : k73 b n2 n4 .normal e S = execL (C b) 5 c66 (k68 b n2 n4) e S := nr (seqN (enterS (by kernel_rfl)))
def k75 (b n2 n4 : Nat) : KT := seqC (fun e S => execL (C b) 5 c63 (k59 b n2 n4) e S) (k59 b n2 n4)
def c76 : Code := at0 c64
def c77 : Code := at1 c64
def k78 (b n2 n4 : Nat) : KT := seqC (fun e S => execL (C b) 5 c77 (k73 b n2 n4) e S) (k73 b n2 n4)
def c79 : Code := atB c77
def k80 (b n2 n4 : Nat) : KT := blockC 6 (k73 b n2 n4)
@[go_sem] theorem k80_exit : k80 b n2 n4 (.exit i) e S = if i = 6 then (k73 b n2 n4) .normal e S else (k73 b n2 n4) (.exit i) e S := nr (blockC_x _ _ _ _ _)
def c81 : Code := atL c79
def k82 (b n2 n4 n6 : Nat) : KT := afterC 6 n6 [1, 3, 4, 6, 7, 8, 9, 10] (k80 b n2 n4)
def L6g (b n2 n4 n6 : Nat) (e : Env) (S : Store) : RT := loopL (fun K e S => execL (C b) 6 c81 K e S) (normG [1, 3, 4, 6, 7, 8, 9, 10, 11] [] n6) (k82 b n2 n4 n6) e S
def L6 (b n2 n4 n6 : Nat) (x1 x3 x4 x6 x7 x8 x9 x10 x11 : PV) (S : Store) : RT := L6g b n2 n4 n6 (ee10 x1 x3 x4 x6 x7 x8 x9 x10 x11) S
def k83 (b n2 n4 n6 : Nat) : KT := stepC (normG [1, 3, 4, 6, 7, 8, 9, 10, 11] [] n6) (k82 b n2 n4 n6) (L6g b n2 n4 n6)
@[go_sem] theorem k83_n : k83 b n2 n4 n6 .normal (ee10 x1 x3 x4 x6 x7 x8 x9 x10 x11) S = L6 b n2 n4 n6 x1 x3 x4 x6 x7 x8 x9 x10 x11 (gc n6 (ee10 x1 x3 x4 x6 x7 x8 x9 x10 x11) S) := nr (by kernel_rfl)
@[go_sem] theorem k83_x1 : k83 b n2 n4 n6 (.exit 6) (ee11 x1 x3 x4 x6 x7 x8 x9 x10 x11 x61) S = (k80 b n2 n4) (.exit 6) (ee11 x1 x3 x4 x6 x7 x8 x9 x10 .undef .undef) (gc n6 (ee11 x1 x3 x4 x6 x7 x8 x9 x10 .undef .undef) S) := nr ((show k83 b n2 n4 n6 (.exit 6) (ee11 x1 x3 x4 x6 x7 x8 x9 x10 x11 x61) S = (k82 b n2 n4 n6) (.exit 6) (ee11 x1 x3 x4 x6 x7 x8 x9 x10 x11 x61) S from stepC_x _ _ _ _ _ _).trans ((show (k82 b n2 n4 n6) (.exit 6) (ee11 x1 x3 x4 x6 x7 x8 x9 x10 x11 x61) S = _ from afterC_x _ _ _ _ _ _ _).trans (if_pos rfl)))
def c84 : Code := at0 c81
def c85 : Code := at1 c81
def c86 : Code := at0 c85
def c87 : Code := at1 c85
def k88 (b n2 n4 n6 : Nat) : KT := seqC (fun e S => execL (C b) 6 c87 (k83 b n2 n4 n6) e S) (k83 b n2 n4 n6)
@[go_sem] theorem g89 : execL (C b) 6 c87 K (ee10 x1 x3 x4 x6 x7 x8 x9 x10 x11) S =
  withV (some x11) fun x62 =>
    withV (evBin .add (tyi Try.prog 3) x62 (.int .i64 1)) fun x63 =>
    withV (some x63) fun x11 =>
    K .normal (ee10 x1 x3 x4 x6 x7 x8 x9 x10 x11) S := nr (by kernel_rfl)
@[go_sem] theorem k88_n : k88 b n2 n4 n6 .normal e S = execL (C b) 6 c87 (k83 b n2 n4 n6) e S := nr (seqN rfl)
def k90 (b n2 n4 n6 : Nat) : KT := seqC (fun e S => execL (C b) 6 c85 (k83 b n2 n4 n6) e S) (k83 b n2 n4 n6)
def c91 : Code := atB c86
def k92 (b n2 n4 n6 : Nat) : KT := blockC 7 (k88 b n2 n4 n6)
@[go_sem] theorem k92_n : k92 b n2 n4 n6 .normal e S = (k88 b n2 n4 n6) .normal e S := nr (blockC_n _ _ _ _)
def c93 : Code := at0 c91
def c94 : Code := at1 c91
def k95 (b n2 n4 n6 : Nat) : KT := seqC (fun e S => execL (C b) 7 c94 (k92 b n2 n4 n6) e S) (k92 b n2 n4 n6)
def c96 : Code := atT c94
def c97 : Code := atF c94
@[go_sem] theorem g99 : execL (C b) 7 c96 K (ee12 x1 x3 x4 x6 x7 x8 x9 x10 x11 x75) S =
  withV (some (.bool true)) fun x9 =>
    K .normal (ee10 x1 x3 x4 x6 x7 x8 x9 x10 x11) S := nr (by kernel_rfl)
@[go_sem] theorem g101 : execL (C b) 7 c97 K (ee12 x1 x3 x4 x6 x7 x8 x9 x10 x11 x75) S =
  withV (some (.bool false)) fun x10 =>
    K .normal (ee10 x1 x3 x4 x6 x7 x8 x9 x10 x11) S := nr (by kernel_rfl)
@[go_sem] theorem k95_n : k95 b n2 n4 n6 .normal (ee12 x1 x3 x4 x6 x7 x8 x9 x10 x11 x75) S =
  condC x75 (execL (C b) 7 c96 (k92 b n2 n4 n6) (ee12 x1 x3 x4 x6 x7 x8 x9 x10 x11 x75) S)
    (execL (C b) 7 c97 (k92 b n2 n4 n6) (ee12 x1 x3 x4 x6 x7 x8 x9 x10 x11 x75) S) := nr (seqN (condE (t := 75) (by kernel_rfl) (rfl) (rfl) rfl))
@[go_sem] theorem g102 : execL (C b) 7 c93 K (ee11 x1 x3 x4 x6 x7 x8 x9 x10 x11 x61) S =
  withV (some x4) fun x64 =>
    withV (evFieldAddr (tyi Try.prog 26) 1 x1) fun x65 =>
    withV (evLoad (tyi Try.prog 23) S x65) fun x66 =>
    withV (some x8) fun x67 =>
    withV (indexAddrO Try.prog 23 S x66 x67) fun x68 =>
    withV (evLoad (tyi Try.prog 22) S x68) fun x69 =>
    withV (some x11) fun x70 =>
    withV (indexAddrO Try.prog 22 S x69 x70) fun x71 =>
    withV (evLoad (tyi Try.prog 3) S x71) fun x72 =>
    withV (indexAddrO Try.prog 22 S x64 x72) fun x73 =>
    withV (evLoad (tyi Try.prog 3) S x73) fun x74 =>
    withV (evBin .geq (tyi Try.prog 3) x74 (.int .i64 0)) fun x75 =>
    K .normal (ee12 x1 x3 x4 x6 x7 x8 x9 x10 x11 x75) S := nr (by kernel_rfl)
@[go_sem] theorem k90_n : k90 b n2 n4 n6 .normal (ee11 x1 x3 x4 x6 x7 x8 x9 x10 x11 x61) S =
  execL (C b) 7 c93 (k95 b n2 n4 n6) (ee11 x1 x3 x4 x6 x7 x8 x9 x10 x11 x61) S := nr (seqN ((enterS (by kernel_rfl)).trans ((blockE (by kernel_rfl)).trans (enterS (by kernel_rfl)))))
@[go_sem] theorem k90_exit : k90 b n2 n4 n6 (.exit i) e S = (k83 b n2 n4 n6) (.exit i) e S := nr (seqC_x _ _ _ _ _)
def c103 : Code := at0 c84
def c104 : Code := at1 c84
def k105 (b n2 n4 n6 : Nat) : KT := seqC (fun e S => execL (C b) 6 c104 (k90 b n2 n4 n6) e S) (k90 b n2 n4 n6)
@[go_sem] theorem k105_n : k105 b n2 n4 n6 .normal (ee11 x1 x3 x4 x6 x7 x8 x9 x10 x11 x61) S =
  condC x61 ((k90 b n2 n4 n6) .normal (ee11 x1 x3 x4 x6 x7 x8 x9 x10 x11 x61) S)
    ((k90 b n2 n4 n6) (.exit 6) (ee11 x1 x3 x4 x6 x7 x8 x9 x10 x11 x61) S) := nr (seqN (condE (t := 61) (by kernel_rfl) (execL_skip (by kernel_rfl)) (execL_exit (by kernel_rfl)) rfl))
@[go_sem] theorem g108 : execL (C b) 6 c103 K (ee10 x1 x3 x4 x6 x7 x8 x9 x10 x11) S =
  withV (some x11) fun x54 =>
    withV (evFieldAddr (tyi Try.prog 26) 1 x1) fun x55 =>
    withV (evLoad (tyi Try.prog 23) S x55) fun x56 =>
    withV (some x8) fun x57 =>
    withV (indexAddrO Try.prog 23 S x56 x57) fun x58 =>
    withV (evLoad (tyi Try.prog 22) S x58) fun x59 =>
    withV (lenO (tyi Try.prog 22) x59) fun x60 =>
    withV (evBin .lss (tyi Try.prog 3) x54 x60) fun x61 =>
    K .normal (ee11 x1 x3 x4 x6 x7 x8 x9 x10 x11 x61) S := nr (by kernel_rfl)
def B6 (b n2 n4 n6 : Nat) (x1 x3 x4 x6 x7 x8 x9 x10 x11 : PV) (S : Store) : RT := execL (C b) 6 c81 (k83 b n2 n4 n6) (ee10 x1 x3 x4 x6 x7 x8 x9 x10 x11) S
@[go_sem] theorem B6_eq : B6 b n2 n4 n6 x1 x3 x4 x6 x7 x8 x9 x10 x11 S =
  execL (C b) 6 c103 (k105 b n2 n4 n6) (ee10 x1 x3 x4 x6 x7 x8 x9 x10 x11) S := nr ((enterS (by kernel_rfl)).trans (enterS (by kernel_rfl)))
theorem L6_step {b n2 n4 n6 : Nat} {x1 x3 x4 x6 x7 x8 x9 x10 x11 : PV} {S : Store} {z : PV × Store} (h : B6 b n2 n4 n6 x1 x3 x4 x6 x7 x8 x9 x10 x11 S = some z) : L6 b n2 n4 n6 x1 x3 x4 x6 x7 x8 x9 x10 x11 S = some z := loopL_step h
theorem L6_in (b n2 n4 : Nat) (x1 x3 x4 x6 x7 x8 x9 x10 x11 : PV) (S : Store) : execL (C b) 6 c79 (k80 b n2 n4) (ee10 x1 x3 x4 x6 x7 x8 x9 x10 x11) S = L6 b n2 n4 (List.length S) x1 x3 x4 x6 x7 x8 x9 x10 x11 S := by kernel_rfl
@[go_sem] theorem k78_n : k78 b n2 n4 .normal (ee10 x1 x3 x4 x6 x7 x8 x9 x10 x11) S =
  L6 b n2 n4 (List.length S) x1 x3 x4 x6 x7 x8 x9 x10 x11 S := nr (seqN ((blockE (by kernel_rfl)).trans (L6_in b n2 n4 x1 x3 x4 x6 x7 x8 x9 x10 x11 S)))
@[go_sem] theorem g110 : execL (C b) 5 c76 K (ee9 x1 x3 x4 x6 x7 x8 x9 x10) S =
  withV (some (.int .i64 0)) fun x11 =>
    K .normal (ee10 x1 x3 x4 x6 x7 x8 x9 x10 x11) S := nr (by kernel_rfl)
@[go_sem] theorem k75_n : k75 b n2 n4 .normal (ee9 x1 x3 x4 x6 x7 x8 x9 x10) S =
  execL (C b) 5 c76 (k78 b n2 n4) (ee9 x1 x3 x4 x6 x7 x8 x9 x10) S := nr (seqN ((enterS (by kernel_rfl)).trans (enterS (by kernel_rfl))))
def k111 (b n2 n4 : Nat) : KT := seqC (fun e S => execL (C b) 5 c61 (k59 b n2 n4) e S) (k59 b n2 n4)
@[go_sem] theorem g112 : execL (C b) 5 c62 K (ee14 x1 x3 x4 x6 x7 x8 x53 x95) S =
  withV (some (.bool false)) fun x9 =>
    withV (some (.bool true)) fun x10 =>
    K .normal (ee9 x1 x3 x4 x6 x7 x8 x9 x10) S := nr (by kernel_rfl)
@[go_sem] theorem k111_n : k111 b n2 n4 .normal e S = execL (C b) 5 c62 (k75 b n2 n4) e S := nr (seqN (enterS (by kernel_rfl)))
@[go_sem] theorem k111_exit : k111 b n2 n4 (.exit i) e S = (k59 b n2 n4) (.exit i) e S := nr (seqC_x _ _ _ _ _)
def c113 : Code := at0 c60
def c114 : Code := at1 c60
def k115 (b n2 n4 : Nat) : KT := seqC (fun e S => execL (C b) 5 c114 (k111 b n2 n4) e S) (k111 b n2 n4)
@[go_sem] theorem k115_n : k115 b n2 n4 .normal (ee14 x1 x3 x4 x6 x7 x8 x53 x95) S =
  condC x53 ((k111 b n2 n4) (.exit 5) (ee14 x1 x3 x4 x6 x7 x8 x53 x95) S)
    ((k111 b n2 n4) .normal (ee14 x1 x3 x4 x6 x7 x8 x53 x95) S) := nr (seqN (condE (t := 53) (by kernel_rfl) (execL_exit (by kernel_rfl)) (execL_skip (by kernel_rfl)) rfl))
@[go_sem] theorem g118 : execL (C b) 5 c113 K (ee13 x1 x3 x4 x6 x7 x8 x46) S =
  withV (some x4) fun x49 =>
    withV (some x8) fun x50 =>
    withV (indexAddrO Try.prog 22 S x49 x50) fun x51 =>
    withV (evLoad (tyi Try.prog 3) S x51) fun x52 =>
    withV (evBin .geq (tyi Try.prog 3) x52 (.int .i64 0)) fun x53 =>
    K .normal (ee14 x1 x3 x4 x6 x7 x8 x53 .undef) S := nr (by kernel_rfl)
@[go_sem] theorem k57_n : k57 b n2 n4 .normal (ee13 x1 x3 x4 x6 x7 x8 x46) S =
  execL (C b) 5 c113 (k115 b n2 n4) (ee13 x1 x3 x4 x6 x7 x8 x46) S := nr (seqN ((enterS (by kernel_rfl)).trans ((blockE (by kernel_rfl)).trans ((enterS (by kernel_rfl)).trans (enterS (by kernel_rfl))))))
@[go_sem] theorem k57_exit : k57 b n2 n4 (.exit i) e S = (k50 b n2 n4) (.exit i) e S := nr (seqC_x _ _ _ _ _)
def c119 : Code := at0 c51
def c120 : Code := at1 c51
def k121 (b n2 n4 : Nat) : KT := seqC (fun e S => execL (C b) 4 c120 (k57 b n2 n4) e S) (k57 b n2 n4)
@[go_sem] theorem k121_n : k121 b n2 n4 .normal (ee13 x1 x3 x4 x6 x7 x8 x46) S =
  condC x46 ((k57 b n2 n4) .normal (ee13 x1 x3 x4 x6 x7 x8 x46) S)
    ((k57 b n2 n4) (.exit 4) (ee13 x1 x3 x4 x6 x7 x8 x46) S) := nr (seqN (condE (t := 46) (by kernel_rfl) (execL_skip (by kernel_rfl)) (execL_exit (by kernel_rfl)) rfl))
@[go_sem] theorem g124 : execL (C b) 4 c119 K (ee8 x1 x3 x4 x6 x7 x8) S =
  withV (some x8) fun x44 =>
    withV (some x3) fun x45 =>
    withV (evBin .lss (tyi Try.prog 3) x44 x45) fun x46 =>
    K .normal (ee13 x1 x3 x4 x6 x7 x8 x46) S := nr (by kernel_rfl)
def B4 (b n2 n4 : Nat) (x1 x3 x4 x6 x7 x8 : PV) (S : Store) : RT := execL (C b) 4 c48 (k50 b n2 n4) (ee8 x1 x3 x4 x6 x7 x8) S
@[go_sem] theorem B4_eq : B4 b n2 n4 x1 x3 x4 x6 x7 x8 S =
  execL (C b) 4 c119 (k121 b n2 n4) (ee8 x1 x3 x4 x6 x7 x8) S := nr ((enterS (by kernel_rfl)).trans (enterS (by kernel_rfl)))
theorem L4_step {b n2 n4 : Nat} {x1 x3 x4 x6 x7 x8 : PV} {S : Store} {z : PV × Store} (h : B4 b n2 n4 x1 x3 x4 x6 x7 x8 S = some z) : L4 b n2 n4 x1 x3 x4 x6 x7 x8 S = some z := loopL_step h
theorem L4_in (b n2 : Nat) (x1 x3 x4 x6 x7 x8 : PV) (S : Store) : execL (C b) 4 c46 (k47 b n2) (ee8 x1 x3 x4 x6 x7 x8) S = L4 b n2 (List.length S) x1 x3 x4 x6 x7 x8 S := by kernel_rfl
@[go_sem] theorem k45_n : k45 b n2 .normal (ee8 x1 x3 x4 x6 x7 x8) S =
  L4 b n2 (List.length S) x1 x3 x4 x6 x7 x8 S := nr (seqN ((blockE (by kernel_rfl)).trans (L4_in b n2 x1 x3 x4 x6 x7 x8 S)))
@[go_sem] theorem g126 : execL (C b) 3 c43 K (ee7 x1 x3 x4 x6 x7) S =
  withV (some (.int .i64 0)) fun x8 =>
    K .normal (ee8 x1 x3 x4 x6 x7 x8) S := nr (by kernel_rfl)
@[go_sem] theorem k42_n : k42 b n2 .normal (ee7 x1 x3 x4 x6 x7) S =
  execL (C b) 3 c43 (k45 b n2) (ee7 x1 x3 x4 x6 x7) S := nr (seqN ((enterS (by kernel_rfl)).trans (enterS (by kernel_rfl))))
def k127 (b n2 : Nat) : KT := seqC (fun e S => execL (C b) 3 c35 (k33 b n2) e S) (k33 b n2)
@[go_sem] theorem g128 : execL (C b) 3 c36 K (ee7 x1 x3 x4 x6 x7) S =
  withV (some x7) fun x41 =>
    withV (some x4) fun x42 =>
    withS (copyE Try.prog 22 22 S x41 x42) fun x43 S =>
    K .normal (ee7 x1 x3 x4 x6 x7) S := nr (by kernel_rfl)
@[go_sem] theorem k127_n : k127 b n2 .normal e S = execL (C b) 3 c36 (k42 b n2) e S := nr (seqN (enterS (by kernel_rfl)))
@[go_sem] theorem g129 : execL (C b) 3 c34 K (ee15 x1 x3 x4 x6 x36) S =
  withV (some x3) fun x39 =>
    withN (makeSliceO Try.prog 22 (List.length S) x39 x39) S fun x40 S =>
    withV (some x40) fun x7 =>
    K .normal (ee7 x1 x3 x4 x6 x7) S := nr (by kernel_rfl)
@[go_sem] theorem k31_n : k31 b n2 .normal (ee15 x1 x3 x4 x6 x36) S =
  execL (C b) 3 c34 (k127 b n2) (ee15 x1 x3 x4 x6 x36) S := nr (seqN ((enterS (by kernel_rfl)).trans ((blockE (by kernel_rfl)).trans (enterS (by kernel_rfl)))))
@[go_sem] theorem k31_exit : k31 b n2 (.exit i) e S = (k24 b n2) (.exit i) e S := nr (seqC_x _ _ _ _ _)
def c130 : Code := at0 c25
def c131 : Code := at1 c25
def k132 (b n2 : Nat) : KT := seqC (fun e S => execL (C b) 2 c131 (k31 b n2) e S) (k31 b n2)
@[go_sem] theorem k132_n : k132 b n2 .normal (ee15 x1 x3 x4 x6 x36) S =
  condC x36 ((k31 b n2) .normal (ee15 x1 x3 x4 x6 x36) S)
    ((k31 b n2) (.exit 2) (ee15 x1 x3 x4 x6 x36) S) := nr (seqN (condE (t := 36) (by kernel_rfl) (execL_skip (by kernel_rfl)) (execL_exit (by kernel_rfl)) rfl))
@[go_sem] theorem g135 : execL (C b) 2 c130 K (ee6 x1 x3 x4 x6) S =
  withV (some x6) fun x33 =>
    withV (some x3) fun x34 =>
    withV (evBin .add (tyi Try.prog 3) x34 (.int .i64 1)) fun x35 =>
    withV (evBin .leq (tyi Try.prog 3) x33 x35) fun x36 =>
    K .normal (ee15 x1 x3 x4 x6 x36) S := nr (by kernel_rfl)
def B2 (b n2 : Nat) (x1 x3 x4 x6 : PV) (S : Store) : RT := execL (C b) 2 c22 (k24 b n2) (ee6 x1 x3 x4 x6) S
@[go_sem] theorem B2_eq : B2 b n2 x1 x3 x4 x6 S =
  execL (C b) 2 c130 (k132 b n2) (ee6 x1 x3 x4 x6) S := nr ((enterS (by kernel_rfl)).trans (enterS (by kernel_rfl)))
theorem L2_step {b n2 : Nat} {x1 x3 x4 x6 : PV} {S : Store} {z : PV × Store} (h : B2 b n2 x1 x3 x4 x6 S = some z) : L2 b n2 x1 x3 x4 x6 S = some z := loopL_step h
theorem L2_in (b : Nat) (x1 x3 x4 x6 : PV) (S : Store) : execL (C b) 2 c20 (k21 b) (ee6 x1 x3 x4 x6) S = L2 b (List.length S) x1 x3 x4 x6 S := by kernel_rfl
@[go_sem] theorem k19_n : k19 b .normal (ee6 x1 x3 x4 x6) S =
  L2 b (List.length S) x1 x3 x4 x6 S := nr (seqN ((blockE (by kernel_rfl)).trans (L2_in b x1 x3 x4 x6 S)))
@[go_sem] theorem g137 : execL (C b) 0 c17 K (ee4 x1 x3 x4 x5 x19) S =
  withV (some (.int .i64 1)) fun x6 =>
    K .normal (ee6 x1 x3 x4 x6) S := nr (by kernel_rfl)
@[go_sem] theorem k16_n : k16 b .normal (ee4 x1 x3 x4 x5 x19) S =
  execL (C b) 0 c17 (k19 b) (ee4 x1 x3 x4 x5 x19) S := nr (seqN ((enterS (by kernel_rfl)).trans (enterS (by kernel_rfl))))
def k138 (b : Nat) : KT := seqC (fun e S => execL (C b) 0 c6 (k0 b) e S) (k0 b)
def c139 : Code := at0 c7
def c140 : Code := at1 c7
def k141 (b : Nat) : KT := seqC (fun e S => execL (C b) 0 c140 (k16 b) e S) (k16 b)
def c142 : Code := atB c140
def k143 (b : Nat) : KT := blockC 0 (k16 b)
@[go_sem] theorem k143_exit : k143 b (.exit i) e S = if i = 0 then (k16 b) .normal e S else (k16 b) (.exit i) e S := nr (blockC_x _ _ _ _ _)
def c144 : Code := atL c142
def k145 (b n0 : Nat) : KT := afterC 0 n0 [1, 3, 4] (k143 b)
def L0g (b n0 : Nat) (e : Env) (S : Store) : RT := loopL (fun K e S => execL (C b) 0 c144 K e S) (normG [1, 3, 4, 5] [] n0) (k145 b n0) e S
def L0 (b n0 : Nat) (x1 x3 x4 x5 : PV) (S : Store) : RT := L0g b n0 (ee3 x1 x3 x4 x5) S
def k146 (b n0 : Nat) : KT := stepC (normG [1, 3, 4, 5] [] n0) (k145 b n0) (L0g b n0)
@[go_sem] theorem k146_n : k146 b n0 .normal (ee3 x1 x3 x4 x5) S = L0 b n0 x1 x3 x4 x5 (gc n0 (ee3 x1 x3 x4 x5) S) := nr (by kernel_rfl)
@[go_sem] theorem k146_x1 : k146 b n0 (.exit 0) (ee4 x1 x3 x4 x5 x19) S = (k143 b) (.exit 0) (ee4 x1 x3 x4 .undef .undef) (gc n0 (ee4 x1 x3 x4 .undef .undef) S) := nr ((show k146 b n0 (.exit 0) (ee4 x1 x3 x4 x5 x19) S = (k145 b n0) (.exit 0) (ee4 x1 x3 x4 x5 x19) S from stepC_x _ _ _ _ _ _).trans ((show (k145 b n0) (.exit 0) (ee4 x1 x3 x4 x5 x19) S = _ from afterC_x _ _ _ _ _ _ _).trans (if_pos rfl)))
def c147 : Code := at0 c144
def c148 : Code := at1 c144
def c149 : Code := at0 c148
def c150 : Code := at1 c148
def k151 (b n0 : Nat) : KT := seqC (fun e S => execL (C b) 0 c150 (k146 b n0) e S) (k146 b n0)
@[go_sem] theorem g152 : execL (C b) 0 c150 K (ee5 x1 x3 x4 x5 x29) S =
  withV (some x5) fun x20 =>
    withV (evBin .add (tyi Try.prog 3) x20 (.int .i64 1)) fun x21 =>
    withV (some x21) fun x5 =>
    K .normal (ee3 x1 x3 x4 x5) S := nr (by kernel_rfl)
@[go_sem] theorem k151_n : k151 b n0 .normal e S = execL (C b) 0 c150 (k146 b n0) e S := nr (seqN rfl)
def k153 (b n0 : Nat) : KT := seqC (fun e S => execL (C b) 0 c148 (k146 b n0) e S) (k146 b n0)
def c154 : Code := atB c149
def k155 (b n0 : Nat) : KT := blockC 1 (k151 b n0)
@[go_sem] theorem k155_n : k155 b n0 .normal e S = (k151 b n0) .normal e S := nr (blockC_n _ _ _ _)
def c156 : Code := at0 c154
def c157 : Code := at1 c154
def c158 : Code := at0 c157
def c159 : Code := at1 c157
def k160 (b n0 : Nat) : KT := seqC (fun e S => execL (C b) 1 c159 (k155 b n0) e S) (k155 b n0)
def c161 : Code := atT c159
@[go_sem] theorem g164 : execL (C b) 1 c161 K (ee5 x1 x3 x4 x5 x29) S =
  withV (some x4) fun x30 =>
    withV (some x5) fun x31 =>
    withV (indexAddrO Try.prog 22 S x30 x31) fun x32 =>
    withS (storeE (tyi Try.prog 3) S x32 (.int .i64 0)) fun _u S =>
    K .normal (ee5 x1 x3 x4 x5 x29) S := nr (by kernel_rfl)
@[go_sem] theorem k160_n : k160 b n0 .normal (ee5 x1 x3 x4 x5 x29) S =
  condC x29 (execL (C b) 1 c161 (k155 b n0) (ee5 x1 x3 x4 x5 x29) S)
    ((k155 b n0) .normal (ee5 x1 x3 x4 x5 x29) S) := nr (seqN (condE (t := 29) (by kernel_rfl) (rfl) (execL_skip (by kernel_rfl)) rfl))
def k165 (b n0 : Nat) : KT := seqC (fun e S => execL (C b) 1 c157 (k155 b n0) e S) (k155 b n0)
@[go_sem] theorem g166 : execL (C b) 1 c158 K (ee3 x1 x3 x4 x5) S =
  withV (evFieldAddr (tyi Try.prog 26) 2 x1) fun x25 =>
    withV (evLoad (tyi Try.prog 24) S x25) fun x26 =>
    withV (some x5) fun x27 =>
    withV (indexAddrO Try.prog 24 S x26 x27) fun x28 =>
    withV (evLoad (tyi Try.prog 4) S x28) fun x29 =>
    K .normal (ee5 x1 x3 x4 x5 x29) S := nr (by kernel_rfl)
@[go_sem] theorem k165_n : k165 b n0 .normal e S = execL (C b) 1 c158 (k160 b n0) e S := nr (seqN (enterS (by kernel_rfl)))
@[go_sem] theorem g167 : execL (C b) 1 c156 K (ee4 x1 x3 x4 x5 x19) S =
  withV (some x4) fun x22 =>
    withV (some x5) fun x23 =>
    withV (indexAddrO Try.prog 22 S x22 x23) fun x24 =>
    withS (storeE (tyi Try.prog 3) S x24 (.int .i64 (-1))) fun _u S =>
    K .normal (ee3 x1 x3 x4 x5) S := nr (by kernel_rfl)
@[go_sem] theorem k153_n : k153 b n0 .normal (ee4 x1 x3 x4 x5 x19) S =
  execL (C b) 1 c156 (k165 b n0) (ee4 x1 x3 x4 x5 x19) S := nr (seqN ((enterS (by kernel_rfl)).trans ((blockE (by kernel_rfl)).trans (enterS (by kernel_rfl)))))
@[go_sem] theorem k153_exit : k153 b n0 (.exit i) e S = (k146 b n0) (.exit i) e S := nr (seqC_x _ _ _ _ _)
def c168 : Code := at0 c147
def c169 : Code := at1 c147
def k170 (b n0 : Nat) : KT := seqC (fun e S => execL (C b) 0 c169 (k153 b n0) e S) (k153 b n0)
@[go_sem] theorem k170_n : k170 b n0 .normal (ee4 x1 x3 x4 x5 x19) S =
  condC x19 ((k153 b n0) .normal (ee4 x1 x3 x4 x5 x19) S)
    ((k153 b n0) (.exit 0) (ee4 x1 x3 x4 x5 x19) S) := nr (seqN (condE (t := 19) (by kernel_rfl) (execL_skip (by kernel_rfl)) (execL_exit (by kernel_rfl)) rfl))
@[go_sem] theorem g173 : execL (C b) 0 c168 K (ee3 x1 x3 x4 x5) S =
  withV (some x5) fun x17 =>
    withV (some x3) fun x18 =>
    withV (evBin .lss (tyi Try.prog 3) x17 x18) fun x19 =>
    K .normal (ee4 x1 x3 x4 x5 x19) S := nr (by kernel_rfl)
def B0 (b n0 : Nat) (x1 x3 x4 x5 : PV) (S : Store) : RT := execL (C b) 0 c144 (k146 b n0) (ee3 x1 x3 x4 x5) S
@[go_sem] theorem B0_eq : B0 b n0 x1 x3 x4 x5 S =
  execL (C b) 0 c168 (k170 b n0) (ee3 x1 x3 x4 x5) S := nr ((enterS (by kernel_rfl)).trans (enterS (by kernel_rfl)))
theorem L0_step {b n0 : Nat} {x1 x3 x4 x5 : PV} {S : Store} {z : PV × Store} (h : B0 b n0 x1 x3 x4 x5 S = some z) : L0 b n0 x1 x3 x4 x5 S = some z := loopL_step h
theorem L0_in (b : Nat) (x1 x3 x4 x5 : PV) (S : Store) : execL (C b) 0 c142 (k143 b) (ee3 x1 x3 x4 x5) S = L0 b (List.length S) x1 x3 x4 x5 S := by kernel_rfl
@[go_sem] theorem k141_n : k141 b .normal (ee3 x1 x3 x4 x5) S =
  L0 b (List.length S) x1 x3 x4 x5 S := nr (seqN ((blockE (by kernel_rfl)).trans (L0_in b x1 x3 x4 x5 S)))
@[go_sem] theorem g175 : execL (C b) 0 c139 K (ee2 x1 x3 x4) S =
  withV (some (.int .i64 0)) fun x5 =>
    K .normal (ee3 x1 x3 x4 x5) S := nr (by kernel_rfl)
@[go_sem] theorem k138_n : k138 b .normal (ee2 x1 x3 x4) S =
  execL (C b) 0 c139 (k141 b) (ee2 x1 x3 x4) S := nr (seqN ((enterS (by kernel_rfl)).trans (enterS (by kernel_rfl))))
def k176 (b : Nat) : KT := seqC (fun e S => execL (C b) 0 c4 (k0 b) e S) (k0 b)
@[go_sem] theorem g177 : execL (C b) 0 c5 K (ee1 x1 x3) S =
  withV (some x3) fun x15 =>
    withN (makeSliceO Try.prog 22 (List.length S) x15 x15) S fun x16 S =>
    withV (some x16) fun x4 =>
    K .normal (ee2 x1 x3 x4) S := nr (by kernel_rfl)
@[go_sem] theorem k176_n : k176 b .normal e S = execL (C b) 0 c5 (k138 b) e S := nr (seqN (enterS (by kernel_rfl)))
def k178 (b : Nat) : KT := seqC (fun e S => execL (C b) 0 c2 (k0 b) e S) (k0 b)
@[go_sem] theorem g179 : execL (C b) 0 c3 K (ee0 x1) S =
  withV (evFieldAddr (tyi Try.prog 26) 0 x1) fun x12 =>
    withV (evLoad (tyi Try.prog 22) S x12) fun x13 =>
    withV (lenO (tyi Try.prog 22) x13) fun x14 =>
    withV (some x14) fun x3 =>
    K .normal (ee1 x1 x3) S := nr (by kernel_rfl)
@[go_sem] theorem k178_n : k178 b .normal e S = execL (C b) 0 c3 (k176 b) e S := nr (seqN (enterS (by kernel_rfl)))
@[go_sem] theorem g180 : execL (C b) 0 c1 K [(0, x0)] S =
  withN (boxed S (List.length S) (TI.size (tyi Try.prog 26)) x0) S fun x1 S =>
    withV (some (.sl [] true)) fun x2 =>
    K .normal (ee0 x1) S := nr (by kernel_rfl)
def E (b : Nat) (x0 : PV) (S : Store) : RT := execL (C b) 0 code (k0 b) [(0, x0)] S
@[go_sem] theorem E_eq : E b x0 S =
  execL (C b) 0 c1 (k178 b) [(0, x0)] S := nr (enterS (by kernel_rfl))
@[go_sem] theorem k0_ret16 : k0 b .ret (ee16 x2) S = some (x2, S) := nr (by kernel_rfl)
theorem call {x0 : PV} {r : PV × Store} {v : PV} (h : E 0 x0 [] = some r) (hv : fzPV r.2 r.1 = some v) : callL Try.prog hints 58 [x0] = some v := callL_of (fn := Try.f58) (c := code) (by kernel_rfl) (by kernel_rfl) (by decide) (by kernel_rfl) (Nat.le_of_ble_eq_true (by kernel_rfl)) h hv
end
end F58
end
end Go.Vs
end
/- The reference's ranks: they are the ranks round by round. -/
section
set_option linter.unusedVariables false
set_option linter.unusedSimpArgs false
namespace Go.Vs
open Go Go.Proofs
theorem gc_full (e : Env) (S : Store) : Vs.gc S.length e S = S := by
  unfold Vs.gc
  split
  · exact List.take_length
  · rfl
theorem gc_no {n : Nat} {e : Env} {S : Store} {t : Nat} {v : PV} (h : (t, v) ∈ e) {r : Nat} (hr : r ∈ v.refs) (hn : n ≤ r) : Vs.gc n e S = S := by
  unfold Vs.gc
  rw [if_neg]
  rintro ⟨h1, _⟩
  rw [List.all_eq_true] at h1
  have := h1 _ h
  simp only [List.all_eq_true, decide_eq_true_eq] at this
  have := this r hr
  omega
/-- What is held in a round. -/
structure FS (g : Game) (o : Nat) (R : List Int) (S : Store) : Prop where
  p0 : S[0]? = some (.arr [g.cells] none false)
  pR : S[o]? = some (.arr (intRows R) (some (some 1)) false)
  len : R.length = g.owner.length
theorem loop58_6 (g : Game) (hg : g.good) (n2 n4 o w : Nat) (kk : Int) (R : List Int) (i : Nat) (hi : i < g.owner.length) (S : Store) (h : FS g o R S) : ∀ (m j : Nat), j + m = (g.moves.getD i []).length → ∀ (sb eb : Bool) (z : PV × Store),
    F58.k73 0 n2 n4 .normal (F58.ee11 (.mp 0 0 0) (.int .i64 g.owner.length) (.msl o 0 g.owner.length true) (.int .i64 kk) (.msl w 0 g.owner.length true) (.int .i64 i) (.bool (sb || Rk.someB R ((g.moves.getD i []).drop j))) (.bool (eb && Rk.everyB R ((g.moves.getD i []).drop j))) .undef .undef) S = some z →
    F58.L6 0 n2 n4 S.length (.mp 0 0 0) (.int .i64 g.owner.length) (.msl o 0 g.owner.length true) (.int .i64 kk) (.msl w 0 g.owner.length true) (.int .i64 i) (.bool sb) (.bool eb) (.int .i64 j) S = some z := by
  have hN := hg.n
  have hL := hg.s i
  have hm4 : (4000 : Nat) ≤ maxLen := by decide
  have r0 := rowsAt_of h.p0
  have rR := rowsAt_of h.pR
  have h4 : 0 ≤ (i : Int) ∧ (i : Int) < (g.moves.length : Int) := ⟨by omega, by rw [hg.m]; omega⟩
  intro m
  induction m with
  | zero =>
    intro j hj sb eb z hz
    have c1 : ¬ (j : Int) < ((g.moves.getD i []).length : Int) := by omega
    rw [List.drop_of_length_le (by omega)] at hz
    simp only [Rk.someB, Rk.everyB, List.any_nil, List.all_nil, Bool.or_false, Bool.and_true] at hz
    refine F58.L6_step ?_
    have s1 : ∀ K : KT, execL (F58.C 0) 6 F58.c103 K (F58.ee10 (.mp 0 0 0) (.int .i64 g.owner.length) (.msl o 0 g.owner.length true) (.int .i64 kk) (.msl w 0 g.owner.length true) (.int .i64 i) (.bool sb) (.bool eb) (.int .i64 j)) S = K .normal (F58.ee11 (.mp 0 0 0) (.int .i64 g.owner.length) (.msl o 0 g.owner.length true) (.int .i64 kk) (.msl w 0 g.owner.length true) (.int .i64 i) (.bool sb) (.bool eb) (.int .i64 j) (.bool false)) S := fun K => by
      simp only [go_sem, ↓reduceIte, Nat.reduceEqDiff, Nat.reduceBEq, Nat.reduceAdd, Nat.reduceMul, Nat.reduceSub, Nat.reduceLT, Nat.reduceLeDiff, reduceCtorEq, Int.reduceToNat, Int.reduceLE, Int.reduceLT, Int.reduceEq, withV_any, r0, h4, Int.toNat_natCast, c1]
    simp only [F58.B6_eq, s1, F58.k105_n, condC_false, F58.k90_exit, F58.k83_x1, F58.k80_exit, if_true, gc_full]
    exact hz
  | succ m hm =>
    intro j hj sb eb z hz
    have c1 : (j : Int) < ((g.moves.getD i []).length : Int) := by omega
    have hjl : j < (g.moves.getD i []).length := by omega
    have w1 := wrap_succ (i := j) (n := (g.moves.getD i []).length) hjl (by omega)
    have h5 : 0 ≤ (j : Int) ∧ (j : Int) < ((g.moves.getD i []).length : Int) := ⟨by omega, c1⟩
    obtain ⟨q1, q2⟩ := hg.ok.mv i (by simp only [Game.toG]; omega) ((g.moves.getD i []).getD j 0) (by
      have e : (g.moves.getD i []).getD j 0 = (g.moves.getD i [])[j] := by rw [List.getD_eq_getElem?_getD (l := g.moves.getD i []), List.getElem?_eq_getElem hjl]; rfl
      rw [e]; exact List.getElem_mem hjl)
    obtain ⟨q, eq⟩ : ∃ q : Nat, (g.moves.getD i []).getD j 0 = q := ⟨((g.moves.getD i []).getD j 0).toNat, by omega⟩
    have hq : q < g.owner.length := by simp only [Game.toG] at q2; omega
    have hqR : q < R.length := by rw [h.len]; exact hq
    have x1 := idx22m (ex := true) q rR (by rw [intRows_length, h.len]) (intRows_ok R) hq
    have ed : (g.moves.getD i []).drop j = (q : Int) :: (g.moves.getD i []).drop (j + 1) := by
      rw [List.drop_eq_getElem_cons hjl]
      rw [List.getD_eq_getElem?_getD (l := g.moves.getD i []), List.getElem?_eq_getElem hjl, Option.getD_some] at eq
      rw [eq]
    rw [ed] at hz
    have s1 : ∀ K : KT, execL (F58.C 0) 6 F58.c103 K (F58.ee10 (.mp 0 0 0) (.int .i64 g.owner.length) (.msl o 0 g.owner.length true) (.int .i64 kk) (.msl w 0 g.owner.length true) (.int .i64 i) (.bool sb) (.bool eb) (.int .i64 j)) S = K .normal (F58.ee11 (.mp 0 0 0) (.int .i64 g.owner.length) (.msl o 0 g.owner.length true) (.int .i64 kk) (.msl w 0 g.owner.length true) (.int .i64 i) (.bool sb) (.bool eb) (.int .i64 j) (.bool true)) S := fun K => by
      simp only [go_sem, ↓reduceIte, Nat.reduceEqDiff, Nat.reduceBEq, Nat.reduceAdd, Nat.reduceMul, Nat.reduceSub, Nat.reduceLT, Nat.reduceLeDiff, reduceCtorEq, Int.reduceToNat, Int.reduceLE, Int.reduceLT, Int.reduceEq, withV_any, r0, h4, Int.toNat_natCast, c1]
    have s2 : ∀ K : KT, execL (F58.C 0) 7 F58.c93 K (F58.ee11 (.mp 0 0 0) (.int .i64 g.owner.length) (.msl o 0 g.owner.length true) (.int .i64 kk) (.msl w 0 g.owner.length true) (.int .i64 i) (.bool sb) (.bool eb) (.int .i64 j) (.bool true)) S = K .normal (F58.ee12 (.mp 0 0 0) (.int .i64 g.owner.length) (.msl o 0 g.owner.length true) (.int .i64 kk) (.msl w 0 g.owner.length true) (.int .i64 i) (.bool sb) (.bool eb) (.int .i64 j) (.bool (decide (0 ≤ Rk.rk R q)))) S := fun K => by
      by_cases hh : 0 ≤ Rk.rk R q
      · simp only [go_sem, ↓reduceIte, Nat.reduceEqDiff, Nat.reduceBEq, Nat.reduceAdd, Nat.reduceMul, Nat.reduceSub, Nat.reduceLT, Nat.reduceLeDiff, reduceCtorEq, Int.reduceToNat, Int.reduceLE, Int.reduceLT, Int.reduceEq, withV_any, r0, h4, h5, Int.toNat_natCast, eq, x1, rR, intRows_get R q hqR, hqR, getD_rk hqR, hh, decide_true]
      · simp only [go_sem, ↓reduceIte, Nat.reduceEqDiff, Nat.reduceBEq, Nat.reduceAdd, Nat.reduceMul, Nat.reduceSub, Nat.reduceLT, Nat.reduceLeDiff, reduceCtorEq, Int.reduceToNat, Int.reduceLE, Int.reduceLT, Int.reduceEq, withV_any, r0, h4, h5, Int.toNat_natCast, eq, x1, rR, intRows_get R q hqR, hqR, getD_rk hqR, hh, decide_false]
    have s3 : ∀ (K : KT) (a c : PV), execL (F58.C 0) 6 F58.c87 K (F58.ee10 (.mp 0 0 0) (.int .i64 g.owner.length) (.msl o 0 g.owner.length true) (.int .i64 kk) (.msl w 0 g.owner.length true) (.int .i64 i) a c (.int .i64 j)) S = K .normal (F58.ee10 (.mp 0 0 0) (.int .i64 g.owner.length) (.msl o 0 g.owner.length true) (.int .i64 kk) (.msl w 0 g.owner.length true) (.int .i64 i) a c (.int .i64 (j + 1 : Nat))) S := fun K a c => by
      simp only [go_sem, ↓reduceIte, Nat.reduceEqDiff, Nat.reduceBEq, Nat.reduceAdd, Nat.reduceMul, Nat.reduceSub, Nat.reduceLT, Nat.reduceLeDiff, reduceCtorEq, Int.reduceToNat, Int.reduceLE, Int.reduceLT, Int.reduceEq, withV_any, w1]
    refine F58.L6_step ?_
    by_cases hh : 0 ≤ Rk.rk R q
    · have e1 : Rk.someB R ((q : Int) :: (g.moves.getD i []).drop (j + 1)) = true := by simp only [Rk.someB, List.any_cons, hh, decide_true, Bool.true_or]
      have e2 : Rk.everyB R ((q : Int) :: (g.moves.getD i []).drop (j + 1)) = Rk.everyB R ((g.moves.getD i []).drop (j + 1)) := by simp only [Rk.everyB, List.all_cons, hh, decide_true, Bool.true_and]
      rw [e1, e2, Bool.or_true] at hz
      have := hm (j + 1) (by omega) true eb z (by rw [Bool.true_or]; exact hz)
      simp only [F58.B6_eq, s1, F58.k105_n, condC_true, F58.k90_n, s2, hh, decide_true, F58.k95_n, F58.g99, withV_any, F58.k92_n, F58.k88_n, s3, F58.k83_n, gc_full]
      exact this
    · have e1 : Rk.someB R ((q : Int) :: (g.moves.getD i []).drop (j + 1)) = Rk.someB R ((g.moves.getD i []).drop (j + 1)) := by simp only [Rk.someB, List.any_cons, hh, decide_false, Bool.false_or]
      have e2 : Rk.everyB R ((q : Int) :: (g.moves.getD i []).drop (j + 1)) = false := by simp only [Rk.everyB, List.all_cons, hh, decide_false, Bool.false_and]
      rw [e1, e2, Bool.and_false] at hz
      have := hm (j + 1) (by omega) sb false z (by rw [Bool.false_and]; exact hz)
      simp only [F58.B6_eq, s1, F58.k105_n, condC_true, F58.k90_n, s2, hh, decide_false, F58.k95_n, condC_false, F58.g101, withV_any, F58.k92_n, F58.k88_n, s3, F58.k83_n, gc_full]
      exact this
/-- The positions of a round, one after the other. -/
def rnd (g : Rk.G) (k : Int) (R : List Int) : Nat → Nat → List Int → List Int
  | 0, _, W => W
  | m + 1, i, W => rnd g k R m (i + 1) (if 0 ≤ Rk.rk R i then W else if Rk.hit g R i = true then W.set i k else W)
theorem rnd_len (g : Rk.G) (k : Int) (R : List Int) : ∀ (m i : Nat) (W : List Int), (rnd g k R m i W).length = W.length
  | 0, _, W => rfl
  | m + 1, i, W => by
    rw [rnd, rnd_len g k R m]
    split
    · rfl
    · split <;> simp
theorem rnd_get (g : Rk.G) (k : Int) (R : List Int) : ∀ (m i : Nat) (W : List Int), i + m = W.length → ∀ j, j < W.length → (rnd g k R m i W).getD j 0 = if i ≤ j then (if 0 ≤ Rk.rk R j then W.getD j 0 else if Rk.hit g R j = true then k else W.getD j 0) else W.getD j 0
  | 0, i, W, hi, j, hj => by rw [rnd, if_neg (by omega)]
  | m + 1, i, W, hi, j, hj => by
    have hl : (if 0 ≤ Rk.rk R i then W else if Rk.hit g R i = true then W.set i k else W).length = W.length := by
      split
      · rfl
      · split <;> simp
    rw [rnd, rnd_get g k R m (i + 1) _ (by rw [hl]; omega) j (by rw [hl]; exact hj)]
    by_cases e : i = j
    · subst e
      rw [if_neg (by omega), if_pos (Nat.le_refl _)]
      split
      · rfl
      · split
        · rw [getD_set' hj, if_pos rfl]
        · rfl
    · have e2 : (if 0 ≤ Rk.rk R i then W else if Rk.hit g R i = true then W.set i k else W).getD j 0 = W.getD j 0 := by
        split
        · rfl
        · split
          · rw [getD_set' hj, if_neg e]
          · rfl
      rw [e2]
      by_cases e3 : i ≤ j
      · rw [if_pos (by omega), if_pos e3]
      · rw [if_neg (by omega), if_neg e3]
theorem rnd_round (g : Rk.G) (k : Int) (R : List Int) : rnd g k R R.length 0 R = Rk.round g k R := by
  apply List.ext_getElem (by rw [rnd_len]; simp [Rk.round])
  intro j h1 h2
  have hj : j < R.length := by rw [rnd_len] at h1; exact h1
  have := rnd_get g k R R.length 0 R (by omega) j hj
  rw [if_pos (Nat.zero_le _), List.getD_eq_getElem?_getD, List.getElem?_eq_getElem h1, Option.getD_some] at this
  rw [this]
  have e : Rk.rk R j = R[j] := by simp [Rk.rk, List.getD_eq_getElem?_getD, hj]
  simp only [Rk.round, List.getElem_mapIdx, e, List.getD_eq_getElem?_getD, List.getElem?_eq_getElem hj, Option.getD_some]
theorem loop58_4 (g : Game) (hg : g.good) (n2 n4 o w : Nat) (how : o ≠ w) (hw0 : w ≠ 0) (kk : Int) (R : List Int) : ∀ (m i : Nat), i + m = g.owner.length → ∀ (S : Store) (W : List Int), S.length = n4 → FS g o R S → FS g w W S →
    ∃ S', S'.length = n4 ∧ FS g w (rnd g.toG kk R m i W) S' ∧ ∀ z, F58.k40 0 n2 .normal (F58.ee13 (.mp 0 0 0) (.int .i64 g.owner.length) .undef (.int .i64 kk) (.msl w 0 g.owner.length true) .undef .undef) S' = some z →
    F58.L4 0 n2 n4 (.mp 0 0 0) (.int .i64 g.owner.length) (.msl o 0 g.owner.length true) (.int .i64 kk) (.msl w 0 g.owner.length true) (.int .i64 i) S = some z := by
  have hN := hg.n
  have hm4 : (4000 : Nat) ≤ maxLen := by decide
  intro m
  induction m with
  | zero =>
    intro i hi S W hS h hW
    have c1 : ¬ (i : Int) < (g.owner.length : Int) := by omega
    refine ⟨S, hS, hW, fun z hz => F58.L4_step ?_⟩
    have s1 : ∀ K : KT, execL (F58.C 0) 4 F58.c119 K (F58.ee8 (.mp 0 0 0) (.int .i64 g.owner.length) (.msl o 0 g.owner.length true) (.int .i64 kk) (.msl w 0 g.owner.length true) (.int .i64 i)) S = K .normal (F58.ee13 (.mp 0 0 0) (.int .i64 g.owner.length) (.msl o 0 g.owner.length true) (.int .i64 kk) (.msl w 0 g.owner.length true) (.int .i64 i) (.bool false)) S := fun K => by
      simp only [go_sem, ↓reduceIte, Nat.reduceEqDiff, Nat.reduceBEq, Nat.reduceAdd, Nat.reduceMul, Nat.reduceSub, Nat.reduceLT, Nat.reduceLeDiff, reduceCtorEq, Int.reduceToNat, Int.reduceLE, Int.reduceLT, Int.reduceEq, withV_any, c1]
    subst hS
    simp only [F58.B4_eq, s1, F58.k121_n, condC_false, F58.k57_exit, F58.k50_x1, F58.k47_exit, if_true, gc_full]
    exact hz
  | succ m hm =>
    intro i hi S W hS h hW
    have c1 : (i : Int) < (g.owner.length : Int) := by omega
    have hiN : i < g.owner.length := by omega
    have w1 := wrap_succ (i := i) (n := g.owner.length) hiN (by omega)
    have hiR : i < R.length := by rw [h.len]; exact hiN
    have hiW : i < W.length := by rw [hW.len]; exact hiN
    have r0 := rowsAt_of h.p0
    have rR := rowsAt_of h.pR
    have rW := rowsAt_of hW.pR
    have x1 := idx22m (ex := true) i rR (by rw [intRows_length, h.len]) (intRows_ok R) hiN
    have xW := idx22m (ex := true) i rW (by rw [intRows_length, hW.len]) (intRows_ok W) hiN
    have h5 : 0 ≤ (i : Int) ∧ (i : Int) < (g.owner.length : Int) := ⟨by omega, c1⟩
    have s1 : ∀ K : KT, execL (F58.C 0) 4 F58.c119 K (F58.ee8 (.mp 0 0 0) (.int .i64 g.owner.length) (.msl o 0 g.owner.length true) (.int .i64 kk) (.msl w 0 g.owner.length true) (.int .i64 i)) S = K .normal (F58.ee13 (.mp 0 0 0) (.int .i64 g.owner.length) (.msl o 0 g.owner.length true) (.int .i64 kk) (.msl w 0 g.owner.length true) (.int .i64 i) (.bool true)) S := fun K => by
      simp only [go_sem, ↓reduceIte, Nat.reduceEqDiff, Nat.reduceBEq, Nat.reduceAdd, Nat.reduceMul, Nat.reduceSub, Nat.reduceLT, Nat.reduceLeDiff, reduceCtorEq, Int.reduceToNat, Int.reduceLE, Int.reduceLT, Int.reduceEq, withV_any, c1]
    have s2 : ∀ K : KT, execL (F58.C 0) 5 F58.c113 K (F58.ee13 (.mp 0 0 0) (.int .i64 g.owner.length) (.msl o 0 g.owner.length true) (.int .i64 kk) (.msl w 0 g.owner.length true) (.int .i64 i) (.bool true)) S = K .normal (F58.ee14 (.mp 0 0 0) (.int .i64 g.owner.length) (.msl o 0 g.owner.length true) (.int .i64 kk) (.msl w 0 g.owner.length true) (.int .i64 i) (.bool (decide (0 ≤ Rk.rk R i))) .undef) S := fun K => by
      by_cases hh : 0 ≤ Rk.rk R i
      · simp only [go_sem, ↓reduceIte, Nat.reduceEqDiff, Nat.reduceBEq, Nat.reduceAdd, Nat.reduceMul, Nat.reduceSub, Nat.reduceLT, Nat.reduceLeDiff, reduceCtorEq, Int.reduceToNat, Int.reduceLE, Int.reduceLT, Int.reduceEq, withV_any, x1, rR, intRows_get R i hiR, hiR, getD_rk hiR, hh, decide_true]
      · simp only [go_sem, ↓reduceIte, Nat.reduceEqDiff, Nat.reduceBEq, Nat.reduceAdd, Nat.reduceMul, Nat.reduceSub, Nat.reduceLT, Nat.reduceLeDiff, reduceCtorEq, Int.reduceToNat, Int.reduceLE, Int.reduceLT, Int.reduceEq, withV_any, x1, rR, intRows_get R i hiR, hiR, getD_rk hiR, hh, decide_false]
    have s9 : ∀ (K : KT) (S : Store) (a c : PV), execL (F58.C 0) 4 F58.c54 K (F58.ee14 (.mp 0 0 0) (.int .i64 g.owner.length) (.msl o 0 g.owner.length true) (.int .i64 kk) (.msl w 0 g.owner.length true) (.int .i64 i) a c) S = K .normal (F58.ee8 (.mp 0 0 0) (.int .i64 g.owner.length) (.msl o 0 g.owner.length true) (.int .i64 kk) (.msl w 0 g.owner.length true) (.int .i64 (i + 1 : Nat))) S := fun K S a c => by
      simp only [go_sem, ↓reduceIte, Nat.reduceEqDiff, Nat.reduceBEq, Nat.reduceAdd, Nat.reduceMul, Nat.reduceSub, Nat.reduceLT, Nat.reduceLeDiff, reduceCtorEq, Int.reduceToNat, Int.reduceLE, Int.reduceLT, Int.reduceEq, withV_any, w1]
    rw [rnd]
    by_cases hr : 0 ≤ Rk.rk R i
    · rw [if_pos hr]
      obtain ⟨S', a1, a2, a3⟩ := hm (i + 1) (by omega) S W hS h hW
      refine ⟨S', a1, a2, fun z hz => F58.L4_step ?_⟩
      have := a3 z hz
      subst hS
      simp only [F58.B4_eq, s1, F58.k121_n, condC_true, F58.k57_n, s2, hr, decide_true, F58.k115_n, F58.k111_exit, F58.k59_exit, if_true, F58.k55_n, s9, F58.k50_n, gc_full]
      exact this
    · rw [if_neg hr]
      have s3 : ∀ (sb eb : Bool) (K : KT), execL (F58.C 0) 5 F58.c66 K (F58.ee11 (.mp 0 0 0) (.int .i64 g.owner.length) (.msl o 0 g.owner.length true) (.int .i64 kk) (.msl w 0 g.owner.length true) (.int .i64 i) (.bool sb) (.bool eb) .undef .undef) S = K .normal (F58.ee14 (.mp 0 0 0) (.int .i64 g.owner.length) (.msl o 0 g.owner.length true) (.int .i64 kk) (.msl w 0 g.owner.length true) (.int .i64 i) .undef (.bool ((decide (g.owner.getD i 0 = 0) && sb) || (decide (g.owner.getD i 0 = 1) && eb)))) S := fun sb eb K => by
        have hown := hg.ok.own i (by simp only [Game.toG]; omega)
        simp only [Game.toG] at hown
        rcases hown with ho | ho
        · cases sb <;> cases eb <;> simp only [go_sem, ↓reduceIte, Nat.reduceEqDiff, Nat.reduceBEq, Nat.reduceAdd, Nat.reduceMul, Nat.reduceSub, Nat.reduceLT, Nat.reduceLeDiff, reduceCtorEq, Int.reduceToNat, Int.reduceLE, Int.reduceLT, Int.reduceEq, withV_any, r0, h5, Int.toNat_natCast, ho, decide_true, decide_false, Bool.true_and, Bool.false_and, Bool.or_false, Bool.and_self, Bool.and_false, Bool.or_self, Bool.true_or, Bool.false_or]
        · cases sb <;> cases eb <;> simp only [go_sem, ↓reduceIte, Nat.reduceEqDiff, Nat.reduceBEq, Nat.reduceAdd, Nat.reduceMul, Nat.reduceSub, Nat.reduceLT, Nat.reduceLeDiff, reduceCtorEq, Int.reduceToNat, Int.reduceLE, Int.reduceLT, Int.reduceEq, withV_any, r0, h5, Int.toNat_natCast, ho, decide_true, decide_false, Bool.true_and, Bool.false_and, Bool.or_false, Bool.and_self, Bool.and_false, Bool.or_self, Bool.true_or, Bool.false_or]
      have hh : ((decide (g.owner.getD i 0 = 0) && Rk.someB R (g.moves.getD i [])) || (decide (g.owner.getD i 0 = 1) && Rk.everyB R (g.moves.getD i []))) = Rk.hit g.toG R i := rfl
      have l6 := loop58_6 g hg n2 n4 o w kk R i hiN S h (g.moves.getD i []).length 0 (by omega) false true
      rw [List.drop_zero, Bool.false_or, Bool.true_and] at l6
      by_cases hp : Rk.hit g.toG R i = true
      · rw [if_pos hp]
        have st := storeInt (j := i) kk hW.pR hiW
        have hFo : FS g o R (S.set w (.arr (intRows (W.set i kk)) (some (some 1)) false)) := ⟨by rw [List.getElem?_set_ne hw0]; exact h.p0, by rw [List.getElem?_set_ne (Ne.symm how)]; exact h.pR, h.len⟩
        have hwl := (List.getElem?_eq_some_iff.1 hW.pR).1
        have hFw : FS g w (W.set i kk) (S.set w (.arr (intRows (W.set i kk)) (some (some 1)) false)) := ⟨by rw [List.getElem?_set_ne hw0]; exact h.p0, by rw [List.getElem?_set_self hwl], by rw [List.length_set]; exact hW.len⟩
        have hSl : (S.set w (.arr (intRows (W.set i kk)) (some (some 1)) false)).length = n4 := by rw [List.length_set]; exact hS
        generalize S.set w (.arr (intRows (W.set i kk)) (some (some 1)) false) = S1 at *
        obtain ⟨S', a1, a2, a3⟩ := hm (i + 1) (by omega) S1 _ hSl hFo hFw
        refine ⟨S', a1, a2, fun z hz => F58.L4_step ?_⟩
        have := a3 z hz
        have s4 : ∀ K : KT, execL (F58.C 0) 5 F58.c69 K (F58.ee14 (.mp 0 0 0) (.int .i64 g.owner.length) (.msl o 0 g.owner.length true) (.int .i64 kk) (.msl w 0 g.owner.length true) (.int .i64 i) .undef (.bool true)) S = K .normal (F58.ee14 (.mp 0 0 0) (.int .i64 g.owner.length) (.msl o 0 g.owner.length true) (.int .i64 kk) (.msl w 0 g.owner.length true) (.int .i64 i) .undef (.bool true)) S1 := fun K => by
          simp only [storeE_eq, known3, if_true, size3] at st
          simp only [go_sem, ↓reduceIte, Nat.reduceEqDiff, Nat.reduceBEq, Nat.reduceAdd, Nat.reduceMul, Nat.reduceSub, Nat.reduceLT, Nat.reduceLeDiff, reduceCtorEq, Int.reduceToNat, Int.reduceLE, Int.reduceLT, Int.reduceEq, withV_any, xW, st]
        have key := l6 z (by
          have e8 : Vs.gc n4 (F58.ee8 (.mp 0 0 0) (.int .i64 g.owner.length) (.msl o 0 g.owner.length true) (.int .i64 kk) (.msl w 0 g.owner.length true) (.int .i64 (i + 1 : Nat))) S1 = S1 := by rw [← hSl]; exact gc_full _ _
          simp only [F58.k73_n, s3, hh, hp, F58.k68_n, condC_true, s4, F58.k59_n, F58.k55_n, s9, F58.k50_n, e8]
          exact this)
        simp only [F58.B4_eq, s1, F58.k121_n, condC_true, F58.k57_n, s2, hr, decide_false, F58.k115_n, condC_false, F58.k111_n, F58.g112, withV_any, F58.k75_n, F58.g110, F58.k78_n]
        exact key
      · rw [if_neg hp]
        obtain ⟨S', a1, a2, a3⟩ := hm (i + 1) (by omega) S W hS h hW
        refine ⟨S', a1, a2, fun z hz => F58.L4_step ?_⟩
        have := a3 z hz
        have hp' : Rk.hit g.toG R i = false := by simpa using hp
        have key := l6 z (by
          have e8 : Vs.gc n4 (F58.ee8 (.mp 0 0 0) (.int .i64 g.owner.length) (.msl o 0 g.owner.length true) (.int .i64 kk) (.msl w 0 g.owner.length true) (.int .i64 (i + 1 : Nat))) S = S := by rw [← hS]; exact gc_full _ _
          simp only [F58.k73_n, s3, hh, hp', F58.k68_n, condC_false, F58.k59_n, F58.k55_n, s9, F58.k50_n, e8]
          exact this)
        simp only [F58.B4_eq, s1, F58.k121_n, condC_true, F58.k57_n, s2, hr, decide_false, F58.k115_n, condC_false, F58.k111_n, F58.g112, withV_any, F58.k75_n, F58.g110, F58.k78_n]
        exact key
end Go.Vs
end
