/- Printed by a program of mine (stage1.py): the functions 17, 18, 14, 19, 22, piece by piece. -/

import Derived.Test.YtnddhkcciphhkaaMX10
set_option linter.unusedVariables false
set_option linter.unusedSimpArgs false
namespace Go.Vs
open Go Go.Proofs
noncomputable section

/-! ### game.Check -/
namespace F17
section
variable (b i n n0 n2 n4 : Nat) (K : KT) (x0 x1 x2 x3 x5 x6 x7 x8 x9 x11 x12 x13 x14 x42 x54 x55 x56 x57 x72 x77 x78 x79 x80 x107 : PV) (e : Env) (S : Store)
noncomputable def hint : Hint := { keep := [], loops := [(4, { live := [1, 6, 7, 55, 56, 77, 78, 79], after := [1, 6, 55, 56], own := [], fz := [] }), (2, { live := [1, 6, 55, 56], after := [], own := [], fz := [] }), (0, { live := [1, 3, 11, 12, 13], after := [1, 3], own := [], fz := [] })], regs := [(0, [1]), (1, [1, 3]), (2, [1, 3, 11, 12, 13]), (3, [1, 3, 11, 12, 13, 14]), (4, [1, 3, 5, 11, 12, 13]), (5, [1, 3, 11, 12, 13]), (6, [1, 3, 11, 12, 13]), (7, [1, 3, 6]), (8, [1, 6, 42]), (9, [2]), (10, [1, 6, 54]), (11, [2]), (12, [1, 6, 55, 56]), (13, [1, 6, 55, 56, 57]), (14, [1, 6, 7, 55, 56]), (15, [1, 6, 7, 55, 56, 72]), (16, [2]), (17, [1, 6, 7, 55, 56, 77, 78, 79]), (18, [1, 6, 7, 55, 56, 77, 78, 79, 80]), (19, [1, 6, 7, 8, 9, 55, 56, 77, 78, 79]), (20, [1, 6, 7, 55, 56, 77, 78, 79, 107]), (21, [2]), (22, [1, 6, 7, 55, 56, 77, 78, 79]), (23, [1, 6, 55, 56]), (24, [2])] }
noncomputable def C (b : Nat) : Ctx := ctxL Try.prog hints b hint
noncomputable def code : Code := Try.f17.body.get rfl
noncomputable def k0 (b : Nat) : KT := endC Try.prog Try.f17
def ee0 (x1 : PV) : Env := [(1, x1)]
def ee1 (x1 x3 : PV) : Env := [(1, x1), (3, x3)]
def ee2 (x1 x3 x5 x11 x12 x13 : PV) : Env := [(1, x1), (3, x3), (5, x5), (11, x11), (12, x12), (13, x13)]
def ee3 (x1 x3 x6 : PV) : Env := [(1, x1), (3, x3), (6, x6)]
def ee4 (x1 x3 x11 x12 x13 : PV) : Env := [(1, x1), (3, x3), (11, x11), (12, x12), (13, x13)]
def ee5 (x1 x3 x11 x12 x13 x14 : PV) : Env := [(1, x1), (3, x3), (11, x11), (12, x12), (13, x13), (14, x14)]
def ee6 (x1 x6 x7 x8 x9 x55 x56 x77 x78 x79 : PV) : Env := [(1, x1), (6, x6), (7, x7), (8, x8), (9, x9), (55, x55), (56, x56), (77, x77), (78, x78), (79, x79)]
def ee7 (x1 x6 x7 x55 x56 : PV) : Env := [(1, x1), (6, x6), (7, x7), (55, x55), (56, x56)]
def ee8 (x1 x6 x7 x55 x56 x72 : PV) : Env := [(1, x1), (6, x6), (7, x7), (55, x55), (56, x56), (72, x72)]
def ee9 (x1 x6 x7 x55 x56 x77 x78 x79 : PV) : Env := [(1, x1), (6, x6), (7, x7), (55, x55), (56, x56), (77, x77), (78, x78), (79, x79)]
def ee10 (x1 x6 x7 x55 x56 x77 x78 x79 x80 : PV) : Env := [(1, x1), (6, x6), (7, x7), (55, x55), (56, x56), (77, x77), (78, x78), (79, x79), (80, x80)]
def ee11 (x1 x6 x7 x55 x56 x77 x78 x79 x107 : PV) : Env := [(1, x1), (6, x6), (7, x7), (55, x55), (56, x56), (77, x77), (78, x78), (79, x79), (107, x107)]
def ee12 (x1 x6 x42 : PV) : Env := [(1, x1), (6, x6), (42, x42)]
def ee13 (x1 x6 x54 : PV) : Env := [(1, x1), (6, x6), (54, x54)]
def ee14 (x1 x6 x55 x56 : PV) : Env := [(1, x1), (6, x6), (55, x55), (56, x56)]
def ee15 (x1 x6 x55 x56 x57 : PV) : Env := [(1, x1), (6, x6), (55, x55), (56, x56), (57, x57)]
def ee16 (x2 : PV) : Env := [(2, x2)]
def c1 : Code := at0 code
def c2 : Code := at1 code
def c3 : Code := at0 c2
def c4 : Code := at1 c2
def c5 : Code := at0 c4
def c6 : Code := at1 c4
def c7 : Code := at0 c6
def c8 : Code := at1 c6
def c9 : Code := at0 c8
def c10 : Code := at1 c8
def c11 : Code := at0 c10
def c12 : Code := at1 c10
def c13 : Code := at0 c12
def c14 : Code := at1 c12
def c15 : Code := at0 c14
def c16 : Code := at1 c14
def k17 (b : Nat) : KT := seqC (fun e S => execL (C b) 0 c16 (k0 b) e S) (k0 b)
@[go_sem] theorem k17_n : k17 b .normal (ee16 x2) S =
  (k0 b) .ret (ee16 x2) S := nr (seqN (execL_ret (by kernel_rfl)))
def k18 (b : Nat) : KT := seqC (fun e S => execL (C b) 0 c14 (k0 b) e S) (k0 b)
@[go_sem] theorem g19 : execL (C b) 0 c15 K (ee15 x1 x6 x55 x56 x57) S =
  withV (some (.int .i64 0)) fun x2 =>
    K .normal (ee16 x2) S := nr (by kernel_rfl)
@[go_sem] theorem k18_n : k18 b .normal e S = execL (C b) 0 c15 (k17 b) e S := nr (seqN (enterS (by kernel_rfl)))
@[go_sem] theorem k18_ret : k18 b .ret e S = (k0 b) .ret e S := nr (seqC_r _ _ _ _)
def k20 (b : Nat) : KT := seqC (fun e S => execL (C b) 0 c12 (k0 b) e S) (k0 b)
def c21 : Code := at0 c13
def c22 : Code := at1 c13
def k23 (b : Nat) : KT := seqC (fun e S => execL (C b) 0 c22 (k18 b) e S) (k18 b)
def c24 : Code := atB c22
def k25 (b : Nat) : KT := blockC 2 (k18 b)
@[go_sem] theorem k25_ret : k25 b .ret e S = (k18 b) .ret e S := nr (blockC_r _ _ _ _)
@[go_sem] theorem k25_exit : k25 b (.exit i) e S = if i = 2 then (k18 b) .normal e S else (k18 b) (.exit i) e S := nr (blockC_x _ _ _ _ _)
def c26 : Code := atL c24
def k27 (b n2 : Nat) : KT := afterC 2 n2 [] (k25 b)
def L2g (b n2 : Nat) (e : Env) (S : Store) : RT := loopL (fun K e S => execL (C b) 2 c26 K e S) (normG [1, 6, 55, 56] [] n2) (k27 b n2) e S
def L2 (b n2 : Nat) (x1 x6 x55 x56 : PV) (S : Store) : RT := L2g b n2 (ee14 x1 x6 x55 x56) S
def k28 (b n2 : Nat) : KT := stepC (normG [1, 6, 55, 56] [] n2) (k27 b n2) (L2g b n2)
@[go_sem] theorem k28_n : k28 b n2 .normal (ee14 x1 x6 x55 x56) S = L2 b n2 x1 x6 x55 x56 (gc n2 (ee14 x1 x6 x55 x56) S) := nr (by kernel_rfl)
@[go_sem] theorem k28_ret : k28 b n2 .ret e S = (k25 b) .ret e S := nr ((show k28 b n2 .ret e S = (k27 b n2) .ret e S from stepC_r _ _ _ _ _).trans (afterC_r _ _ _ _ _ _))
@[go_sem] theorem k28_x1 : k28 b n2 (.exit 2) (ee15 x1 x6 x55 x56 x57) S = (k25 b) (.exit 2) (ee15 .undef .undef .undef .undef .undef) (gc n2 (ee15 .undef .undef .undef .undef .undef) S) := nr ((show k28 b n2 (.exit 2) (ee15 x1 x6 x55 x56 x57) S = (k27 b n2) (.exit 2) (ee15 x1 x6 x55 x56 x57) S from stepC_x _ _ _ _ _ _).trans ((show (k27 b n2) (.exit 2) (ee15 x1 x6 x55 x56 x57) S = _ from afterC_x _ _ _ _ _ _ _).trans (if_pos rfl)))
def c29 : Code := at0 c26
def c30 : Code := at1 c26
def c32 : Code := at1 c30
def c33 : Code := at0 c32
def c34 : Code := at1 c32
def k35 (b n2 : Nat) : KT := seqC (fun e S => execL (C b) 2 c34 (k28 b n2) e S) (k28 b n2)
@[go_sem] theorem g36 : execL (C b) 2 c34 K (ee10 x1 x6 x7 x55 x56 x77 x78 x79 x80) S =
  withV (evBin .add (tyi Try.prog 3) x56 (.int .i64 1)) fun x109 =>
    withV (some x109) fun x56 =>
    K .normal (ee14 x1 x6 x55 x56) S := nr (by kernel_rfl)
@[go_sem] theorem k35_n : k35 b n2 .normal e S = execL (C b) 2 c34 (k28 b n2) e S := nr (seqN rfl)
@[go_sem] theorem k35_ret : k35 b n2 .ret e S = (k28 b n2) .ret e S := nr (seqC_r _ _ _ _)
def k37 (b n2 : Nat) : KT := seqC (fun e S => execL (C b) 2 c32 (k28 b n2) e S) (k28 b n2)
def c38 : Code := atB c33
def k39 (b n2 : Nat) : KT := blockC 3 (k35 b n2)
@[go_sem] theorem k39_n : k39 b n2 .normal e S = (k35 b n2) .normal e S := nr (blockC_n _ _ _ _)
@[go_sem] theorem k39_ret : k39 b n2 .ret e S = (k35 b n2) .ret e S := nr (blockC_r _ _ _ _)
def c40 : Code := at0 c38
def c41 : Code := at1 c38
def c42 : Code := at0 c41
def c43 : Code := at1 c41
def c44 : Code := at0 c43
def c45 : Code := at1 c43
def k46 (b n2 : Nat) : KT := seqC (fun e S => execL (C b) 3 c45 (k39 b n2) e S) (k39 b n2)
def c47 : Code := atB c45
def k48 (b n2 : Nat) : KT := blockC 4 (k39 b n2)
@[go_sem] theorem k48_ret : k48 b n2 .ret e S = (k39 b n2) .ret e S := nr (blockC_r _ _ _ _)
@[go_sem] theorem k48_exit : k48 b n2 (.exit i) e S = if i = 4 then (k39 b n2) .normal e S else (k39 b n2) (.exit i) e S := nr (blockC_x _ _ _ _ _)
def c49 : Code := atL c47
def k50 (b n2 n4 : Nat) : KT := afterC 4 n4 [1, 6, 55, 56] (k48 b n2)
def L4g (b n2 n4 : Nat) (e : Env) (S : Store) : RT := loopL (fun K e S => execL (C b) 4 c49 K e S) (normG [1, 6, 7, 55, 56, 77, 78, 79] [] n4) (k50 b n2 n4) e S
def L4 (b n2 n4 : Nat) (x1 x6 x7 x55 x56 x77 x78 x79 : PV) (S : Store) : RT := L4g b n2 n4 (ee9 x1 x6 x7 x55 x56 x77 x78 x79) S
def k51 (b n2 n4 : Nat) : KT := stepC (normG [1, 6, 7, 55, 56, 77, 78, 79] [] n4) (k50 b n2 n4) (L4g b n2 n4)
@[go_sem] theorem k51_n : k51 b n2 n4 .normal (ee9 x1 x6 x7 x55 x56 x77 x78 x79) S = L4 b n2 n4 x1 x6 x7 x55 x56 x77 x78 x79 (gc n4 (ee9 x1 x6 x7 x55 x56 x77 x78 x79) S) := nr (by kernel_rfl)
@[go_sem] theorem k51_ret : k51 b n2 n4 .ret e S = (k48 b n2) .ret e S := nr ((show k51 b n2 n4 .ret e S = (k50 b n2 n4) .ret e S from stepC_r _ _ _ _ _).trans (afterC_r _ _ _ _ _ _))
@[go_sem] theorem k51_x1 : k51 b n2 n4 (.exit 4) (ee10 x1 x6 x7 x55 x56 x77 x78 x79 x80) S = (k48 b n2) (.exit 4) (ee10 x1 x6 .undef x55 x56 .undef .undef .undef .undef) (gc n4 (ee10 x1 x6 .undef x55 x56 .undef .undef .undef .undef) S) := nr ((show k51 b n2 n4 (.exit 4) (ee10 x1 x6 x7 x55 x56 x77 x78 x79 x80) S = (k50 b n2 n4) (.exit 4) (ee10 x1 x6 x7 x55 x56 x77 x78 x79 x80) S from stepC_x _ _ _ _ _ _).trans ((show (k50 b n2 n4) (.exit 4) (ee10 x1 x6 x7 x55 x56 x77 x78 x79 x80) S = _ from afterC_x _ _ _ _ _ _ _).trans (if_pos rfl)))
def c52 : Code := at0 c49
def c53 : Code := at1 c49
def c55 : Code := at1 c53
def c56 : Code := at0 c55
def c57 : Code := at1 c55
def k58 (b n2 n4 : Nat) : KT := seqC (fun e S => execL (C b) 4 c57 (k51 b n2 n4) e S) (k51 b n2 n4)
@[go_sem] theorem g59 : execL (C b) 4 c57 K (ee11 x1 x6 x7 x55 x56 x77 x78 x79 x107) S =
  withV (evBin .add (tyi Try.prog 3) x79 (.int .i64 1)) fun x108 =>
    withV (some x108) fun x79 =>
    K .normal (ee9 x1 x6 x7 x55 x56 x77 x78 x79) S := nr (by kernel_rfl)
@[go_sem] theorem k58_n : k58 b n2 n4 .normal e S = execL (C b) 4 c57 (k51 b n2 n4) e S := nr (seqN rfl)
@[go_sem] theorem k58_ret : k58 b n2 n4 .ret e S = (k51 b n2 n4) .ret e S := nr (seqC_r _ _ _ _)
def k60 (b n2 n4 : Nat) : KT := seqC (fun e S => execL (C b) 4 c55 (k51 b n2 n4) e S) (k51 b n2 n4)
def c61 : Code := atB c56
def k62 (b n2 n4 : Nat) : KT := blockC 5 (k58 b n2 n4)
@[go_sem] theorem k62_n : k62 b n2 n4 .normal e S = (k58 b n2 n4) .normal e S := nr (blockC_n _ _ _ _)
@[go_sem] theorem k62_ret : k62 b n2 n4 .ret e S = (k58 b n2 n4) .ret e S := nr (blockC_r _ _ _ _)
def c63 : Code := at0 c61
def c64 : Code := at1 c61
def c65 : Code := at0 c64
def c66 : Code := at1 c64
def k67 (b n2 n4 : Nat) : KT := seqC (fun e S => execL (C b) 5 c66 (k62 b n2 n4) e S) (k62 b n2 n4)
def c68 : Code := atT c66
def c71 : Code := at0 c68
def c72 : Code := at1 c68
def k73 (b n2 n4 : Nat) : KT := seqC (fun e S => execL (C b) 5 c72 (k62 b n2 n4) e S) (k62 b n2 n4)
@[go_sem] theorem k73_n : k73 b n2 n4 .normal (ee16 x2) S =
  (k62 b n2 n4) .ret (ee16 x2) S := nr (seqN (execL_ret (by kernel_rfl)))
@[go_sem] theorem g74 : execL (C b) 5 c71 K (ee11 x1 x6 x7 x55 x56 x77 x78 x79 x107) S =
  withV (some (.int .i64 3)) fun x2 =>
    K .normal (ee16 x2) S := nr (by kernel_rfl)
@[go_sem] theorem k67_n : k67 b n2 n4 .normal (ee11 x1 x6 x7 x55 x56 x77 x78 x79 x107) S =
  condC x107 (execL (C b) 5 c71 (k73 b n2 n4) (ee11 x1 x6 x7 x55 x56 x77 x78 x79 x107) S)
    ((k62 b n2 n4) .normal (ee11 x1 x6 x7 x55 x56 x77 x78 x79 x107) S) := nr (seqN (condE (t := 107) (by kernel_rfl) (enterS (by kernel_rfl)) (execL_skip (by kernel_rfl)) rfl))
def k75 (b n2 n4 : Nat) : KT := seqC (fun e S => execL (C b) 5 c64 (k62 b n2 n4) e S) (k62 b n2 n4)
@[go_sem] theorem g76 : execL (C b) 5 c65 K (ee6 x1 x6 x7 x8 x9 x55 x56 x77 x78 x79) S =
  withV (some x9) fun x84 =>
    withV (evBin .lss (tyi Try.prog 3) x84 (.int .i64 0)) fun x85 =>
    withV (some x85) fun x86 =>
    withV (gval x86 false (some x9)) fun x87 =>
    withV (gval x86 false (some x6)) fun x88 =>
    withV (gval x86 false (evBin .geq (tyi Try.prog 3) x87 x88)) fun x89 =>
    withV (pickO x86 (.bool true) x89) fun x90 =>
    withV (some x90) fun x91 =>
    withV (gval x91 false (some x8)) fun x92 =>
    withV (gval x91 false (evBin .gtr (tyi Try.prog 3) x92 (.int .i64 0))) fun x93 =>
    withV (gval x91 false (some x93)) fun x94 =>
    withV (gval x94 true (evFieldAddr (tyi Try.prog 26) 1 x1)) fun x95 =>
    withV (gval x94 true (evLoad (tyi Try.prog 23) S x95)) fun x96 =>
    withV (gval x94 true (some x7)) fun x97 =>
    withV (gval x94 true (indexAddrO Try.prog 23 S x96 x97)) fun x98 =>
    withV (gval x94 true (evLoad (tyi Try.prog 22) S x98)) fun x99 =>
    withV (gval x94 true (some x8)) fun x100 =>
    withV (gval x94 true (evBin .sub (tyi Try.prog 3) x100 (.int .i64 1))) fun x101 =>
    withV (gval x94 true (indexAddrO Try.prog 22 S x99 x101)) fun x102 =>
    withV (gval x94 true (evLoad (tyi Try.prog 3) S x102)) fun x103 =>
    withV (gval x94 true (some x9)) fun x104 =>
    withV (gval x94 true (evBin .geq (tyi Try.prog 3) x103 x104)) fun x105 =>
    withV (gval x91 false (pickO x94 x105 (.bool false))) fun x106 =>
    withV (pickO x91 (.bool true) x106) fun x107 =>
    K .normal (ee11 x1 x6 x7 x55 x56 x77 x78 x79 x107) S := nr (by kernel_rfl)
@[go_sem] theorem k75_n : k75 b n2 n4 .normal e S = execL (C b) 5 c65 (k67 b n2 n4) e S := nr (seqN (enterS (by kernel_rfl)))
@[go_sem] theorem g77 : execL (C b) 5 c63 K (ee10 x1 x6 x7 x55 x56 x77 x78 x79 x80) S =
  withV (some x79) fun x81 =>
    withV (indexAddrO Try.prog 22 S x77 x79) fun x82 =>
    withV (evLoad (tyi Try.prog 3) S x82) fun x83 =>
    withV (some x81) fun x8 =>
    withV (some x83) fun x9 =>
    K .normal (ee6 x1 x6 x7 x8 x9 x55 x56 x77 x78 x79) S := nr (by kernel_rfl)
@[go_sem] theorem k60_n : k60 b n2 n4 .normal (ee10 x1 x6 x7 x55 x56 x77 x78 x79 x80) S =
  execL (C b) 5 c63 (k75 b n2 n4) (ee10 x1 x6 x7 x55 x56 x77 x78 x79 x80) S := nr (seqN ((enterS (by kernel_rfl)).trans ((blockE (by kernel_rfl)).trans (enterS (by kernel_rfl)))))
@[go_sem] theorem k60_exit : k60 b n2 n4 (.exit i) e S = (k51 b n2 n4) (.exit i) e S := nr (seqC_x _ _ _ _ _)
def k78 (b n2 n4 : Nat) : KT := seqC (fun e S => execL (C b) 4 c53 (k51 b n2 n4) e S) (k51 b n2 n4)
@[go_sem] theorem k78_n : k78 b n2 n4 .normal (ee10 x1 x6 x7 x55 x56 x77 x78 x79 x80) S =
  condC x80 ((k60 b n2 n4) .normal (ee10 x1 x6 x7 x55 x56 x77 x78 x79 x80) S)
    ((k60 b n2 n4) (.exit 4) (ee10 x1 x6 x7 x55 x56 x77 x78 x79 x80) S) := nr (seqN ((enterS (by kernel_rfl)).trans (condE (t := 80) (by kernel_rfl) (execL_skip (by kernel_rfl)) (execL_exit (by kernel_rfl)) rfl)))
@[go_sem] theorem g81 : execL (C b) 4 c52 K (ee9 x1 x6 x7 x55 x56 x77 x78 x79) S =
  withV (evBin .lss (tyi Try.prog 3) x79 x78) fun x80 =>
    K .normal (ee10 x1 x6 x7 x55 x56 x77 x78 x79 x80) S := nr (by kernel_rfl)
def B4 (b n2 n4 : Nat) (x1 x6 x7 x55 x56 x77 x78 x79 : PV) (S : Store) : RT := execL (C b) 4 c49 (k51 b n2 n4) (ee9 x1 x6 x7 x55 x56 x77 x78 x79) S
@[go_sem] theorem B4_eq : B4 b n2 n4 x1 x6 x7 x55 x56 x77 x78 x79 S =
  execL (C b) 4 c52 (k78 b n2 n4) (ee9 x1 x6 x7 x55 x56 x77 x78 x79) S := nr (enterS (by kernel_rfl))
theorem L4_step {b n2 n4 : Nat} {x1 x6 x7 x55 x56 x77 x78 x79 : PV} {S : Store} {z : PV × Store} (h : B4 b n2 n4 x1 x6 x7 x55 x56 x77 x78 x79 S = some z) : L4 b n2 n4 x1 x6 x7 x55 x56 x77 x78 x79 S = some z := loopL_step h
theorem L4_in (b n2 : Nat) (x1 x6 x7 x55 x56 x77 x78 x79 : PV) (S : Store) : execL (C b) 4 c47 (k48 b n2) (ee9 x1 x6 x7 x55 x56 x77 x78 x79) S = L4 b n2 (List.length S) x1 x6 x7 x55 x56 x77 x78 x79 S := by kernel_rfl
@[go_sem] theorem k46_n : k46 b n2 .normal (ee9 x1 x6 x7 x55 x56 x77 x78 x79) S =
  L4 b n2 (List.length S) x1 x6 x7 x55 x56 x77 x78 x79 S := nr (seqN ((blockE (by kernel_rfl)).trans (L4_in b n2 x1 x6 x7 x55 x56 x77 x78 x79 S)))
def k83 (b n2 : Nat) : KT := seqC (fun e S => execL (C b) 3 c43 (k39 b n2) e S) (k39 b n2)
@[go_sem] theorem g84 : execL (C b) 3 c44 K (ee8 x1 x6 x7 x55 x56 x72) S =
  withV (evFieldAddr (tyi Try.prog 26) 1 x1) fun x73 =>
    withV (evLoad (tyi Try.prog 23) S x73) fun x74 =>
    withV (some x7) fun x75 =>
    withV (indexAddrO Try.prog 23 S x74 x75) fun x76 =>
    withV (evLoad (tyi Try.prog 22) S x76) fun x77 =>
    withV (lenO (tyi Try.prog 22) x77) fun x78 =>
    withV (some (.int .i64 0)) fun x79 =>
    K .normal (ee9 x1 x6 x7 x55 x56 x77 x78 x79) S := nr (by kernel_rfl)
@[go_sem] theorem k83_n : k83 b n2 .normal e S = execL (C b) 3 c44 (k46 b n2) e S := nr (seqN (enterS (by kernel_rfl)))
@[go_sem] theorem k83_ret : k83 b n2 .ret e S = (k39 b n2) .ret e S := nr (seqC_r _ _ _ _)
def k85 (b n2 : Nat) : KT := seqC (fun e S => execL (C b) 3 c41 (k39 b n2) e S) (k39 b n2)
def c86 : Code := at0 c42
def c87 : Code := at1 c42
def k88 (b n2 : Nat) : KT := seqC (fun e S => execL (C b) 3 c87 (k83 b n2) e S) (k83 b n2)
def c89 : Code := atT c87
def c92 : Code := at0 c89
def c93 : Code := at1 c89
def k94 (b n2 : Nat) : KT := seqC (fun e S => execL (C b) 3 c93 (k83 b n2) e S) (k83 b n2)
@[go_sem] theorem k94_n : k94 b n2 .normal (ee16 x2) S =
  (k83 b n2) .ret (ee16 x2) S := nr (seqN (execL_ret (by kernel_rfl)))
@[go_sem] theorem g95 : execL (C b) 3 c92 K (ee8 x1 x6 x7 x55 x56 x72) S =
  withV (some (.int .i64 3)) fun x2 =>
    K .normal (ee16 x2) S := nr (by kernel_rfl)
@[go_sem] theorem k88_n : k88 b n2 .normal (ee8 x1 x6 x7 x55 x56 x72) S =
  condC x72 (execL (C b) 3 c92 (k94 b n2) (ee8 x1 x6 x7 x55 x56 x72) S)
    ((k83 b n2) .normal (ee8 x1 x6 x7 x55 x56 x72) S) := nr (seqN (condE (t := 72) (by kernel_rfl) (enterS (by kernel_rfl)) (execL_skip (by kernel_rfl)) rfl))
@[go_sem] theorem g96 : execL (C b) 3 c86 K (ee7 x1 x6 x7 x55 x56) S =
  withV (evFieldAddr (tyi Try.prog 26) 0 x1) fun x59 =>
    withV (evLoad (tyi Try.prog 22) S x59) fun x60 =>
    withV (some x7) fun x61 =>
    withV (indexAddrO Try.prog 22 S x60 x61) fun x62 =>
    withV (evLoad (tyi Try.prog 3) S x62) fun x63 =>
    withV (evBin .neq (tyi Try.prog 3) x63 (.int .i64 0)) fun x64 =>
    withV (some x64) fun x65 =>
    withV (gval x65 true (evFieldAddr (tyi Try.prog 26) 0 x1)) fun x66 =>
    withV (gval x65 true (evLoad (tyi Try.prog 22) S x66)) fun x67 =>
    withV (gval x65 true (some x7)) fun x68 =>
    withV (gval x65 true (indexAddrO Try.prog 22 S x67 x68)) fun x69 =>
    withV (gval x65 true (evLoad (tyi Try.prog 3) S x69)) fun x70 =>
    withV (gval x65 true (evBin .neq (tyi Try.prog 3) x70 (.int .i64 1))) fun x71 =>
    withV (pickO x65 x71 (.bool false)) fun x72 =>
    K .normal (ee8 x1 x6 x7 x55 x56 x72) S := nr (by kernel_rfl)
@[go_sem] theorem k85_n : k85 b n2 .normal (ee7 x1 x6 x7 x55 x56) S =
  execL (C b) 3 c86 (k88 b n2) (ee7 x1 x6 x7 x55 x56) S := nr (seqN ((enterS (by kernel_rfl)).trans (enterS (by kernel_rfl))))
@[go_sem] theorem g97 : execL (C b) 3 c40 K (ee15 x1 x6 x55 x56 x57) S =
  withV (some x56) fun x58 =>
    withV (some x58) fun x7 =>
    K .normal (ee7 x1 x6 x7 x55 x56) S := nr (by kernel_rfl)
@[go_sem] theorem k37_n : k37 b n2 .normal (ee15 x1 x6 x55 x56 x57) S =
  execL (C b) 3 c40 (k85 b n2) (ee15 x1 x6 x55 x56 x57) S := nr (seqN ((enterS (by kernel_rfl)).trans ((blockE (by kernel_rfl)).trans (enterS (by kernel_rfl)))))
@[go_sem] theorem k37_exit : k37 b n2 (.exit i) e S = (k28 b n2) (.exit i) e S := nr (seqC_x _ _ _ _ _)
def k98 (b n2 : Nat) : KT := seqC (fun e S => execL (C b) 2 c30 (k28 b n2) e S) (k28 b n2)
@[go_sem] theorem k98_n : k98 b n2 .normal (ee15 x1 x6 x55 x56 x57) S =
  condC x57 ((k37 b n2) .normal (ee15 x1 x6 x55 x56 x57) S)
    ((k37 b n2) (.exit 2) (ee15 x1 x6 x55 x56 x57) S) := nr (seqN ((enterS (by kernel_rfl)).trans (condE (t := 57) (by kernel_rfl) (execL_skip (by kernel_rfl)) (execL_exit (by kernel_rfl)) rfl)))
@[go_sem] theorem g101 : execL (C b) 2 c29 K (ee14 x1 x6 x55 x56) S =
  withV (evBin .lss (tyi Try.prog 3) x56 x55) fun x57 =>
    K .normal (ee15 x1 x6 x55 x56 x57) S := nr (by kernel_rfl)
def B2 (b n2 : Nat) (x1 x6 x55 x56 : PV) (S : Store) : RT := execL (C b) 2 c26 (k28 b n2) (ee14 x1 x6 x55 x56) S
@[go_sem] theorem B2_eq : B2 b n2 x1 x6 x55 x56 S =
  execL (C b) 2 c29 (k98 b n2) (ee14 x1 x6 x55 x56) S := nr (enterS (by kernel_rfl))
theorem L2_step {b n2 : Nat} {x1 x6 x55 x56 : PV} {S : Store} {z : PV × Store} (h : B2 b n2 x1 x6 x55 x56 S = some z) : L2 b n2 x1 x6 x55 x56 S = some z := loopL_step h
theorem L2_in (b : Nat) (x1 x6 x55 x56 : PV) (S : Store) : execL (C b) 2 c24 (k25 b) (ee14 x1 x6 x55 x56) S = L2 b (List.length S) x1 x6 x55 x56 S := by kernel_rfl
@[go_sem] theorem k23_n : k23 b .normal (ee14 x1 x6 x55 x56) S =
  L2 b (List.length S) x1 x6 x55 x56 S := nr (seqN ((blockE (by kernel_rfl)).trans (L2_in b x1 x6 x55 x56 S)))
@[go_sem] theorem g103 : execL (C b) 0 c21 K (ee13 x1 x6 x54) S =
  withV (some x6) fun x55 =>
    withV (some (.int .i64 0)) fun x56 =>
    K .normal (ee14 x1 x6 x55 x56) S := nr (by kernel_rfl)
@[go_sem] theorem k20_n : k20 b .normal (ee13 x1 x6 x54) S =
  execL (C b) 0 c21 (k23 b) (ee13 x1 x6 x54) S := nr (seqN ((enterS (by kernel_rfl)).trans (enterS (by kernel_rfl))))
@[go_sem] theorem k20_ret : k20 b .ret e S = (k0 b) .ret e S := nr (seqC_r _ _ _ _)
def k104 (b : Nat) : KT := seqC (fun e S => execL (C b) 0 c10 (k0 b) e S) (k0 b)
def c105 : Code := at0 c11
def c106 : Code := at1 c11
def k107 (b : Nat) : KT := seqC (fun e S => execL (C b) 0 c106 (k20 b) e S) (k20 b)
def c108 : Code := atT c106
def c111 : Code := at0 c108
def c112 : Code := at1 c108
def k113 (b : Nat) : KT := seqC (fun e S => execL (C b) 0 c112 (k20 b) e S) (k20 b)
@[go_sem] theorem k113_n : k113 b .normal (ee16 x2) S =
  (k20 b) .ret (ee16 x2) S := nr (seqN (execL_ret (by kernel_rfl)))
@[go_sem] theorem g114 : execL (C b) 0 c111 K (ee13 x1 x6 x54) S =
  withV (some (.int .i64 3)) fun x2 =>
    K .normal (ee16 x2) S := nr (by kernel_rfl)
@[go_sem] theorem k107_n : k107 b .normal (ee13 x1 x6 x54) S =
  condC x54 (execL (C b) 0 c111 (k113 b) (ee13 x1 x6 x54) S)
    ((k20 b) .normal (ee13 x1 x6 x54) S) := nr (seqN (condE (t := 54) (by kernel_rfl) (enterS (by kernel_rfl)) (execL_skip (by kernel_rfl)) rfl))
@[go_sem] theorem g115 : execL (C b) 0 c105 K (ee12 x1 x6 x42) S =
  withV (evFieldAddr (tyi Try.prog 26) 1 x1) fun x43 =>
    withV (evLoad (tyi Try.prog 23) S x43) fun x44 =>
    withV (lenO (tyi Try.prog 23) x44) fun x45 =>
    withV (some x6) fun x46 =>
    withV (evBin .neq (tyi Try.prog 3) x45 x46) fun x47 =>
    withV (some x47) fun x48 =>
    withV (gval x48 false (evFieldAddr (tyi Try.prog 26) 2 x1)) fun x49 =>
    withV (gval x48 false (evLoad (tyi Try.prog 24) S x49)) fun x50 =>
    withV (gval x48 false (lenO (tyi Try.prog 24) x50)) fun x51 =>
    withV (gval x48 false (some x6)) fun x52 =>
    withV (gval x48 false (evBin .neq (tyi Try.prog 3) x51 x52)) fun x53 =>
    withV (pickO x48 (.bool true) x53) fun x54 =>
    K .normal (ee13 x1 x6 x54) S := nr (by kernel_rfl)
@[go_sem] theorem k104_n : k104 b .normal (ee12 x1 x6 x42) S =
  execL (C b) 0 c105 (k107 b) (ee12 x1 x6 x42) S := nr (seqN ((enterS (by kernel_rfl)).trans (enterS (by kernel_rfl))))
@[go_sem] theorem k104_ret : k104 b .ret e S = (k0 b) .ret e S := nr (seqC_r _ _ _ _)
def k116 (b : Nat) : KT := seqC (fun e S => execL (C b) 0 c8 (k0 b) e S) (k0 b)
def c117 : Code := at0 c9
def c118 : Code := at1 c9
def k119 (b : Nat) : KT := seqC (fun e S => execL (C b) 0 c118 (k104 b) e S) (k104 b)
def c120 : Code := atT c118
def c123 : Code := at0 c120
def c124 : Code := at1 c120
def k125 (b : Nat) : KT := seqC (fun e S => execL (C b) 0 c124 (k104 b) e S) (k104 b)
@[go_sem] theorem k125_n : k125 b .normal (ee16 x2) S =
  (k104 b) .ret (ee16 x2) S := nr (seqN (execL_ret (by kernel_rfl)))
@[go_sem] theorem g126 : execL (C b) 0 c123 K (ee12 x1 x6 x42) S =
  withV (some (.int .i64 2)) fun x2 =>
    K .normal (ee16 x2) S := nr (by kernel_rfl)
@[go_sem] theorem k119_n : k119 b .normal (ee12 x1 x6 x42) S =
  condC x42 (execL (C b) 0 c123 (k125 b) (ee12 x1 x6 x42) S)
    ((k104 b) .normal (ee12 x1 x6 x42) S) := nr (seqN (condE (t := 42) (by kernel_rfl) (enterS (by kernel_rfl)) (execL_skip (by kernel_rfl)) rfl))
@[go_sem] theorem g127 : execL (C b) 0 c117 K (ee3 x1 x3 x6) S =
  withV (some x6) fun x25 =>
    withV (evBin .gtr (tyi Try.prog 3) x25 (.int .i64 400)) fun x26 =>
    withV (some x26) fun x27 =>
    withV (gval x27 false (evFieldAddr (tyi Try.prog 26) 1 x1)) fun x28 =>
    withV (gval x27 false (evLoad (tyi Try.prog 23) S x28)) fun x29 =>
    withV (gval x27 false (lenO (tyi Try.prog 23) x29)) fun x30 =>
    withV (gval x27 false (evBin .gtr (tyi Try.prog 3) x30 (.int .i64 400))) fun x31 =>
    withV (pickO x27 (.bool true) x31) fun x32 =>
    withV (some x32) fun x33 =>
    withV (gval x33 false (evFieldAddr (tyi Try.prog 26) 2 x1)) fun x34 =>
    withV (gval x33 false (evLoad (tyi Try.prog 24) S x34)) fun x35 =>
    withV (gval x33 false (lenO (tyi Try.prog 24) x35)) fun x36 =>
    withV (gval x33 false (evBin .gtr (tyi Try.prog 3) x36 (.int .i64 400))) fun x37 =>
    withV (pickO x33 (.bool true) x37) fun x38 =>
    withV (some x38) fun x39 =>
    withV (gval x39 false (some x3)) fun x40 =>
    withV (gval x39 false (evBin .gtr (tyi Try.prog 3) x40 (.int .i64 4000))) fun x41 =>
    withV (pickO x39 (.bool true) x41) fun x42 =>
    K .normal (ee12 x1 x6 x42) S := nr (by kernel_rfl)
@[go_sem] theorem k116_n : k116 b .normal (ee3 x1 x3 x6) S =
  execL (C b) 0 c117 (k119 b) (ee3 x1 x3 x6) S := nr (seqN ((enterS (by kernel_rfl)).trans (enterS (by kernel_rfl))))
def k128 (b : Nat) : KT := seqC (fun e S => execL (C b) 0 c6 (k0 b) e S) (k0 b)
@[go_sem] theorem g129 : execL (C b) 0 c7 K (ee5 x1 x3 x11 x12 x13 x14) S =
  withV (evFieldAddr (tyi Try.prog 26) 0 x1) fun x22 =>
    withV (evLoad (tyi Try.prog 22) S x22) fun x23 =>
    withV (lenO (tyi Try.prog 22) x23) fun x24 =>
    withV (some x24) fun x6 =>
    K .normal (ee3 x1 x3 x6) S := nr (by kernel_rfl)
@[go_sem] theorem k128_n : k128 b .normal e S = execL (C b) 0 c7 (k116 b) e S := nr (seqN (enterS (by kernel_rfl)))
def k130 (b : Nat) : KT := seqC (fun e S => execL (C b) 0 c4 (k0 b) e S) (k0 b)
def c131 : Code := at0 c5
def c132 : Code := at1 c5
def k133 (b : Nat) : KT := seqC (fun e S => execL (C b) 0 c132 (k128 b) e S) (k128 b)
def c134 : Code := atB c132
def k135 (b : Nat) : KT := blockC 0 (k128 b)
@[go_sem] theorem k135_exit : k135 b (.exit i) e S = if i = 0 then (k128 b) .normal e S else (k128 b) (.exit i) e S := nr (blockC_x _ _ _ _ _)
def c136 : Code := atL c134
def k137 (b n0 : Nat) : KT := afterC 0 n0 [1, 3] (k135 b)
def L0g (b n0 : Nat) (e : Env) (S : Store) : RT := loopL (fun K e S => execL (C b) 0 c136 K e S) (normG [1, 3, 11, 12, 13] [] n0) (k137 b n0) e S
def L0 (b n0 : Nat) (x1 x3 x11 x12 x13 : PV) (S : Store) : RT := L0g b n0 (ee4 x1 x3 x11 x12 x13) S
def k138 (b n0 : Nat) : KT := stepC (normG [1, 3, 11, 12, 13] [] n0) (k137 b n0) (L0g b n0)
@[go_sem] theorem k138_n : k138 b n0 .normal (ee4 x1 x3 x11 x12 x13) S = L0 b n0 x1 x3 x11 x12 x13 (gc n0 (ee4 x1 x3 x11 x12 x13) S) := nr (by kernel_rfl)
@[go_sem] theorem k138_x1 : k138 b n0 (.exit 0) (ee5 x1 x3 x11 x12 x13 x14) S = (k135 b) (.exit 0) (ee5 x1 x3 .undef .undef .undef .undef) (gc n0 (ee5 x1 x3 .undef .undef .undef .undef) S) := nr ((show k138 b n0 (.exit 0) (ee5 x1 x3 x11 x12 x13 x14) S = (k137 b n0) (.exit 0) (ee5 x1 x3 x11 x12 x13 x14) S from stepC_x _ _ _ _ _ _).trans ((show (k137 b n0) (.exit 0) (ee5 x1 x3 x11 x12 x13 x14) S = _ from afterC_x _ _ _ _ _ _ _).trans (if_pos rfl)))
def c139 : Code := at0 c136
def c140 : Code := at1 c136
def c142 : Code := at1 c140
def c143 : Code := at0 c142
def c144 : Code := at1 c142
def k145 (b n0 : Nat) : KT := seqC (fun e S => execL (C b) 0 c144 (k138 b n0) e S) (k138 b n0)
@[go_sem] theorem g146 : execL (C b) 0 c144 K (ee4 x1 x3 x11 x12 x13) S =
  withV (evBin .add (tyi Try.prog 3) x13 (.int .i64 1)) fun x21 =>
    withV (some x21) fun x13 =>
    K .normal (ee4 x1 x3 x11 x12 x13) S := nr (by kernel_rfl)
@[go_sem] theorem k145_n : k145 b n0 .normal e S = execL (C b) 0 c144 (k138 b n0) e S := nr (seqN rfl)
def k147 (b n0 : Nat) : KT := seqC (fun e S => execL (C b) 0 c142 (k138 b n0) e S) (k138 b n0)
def c148 : Code := atB c143
def k149 (b n0 : Nat) : KT := blockC 1 (k145 b n0)
@[go_sem] theorem k149_n : k149 b n0 .normal e S = (k145 b n0) .normal e S := nr (blockC_n _ _ _ _)
def c150 : Code := at0 c148
def c151 : Code := at1 c148
def k152 (b n0 : Nat) : KT := seqC (fun e S => execL (C b) 1 c151 (k149 b n0) e S) (k149 b n0)
@[go_sem] theorem g153 : execL (C b) 1 c151 K (ee2 x1 x3 x5 x11 x12 x13) S =
  withV (some x3) fun x17 =>
    withV (some x5) fun x18 =>
    withV (lenO (tyi Try.prog 22) x18) fun x19 =>
    withV (evBin .add (tyi Try.prog 3) x17 x19) fun x20 =>
    withV (some x20) fun x3 =>
    K .normal (ee4 x1 x3 x11 x12 x13) S := nr (by kernel_rfl)
@[go_sem] theorem k152_n : k152 b n0 .normal e S = execL (C b) 1 c151 (k149 b n0) e S := nr (seqN rfl)
@[go_sem] theorem g154 : execL (C b) 1 c150 K (ee5 x1 x3 x11 x12 x13 x14) S =
  withV (indexAddrO Try.prog 23 S x11 x13) fun x15 =>
    withV (evLoad (tyi Try.prog 22) S x15) fun x16 =>
    withV (some x16) fun x5 =>
    K .normal (ee2 x1 x3 x5 x11 x12 x13) S := nr (by kernel_rfl)
@[go_sem] theorem k147_n : k147 b n0 .normal (ee5 x1 x3 x11 x12 x13 x14) S =
  execL (C b) 1 c150 (k152 b n0) (ee5 x1 x3 x11 x12 x13 x14) S := nr (seqN ((enterS (by kernel_rfl)).trans ((blockE (by kernel_rfl)).trans (enterS (by kernel_rfl)))))
@[go_sem] theorem k147_exit : k147 b n0 (.exit i) e S = (k138 b n0) (.exit i) e S := nr (seqC_x _ _ _ _ _)
def k155 (b n0 : Nat) : KT := seqC (fun e S => execL (C b) 0 c140 (k138 b n0) e S) (k138 b n0)
@[go_sem] theorem k155_n : k155 b n0 .normal (ee5 x1 x3 x11 x12 x13 x14) S =
  condC x14 ((k147 b n0) .normal (ee5 x1 x3 x11 x12 x13 x14) S)
    ((k147 b n0) (.exit 0) (ee5 x1 x3 x11 x12 x13 x14) S) := nr (seqN ((enterS (by kernel_rfl)).trans (condE (t := 14) (by kernel_rfl) (execL_skip (by kernel_rfl)) (execL_exit (by kernel_rfl)) rfl)))
@[go_sem] theorem g158 : execL (C b) 0 c139 K (ee4 x1 x3 x11 x12 x13) S =
  withV (evBin .lss (tyi Try.prog 3) x13 x12) fun x14 =>
    K .normal (ee5 x1 x3 x11 x12 x13 x14) S := nr (by kernel_rfl)
def B0 (b n0 : Nat) (x1 x3 x11 x12 x13 : PV) (S : Store) : RT := execL (C b) 0 c136 (k138 b n0) (ee4 x1 x3 x11 x12 x13) S
@[go_sem] theorem B0_eq : B0 b n0 x1 x3 x11 x12 x13 S =
  execL (C b) 0 c139 (k155 b n0) (ee4 x1 x3 x11 x12 x13) S := nr (enterS (by kernel_rfl))
theorem L0_step {b n0 : Nat} {x1 x3 x11 x12 x13 : PV} {S : Store} {z : PV × Store} (h : B0 b n0 x1 x3 x11 x12 x13 S = some z) : L0 b n0 x1 x3 x11 x12 x13 S = some z := loopL_step h
theorem L0_in (b : Nat) (x1 x3 x11 x12 x13 : PV) (S : Store) : execL (C b) 0 c134 (k135 b) (ee4 x1 x3 x11 x12 x13) S = L0 b (List.length S) x1 x3 x11 x12 x13 S := by kernel_rfl
@[go_sem] theorem k133_n : k133 b .normal (ee4 x1 x3 x11 x12 x13) S =
  L0 b (List.length S) x1 x3 x11 x12 x13 S := nr (seqN ((blockE (by kernel_rfl)).trans (L0_in b x1 x3 x11 x12 x13 S)))
@[go_sem] theorem g160 : execL (C b) 0 c131 K (ee1 x1 x3) S =
  withV (evFieldAddr (tyi Try.prog 26) 1 x1) fun x10 =>
    withV (evLoad (tyi Try.prog 23) S x10) fun x11 =>
    withV (lenO (tyi Try.prog 23) x11) fun x12 =>
    withV (some (.int .i64 0)) fun x13 =>
    K .normal (ee4 x1 x3 x11 x12 x13) S := nr (by kernel_rfl)
@[go_sem] theorem k130_n : k130 b .normal (ee1 x1 x3) S =
  execL (C b) 0 c131 (k133 b) (ee1 x1 x3) S := nr (seqN ((enterS (by kernel_rfl)).trans (enterS (by kernel_rfl))))
def k161 (b : Nat) : KT := seqC (fun e S => execL (C b) 0 c2 (k0 b) e S) (k0 b)
@[go_sem] theorem g162 : execL (C b) 0 c3 K (ee0 x1) S =
  withV (some (.int .i64 0)) fun x3 =>
    K .normal (ee1 x1 x3) S := nr (by kernel_rfl)
@[go_sem] theorem k161_n : k161 b .normal e S = execL (C b) 0 c3 (k130 b) e S := nr (seqN (enterS (by kernel_rfl)))
@[go_sem] theorem g163 : execL (C b) 0 c1 K [(0, x0)] S =
  withN (boxed S (List.length S) (TI.size (tyi Try.prog 26)) x0) S fun x1 S =>
    withV (some (.int .i64 0)) fun x2 =>
    K .normal (ee0 x1) S := nr (by kernel_rfl)
def E (b : Nat) (x0 : PV) (S : Store) : RT := execL (C b) 0 code (k0 b) [(0, x0)] S
@[go_sem] theorem E_eq : E b x0 S =
  execL (C b) 0 c1 (k161 b) [(0, x0)] S := nr (enterS (by kernel_rfl))
@[go_sem] theorem gc_ee4 : gc n (ee4 x1 x3 x11 x12 x13) S = gc n [(1, x1), (3, x3), (11, x11), (12, x12), (13, x13)] S := nr (rfl)
@[go_sem] theorem gc_ee5 : gc n (ee5 x1 x3 x11 x12 x13 x14) S = gc n [(1, x1), (3, x3), (11, x11), (12, x12), (13, x13), (14, x14)] S := nr (rfl)
@[go_sem] theorem k0_ret16 : k0 b .ret (ee16 x2) S = some (x2, S) := nr (by kernel_rfl)
theorem call {x0 : PV} {r : PV × Store} {v : PV} (h : E 0 x0 [] = some r) (hv : fzPV r.2 r.1 = some v) : callL Try.prog hints 17 [x0] = some v := callL_of (fn := Try.f17) (c := code) (by kernel_rfl) (by kernel_rfl) (by decide) (by kernel_rfl) (Nat.le_of_ble_eq_true (by kernel_rfl)) h hv
end
end F17
/-! ### isochroneref23.Check -/
namespace F18
section
variable (b i n n0 n2 n4 : Nat) (K : KT) (x0 x1 x2 x3 x4 x5 x6 x7 x8 x16 x44 x56 x59 x75 x83 x117 : PV) (e : Env) (S : Store)
noncomputable def hint : Hint := { keep := [], loops := [(4, { live := [1, 3, 6, 7], after := [1, 3, 6], own := [], fz := [] }), (2, { live := [1, 3, 6], after := [], own := [], fz := [] }), (0, { live := [1, 3, 4, 5], after := [1, 3, 4], own := [], fz := [] })], regs := [(0, [1]), (1, [1, 3]), (2, [1, 3, 4]), (3, [1, 3, 4, 5]), (4, [1, 3, 4, 5, 16]), (5, [1, 3, 4, 5]), (6, [1, 3, 4, 5]), (7, [1, 3, 44]), (8, [2]), (9, [1, 3, 56]), (10, [2]), (11, [1, 3, 6]), (12, [1, 3, 6, 59]), (13, [1, 3, 6]), (14, [1, 3, 6, 75]), (15, [2]), (16, [1, 3, 6, 7]), (17, [1, 3, 6, 7, 83]), (18, [1, 3, 6, 7]), (19, [1, 3, 6, 7, 8]), (20, [1, 3, 6, 7, 117]), (21, [2]), (22, [2])] }
noncomputable def C (b : Nat) : Ctx := ctxL Try.prog hints b hint
noncomputable def code : Code := Try.f18.body.get rfl
noncomputable def k0 (b : Nat) : KT := endC Try.prog Try.f18
def ee0 (x1 : PV) : Env := [(1, x1)]
def ee1 (x1 x3 : PV) : Env := [(1, x1), (3, x3)]
def ee2 (x1 x3 x4 : PV) : Env := [(1, x1), (3, x3), (4, x4)]
def ee3 (x1 x3 x4 x5 : PV) : Env := [(1, x1), (3, x3), (4, x4), (5, x5)]
def ee4 (x1 x3 x4 x5 x16 : PV) : Env := [(1, x1), (3, x3), (4, x4), (5, x5), (16, x16)]
def ee5 (x1 x3 x6 : PV) : Env := [(1, x1), (3, x3), (6, x6)]
def ee6 (x1 x3 x6 x7 : PV) : Env := [(1, x1), (3, x3), (6, x6), (7, x7)]
def ee7 (x1 x3 x6 x7 x8 : PV) : Env := [(1, x1), (3, x3), (6, x6), (7, x7), (8, x8)]
def ee8 (x1 x3 x6 x7 x83 : PV) : Env := [(1, x1), (3, x3), (6, x6), (7, x7), (83, x83)]
def ee9 (x1 x3 x6 x7 x117 : PV) : Env := [(1, x1), (3, x3), (6, x6), (7, x7), (117, x117)]
def ee10 (x1 x3 x6 x59 : PV) : Env := [(1, x1), (3, x3), (6, x6), (59, x59)]
def ee11 (x1 x3 x6 x75 : PV) : Env := [(1, x1), (3, x3), (6, x6), (75, x75)]
def ee12 (x1 x3 x44 : PV) : Env := [(1, x1), (3, x3), (44, x44)]
def ee13 (x1 x3 x56 : PV) : Env := [(1, x1), (3, x3), (56, x56)]
def ee14 (x2 : PV) : Env := [(2, x2)]
def c1 : Code := at0 code
def c2 : Code := at1 code
def c3 : Code := at0 c2
def c4 : Code := at1 c2
def c5 : Code := at0 c4
def c6 : Code := at1 c4
def c7 : Code := at0 c6
def c8 : Code := at1 c6
def c9 : Code := at0 c8
def c10 : Code := at1 c8
def c11 : Code := at0 c10
def c12 : Code := at1 c10
def c13 : Code := at0 c12
def c14 : Code := at1 c12
def c15 : Code := at0 c14
def c16 : Code := at1 c14
def k17 (b : Nat) : KT := seqC (fun e S => execL (C b) 0 c16 (k0 b) e S) (k0 b)
@[go_sem] theorem k17_n : k17 b .normal (ee14 x2) S =
  (k0 b) .ret (ee14 x2) S := nr (seqN (execL_ret (by kernel_rfl)))
def k18 (b : Nat) : KT := seqC (fun e S => execL (C b) 0 c14 (k0 b) e S) (k0 b)
@[go_sem] theorem g19 : execL (C b) 0 c15 K (ee10 x1 x3 x6 x59) S =
  withV (some (.int .i64 0)) fun x2 =>
    K .normal (ee14 x2) S := nr (by kernel_rfl)
@[go_sem] theorem k18_n : k18 b .normal e S = execL (C b) 0 c15 (k17 b) e S := nr (seqN (enterS (by kernel_rfl)))
@[go_sem] theorem k18_ret : k18 b .ret e S = (k0 b) .ret e S := nr (seqC_r _ _ _ _)
def k20 (b : Nat) : KT := seqC (fun e S => execL (C b) 0 c12 (k0 b) e S) (k0 b)
def c21 : Code := at0 c13
def c22 : Code := at1 c13
def k23 (b : Nat) : KT := seqC (fun e S => execL (C b) 0 c22 (k18 b) e S) (k18 b)
def c24 : Code := atB c22
def k25 (b : Nat) : KT := blockC 2 (k18 b)
@[go_sem] theorem k25_ret : k25 b .ret e S = (k18 b) .ret e S := nr (blockC_r _ _ _ _)
@[go_sem] theorem k25_exit : k25 b (.exit i) e S = if i = 2 then (k18 b) .normal e S else (k18 b) (.exit i) e S := nr (blockC_x _ _ _ _ _)
def c26 : Code := atL c24
def k27 (b n2 : Nat) : KT := afterC 2 n2 [] (k25 b)
def L2g (b n2 : Nat) (e : Env) (S : Store) : RT := loopL (fun K e S => execL (C b) 2 c26 K e S) (normG [1, 3, 6] [] n2) (k27 b n2) e S
def L2 (b n2 : Nat) (x1 x3 x6 : PV) (S : Store) : RT := L2g b n2 (ee5 x1 x3 x6) S
def k28 (b n2 : Nat) : KT := stepC (normG [1, 3, 6] [] n2) (k27 b n2) (L2g b n2)
@[go_sem] theorem k28_n : k28 b n2 .normal (ee5 x1 x3 x6) S = L2 b n2 x1 x3 x6 (gc n2 (ee5 x1 x3 x6) S) := nr (by kernel_rfl)
@[go_sem] theorem k28_ret : k28 b n2 .ret e S = (k25 b) .ret e S := nr ((show k28 b n2 .ret e S = (k27 b n2) .ret e S from stepC_r _ _ _ _ _).trans (afterC_r _ _ _ _ _ _))
@[go_sem] theorem k28_x1 : k28 b n2 (.exit 2) (ee10 x1 x3 x6 x59) S = (k25 b) (.exit 2) (ee10 .undef .undef .undef .undef) (gc n2 (ee10 .undef .undef .undef .undef) S) := nr ((show k28 b n2 (.exit 2) (ee10 x1 x3 x6 x59) S = (k27 b n2) (.exit 2) (ee10 x1 x3 x6 x59) S from stepC_x _ _ _ _ _ _).trans ((show (k27 b n2) (.exit 2) (ee10 x1 x3 x6 x59) S = _ from afterC_x _ _ _ _ _ _ _).trans (if_pos rfl)))
def c29 : Code := at0 c26
def c30 : Code := at1 c26
def c31 : Code := at0 c30
def c32 : Code := at1 c30
def k33 (b n2 : Nat) : KT := seqC (fun e S => execL (C b) 2 c32 (k28 b n2) e S) (k28 b n2)
@[go_sem] theorem g34 : execL (C b) 2 c32 K (ee8 x1 x3 x6 x7 x83) S =
  withV (some x6) fun x60 =>
    withV (evBin .add (tyi Try.prog 3) x60 (.int .i64 1)) fun x61 =>
    withV (some x61) fun x6 =>
    K .normal (ee5 x1 x3 x6) S := nr (by kernel_rfl)
@[go_sem] theorem k33_n : k33 b n2 .normal e S = execL (C b) 2 c32 (k28 b n2) e S := nr (seqN rfl)
@[go_sem] theorem k33_ret : k33 b n2 .ret e S = (k28 b n2) .ret e S := nr (seqC_r _ _ _ _)
def k35 (b n2 : Nat) : KT := seqC (fun e S => execL (C b) 2 c30 (k28 b n2) e S) (k28 b n2)
def c36 : Code := atB c31
def k37 (b n2 : Nat) : KT := blockC 3 (k33 b n2)
@[go_sem] theorem k37_n : k37 b n2 .normal e S = (k33 b n2) .normal e S := nr (blockC_n _ _ _ _)
@[go_sem] theorem k37_ret : k37 b n2 .ret e S = (k33 b n2) .ret e S := nr (blockC_r _ _ _ _)
def c38 : Code := at0 c36
def c39 : Code := at1 c36
def c40 : Code := at0 c39
def c41 : Code := at1 c39
def k42 (b n2 : Nat) : KT := seqC (fun e S => execL (C b) 3 c41 (k37 b n2) e S) (k37 b n2)
def c43 : Code := atB c41
def k44 (b n2 : Nat) : KT := blockC 4 (k37 b n2)
@[go_sem] theorem k44_ret : k44 b n2 .ret e S = (k37 b n2) .ret e S := nr (blockC_r _ _ _ _)
@[go_sem] theorem k44_exit : k44 b n2 (.exit i) e S = if i = 4 then (k37 b n2) .normal e S else (k37 b n2) (.exit i) e S := nr (blockC_x _ _ _ _ _)
def c45 : Code := atL c43
def k46 (b n2 n4 : Nat) : KT := afterC 4 n4 [1, 3, 6] (k44 b n2)
def L4g (b n2 n4 : Nat) (e : Env) (S : Store) : RT := loopL (fun K e S => execL (C b) 4 c45 K e S) (normG [1, 3, 6, 7] [] n4) (k46 b n2 n4) e S
def L4 (b n2 n4 : Nat) (x1 x3 x6 x7 : PV) (S : Store) : RT := L4g b n2 n4 (ee6 x1 x3 x6 x7) S
def k47 (b n2 n4 : Nat) : KT := stepC (normG [1, 3, 6, 7] [] n4) (k46 b n2 n4) (L4g b n2 n4)
@[go_sem] theorem k47_n : k47 b n2 n4 .normal (ee6 x1 x3 x6 x7) S = L4 b n2 n4 x1 x3 x6 x7 (gc n4 (ee6 x1 x3 x6 x7) S) := nr (by kernel_rfl)
@[go_sem] theorem k47_ret : k47 b n2 n4 .ret e S = (k44 b n2) .ret e S := nr ((show k47 b n2 n4 .ret e S = (k46 b n2 n4) .ret e S from stepC_r _ _ _ _ _).trans (afterC_r _ _ _ _ _ _))
@[go_sem] theorem k47_x1 : k47 b n2 n4 (.exit 4) (ee8 x1 x3 x6 x7 x83) S = (k44 b n2) (.exit 4) (ee8 x1 x3 x6 .undef .undef) (gc n4 (ee8 x1 x3 x6 .undef .undef) S) := nr ((show k47 b n2 n4 (.exit 4) (ee8 x1 x3 x6 x7 x83) S = (k46 b n2 n4) (.exit 4) (ee8 x1 x3 x6 x7 x83) S from stepC_x _ _ _ _ _ _).trans ((show (k46 b n2 n4) (.exit 4) (ee8 x1 x3 x6 x7 x83) S = _ from afterC_x _ _ _ _ _ _ _).trans (if_pos rfl)))
def c48 : Code := at0 c45
def c49 : Code := at1 c45
def c50 : Code := at0 c49
def c51 : Code := at1 c49
def k52 (b n2 n4 : Nat) : KT := seqC (fun e S => execL (C b) 4 c51 (k47 b n2 n4) e S) (k47 b n2 n4)
@[go_sem] theorem g53 : execL (C b) 4 c51 K (ee9 x1 x3 x6 x7 x117) S =
  withV (some x7) fun x84 =>
    withV (evBin .add (tyi Try.prog 3) x84 (.int .i64 1)) fun x85 =>
    withV (some x85) fun x7 =>
    K .normal (ee6 x1 x3 x6 x7) S := nr (by kernel_rfl)
@[go_sem] theorem k52_n : k52 b n2 n4 .normal e S = execL (C b) 4 c51 (k47 b n2 n4) e S := nr (seqN rfl)
@[go_sem] theorem k52_ret : k52 b n2 n4 .ret e S = (k47 b n2 n4) .ret e S := nr (seqC_r _ _ _ _)
def k54 (b n2 n4 : Nat) : KT := seqC (fun e S => execL (C b) 4 c49 (k47 b n2 n4) e S) (k47 b n2 n4)
def c55 : Code := atB c50
def k56 (b n2 n4 : Nat) : KT := blockC 5 (k52 b n2 n4)
@[go_sem] theorem k56_n : k56 b n2 n4 .normal e S = (k52 b n2 n4) .normal e S := nr (blockC_n _ _ _ _)
@[go_sem] theorem k56_ret : k56 b n2 n4 .ret e S = (k52 b n2 n4) .ret e S := nr (blockC_r _ _ _ _)
def c57 : Code := at0 c55
def c58 : Code := at1 c55
def c59 : Code := at0 c58
def c60 : Code := at1 c58
def k61 (b n2 n4 : Nat) : KT := seqC (fun e S => execL (C b) 5 c60 (k56 b n2 n4) e S) (k56 b n2 n4)
def c62 : Code := atT c60
def c65 : Code := at0 c62
def c66 : Code := at1 c62
def k67 (b n2 n4 : Nat) : KT := seqC (fun e S => execL (C b) 5 c66 (k56 b n2 n4) e S) (k56 b n2 n4)
@[go_sem] theorem k67_n : k67 b n2 n4 .normal (ee14 x2) S =
  (k56 b n2 n4) .ret (ee14 x2) S := nr (seqN (execL_ret (by kernel_rfl)))
@[go_sem] theorem g68 : execL (C b) 5 c65 K (ee9 x1 x3 x6 x7 x117) S =
  withV (some (.int .i64 3)) fun x2 =>
    K .normal (ee14 x2) S := nr (by kernel_rfl)
@[go_sem] theorem k61_n : k61 b n2 n4 .normal (ee9 x1 x3 x6 x7 x117) S =
  condC x117 (execL (C b) 5 c65 (k67 b n2 n4) (ee9 x1 x3 x6 x7 x117) S)
    ((k56 b n2 n4) .normal (ee9 x1 x3 x6 x7 x117) S) := nr (seqN (condE (t := 117) (by kernel_rfl) (enterS (by kernel_rfl)) (execL_skip (by kernel_rfl)) rfl))
def k69 (b n2 n4 : Nat) : KT := seqC (fun e S => execL (C b) 5 c58 (k56 b n2 n4) e S) (k56 b n2 n4)
@[go_sem] theorem g70 : execL (C b) 5 c59 K (ee7 x1 x3 x6 x7 x8) S =
  withV (some x8) fun x94 =>
    withV (evBin .lss (tyi Try.prog 3) x94 (.int .i64 0)) fun x95 =>
    withV (some x95) fun x96 =>
    withV (gval x96 false (some x8)) fun x97 =>
    withV (gval x96 false (some x3)) fun x98 =>
    withV (gval x96 false (evBin .geq (tyi Try.prog 3) x97 x98)) fun x99 =>
    withV (pickO x96 (.bool true) x99) fun x100 =>
    withV (some x100) fun x101 =>
    withV (gval x101 false (some x7)) fun x102 =>
    withV (gval x101 false (evBin .gtr (tyi Try.prog 3) x102 (.int .i64 0))) fun x103 =>
    withV (gval x101 false (some x103)) fun x104 =>
    withV (gval x104 true (evFieldAddr (tyi Try.prog 26) 1 x1)) fun x105 =>
    withV (gval x104 true (evLoad (tyi Try.prog 23) S x105)) fun x106 =>
    withV (gval x104 true (some x6)) fun x107 =>
    withV (gval x104 true (indexAddrO Try.prog 23 S x106 x107)) fun x108 =>
    withV (gval x104 true (evLoad (tyi Try.prog 22) S x108)) fun x109 =>
    withV (gval x104 true (some x7)) fun x110 =>
    withV (gval x104 true (evBin .sub (tyi Try.prog 3) x110 (.int .i64 1))) fun x111 =>
    withV (gval x104 true (indexAddrO Try.prog 22 S x109 x111)) fun x112 =>
    withV (gval x104 true (evLoad (tyi Try.prog 3) S x112)) fun x113 =>
    withV (gval x104 true (some x8)) fun x114 =>
    withV (gval x104 true (evBin .geq (tyi Try.prog 3) x113 x114)) fun x115 =>
    withV (gval x101 false (pickO x104 x115 (.bool false))) fun x116 =>
    withV (pickO x101 (.bool true) x116) fun x117 =>
    K .normal (ee9 x1 x3 x6 x7 x117) S := nr (by kernel_rfl)
@[go_sem] theorem k69_n : k69 b n2 n4 .normal e S = execL (C b) 5 c59 (k61 b n2 n4) e S := nr (seqN (enterS (by kernel_rfl)))
@[go_sem] theorem g71 : execL (C b) 5 c57 K (ee8 x1 x3 x6 x7 x83) S =
  withV (evFieldAddr (tyi Try.prog 26) 1 x1) fun x86 =>
    withV (evLoad (tyi Try.prog 23) S x86) fun x87 =>
    withV (some x6) fun x88 =>
    withV (indexAddrO Try.prog 23 S x87 x88) fun x89 =>
    withV (evLoad (tyi Try.prog 22) S x89) fun x90 =>
    withV (some x7) fun x91 =>
    withV (indexAddrO Try.prog 22 S x90 x91) fun x92 =>
    withV (evLoad (tyi Try.prog 3) S x92) fun x93 =>
    withV (some x93) fun x8 =>
    K .normal (ee7 x1 x3 x6 x7 x8) S := nr (by kernel_rfl)
@[go_sem] theorem k54_n : k54 b n2 n4 .normal (ee8 x1 x3 x6 x7 x83) S =
  execL (C b) 5 c57 (k69 b n2 n4) (ee8 x1 x3 x6 x7 x83) S := nr (seqN ((enterS (by kernel_rfl)).trans ((blockE (by kernel_rfl)).trans (enterS (by kernel_rfl)))))
@[go_sem] theorem k54_exit : k54 b n2 n4 (.exit i) e S = (k47 b n2 n4) (.exit i) e S := nr (seqC_x _ _ _ _ _)
def c72 : Code := at0 c48
def c73 : Code := at1 c48
def k74 (b n2 n4 : Nat) : KT := seqC (fun e S => execL (C b) 4 c73 (k54 b n2 n4) e S) (k54 b n2 n4)
@[go_sem] theorem k74_n : k74 b n2 n4 .normal (ee8 x1 x3 x6 x7 x83) S =
  condC x83 ((k54 b n2 n4) .normal (ee8 x1 x3 x6 x7 x83) S)
    ((k54 b n2 n4) (.exit 4) (ee8 x1 x3 x6 x7 x83) S) := nr (seqN (condE (t := 83) (by kernel_rfl) (execL_skip (by kernel_rfl)) (execL_exit (by kernel_rfl)) rfl))
@[go_sem] theorem g77 : execL (C b) 4 c72 K (ee6 x1 x3 x6 x7) S =
  withV (some x7) fun x76 =>
    withV (evFieldAddr (tyi Try.prog 26) 1 x1) fun x77 =>
    withV (evLoad (tyi Try.prog 23) S x77) fun x78 =>
    withV (some x6) fun x79 =>
    withV (indexAddrO Try.prog 23 S x78 x79) fun x80 =>
    withV (evLoad (tyi Try.prog 22) S x80) fun x81 =>
    withV (lenO (tyi Try.prog 22) x81) fun x82 =>
    withV (evBin .lss (tyi Try.prog 3) x76 x82) fun x83 =>
    K .normal (ee8 x1 x3 x6 x7 x83) S := nr (by kernel_rfl)
def B4 (b n2 n4 : Nat) (x1 x3 x6 x7 : PV) (S : Store) : RT := execL (C b) 4 c45 (k47 b n2 n4) (ee6 x1 x3 x6 x7) S
@[go_sem] theorem B4_eq : B4 b n2 n4 x1 x3 x6 x7 S =
  execL (C b) 4 c72 (k74 b n2 n4) (ee6 x1 x3 x6 x7) S := nr ((enterS (by kernel_rfl)).trans (enterS (by kernel_rfl)))
theorem L4_step {b n2 n4 : Nat} {x1 x3 x6 x7 : PV} {S : Store} {z : PV × Store} (h : B4 b n2 n4 x1 x3 x6 x7 S = some z) : L4 b n2 n4 x1 x3 x6 x7 S = some z := loopL_step h
theorem L4_in (b n2 : Nat) (x1 x3 x6 x7 : PV) (S : Store) : execL (C b) 4 c43 (k44 b n2) (ee6 x1 x3 x6 x7) S = L4 b n2 (List.length S) x1 x3 x6 x7 S := by kernel_rfl
@[go_sem] theorem k42_n : k42 b n2 .normal (ee6 x1 x3 x6 x7) S =
  L4 b n2 (List.length S) x1 x3 x6 x7 S := nr (seqN ((blockE (by kernel_rfl)).trans (L4_in b n2 x1 x3 x6 x7 S)))
def k79 (b n2 : Nat) : KT := seqC (fun e S => execL (C b) 3 c39 (k37 b n2) e S) (k37 b n2)
@[go_sem] theorem g80 : execL (C b) 3 c40 K (ee11 x1 x3 x6 x75) S =
  withV (some (.int .i64 0)) fun x7 =>
    K .normal (ee6 x1 x3 x6 x7) S := nr (by kernel_rfl)
@[go_sem] theorem k79_n : k79 b n2 .normal e S = execL (C b) 3 c40 (k42 b n2) e S := nr (seqN (enterS (by kernel_rfl)))
@[go_sem] theorem k79_ret : k79 b n2 .ret e S = (k37 b n2) .ret e S := nr (seqC_r _ _ _ _)
def c81 : Code := at0 c38
def c82 : Code := at1 c38
def k83 (b n2 : Nat) : KT := seqC (fun e S => execL (C b) 3 c82 (k79 b n2) e S) (k79 b n2)
def c84 : Code := atT c82
def c87 : Code := at0 c84
def c88 : Code := at1 c84
def k89 (b n2 : Nat) : KT := seqC (fun e S => execL (C b) 3 c88 (k79 b n2) e S) (k79 b n2)
@[go_sem] theorem k89_n : k89 b n2 .normal (ee14 x2) S =
  (k79 b n2) .ret (ee14 x2) S := nr (seqN (execL_ret (by kernel_rfl)))
@[go_sem] theorem g90 : execL (C b) 3 c87 K (ee11 x1 x3 x6 x75) S =
  withV (some (.int .i64 3)) fun x2 =>
    K .normal (ee14 x2) S := nr (by kernel_rfl)
@[go_sem] theorem k83_n : k83 b n2 .normal (ee11 x1 x3 x6 x75) S =
  condC x75 (execL (C b) 3 c87 (k89 b n2) (ee11 x1 x3 x6 x75) S)
    ((k79 b n2) .normal (ee11 x1 x3 x6 x75) S) := nr (seqN (condE (t := 75) (by kernel_rfl) (enterS (by kernel_rfl)) (execL_skip (by kernel_rfl)) rfl))
@[go_sem] theorem g91 : execL (C b) 3 c81 K (ee10 x1 x3 x6 x59) S =
  withV (evFieldAddr (tyi Try.prog 26) 0 x1) fun x62 =>
    withV (evLoad (tyi Try.prog 22) S x62) fun x63 =>
    withV (some x6) fun x64 =>
    withV (indexAddrO Try.prog 22 S x63 x64) fun x65 =>
    withV (evLoad (tyi Try.prog 3) S x65) fun x66 =>
    withV (evBin .neq (tyi Try.prog 3) x66 (.int .i64 0)) fun x67 =>
    withV (some x67) fun x68 =>
    withV (gval x68 true (evFieldAddr (tyi Try.prog 26) 0 x1)) fun x69 =>
    withV (gval x68 true (evLoad (tyi Try.prog 22) S x69)) fun x70 =>
    withV (gval x68 true (some x6)) fun x71 =>
    withV (gval x68 true (indexAddrO Try.prog 22 S x70 x71)) fun x72 =>
    withV (gval x68 true (evLoad (tyi Try.prog 3) S x72)) fun x73 =>
    withV (gval x68 true (evBin .neq (tyi Try.prog 3) x73 (.int .i64 1))) fun x74 =>
    withV (pickO x68 x74 (.bool false)) fun x75 =>
    K .normal (ee11 x1 x3 x6 x75) S := nr (by kernel_rfl)
@[go_sem] theorem k35_n : k35 b n2 .normal (ee10 x1 x3 x6 x59) S =
  execL (C b) 3 c81 (k83 b n2) (ee10 x1 x3 x6 x59) S := nr (seqN ((enterS (by kernel_rfl)).trans ((blockE (by kernel_rfl)).trans ((enterS (by kernel_rfl)).trans (enterS (by kernel_rfl))))))
@[go_sem] theorem k35_exit : k35 b n2 (.exit i) e S = (k28 b n2) (.exit i) e S := nr (seqC_x _ _ _ _ _)
def c92 : Code := at0 c29
def c93 : Code := at1 c29
def k94 (b n2 : Nat) : KT := seqC (fun e S => execL (C b) 2 c93 (k35 b n2) e S) (k35 b n2)
@[go_sem] theorem k94_n : k94 b n2 .normal (ee10 x1 x3 x6 x59) S =
  condC x59 ((k35 b n2) .normal (ee10 x1 x3 x6 x59) S)
    ((k35 b n2) (.exit 2) (ee10 x1 x3 x6 x59) S) := nr (seqN (condE (t := 59) (by kernel_rfl) (execL_skip (by kernel_rfl)) (execL_exit (by kernel_rfl)) rfl))
@[go_sem] theorem g97 : execL (C b) 2 c92 K (ee5 x1 x3 x6) S =
  withV (some x6) fun x57 =>
    withV (some x3) fun x58 =>
    withV (evBin .lss (tyi Try.prog 3) x57 x58) fun x59 =>
    K .normal (ee10 x1 x3 x6 x59) S := nr (by kernel_rfl)
def B2 (b n2 : Nat) (x1 x3 x6 : PV) (S : Store) : RT := execL (C b) 2 c26 (k28 b n2) (ee5 x1 x3 x6) S
@[go_sem] theorem B2_eq : B2 b n2 x1 x3 x6 S =
  execL (C b) 2 c92 (k94 b n2) (ee5 x1 x3 x6) S := nr ((enterS (by kernel_rfl)).trans (enterS (by kernel_rfl)))
theorem L2_step {b n2 : Nat} {x1 x3 x6 : PV} {S : Store} {z : PV × Store} (h : B2 b n2 x1 x3 x6 S = some z) : L2 b n2 x1 x3 x6 S = some z := loopL_step h
theorem L2_in (b : Nat) (x1 x3 x6 : PV) (S : Store) : execL (C b) 2 c24 (k25 b) (ee5 x1 x3 x6) S = L2 b (List.length S) x1 x3 x6 S := by kernel_rfl
@[go_sem] theorem k23_n : k23 b .normal (ee5 x1 x3 x6) S =
  L2 b (List.length S) x1 x3 x6 S := nr (seqN ((blockE (by kernel_rfl)).trans (L2_in b x1 x3 x6 S)))
@[go_sem] theorem g99 : execL (C b) 0 c21 K (ee13 x1 x3 x56) S =
  withV (some (.int .i64 0)) fun x6 =>
    K .normal (ee5 x1 x3 x6) S := nr (by kernel_rfl)
@[go_sem] theorem k20_n : k20 b .normal (ee13 x1 x3 x56) S =
  execL (C b) 0 c21 (k23 b) (ee13 x1 x3 x56) S := nr (seqN ((enterS (by kernel_rfl)).trans (enterS (by kernel_rfl))))
@[go_sem] theorem k20_ret : k20 b .ret e S = (k0 b) .ret e S := nr (seqC_r _ _ _ _)
def k100 (b : Nat) : KT := seqC (fun e S => execL (C b) 0 c10 (k0 b) e S) (k0 b)
def c101 : Code := at0 c11
def c102 : Code := at1 c11
def k103 (b : Nat) : KT := seqC (fun e S => execL (C b) 0 c102 (k20 b) e S) (k20 b)
def c104 : Code := atT c102
def c107 : Code := at0 c104
def c108 : Code := at1 c104
def k109 (b : Nat) : KT := seqC (fun e S => execL (C b) 0 c108 (k20 b) e S) (k20 b)
@[go_sem] theorem k109_n : k109 b .normal (ee14 x2) S =
  (k20 b) .ret (ee14 x2) S := nr (seqN (execL_ret (by kernel_rfl)))
@[go_sem] theorem g110 : execL (C b) 0 c107 K (ee13 x1 x3 x56) S =
  withV (some (.int .i64 3)) fun x2 =>
    K .normal (ee14 x2) S := nr (by kernel_rfl)
@[go_sem] theorem k103_n : k103 b .normal (ee13 x1 x3 x56) S =
  condC x56 (execL (C b) 0 c107 (k109 b) (ee13 x1 x3 x56) S)
    ((k20 b) .normal (ee13 x1 x3 x56) S) := nr (seqN (condE (t := 56) (by kernel_rfl) (enterS (by kernel_rfl)) (execL_skip (by kernel_rfl)) rfl))
@[go_sem] theorem g111 : execL (C b) 0 c101 K (ee12 x1 x3 x44) S =
  withV (evFieldAddr (tyi Try.prog 26) 1 x1) fun x45 =>
    withV (evLoad (tyi Try.prog 23) S x45) fun x46 =>
    withV (lenO (tyi Try.prog 23) x46) fun x47 =>
    withV (some x3) fun x48 =>
    withV (evBin .neq (tyi Try.prog 3) x47 x48) fun x49 =>
    withV (some x49) fun x50 =>
    withV (gval x50 false (evFieldAddr (tyi Try.prog 26) 2 x1)) fun x51 =>
    withV (gval x50 false (evLoad (tyi Try.prog 24) S x51)) fun x52 =>
    withV (gval x50 false (lenO (tyi Try.prog 24) x52)) fun x53 =>
    withV (gval x50 false (some x3)) fun x54 =>
    withV (gval x50 false (evBin .neq (tyi Try.prog 3) x53 x54)) fun x55 =>
    withV (pickO x50 (.bool true) x55) fun x56 =>
    K .normal (ee13 x1 x3 x56) S := nr (by kernel_rfl)
@[go_sem] theorem k100_n : k100 b .normal (ee12 x1 x3 x44) S =
  execL (C b) 0 c101 (k103 b) (ee12 x1 x3 x44) S := nr (seqN ((enterS (by kernel_rfl)).trans (enterS (by kernel_rfl))))
@[go_sem] theorem k100_ret : k100 b .ret e S = (k0 b) .ret e S := nr (seqC_r _ _ _ _)
def k112 (b : Nat) : KT := seqC (fun e S => execL (C b) 0 c8 (k0 b) e S) (k0 b)
def c113 : Code := at0 c9
def c114 : Code := at1 c9
def k115 (b : Nat) : KT := seqC (fun e S => execL (C b) 0 c114 (k100 b) e S) (k100 b)
def c116 : Code := atT c114
def c119 : Code := at0 c116
def c120 : Code := at1 c116
def k121 (b : Nat) : KT := seqC (fun e S => execL (C b) 0 c120 (k100 b) e S) (k100 b)
@[go_sem] theorem k121_n : k121 b .normal (ee14 x2) S =
  (k100 b) .ret (ee14 x2) S := nr (seqN (execL_ret (by kernel_rfl)))
@[go_sem] theorem g122 : execL (C b) 0 c119 K (ee12 x1 x3 x44) S =
  withV (some (.int .i64 2)) fun x2 =>
    K .normal (ee14 x2) S := nr (by kernel_rfl)
@[go_sem] theorem k115_n : k115 b .normal (ee12 x1 x3 x44) S =
  condC x44 (execL (C b) 0 c119 (k121 b) (ee12 x1 x3 x44) S)
    ((k100 b) .normal (ee12 x1 x3 x44) S) := nr (seqN (condE (t := 44) (by kernel_rfl) (enterS (by kernel_rfl)) (execL_skip (by kernel_rfl)) rfl))
@[go_sem] theorem g123 : execL (C b) 0 c113 K (ee4 x1 x3 x4 x5 x16) S =
  withV (some x3) fun x27 =>
    withV (evBin .gtr (tyi Try.prog 3) x27 (.int .i64 400)) fun x28 =>
    withV (some x28) fun x29 =>
    withV (gval x29 false (evFieldAddr (tyi Try.prog 26) 1 x1)) fun x30 =>
    withV (gval x29 false (evLoad (tyi Try.prog 23) S x30)) fun x31 =>
    withV (gval x29 false (lenO (tyi Try.prog 23) x31)) fun x32 =>
    withV (gval x29 false (evBin .gtr (tyi Try.prog 3) x32 (.int .i64 400))) fun x33 =>
    withV (pickO x29 (.bool true) x33) fun x34 =>
    withV (some x34) fun x35 =>
    withV (gval x35 false (evFieldAddr (tyi Try.prog 26) 2 x1)) fun x36 =>
    withV (gval x35 false (evLoad (tyi Try.prog 24) S x36)) fun x37 =>
    withV (gval x35 false (lenO (tyi Try.prog 24) x37)) fun x38 =>
    withV (gval x35 false (evBin .gtr (tyi Try.prog 3) x38 (.int .i64 400))) fun x39 =>
    withV (pickO x35 (.bool true) x39) fun x40 =>
    withV (some x40) fun x41 =>
    withV (gval x41 false (some x4)) fun x42 =>
    withV (gval x41 false (evBin .gtr (tyi Try.prog 3) x42 (.int .i64 4000))) fun x43 =>
    withV (pickO x41 (.bool true) x43) fun x44 =>
    K .normal (ee12 x1 x3 x44) S := nr (by kernel_rfl)
@[go_sem] theorem k112_n : k112 b .normal (ee4 x1 x3 x4 x5 x16) S =
  execL (C b) 0 c113 (k115 b) (ee4 x1 x3 x4 x5 x16) S := nr (seqN ((enterS (by kernel_rfl)).trans (enterS (by kernel_rfl))))
def k124 (b : Nat) : KT := seqC (fun e S => execL (C b) 0 c6 (k0 b) e S) (k0 b)
def c125 : Code := at0 c7
def c126 : Code := at1 c7
def k127 (b : Nat) : KT := seqC (fun e S => execL (C b) 0 c126 (k112 b) e S) (k112 b)
def c128 : Code := atB c126
def k129 (b : Nat) : KT := blockC 0 (k112 b)
@[go_sem] theorem k129_exit : k129 b (.exit i) e S = if i = 0 then (k112 b) .normal e S else (k112 b) (.exit i) e S := nr (blockC_x _ _ _ _ _)
def c130 : Code := atL c128
def k131 (b n0 : Nat) : KT := afterC 0 n0 [1, 3, 4] (k129 b)
def L0g (b n0 : Nat) (e : Env) (S : Store) : RT := loopL (fun K e S => execL (C b) 0 c130 K e S) (normG [1, 3, 4, 5] [] n0) (k131 b n0) e S
def L0 (b n0 : Nat) (x1 x3 x4 x5 : PV) (S : Store) : RT := L0g b n0 (ee3 x1 x3 x4 x5) S
def k132 (b n0 : Nat) : KT := stepC (normG [1, 3, 4, 5] [] n0) (k131 b n0) (L0g b n0)
@[go_sem] theorem k132_n : k132 b n0 .normal (ee3 x1 x3 x4 x5) S = L0 b n0 x1 x3 x4 x5 (gc n0 (ee3 x1 x3 x4 x5) S) := nr (by kernel_rfl)
@[go_sem] theorem k132_x1 : k132 b n0 (.exit 0) (ee4 x1 x3 x4 x5 x16) S = (k129 b) (.exit 0) (ee4 x1 x3 x4 .undef .undef) (gc n0 (ee4 x1 x3 x4 .undef .undef) S) := nr ((show k132 b n0 (.exit 0) (ee4 x1 x3 x4 x5 x16) S = (k131 b n0) (.exit 0) (ee4 x1 x3 x4 x5 x16) S from stepC_x _ _ _ _ _ _).trans ((show (k131 b n0) (.exit 0) (ee4 x1 x3 x4 x5 x16) S = _ from afterC_x _ _ _ _ _ _ _).trans (if_pos rfl)))
def c133 : Code := at0 c130
def c134 : Code := at1 c130
def c135 : Code := at0 c134
def c136 : Code := at1 c134
def k137 (b n0 : Nat) : KT := seqC (fun e S => execL (C b) 0 c136 (k132 b n0) e S) (k132 b n0)
@[go_sem] theorem g138 : execL (C b) 0 c136 K (ee3 x1 x3 x4 x5) S =
  withV (some x5) fun x17 =>
    withV (evBin .add (tyi Try.prog 3) x17 (.int .i64 1)) fun x18 =>
    withV (some x18) fun x5 =>
    K .normal (ee3 x1 x3 x4 x5) S := nr (by kernel_rfl)
@[go_sem] theorem k137_n : k137 b n0 .normal e S = execL (C b) 0 c136 (k132 b n0) e S := nr (seqN rfl)
def k139 (b n0 : Nat) : KT := seqC (fun e S => execL (C b) 0 c134 (k132 b n0) e S) (k132 b n0)
def c140 : Code := atB c135
def k141 (b n0 : Nat) : KT := blockC 1 (k137 b n0)
@[go_sem] theorem k141_n : k141 b n0 .normal e S = (k137 b n0) .normal e S := nr (blockC_n _ _ _ _)
@[go_sem] theorem g142 : execL (C b) 1 c140 K (ee4 x1 x3 x4 x5 x16) S =
  withV (some x4) fun x19 =>
    withV (evFieldAddr (tyi Try.prog 26) 1 x1) fun x20 =>
    withV (evLoad (tyi Try.prog 23) S x20) fun x21 =>
    withV (some x5) fun x22 =>
    withV (indexAddrO Try.prog 23 S x21 x22) fun x23 =>
    withV (evLoad (tyi Try.prog 22) S x23) fun x24 =>
    withV (lenO (tyi Try.prog 22) x24) fun x25 =>
    withV (evBin .add (tyi Try.prog 3) x19 x25) fun x26 =>
    withV (some x26) fun x4 =>
    K .normal (ee3 x1 x3 x4 x5) S := nr (by kernel_rfl)
@[go_sem] theorem k139_n : k139 b n0 .normal (ee4 x1 x3 x4 x5 x16) S =
  execL (C b) 1 c140 (k141 b n0) (ee4 x1 x3 x4 x5 x16) S := nr (seqN ((enterS (by kernel_rfl)).trans (blockE (by kernel_rfl))))
@[go_sem] theorem k139_exit : k139 b n0 (.exit i) e S = (k132 b n0) (.exit i) e S := nr (seqC_x _ _ _ _ _)
def c143 : Code := at0 c133
def c144 : Code := at1 c133
def k145 (b n0 : Nat) : KT := seqC (fun e S => execL (C b) 0 c144 (k139 b n0) e S) (k139 b n0)
@[go_sem] theorem k145_n : k145 b n0 .normal (ee4 x1 x3 x4 x5 x16) S =
  condC x16 ((k139 b n0) .normal (ee4 x1 x3 x4 x5 x16) S)
    ((k139 b n0) (.exit 0) (ee4 x1 x3 x4 x5 x16) S) := nr (seqN (condE (t := 16) (by kernel_rfl) (execL_skip (by kernel_rfl)) (execL_exit (by kernel_rfl)) rfl))
@[go_sem] theorem g148 : execL (C b) 0 c143 K (ee3 x1 x3 x4 x5) S =
  withV (some x5) fun x12 =>
    withV (evFieldAddr (tyi Try.prog 26) 1 x1) fun x13 =>
    withV (evLoad (tyi Try.prog 23) S x13) fun x14 =>
    withV (lenO (tyi Try.prog 23) x14) fun x15 =>
    withV (evBin .lss (tyi Try.prog 3) x12 x15) fun x16 =>
    K .normal (ee4 x1 x3 x4 x5 x16) S := nr (by kernel_rfl)
def B0 (b n0 : Nat) (x1 x3 x4 x5 : PV) (S : Store) : RT := execL (C b) 0 c130 (k132 b n0) (ee3 x1 x3 x4 x5) S
@[go_sem] theorem B0_eq : B0 b n0 x1 x3 x4 x5 S =
  execL (C b) 0 c143 (k145 b n0) (ee3 x1 x3 x4 x5) S := nr ((enterS (by kernel_rfl)).trans (enterS (by kernel_rfl)))
theorem L0_step {b n0 : Nat} {x1 x3 x4 x5 : PV} {S : Store} {z : PV × Store} (h : B0 b n0 x1 x3 x4 x5 S = some z) : L0 b n0 x1 x3 x4 x5 S = some z := loopL_step h
theorem L0_in (b : Nat) (x1 x3 x4 x5 : PV) (S : Store) : execL (C b) 0 c128 (k129 b) (ee3 x1 x3 x4 x5) S = L0 b (List.length S) x1 x3 x4 x5 S := by kernel_rfl
@[go_sem] theorem k127_n : k127 b .normal (ee3 x1 x3 x4 x5) S =
  L0 b (List.length S) x1 x3 x4 x5 S := nr (seqN ((blockE (by kernel_rfl)).trans (L0_in b x1 x3 x4 x5 S)))
@[go_sem] theorem g150 : execL (C b) 0 c125 K (ee2 x1 x3 x4) S =
  withV (some (.int .i64 0)) fun x5 =>
    K .normal (ee3 x1 x3 x4 x5) S := nr (by kernel_rfl)
@[go_sem] theorem k124_n : k124 b .normal (ee2 x1 x3 x4) S =
  execL (C b) 0 c125 (k127 b) (ee2 x1 x3 x4) S := nr (seqN ((enterS (by kernel_rfl)).trans (enterS (by kernel_rfl))))
def k151 (b : Nat) : KT := seqC (fun e S => execL (C b) 0 c4 (k0 b) e S) (k0 b)
@[go_sem] theorem g152 : execL (C b) 0 c5 K (ee1 x1 x3) S =
  withV (some (.int .i64 0)) fun x4 =>
    K .normal (ee2 x1 x3 x4) S := nr (by kernel_rfl)
@[go_sem] theorem k151_n : k151 b .normal e S = execL (C b) 0 c5 (k124 b) e S := nr (seqN (enterS (by kernel_rfl)))
def k153 (b : Nat) : KT := seqC (fun e S => execL (C b) 0 c2 (k0 b) e S) (k0 b)
@[go_sem] theorem g154 : execL (C b) 0 c3 K (ee0 x1) S =
  withV (evFieldAddr (tyi Try.prog 26) 0 x1) fun x9 =>
    withV (evLoad (tyi Try.prog 22) S x9) fun x10 =>
    withV (lenO (tyi Try.prog 22) x10) fun x11 =>
    withV (some x11) fun x3 =>
    K .normal (ee1 x1 x3) S := nr (by kernel_rfl)
@[go_sem] theorem k153_n : k153 b .normal e S = execL (C b) 0 c3 (k151 b) e S := nr (seqN (enterS (by kernel_rfl)))
@[go_sem] theorem g155 : execL (C b) 0 c1 K [(0, x0)] S =
  withN (boxed S (List.length S) (TI.size (tyi Try.prog 26)) x0) S fun x1 S =>
    withV (some (.int .i64 0)) fun x2 =>
    K .normal (ee0 x1) S := nr (by kernel_rfl)
def E (b : Nat) (x0 : PV) (S : Store) : RT := execL (C b) 0 code (k0 b) [(0, x0)] S
@[go_sem] theorem E_eq : E b x0 S =
  execL (C b) 0 c1 (k153 b) [(0, x0)] S := nr (enterS (by kernel_rfl))
@[go_sem] theorem k0_ret14 : k0 b .ret (ee14 x2) S = some (x2, S) := nr (by kernel_rfl)
theorem call {x0 : PV} {r : PV × Store} {v : PV} (h : E 0 x0 [] = some r) (hv : fzPV r.2 r.1 = some v) : callL Try.prog hints 18 [x0] = some v := callL_of (fn := Try.f18) (c := code) (by kernel_rfl) (by kernel_rfl) (by decide) (by kernel_rfl) (Nat.le_of_ble_eq_true (by kernel_rfl)) h hv
end
end F18
/-! ### isochronelaw23.light -/
namespace F14
section
variable (b i n n0 : Nat) (K : KT) (x0 x1 x2 x3 x4 x26 x31 : PV) (e : Env) (S : Store)
noncomputable def hint : Hint := { keep := [], loops := [(0, { live := [1, 3, 4], after := [3], own := [], fz := [] })], regs := [(0, [1]), (1, [1, 26]), (2, [2]), (3, [1, 3]), (4, [1, 3, 4]), (5, [1, 3, 4, 31]), (6, [1, 3, 4]), (7, [1, 3, 4]), (8, [2])] }
noncomputable def C (b : Nat) : Ctx := ctxL Try.prog hints b hint
noncomputable def code : Code := Try.f14.body.get rfl
noncomputable def k0 (b : Nat) : KT := endC Try.prog Try.f14
def ee0 (x1 : PV) : Env := [(1, x1)]
def ee1 (x1 x3 : PV) : Env := [(1, x1), (3, x3)]
def ee2 (x1 x3 x4 : PV) : Env := [(1, x1), (3, x3), (4, x4)]
def ee3 (x1 x3 x4 x31 : PV) : Env := [(1, x1), (3, x3), (4, x4), (31, x31)]
def ee4 (x1 x26 : PV) : Env := [(1, x1), (26, x26)]
def ee5 (x2 : PV) : Env := [(2, x2)]
def c1 : Code := at0 code
def c2 : Code := at1 code
def c3 : Code := at0 c2
def c4 : Code := at1 c2
def c5 : Code := at0 c4
def c6 : Code := at1 c4
def c7 : Code := at0 c6
def c8 : Code := at1 c6
def c9 : Code := at0 c8
def c10 : Code := at1 c8
def k11 (b : Nat) : KT := seqC (fun e S => execL (C b) 0 c10 (k0 b) e S) (k0 b)
@[go_sem] theorem k11_n : k11 b .normal (ee5 x2) S =
  (k0 b) .ret (ee5 x2) S := nr (seqN (execL_ret (by kernel_rfl)))
def k12 (b : Nat) : KT := seqC (fun e S => execL (C b) 0 c8 (k0 b) e S) (k0 b)
@[go_sem] theorem g13 : execL (C b) 0 c9 K (ee3 x1 x3 x4 x31) S =
  withV (some x3) fun x42 =>
    withV (evBin .leq (tyi Try.prog 3) x42 (.int .i64 600)) fun x43 =>
    withV (some x43) fun x2 =>
    K .normal (ee5 x2) S := nr (by kernel_rfl)
@[go_sem] theorem k12_n : k12 b .normal e S = execL (C b) 0 c9 (k11 b) e S := nr (seqN (enterS (by kernel_rfl)))
def k14 (b : Nat) : KT := seqC (fun e S => execL (C b) 0 c6 (k0 b) e S) (k0 b)
def c15 : Code := at0 c7
def c16 : Code := at1 c7
def k17 (b : Nat) : KT := seqC (fun e S => execL (C b) 0 c16 (k12 b) e S) (k12 b)
def c18 : Code := atB c16
def k19 (b : Nat) : KT := blockC 0 (k12 b)
@[go_sem] theorem k19_exit : k19 b (.exit i) e S = if i = 0 then (k12 b) .normal e S else (k12 b) (.exit i) e S := nr (blockC_x _ _ _ _ _)
def c20 : Code := atL c18
def k21 (b n0 : Nat) : KT := afterC 0 n0 [3] (k19 b)
def L0g (b n0 : Nat) (e : Env) (S : Store) : RT := loopL (fun K e S => execL (C b) 0 c20 K e S) (normG [1, 3, 4] [] n0) (k21 b n0) e S
def L0 (b n0 : Nat) (x1 x3 x4 : PV) (S : Store) : RT := L0g b n0 (ee2 x1 x3 x4) S
def k22 (b n0 : Nat) : KT := stepC (normG [1, 3, 4] [] n0) (k21 b n0) (L0g b n0)
@[go_sem] theorem k22_n : k22 b n0 .normal (ee2 x1 x3 x4) S = L0 b n0 x1 x3 x4 (gc n0 (ee2 x1 x3 x4) S) := nr (by kernel_rfl)
@[go_sem] theorem k22_x1 : k22 b n0 (.exit 0) (ee3 x1 x3 x4 x31) S = (k19 b) (.exit 0) (ee3 .undef x3 .undef .undef) (gc n0 (ee3 .undef x3 .undef .undef) S) := nr ((show k22 b n0 (.exit 0) (ee3 x1 x3 x4 x31) S = (k21 b n0) (.exit 0) (ee3 x1 x3 x4 x31) S from stepC_x _ _ _ _ _ _).trans ((show (k21 b n0) (.exit 0) (ee3 x1 x3 x4 x31) S = _ from afterC_x _ _ _ _ _ _ _).trans (if_pos rfl)))
def c23 : Code := at0 c20
def c24 : Code := at1 c20
def c25 : Code := at0 c24
def c26 : Code := at1 c24
def k27 (b n0 : Nat) : KT := seqC (fun e S => execL (C b) 0 c26 (k22 b n0) e S) (k22 b n0)
@[go_sem] theorem g28 : execL (C b) 0 c26 K (ee2 x1 x3 x4) S =
  withV (some x4) fun x32 =>
    withV (evBin .add (tyi Try.prog 3) x32 (.int .i64 1)) fun x33 =>
    withV (some x33) fun x4 =>
    K .normal (ee2 x1 x3 x4) S := nr (by kernel_rfl)
@[go_sem] theorem k27_n : k27 b n0 .normal e S = execL (C b) 0 c26 (k22 b n0) e S := nr (seqN rfl)
def k29 (b n0 : Nat) : KT := seqC (fun e S => execL (C b) 0 c24 (k22 b n0) e S) (k22 b n0)
def c30 : Code := atB c25
def k31 (b n0 : Nat) : KT := blockC 1 (k27 b n0)
@[go_sem] theorem k31_n : k31 b n0 .normal e S = (k27 b n0) .normal e S := nr (blockC_n _ _ _ _)
@[go_sem] theorem g32 : execL (C b) 1 c30 K (ee3 x1 x3 x4 x31) S =
  withV (some x3) fun x34 =>
    withV (evFieldAddr (tyi Try.prog 26) 1 x1) fun x35 =>
    withV (evLoad (tyi Try.prog 23) S x35) fun x36 =>
    withV (some x4) fun x37 =>
    withV (indexAddrO Try.prog 23 S x36 x37) fun x38 =>
    withV (evLoad (tyi Try.prog 22) S x38) fun x39 =>
    withV (lenO (tyi Try.prog 22) x39) fun x40 =>
    withV (evBin .add (tyi Try.prog 3) x34 x40) fun x41 =>
    withV (some x41) fun x3 =>
    K .normal (ee2 x1 x3 x4) S := nr (by kernel_rfl)
@[go_sem] theorem k29_n : k29 b n0 .normal (ee3 x1 x3 x4 x31) S =
  execL (C b) 1 c30 (k31 b n0) (ee3 x1 x3 x4 x31) S := nr (seqN ((enterS (by kernel_rfl)).trans (blockE (by kernel_rfl))))
@[go_sem] theorem k29_exit : k29 b n0 (.exit i) e S = (k22 b n0) (.exit i) e S := nr (seqC_x _ _ _ _ _)
def c33 : Code := at0 c23
def c34 : Code := at1 c23
def k35 (b n0 : Nat) : KT := seqC (fun e S => execL (C b) 0 c34 (k29 b n0) e S) (k29 b n0)
@[go_sem] theorem k35_n : k35 b n0 .normal (ee3 x1 x3 x4 x31) S =
  condC x31 ((k29 b n0) .normal (ee3 x1 x3 x4 x31) S)
    ((k29 b n0) (.exit 0) (ee3 x1 x3 x4 x31) S) := nr (seqN (condE (t := 31) (by kernel_rfl) (execL_skip (by kernel_rfl)) (execL_exit (by kernel_rfl)) rfl))
@[go_sem] theorem g38 : execL (C b) 0 c33 K (ee2 x1 x3 x4) S =
  withV (some x4) fun x27 =>
    withV (evFieldAddr (tyi Try.prog 26) 1 x1) fun x28 =>
    withV (evLoad (tyi Try.prog 23) S x28) fun x29 =>
    withV (lenO (tyi Try.prog 23) x29) fun x30 =>
    withV (evBin .lss (tyi Try.prog 3) x27 x30) fun x31 =>
    K .normal (ee3 x1 x3 x4 x31) S := nr (by kernel_rfl)
def B0 (b n0 : Nat) (x1 x3 x4 : PV) (S : Store) : RT := execL (C b) 0 c20 (k22 b n0) (ee2 x1 x3 x4) S
@[go_sem] theorem B0_eq : B0 b n0 x1 x3 x4 S =
  execL (C b) 0 c33 (k35 b n0) (ee2 x1 x3 x4) S := nr ((enterS (by kernel_rfl)).trans (enterS (by kernel_rfl)))
theorem L0_step {b n0 : Nat} {x1 x3 x4 : PV} {S : Store} {z : PV × Store} (h : B0 b n0 x1 x3 x4 S = some z) : L0 b n0 x1 x3 x4 S = some z := loopL_step h
theorem L0_in (b : Nat) (x1 x3 x4 : PV) (S : Store) : execL (C b) 0 c18 (k19 b) (ee2 x1 x3 x4) S = L0 b (List.length S) x1 x3 x4 S := by kernel_rfl
@[go_sem] theorem k17_n : k17 b .normal (ee2 x1 x3 x4) S =
  L0 b (List.length S) x1 x3 x4 S := nr (seqN ((blockE (by kernel_rfl)).trans (L0_in b x1 x3 x4 S)))
@[go_sem] theorem g40 : execL (C b) 0 c15 K (ee1 x1 x3) S =
  withV (some (.int .i64 0)) fun x4 =>
    K .normal (ee2 x1 x3 x4) S := nr (by kernel_rfl)
@[go_sem] theorem k14_n : k14 b .normal (ee1 x1 x3) S =
  execL (C b) 0 c15 (k17 b) (ee1 x1 x3) S := nr (seqN ((enterS (by kernel_rfl)).trans (enterS (by kernel_rfl))))
def k41 (b : Nat) : KT := seqC (fun e S => execL (C b) 0 c4 (k0 b) e S) (k0 b)
@[go_sem] theorem g42 : execL (C b) 0 c5 K (ee4 x1 x26) S =
  withV (some (.int .i64 0)) fun x3 =>
    K .normal (ee1 x1 x3) S := nr (by kernel_rfl)
@[go_sem] theorem k41_n : k41 b .normal e S = execL (C b) 0 c5 (k14 b) e S := nr (seqN (enterS (by kernel_rfl)))
@[go_sem] theorem k41_ret : k41 b .ret e S = (k0 b) .ret e S := nr (seqC_r _ _ _ _)
def k43 (b : Nat) : KT := seqC (fun e S => execL (C b) 0 c2 (k0 b) e S) (k0 b)
def c44 : Code := at0 c3
def c45 : Code := at1 c3
def k46 (b : Nat) : KT := seqC (fun e S => execL (C b) 0 c45 (k41 b) e S) (k41 b)
def c47 : Code := atT c45
def c50 : Code := at0 c47
def c51 : Code := at1 c47
def k52 (b : Nat) : KT := seqC (fun e S => execL (C b) 0 c51 (k41 b) e S) (k41 b)
@[go_sem] theorem k52_n : k52 b .normal (ee5 x2) S =
  (k41 b) .ret (ee5 x2) S := nr (seqN (execL_ret (by kernel_rfl)))
@[go_sem] theorem g53 : execL (C b) 0 c50 K (ee4 x1 x26) S =
  withV (some (.bool false)) fun x2 =>
    K .normal (ee5 x2) S := nr (by kernel_rfl)
@[go_sem] theorem k46_n : k46 b .normal (ee4 x1 x26) S =
  condC x26 (execL (C b) 0 c50 (k52 b) (ee4 x1 x26) S)
    ((k41 b) .normal (ee4 x1 x26) S) := nr (seqN (condE (t := 26) (by kernel_rfl) (enterS (by kernel_rfl)) (execL_skip (by kernel_rfl)) rfl))
@[go_sem] theorem g54 : execL (C b) 0 c44 K (ee0 x1) S =
  withV (evFieldAddr (tyi Try.prog 26) 0 x1) fun x5 =>
    withV (evLoad (tyi Try.prog 22) S x5) fun x6 =>
    withV (lenO (tyi Try.prog 22) x6) fun x7 =>
    withV (evBin .gtr (tyi Try.prog 3) x7 (.int .i64 60)) fun x8 =>
    withV (some x8) fun x9 =>
    withV (gval x9 true (evFieldAddr (tyi Try.prog 26) 0 x1)) fun x10 =>
    withV (gval x9 true (evLoad (tyi Try.prog 22) S x10)) fun x11 =>
    withV (gval x9 true (lenO (tyi Try.prog 22) x11)) fun x12 =>
    withV (gval x9 true (evBin .leq (tyi Try.prog 3) x12 (.int .i64 400))) fun x13 =>
    withV (pickO x9 x13 (.bool false)) fun x14 =>
    withV (some x14) fun x15 =>
    withV (gval x15 false (evFieldAddr (tyi Try.prog 26) 0 x1)) fun x16 =>
    withV (gval x15 false (evLoad (tyi Try.prog 22) S x16)) fun x17 =>
    withV (gval x15 false (lenO (tyi Try.prog 22) x17)) fun x18 =>
    withV (gval x15 false (evBin .gtr (tyi Try.prog 3) x18 (.int .i64 2000))) fun x19 =>
    withV (pickO x15 (.bool true) x19) fun x20 =>
    withV (some x20) fun x21 =>
    withV (gval x21 false (evFieldAddr (tyi Try.prog 26) 1 x1)) fun x22 =>
    withV (gval x21 false (evLoad (tyi Try.prog 23) S x22)) fun x23 =>
    withV (gval x21 false (lenO (tyi Try.prog 23) x23)) fun x24 =>
    withV (gval x21 false (evBin .gtr (tyi Try.prog 3) x24 (.int .i64 2000))) fun x25 =>
    withV (pickO x21 (.bool true) x25) fun x26 =>
    K .normal (ee4 x1 x26) S := nr (by kernel_rfl)
@[go_sem] theorem k43_n : k43 b .normal (ee0 x1) S =
  execL (C b) 0 c44 (k46 b) (ee0 x1) S := nr (seqN ((enterS (by kernel_rfl)).trans (enterS (by kernel_rfl))))
@[go_sem] theorem g55 : execL (C b) 0 c1 K [(0, x0)] S =
  withN (boxed S (List.length S) (TI.size (tyi Try.prog 26)) x0) S fun x1 S =>
    withV (some (.bool false)) fun x2 =>
    K .normal (ee0 x1) S := nr (by kernel_rfl)
def E (b : Nat) (x0 : PV) (S : Store) : RT := execL (C b) 0 code (k0 b) [(0, x0)] S
@[go_sem] theorem E_eq : E b x0 S =
  execL (C b) 0 c1 (k43 b) [(0, x0)] S := nr (enterS (by kernel_rfl))
@[go_sem] theorem k0_ret5 : k0 b .ret (ee5 x2) S = some (x2, S) := nr (by kernel_rfl)
theorem call {x0 : PV} {r : PV × Store} {v : PV} (h : E 0 x0 [] = some r) (hv : fzPV r.2 r.1 = some v) : callL Try.prog hints 14 [x0] = some v := callL_of (fn := Try.f14) (c := code) (by kernel_rfl) (by kernel_rfl) (by decide) (by kernel_rfl) (Nat.le_of_ble_eq_true (by kernel_rfl)) h hv
end
end F14
/-! ### isochronelaw23.ints -/
namespace F19
section
variable (b : Nat) (K : KT) (x0 x1 x4 : PV) (e : Env) (S : Store)
end
end F19
/-! ### isochronelaw23.bools -/
namespace F22
section
variable (b i n n0 : Nat) (K : KT) (x0 x1 x4 x5 x10 x14 x25 : PV) (e : Env) (S : Store)
end
end F22
end
end Go.Vs
