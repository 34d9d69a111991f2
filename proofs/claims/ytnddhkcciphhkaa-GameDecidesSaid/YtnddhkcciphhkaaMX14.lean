/- Printed by a program of mine (stage1.py): the functions 83, 57, piece by piece. -/

import Derived.Test.YtnddhkcciphhkaaMX10
set_option linter.unusedVariables false
set_option linter.unusedSimpArgs false
namespace Go.Vs
open Go Go.Proofs
noncomputable section

/-! ### game.ranks$1 -/
namespace F83
section
variable (b i n n0 : Nat) (K : KT) (x0 x1 x2 x3 x7 x8 x9 x10 x11 x18 : PV) (e : Env) (S : Store)
noncomputable def hint : Hint := { keep := [], loops := [(0, { live := [1, 2, 3, 8, 9, 10], after := [], own := [], fz := [] })], regs := [(0, [1, 2, 3, 8, 9, 10]), (1, [1, 2, 3, 8, 9, 10, 11]), (2, [1, 2, 3, 7, 8, 9, 10]), (3, [1, 2, 3, 7, 8, 9, 10, 18]), (4, [1, 2, 3, 7, 8, 9, 10]), (5, [1, 2, 3, 7, 8, 9, 10, 18]), (6, [1, 2, 3, 8, 9, 10])] }
noncomputable def C (b : Nat) : Ctx := ctxL Try.prog hints b hint
noncomputable def code : Code := Try.f83.body.get rfl
noncomputable def k0 (b : Nat) : KT := endC Try.prog Try.f83
def ee0 (x1 x2 x3 x7 x8 x9 x10 : PV) : Env := [(1, x1), (2, x2), (3, x3), (7, x7), (8, x8), (9, x9), (10, x10)]
def ee1 (x1 x2 x3 x7 x8 x9 x10 x18 : PV) : Env := [(1, x1), (2, x2), (3, x3), (7, x7), (8, x8), (9, x9), (10, x10), (18, x18)]
def ee2 (x1 x2 x3 x8 x9 x10 : PV) : Env := [(1, x1), (2, x2), (3, x3), (8, x8), (9, x9), (10, x10)]
def ee3 (x1 x2 x3 x8 x9 x10 x11 : PV) : Env := [(1, x1), (2, x2), (3, x3), (8, x8), (9, x9), (10, x10), (11, x11)]
def c1 : Code := at0 code
def c2 : Code := at1 code
def k3 (b : Nat) : KT := seqC (fun e S => execL (C b) 0 c2 (k0 b) e S) (k0 b)
def c4 : Code := atB c2
def k5 (b : Nat) : KT := blockC 0 (k0 b)
@[go_sem] theorem k5_exit : k5 b (.exit i) e S = if i = 0 then (k0 b) .normal e S else (k0 b) (.exit i) e S := nr (blockC_x _ _ _ _ _)
def c6 : Code := atL c4
def k7 (b n0 : Nat) : KT := afterC 0 n0 [] (k5 b)
def L0g (b n0 : Nat) (e : Env) (S : Store) : RT := loopL (fun K e S => execL (C b) 0 c6 K e S) (normG [1, 2, 3, 8, 9, 10] [] n0) (k7 b n0) e S
def L0 (b n0 : Nat) (x1 x2 x3 x8 x9 x10 : PV) (S : Store) : RT := L0g b n0 (ee2 x1 x2 x3 x8 x9 x10) S
def k8 (b n0 : Nat) : KT := stepC (normG [1, 2, 3, 8, 9, 10] [] n0) (k7 b n0) (L0g b n0)
@[go_sem] theorem k8_n : k8 b n0 .normal (ee2 x1 x2 x3 x8 x9 x10) S = L0 b n0 x1 x2 x3 x8 x9 x10 (gc n0 (ee2 x1 x2 x3 x8 x9 x10) S) := nr (by kernel_rfl)
@[go_sem] theorem k8_x1 : k8 b n0 (.exit 0) (ee3 x1 x2 x3 x8 x9 x10 x11) S = (k5 b) (.exit 0) (ee3 .undef .undef .undef .undef .undef .undef .undef) (gc n0 (ee3 .undef .undef .undef .undef .undef .undef .undef) S) := nr ((show k8 b n0 (.exit 0) (ee3 x1 x2 x3 x8 x9 x10 x11) S = (k7 b n0) (.exit 0) (ee3 x1 x2 x3 x8 x9 x10 x11) S from stepC_x _ _ _ _ _ _).trans ((show (k7 b n0) (.exit 0) (ee3 x1 x2 x3 x8 x9 x10 x11) S = _ from afterC_x _ _ _ _ _ _ _).trans (if_pos rfl)))
def c9 : Code := at0 c6
def c10 : Code := at1 c6
def c12 : Code := at1 c10
def c13 : Code := at0 c12
def c14 : Code := at1 c12
def k15 (b n0 : Nat) : KT := seqC (fun e S => execL (C b) 0 c14 (k8 b n0) e S) (k8 b n0)
@[go_sem] theorem g16 : execL (C b) 0 c14 K (ee1 x1 x2 x3 x7 x8 x9 x10 x18) S =
  withV (evBin .add (tyi Try.prog 3) x10 (.int .i64 1)) fun x27 =>
    withV (some x27) fun x10 =>
    K .normal (ee2 x1 x2 x3 x8 x9 x10) S := nr (by kernel_rfl)
@[go_sem] theorem k15_n : k15 b n0 .normal e S = execL (C b) 0 c14 (k8 b n0) e S := nr (seqN rfl)
def k17 (b n0 : Nat) : KT := seqC (fun e S => execL (C b) 0 c12 (k8 b n0) e S) (k8 b n0)
def c18 : Code := atB c13
def k19 (b n0 : Nat) : KT := blockC 1 (k15 b n0)
@[go_sem] theorem k19_n : k19 b n0 .normal e S = (k15 b n0) .normal e S := nr (blockC_n _ _ _ _)
def c20 : Code := at0 c18
def c21 : Code := at1 c18
def c22 : Code := at0 c21
def c23 : Code := at1 c21
def k24 (b n0 : Nat) : KT := seqC (fun e S => execL (C b) 1 c23 (k19 b n0) e S) (k19 b n0)
def c25 : Code := atT c23
def c28 : Code := at0 c25
def c29 : Code := at1 c25
def k30 (b n0 : Nat) : KT := seqC (fun e S => execL (C b) 1 c29 (k19 b n0) e S) (k19 b n0)
@[go_sem] theorem g31 : execL (C b) 1 c29 K (ee0 x1 x2 x3 x7 x8 x9 x10) S =
  withV (evLoad (tyi Try.prog 22) S x3) fun x23 =>
    withV (some x7) fun x24 =>
    withN (buildSliceO Try.prog 22 (List.length S) 1 [0] [PV.cells x24]) S fun x25 S =>
    withE (appendE Try.prog b 22 22 S x23 x25) [(1, x1), (2, x2), (3, x3), (7, x7), (8, x8), (9, x9), (10, x10), (23, x23), (24, x24), (25, x25)] fun x26 e1 S =>
    withS (storeE (tyi Try.prog 22) S (Vs.get (put e1 26 x26) 3) (Vs.get (put e1 26 x26) 26)) fun _u S =>
    K .normal (ee1 (Vs.get (put e1 26 x26) 1) (Vs.get (put e1 26 x26) 2) (Vs.get (put e1 26 x26) 3) (Vs.get (put e1 26 x26) 7) (Vs.get (put e1 26 x26) 8) (Vs.get (put e1 26 x26) 9) (Vs.get (put e1 26 x26) 10) (Vs.get (put e1 26 x26) 18)) S := nr (by kernel_rfl)
@[go_sem] theorem k30_n : k30 b n0 .normal e S = execL (C b) 1 c29 (k19 b n0) e S := nr (seqN rfl)
@[go_sem] theorem g32 : execL (C b) 1 c28 K (ee1 x1 x2 x3 x7 x8 x9 x10 x18) S =
  withV (evLoad (tyi Try.prog 22) S x2) fun x19 =>
    withV (some x7) fun x20 =>
    withV (some x1) fun x21 =>
    withV (indexAddrO Try.prog 22 S x19 x20) fun x22 =>
    withS (storeE (tyi Try.prog 3) S x22 x21) fun _u S =>
    K .normal (ee0 x1 x2 x3 x7 x8 x9 x10) S := nr (by kernel_rfl)
@[go_sem] theorem k24_n : k24 b n0 .normal (ee1 x1 x2 x3 x7 x8 x9 x10 x18) S =
  condC x18 (execL (C b) 1 c28 (k30 b n0) (ee1 x1 x2 x3 x7 x8 x9 x10 x18) S)
    ((k19 b n0) .normal (ee1 x1 x2 x3 x7 x8 x9 x10 x18) S) := nr (seqN (condE (t := 18) (by kernel_rfl) (enterS (by kernel_rfl)) (execL_skip (by kernel_rfl)) rfl))
def k33 (b n0 : Nat) : KT := seqC (fun e S => execL (C b) 1 c21 (k19 b n0) e S) (k19 b n0)
@[go_sem] theorem g34 : execL (C b) 1 c22 K (ee0 x1 x2 x3 x7 x8 x9 x10) S =
  withV (evLoad (tyi Try.prog 22) S x2) fun x14 =>
    withV (some x7) fun x15 =>
    withV (indexAddrO Try.prog 22 S x14 x15) fun x16 =>
    withV (evLoad (tyi Try.prog 3) S x16) fun x17 =>
    withV (evBin .lss (tyi Try.prog 3) x17 (.int .i64 0)) fun x18 =>
    K .normal (ee1 x1 x2 x3 x7 x8 x9 x10 x18) S := nr (by kernel_rfl)
@[go_sem] theorem k33_n : k33 b n0 .normal e S = execL (C b) 1 c22 (k24 b n0) e S := nr (seqN (enterS (by kernel_rfl)))
@[go_sem] theorem g35 : execL (C b) 1 c20 K (ee3 x1 x2 x3 x8 x9 x10 x11) S =
  withV (indexAddrO Try.prog 22 S x8 x10) fun x12 =>
    withV (evLoad (tyi Try.prog 3) S x12) fun x13 =>
    withV (some x13) fun x7 =>
    K .normal (ee0 x1 x2 x3 x7 x8 x9 x10) S := nr (by kernel_rfl)
@[go_sem] theorem k17_n : k17 b n0 .normal (ee3 x1 x2 x3 x8 x9 x10 x11) S =
  execL (C b) 1 c20 (k33 b n0) (ee3 x1 x2 x3 x8 x9 x10 x11) S := nr (seqN ((enterS (by kernel_rfl)).trans ((blockE (by kernel_rfl)).trans (enterS (by kernel_rfl)))))
@[go_sem] theorem k17_exit : k17 b n0 (.exit i) e S = (k8 b n0) (.exit i) e S := nr (seqC_x _ _ _ _ _)
def k36 (b n0 : Nat) : KT := seqC (fun e S => execL (C b) 0 c10 (k8 b n0) e S) (k8 b n0)
@[go_sem] theorem k36_n : k36 b n0 .normal (ee3 x1 x2 x3 x8 x9 x10 x11) S =
  condC x11 ((k17 b n0) .normal (ee3 x1 x2 x3 x8 x9 x10 x11) S)
    ((k17 b n0) (.exit 0) (ee3 x1 x2 x3 x8 x9 x10 x11) S) := nr (seqN ((enterS (by kernel_rfl)).trans (condE (t := 11) (by kernel_rfl) (execL_skip (by kernel_rfl)) (execL_exit (by kernel_rfl)) rfl)))
@[go_sem] theorem g39 : execL (C b) 0 c9 K (ee2 x1 x2 x3 x8 x9 x10) S =
  withV (evBin .lss (tyi Try.prog 3) x10 x9) fun x11 =>
    K .normal (ee3 x1 x2 x3 x8 x9 x10 x11) S := nr (by kernel_rfl)
def B0 (b n0 : Nat) (x1 x2 x3 x8 x9 x10 : PV) (S : Store) : RT := execL (C b) 0 c6 (k8 b n0) (ee2 x1 x2 x3 x8 x9 x10) S
@[go_sem] theorem B0_eq : B0 b n0 x1 x2 x3 x8 x9 x10 S =
  execL (C b) 0 c9 (k36 b n0) (ee2 x1 x2 x3 x8 x9 x10) S := nr (enterS (by kernel_rfl))
theorem L0_step {b n0 : Nat} {x1 x2 x3 x8 x9 x10 : PV} {S : Store} {z : PV × Store} (h : B0 b n0 x1 x2 x3 x8 x9 x10 S = some z) : L0 b n0 x1 x2 x3 x8 x9 x10 S = some z := loopL_step h
theorem L0_in (b : Nat) (x1 x2 x3 x8 x9 x10 : PV) (S : Store) : execL (C b) 0 c4 (k5 b) (ee2 x1 x2 x3 x8 x9 x10) S = L0 b (List.length S) x1 x2 x3 x8 x9 x10 S := by kernel_rfl
@[go_sem] theorem k3_n : k3 b .normal (ee2 x1 x2 x3 x8 x9 x10) S =
  L0 b (List.length S) x1 x2 x3 x8 x9 x10 S := nr (seqN ((blockE (by kernel_rfl)).trans (L0_in b x1 x2 x3 x8 x9 x10 S)))
@[go_sem] theorem g41 : execL (C b) 0 c1 K [(0, x0), (1, x1), (2, x2), (3, x3)] S =
  withV (some x0) fun x8 =>
    withV (lenO (tyi Try.prog 22) x8) fun x9 =>
    withV (some (.int .i64 0)) fun x10 =>
    K .normal (ee2 x1 x2 x3 x8 x9 x10) S := nr (by kernel_rfl)
def E (b : Nat) (x0 x1 x2 x3 : PV) (S : Store) : RT := execL (C b) 0 code (k0 b) [(0, x0), (1, x1), (2, x2), (3, x3)] S
@[go_sem] theorem E_eq : E b x0 x1 x2 x3 S =
  execL (C b) 0 c1 (k3 b) [(0, x0), (1, x1), (2, x2), (3, x3)] S := nr (enterS (by kernel_rfl))
@[go_sem] theorem gc_ee3 : gc n (ee3 x1 x2 x3 x8 x9 x10 x11) S = gc n [(1, x1), (2, x2), (3, x3), (8, x8), (9, x9), (10, x10), (11, x11)] S := nr (rfl)
@[go_sem] theorem k0_n3 : k0 b .normal (ee3 x1 x2 x3 x8 x9 x10 x11) S = some ((.tup []), S) := nr (by kernel_rfl)
theorem callR {x0 x1 x2 x3 : PV} {S : Store} {r : PV × Store} (h : E S.length x0 x1 x2 x3 S = some r) : callRL Try.prog hints 83 [x0, x1, x2, x3] S = some r := callRL_of (fn := Try.f83) (c := code) (by kernel_rfl) (by kernel_rfl) (by decide) (by kernel_rfl) (Nat.le_of_ble_eq_true (by kernel_rfl)) h
end
end F83
/-! ### game.ranks -/
namespace F57
section
variable (b i n n0 n2 n4 n7 n9 n11 : Nat) (K : KT) (x0 x1 x2 x3 x4 x5 x6 x7 x8 x10 x11 x12 x13 x14 x15 x16 x17 x18 x20 x30 x31 x32 x50 x51 x52 x53 x69 x70 x71 x73 x83 x112 x119 x128 x129 x130 x131 x138 x157 x164 : PV) (e : Env) (S : Store)
noncomputable def hint : Hint := { keep := [], loops := [(11, { live := [1, 4, 5, 6, 7, 11, 13, 15, 16, 17, 18, 128, 129, 130], after := [1, 4, 5, 6, 7, 11, 13, 15, 16, 17, 18], own := [], fz := [] }), (9, { live := [1, 4, 5, 6, 7, 11, 13, 15, 16, 17, 18], after := [1, 4, 5, 6, 7, 11, 13, 15, 16, 18], own := [18], fz := [] }), (7, { live := [1, 4, 5, 6, 7, 11, 13, 15, 16], after := [4], own := [], fz := [] }), (4, { live := [1, 4, 5, 6, 7, 11, 12, 13, 69, 70], after := [1, 4, 5, 6, 7, 11, 12, 13], own := [12, 13], fz := [] }), (2, { live := [1, 3, 4, 5, 6, 7, 8, 30, 31, 50, 51, 52], after := [1, 3, 4, 5, 6, 7, 30, 31], own := [], fz := [] }), (0, { live := [1, 3, 4, 5, 6, 7, 30, 31], after := [1, 3, 4, 5, 6, 7], own := [1006], fz := [] })], regs := [(0, [1]), (1, [1, 3]), (2, [1, 3, 4, 5]), (3, [1, 3, 4, 5, 6]), (4, [1, 3, 4, 5, 6, 7]), (5, [1, 3, 4, 5, 6, 7, 30, 31]), (6, [1, 3, 4, 5, 6, 7, 30, 31, 32]), (7, [1, 3, 4, 5, 6, 7, 8, 30, 31]), (8, [1, 3, 4, 5, 6, 7, 8, 30, 31]), (9, [1, 3, 4, 5, 6, 7, 8, 30, 31]), (10, [1, 3, 4, 5, 6, 7, 8, 30, 31, 50, 51, 52]), (11, [1, 3, 4, 5, 6, 7, 8, 30, 31, 50, 51, 52, 53]), (12, [1, 3, 4, 5, 6, 7, 8, 10, 30, 31, 50, 51, 52]), (13, [1, 3, 4, 5, 6, 7, 8, 30, 31, 50, 51, 52]), (14, [1, 3, 4, 5, 6, 7, 8, 30, 31, 50, 51, 52]), (15, [1, 3, 4, 5, 6, 7, 30, 31]), (16, [1, 3, 4, 5, 6, 7, 11]), (17, [1, 3, 4, 5, 6, 7, 11, 12, 13]), (18, [1, 4, 5, 6, 7, 11, 12, 13, 69, 70]), (19, [1, 4, 5, 6, 7, 11, 12, 13, 69, 70, 71]), (20, [1, 4, 5, 6, 7, 11, 12, 13, 14, 69, 70]), (21, [1, 4, 5, 6, 7, 11, 12, 13, 14, 69, 70, 73]), (22, [1, 4, 5, 6, 7, 11, 12, 13, 14, 69, 70, 83]), (23, [1, 4, 5, 6, 7, 11, 12, 13, 14, 69, 70, 83]), (24, [1, 4, 5, 6, 7, 11, 12, 13, 14, 69, 70, 83]), (25, [1, 4, 5, 6, 7, 11, 12, 13, 69, 70]), (26, [1, 4, 5, 6, 7, 11, 13]), (27, [1, 4, 5, 6, 7, 11, 13, 15, 16]), (28, [1, 4, 5, 6, 7, 11, 13, 15, 16, 112]), (29, [1, 4, 5, 6, 7, 11, 13, 15, 16]), (30, [1, 4, 5, 6, 7, 11, 13, 15, 16, 17]), (31, [1, 4, 5, 6, 7, 11, 13, 15, 16, 17, 18]), (32, [1, 4, 5, 6, 7, 11, 13, 15, 16, 17, 18, 119]), (33, [1, 4, 5, 6, 7, 11, 13, 15, 16, 17, 18]), (34, [1, 4, 5, 6, 7, 11, 13, 15, 16, 17, 18, 128, 129, 130]), (35, [1, 4, 5, 6, 7, 11, 13, 15, 16, 17, 18, 128, 129, 130, 131]), (36, [1, 4, 5, 6, 7, 11, 13, 15, 16, 17, 18, 20, 128, 129, 130]), (37, [1, 4, 5, 6, 7, 11, 13, 15, 16, 17, 18, 20, 128, 129, 130, 138, 157]), (38, [1, 4, 5, 6, 7, 11, 13, 15, 16, 17, 18, 20, 128, 129, 130]), (39, [1, 4, 5, 6, 7, 11, 13, 15, 16, 17, 18, 20, 128, 129, 130, 138, 157]), (40, [1, 4, 5, 6, 7, 11, 13, 15, 16, 17, 18, 20, 128, 129, 130, 138, 157]), (41, [1, 4, 5, 6, 7, 11, 13, 15, 16, 17, 18, 128, 129, 130]), (42, [1, 4, 5, 6, 7, 11, 13, 15, 16, 18, 164]), (43, [1, 4, 5, 6, 7, 11, 13, 15, 16, 18, 164]), (44, [1, 4, 5, 6, 7, 11, 13, 15, 16]), (45, [2])] }
noncomputable def C (b : Nat) : Ctx := ctxL Try.prog hints b hint
noncomputable def code : Code := Try.f57.body.get rfl
noncomputable def k0 (b : Nat) : KT := endC Try.prog Try.f57
def ee0 (x1 : PV) : Env := [(1, x1)]
def ee1 (x1 x3 : PV) : Env := [(1, x1), (3, x3)]
def ee2 (x1 x3 x4 x5 : PV) : Env := [(1, x1), (3, x3), (4, x4), (5, x5)]
def ee3 (x1 x3 x4 x5 x6 : PV) : Env := [(1, x1), (3, x3), (4, x4), (5, x5), (6, x6)]
def ee4 (x1 x3 x4 x5 x6 x7 : PV) : Env := [(1, x1), (3, x3), (4, x4), (5, x5), (6, x6), (7, x7)]
def ee5 (x1 x3 x4 x5 x6 x7 x8 x10 x30 x31 x50 x51 x52 : PV) : Env := [(1, x1), (3, x3), (4, x4), (5, x5), (6, x6), (7, x7), (8, x8), (10, x10), (30, x30), (31, x31), (50, x50), (51, x51), (52, x52)]
def ee6 (x1 x3 x4 x5 x6 x7 x8 x30 x31 : PV) : Env := [(1, x1), (3, x3), (4, x4), (5, x5), (6, x6), (7, x7), (8, x8), (30, x30), (31, x31)]
def ee7 (x1 x3 x4 x5 x6 x7 x8 x30 x31 x50 x51 x52 : PV) : Env := [(1, x1), (3, x3), (4, x4), (5, x5), (6, x6), (7, x7), (8, x8), (30, x30), (31, x31), (50, x50), (51, x51), (52, x52)]
def ee8 (x1 x3 x4 x5 x6 x7 x8 x30 x31 x50 x51 x52 x53 : PV) : Env := [(1, x1), (3, x3), (4, x4), (5, x5), (6, x6), (7, x7), (8, x8), (30, x30), (31, x31), (50, x50), (51, x51), (52, x52), (53, x53)]
def ee9 (x1 x3 x4 x5 x6 x7 x11 : PV) : Env := [(1, x1), (3, x3), (4, x4), (5, x5), (6, x6), (7, x7), (11, x11)]
def ee10 (x1 x3 x4 x5 x6 x7 x11 x12 x13 : PV) : Env := [(1, x1), (3, x3), (4, x4), (5, x5), (6, x6), (7, x7), (11, x11), (12, x12), (13, x13)]
def ee11 (x1 x3 x4 x5 x6 x7 x30 x31 : PV) : Env := [(1, x1), (3, x3), (4, x4), (5, x5), (6, x6), (7, x7), (30, x30), (31, x31)]
def ee12 (x1 x3 x4 x5 x6 x7 x30 x31 x32 : PV) : Env := [(1, x1), (3, x3), (4, x4), (5, x5), (6, x6), (7, x7), (30, x30), (31, x31), (32, x32)]
def ee13 (x1 x4 x5 x6 x7 x11 x12 x13 x14 x69 x70 : PV) : Env := [(1, x1), (4, x4), (5, x5), (6, x6), (7, x7), (11, x11), (12, x12), (13, x13), (14, x14), (69, x69), (70, x70)]
def ee14 (x1 x4 x5 x6 x7 x11 x12 x13 x14 x69 x70 x73 : PV) : Env := [(1, x1), (4, x4), (5, x5), (6, x6), (7, x7), (11, x11), (12, x12), (13, x13), (14, x14), (69, x69), (70, x70), (73, x73)]
def ee15 (x1 x4 x5 x6 x7 x11 x12 x13 x14 x69 x70 x83 : PV) : Env := [(1, x1), (4, x4), (5, x5), (6, x6), (7, x7), (11, x11), (12, x12), (13, x13), (14, x14), (69, x69), (70, x70), (83, x83)]
def ee16 (x1 x4 x5 x6 x7 x11 x12 x13 x69 x70 : PV) : Env := [(1, x1), (4, x4), (5, x5), (6, x6), (7, x7), (11, x11), (12, x12), (13, x13), (69, x69), (70, x70)]
def ee17 (x1 x4 x5 x6 x7 x11 x12 x13 x69 x70 x71 : PV) : Env := [(1, x1), (4, x4), (5, x5), (6, x6), (7, x7), (11, x11), (12, x12), (13, x13), (69, x69), (70, x70), (71, x71)]
def ee18 (x1 x4 x5 x6 x7 x11 x13 : PV) : Env := [(1, x1), (4, x4), (5, x5), (6, x6), (7, x7), (11, x11), (13, x13)]
def ee19 (x1 x4 x5 x6 x7 x11 x13 x15 x16 : PV) : Env := [(1, x1), (4, x4), (5, x5), (6, x6), (7, x7), (11, x11), (13, x13), (15, x15), (16, x16)]
def ee20 (x1 x4 x5 x6 x7 x11 x13 x15 x16 x17 : PV) : Env := [(1, x1), (4, x4), (5, x5), (6, x6), (7, x7), (11, x11), (13, x13), (15, x15), (16, x16), (17, x17)]
def ee21 (x1 x4 x5 x6 x7 x11 x13 x15 x16 x17 x18 : PV) : Env := [(1, x1), (4, x4), (5, x5), (6, x6), (7, x7), (11, x11), (13, x13), (15, x15), (16, x16), (17, x17), (18, x18)]
def ee22 (x1 x4 x5 x6 x7 x11 x13 x15 x16 x17 x18 x20 x128 x129 x130 : PV) : Env := [(1, x1), (4, x4), (5, x5), (6, x6), (7, x7), (11, x11), (13, x13), (15, x15), (16, x16), (17, x17), (18, x18), (20, x20), (128, x128), (129, x129), (130, x130)]
def ee23 (x1 x4 x5 x6 x7 x11 x13 x15 x16 x17 x18 x20 x128 x129 x130 x138 x157 : PV) : Env := [(1, x1), (4, x4), (5, x5), (6, x6), (7, x7), (11, x11), (13, x13), (15, x15), (16, x16), (17, x17), (18, x18), (20, x20), (128, x128), (129, x129), (130, x130), (138, x138), (157, x157)]
def ee24 (x1 x4 x5 x6 x7 x11 x13 x15 x16 x17 x18 x119 : PV) : Env := [(1, x1), (4, x4), (5, x5), (6, x6), (7, x7), (11, x11), (13, x13), (15, x15), (16, x16), (17, x17), (18, x18), (119, x119)]
def ee25 (x1 x4 x5 x6 x7 x11 x13 x15 x16 x17 x18 x128 x129 x130 : PV) : Env := [(1, x1), (4, x4), (5, x5), (6, x6), (7, x7), (11, x11), (13, x13), (15, x15), (16, x16), (17, x17), (18, x18), (128, x128), (129, x129), (130, x130)]
def ee26 (x1 x4 x5 x6 x7 x11 x13 x15 x16 x17 x18 x128 x129 x130 x131 : PV) : Env := [(1, x1), (4, x4), (5, x5), (6, x6), (7, x7), (11, x11), (13, x13), (15, x15), (16, x16), (17, x17), (18, x18), (128, x128), (129, x129), (130, x130), (131, x131)]
def ee27 (x1 x4 x5 x6 x7 x11 x13 x15 x16 x18 x164 : PV) : Env := [(1, x1), (4, x4), (5, x5), (6, x6), (7, x7), (11, x11), (13, x13), (15, x15), (16, x16), (18, x18), (164, x164)]
def ee28 (x1 x4 x5 x6 x7 x11 x13 x15 x16 x112 : PV) : Env := [(1, x1), (4, x4), (5, x5), (6, x6), (7, x7), (11, x11), (13, x13), (15, x15), (16, x16), (112, x112)]
def ee29 (x2 : PV) : Env := [(2, x2)]
def c1 : Code := at0 code
def c2 : Code := at1 code
def c3 : Code := at0 c2
def c4 : Code := at1 c2
def c5 : Code := at0 c4
def c6 : Code := at1 c4
def c7 : Code := at0 c6
def c8 : Code := at1 c6
def c9 : Code := at0 c8
def c10 : Code := at1 c8
def c11 : Code := at0 c10
def c12 : Code := at1 c10
def c13 : Code := at0 c12
def c14 : Code := at1 c12
def c15 : Code := at0 c14
def c16 : Code := at1 c14
def c17 : Code := at0 c16
def c18 : Code := at1 c16
def c19 : Code := at0 c18
def c20 : Code := at1 c18
def c21 : Code := at0 c20
def c22 : Code := at1 c20
def c23 : Code := at0 c22
def c24 : Code := at1 c22
def k25 (b : Nat) : KT := seqC (fun e S => execL (C b) 0 c24 (k0 b) e S) (k0 b)
@[go_sem] theorem k25_n : k25 b .normal (ee29 x2) S =
  (k0 b) .ret (ee29 x2) S := nr (seqN (execL_ret (by kernel_rfl)))
def k26 (b : Nat) : KT := seqC (fun e S => execL (C b) 0 c22 (k0 b) e S) (k0 b)
@[go_sem] theorem g27 : execL (C b) 0 c23 K (ee28 x1 x4 x5 x6 x7 x11 x13 x15 x16 x112) S =
  withV (evLoad (tyi Try.prog 22) S x4) fun x173 =>
    withV (some x173) fun x2 =>
    K .normal (ee29 x2) S := nr (by kernel_rfl)
@[go_sem] theorem k26_n : k26 b .normal e S = execL (C b) 0 c23 (k25 b) e S := nr (seqN (enterS (by kernel_rfl)))
def k28 (b : Nat) : KT := seqC (fun e S => execL (C b) 0 c20 (k0 b) e S) (k0 b)
def c29 : Code := at0 c21
def c30 : Code := at1 c21
def k31 (b : Nat) : KT := seqC (fun e S => execL (C b) 0 c30 (k26 b) e S) (k26 b)
def c32 : Code := atB c30
def k33 (b : Nat) : KT := blockC 7 (k26 b)
@[go_sem] theorem k33_exit : k33 b (.exit i) e S = if i = 7 then (k26 b) .normal e S else (k26 b) (.exit i) e S := nr (blockC_x _ _ _ _ _)
def c34 : Code := atL c32
def k35 (b n7 : Nat) : KT := afterC 7 n7 [4] (k33 b)
def L7g (b n7 : Nat) (e : Env) (S : Store) : RT := loopL (fun K e S => execL (C b) 7 c34 K e S) (normG [1, 4, 5, 6, 7, 11, 13, 15, 16] [] n7) (k35 b n7) e S
def L7 (b n7 : Nat) (x1 x4 x5 x6 x7 x11 x13 x15 x16 : PV) (S : Store) : RT := L7g b n7 (ee19 x1 x4 x5 x6 x7 x11 x13 x15 x16) S
def k36 (b n7 : Nat) : KT := stepC (normG [1, 4, 5, 6, 7, 11, 13, 15, 16] [] n7) (k35 b n7) (L7g b n7)
@[go_sem] theorem k36_n : k36 b n7 .normal (ee19 x1 x4 x5 x6 x7 x11 x13 x15 x16) S = L7 b n7 x1 x4 x5 x6 x7 x11 x13 x15 x16 (gc n7 (ee19 x1 x4 x5 x6 x7 x11 x13 x15 x16) S) := nr (by kernel_rfl)
@[go_sem] theorem k36_x1 : k36 b n7 (.exit 7) (ee28 x1 x4 x5 x6 x7 x11 x13 x15 x16 x112) S = (k33 b) (.exit 7) (ee28 .undef x4 .undef .undef .undef .undef .undef .undef .undef .undef) (gc n7 (ee28 .undef x4 .undef .undef .undef .undef .undef .undef .undef .undef) S) := nr ((show k36 b n7 (.exit 7) (ee28 x1 x4 x5 x6 x7 x11 x13 x15 x16 x112) S = (k35 b n7) (.exit 7) (ee28 x1 x4 x5 x6 x7 x11 x13 x15 x16 x112) S from stepC_x _ _ _ _ _ _).trans ((show (k35 b n7) (.exit 7) (ee28 x1 x4 x5 x6 x7 x11 x13 x15 x16 x112) S = _ from afterC_x _ _ _ _ _ _ _).trans (if_pos rfl)))
def c37 : Code := at0 c34
def c38 : Code := at1 c34
def c39 : Code := at0 c38
def c40 : Code := at1 c38
def k41 (b n7 : Nat) : KT := seqC (fun e S => execL (C b) 7 c40 (k36 b n7) e S) (k36 b n7)
@[go_sem] theorem g42 : execL (C b) 7 c40 K (ee19 x1 x4 x5 x6 x7 x11 x13 x15 x16) S =
  withV (some x16) fun x113 =>
    withV (evBin .add (tyi Try.prog 3) x113 (.int .i64 1)) fun x114 =>
    withV (some x114) fun x16 =>
    K .normal (ee19 x1 x4 x5 x6 x7 x11 x13 x15 x16) S := nr (by kernel_rfl)
@[go_sem] theorem k41_n : k41 b n7 .normal e S = execL (C b) 7 c40 (k36 b n7) e S := nr (seqN rfl)
def k43 (b n7 : Nat) : KT := seqC (fun e S => execL (C b) 7 c38 (k36 b n7) e S) (k36 b n7)
def c44 : Code := atB c39
def k45 (b n7 : Nat) : KT := blockC 8 (k41 b n7)
@[go_sem] theorem k45_n : k45 b n7 .normal e S = (k41 b n7) .normal e S := nr (blockC_n _ _ _ _)
def c46 : Code := at0 c44
def c47 : Code := at1 c44
def c48 : Code := at0 c47
def c49 : Code := at1 c47
def c50 : Code := at0 c49
def c51 : Code := at1 c49
def c52 : Code := at0 c51
def c53 : Code := at1 c51
def k54 (b n7 : Nat) : KT := seqC (fun e S => execL (C b) 8 c53 (k45 b n7) e S) (k45 b n7)
@[go_sem] theorem g55 : execL (C b) 8 c53 K (ee27 x1 x4 x5 x6 x7 x11 x13 x15 x16 x18 x164) S =
  withV (some x11) fun x168 =>
    withV (some x18) fun x169 =>
    withV (some x16) fun x170 =>
    withV (evBin .add (tyi Try.prog 3) x170 (.int .i64 1)) fun x171 =>
    withS (callV (C b) S x168 [x169, x171]) fun x172 S =>
    K .normal (ee19 x1 x4 x5 x6 x7 x11 x13 x15 x16) S := nr (by kernel_rfl)
@[go_sem] theorem k54_n : k54 b n7 .normal e S = execL (C b) 8 c53 (k45 b n7) e S := nr (seqN rfl)
def k56 (b n7 : Nat) : KT := seqC (fun e S => execL (C b) 8 c51 (k45 b n7) e S) (k45 b n7)
def c57 : Code := at0 c52
def c58 : Code := at1 c52
def k59 (b n7 : Nat) : KT := seqC (fun e S => execL (C b) 8 c58 (k54 b n7) e S) (k54 b n7)
def c60 : Code := atT c58
@[go_sem] theorem g63 : execL (C b) 8 c60 K (ee27 x1 x4 x5 x6 x7 x11 x13 x15 x16 x18 x164) S =
  withV (some x18) fun x165 =>
    withV (some x13) fun x166 =>
    withE (appendE Try.prog b 22 22 S x165 x166) [(1, x1), (4, x4), (5, x5), (6, x6), (7, x7), (11, x11), (13, x13), (15, x15), (16, x16), (18, x18), (164, x164), (165, x165), (166, x166)] fun x167 e1 S =>
    withV (some (Vs.get (put e1 167 x167) 167)) fun x18 =>
    K .normal (ee27 (Vs.get (put (put e1 167 x167) 18 x18) 1) (Vs.get (put (put e1 167 x167) 18 x18) 4) (Vs.get (put (put e1 167 x167) 18 x18) 5) (Vs.get (put (put e1 167 x167) 18 x18) 6) (Vs.get (put (put e1 167 x167) 18 x18) 7) (Vs.get (put (put e1 167 x167) 18 x18) 11) (Vs.get (put (put e1 167 x167) 18 x18) 13) (Vs.get (put (put e1 167 x167) 18 x18) 15) (Vs.get (put (put e1 167 x167) 18 x18) 16) (Vs.get (put (put e1 167 x167) 18 x18) 18) (Vs.get (put (put e1 167 x167) 18 x18) 164)) S := nr (by kernel_rfl)
@[go_sem] theorem k59_n : k59 b n7 .normal (ee27 x1 x4 x5 x6 x7 x11 x13 x15 x16 x18 x164) S =
  condC x164 (execL (C b) 8 c60 (k54 b n7) (ee27 x1 x4 x5 x6 x7 x11 x13 x15 x16 x18 x164) S)
    ((k54 b n7) .normal (ee27 x1 x4 x5 x6 x7 x11 x13 x15 x16 x18 x164) S) := nr (seqN (condE (t := 164) (by kernel_rfl) (rfl) (execL_skip (by kernel_rfl)) rfl))
@[go_sem] theorem g64 : execL (C b) 8 c57 K (ee24 x1 x4 x5 x6 x7 x11 x13 x15 x16 x17 x18 x119) S =
  withV (some x16) fun x163 =>
    withV (evBin .eql (tyi Try.prog 3) x163 (.int .i64 0)) fun x164 =>
    K .normal (ee27 x1 x4 x5 x6 x7 x11 x13 x15 x16 x18 x164) S := nr (by kernel_rfl)
@[go_sem] theorem k56_n : k56 b n7 .normal (ee24 x1 x4 x5 x6 x7 x11 x13 x15 x16 x17 x18 x119) S =
  execL (C b) 8 c57 (k59 b n7) (ee24 x1 x4 x5 x6 x7 x11 x13 x15 x16 x17 x18 x119) S := nr (seqN ((enterS (by kernel_rfl)).trans (enterS (by kernel_rfl))))
def k65 (b n7 : Nat) : KT := seqC (fun e S => execL (C b) 8 c49 (k45 b n7) e S) (k45 b n7)
def c66 : Code := atB c50
def k67 (b n7 : Nat) : KT := blockC 9 (k56 b n7)
@[go_sem] theorem k67_exit : k67 b n7 (.exit i) e S = if i = 9 then (k56 b n7) .normal e S else (k56 b n7) (.exit i) e S := nr (blockC_x _ _ _ _ _)
def c68 : Code := atL c66
def k69 (b n7 n9 : Nat) : KT := afterC 9 n9 [1, 4, 5, 6, 7, 11, 13, 15, 16, 18] (k67 b n7)
def L9g (b n7 n9 : Nat) (e : Env) (S : Store) : RT := loopL (fun K e S => execL (C b) 9 c68 K e S) (normG [1, 4, 5, 6, 7, 11, 13, 15, 16, 17, 18] [] n9) (k69 b n7 n9) e S
def L9 (b n7 n9 : Nat) (x1 x4 x5 x6 x7 x11 x13 x15 x16 x17 x18 : PV) (S : Store) : RT := L9g b n7 n9 (ee21 x1 x4 x5 x6 x7 x11 x13 x15 x16 x17 x18) S
def k70 (b n7 n9 : Nat) : KT := stepC (normG [1, 4, 5, 6, 7, 11, 13, 15, 16, 17, 18] [] n9) (k69 b n7 n9) (L9g b n7 n9)
@[go_sem] theorem k70_n : k70 b n7 n9 .normal (ee21 x1 x4 x5 x6 x7 x11 x13 x15 x16 x17 x18) S = L9 b n7 n9 x1 x4 x5 x6 x7 x11 x13 x15 x16 x17 x18 (gc n9 (ee21 x1 x4 x5 x6 x7 x11 x13 x15 x16 x17 x18) S) := nr (by kernel_rfl)
@[go_sem] theorem k70_x1 : k70 b n7 n9 (.exit 9) (ee24 x1 x4 x5 x6 x7 x11 x13 x15 x16 x17 x18 x119) S = (k67 b n7) (.exit 9) (ee24 x1 x4 x5 x6 x7 x11 x13 x15 x16 .undef x18 .undef) (gc n9 (ee24 x1 x4 x5 x6 x7 x11 x13 x15 x16 .undef x18 .undef) S) := nr ((show k70 b n7 n9 (.exit 9) (ee24 x1 x4 x5 x6 x7 x11 x13 x15 x16 x17 x18 x119) S = (k69 b n7 n9) (.exit 9) (ee24 x1 x4 x5 x6 x7 x11 x13 x15 x16 x17 x18 x119) S from stepC_x _ _ _ _ _ _).trans ((show (k69 b n7 n9) (.exit 9) (ee24 x1 x4 x5 x6 x7 x11 x13 x15 x16 x17 x18 x119) S = _ from afterC_x _ _ _ _ _ _ _).trans (if_pos rfl)))
def c71 : Code := at0 c68
def c72 : Code := at1 c68
def c73 : Code := at0 c72
def c74 : Code := at1 c72
def k75 (b n7 n9 : Nat) : KT := seqC (fun e S => execL (C b) 9 c74 (k70 b n7 n9) e S) (k70 b n7 n9)
@[go_sem] theorem g76 : execL (C b) 9 c74 K (ee26 x1 x4 x5 x6 x7 x11 x13 x15 x16 x17 x18 x128 x129 x130 x131) S =
  withV (some x15) fun x120 =>
    withV (evBin .add (tyi Try.prog 3) x120 (.int .i64 1)) fun x121 =>
    withV (some x121) fun x15 =>
    K .normal (ee21 x1 x4 x5 x6 x7 x11 x13 x15 x16 x17 x18) S := nr (by kernel_rfl)
@[go_sem] theorem k75_n : k75 b n7 n9 .normal e S = execL (C b) 9 c74 (k70 b n7 n9) e S := nr (seqN rfl)
def k77 (b n7 n9 : Nat) : KT := seqC (fun e S => execL (C b) 9 c72 (k70 b n7 n9) e S) (k70 b n7 n9)
def c78 : Code := atB c73
def k79 (b n7 n9 : Nat) : KT := blockC 10 (k75 b n7 n9)
@[go_sem] theorem k79_n : k79 b n7 n9 .normal e S = (k75 b n7 n9) .normal e S := nr (blockC_n _ _ _ _)
def c80 : Code := at0 c78
def c81 : Code := at1 c78
def k82 (b n7 n9 : Nat) : KT := seqC (fun e S => execL (C b) 10 c81 (k79 b n7 n9) e S) (k79 b n7 n9)
def c83 : Code := atB c81
def k84 (b n7 n9 : Nat) : KT := blockC 11 (k79 b n7 n9)
@[go_sem] theorem k84_exit : k84 b n7 n9 (.exit i) e S = if i = 11 then (k79 b n7 n9) .normal e S else (k79 b n7 n9) (.exit i) e S := nr (blockC_x _ _ _ _ _)
def c85 : Code := atL c83
def k86 (b n7 n9 n11 : Nat) : KT := afterC 11 n11 [1, 4, 5, 6, 7, 11, 13, 15, 16, 17, 18] (k84 b n7 n9)
def L11g (b n7 n9 n11 : Nat) (e : Env) (S : Store) : RT := loopL (fun K e S => execL (C b) 11 c85 K e S) (normG [1, 4, 5, 6, 7, 11, 13, 15, 16, 17, 18, 128, 129, 130] [] n11) (k86 b n7 n9 n11) e S
def L11 (b n7 n9 n11 : Nat) (x1 x4 x5 x6 x7 x11 x13 x15 x16 x17 x18 x128 x129 x130 : PV) (S : Store) : RT := L11g b n7 n9 n11 (ee25 x1 x4 x5 x6 x7 x11 x13 x15 x16 x17 x18 x128 x129 x130) S
def k87 (b n7 n9 n11 : Nat) : KT := stepC (normG [1, 4, 5, 6, 7, 11, 13, 15, 16, 17, 18, 128, 129, 130] [] n11) (k86 b n7 n9 n11) (L11g b n7 n9 n11)
@[go_sem] theorem k87_n : k87 b n7 n9 n11 .normal (ee25 x1 x4 x5 x6 x7 x11 x13 x15 x16 x17 x18 x128 x129 x130) S = L11 b n7 n9 n11 x1 x4 x5 x6 x7 x11 x13 x15 x16 x17 x18 x128 x129 x130 (gc n11 (ee25 x1 x4 x5 x6 x7 x11 x13 x15 x16 x17 x18 x128 x129 x130) S) := nr (by kernel_rfl)
@[go_sem] theorem k87_x1 : k87 b n7 n9 n11 (.exit 11) (ee26 x1 x4 x5 x6 x7 x11 x13 x15 x16 x17 x18 x128 x129 x130 x131) S = (k84 b n7 n9) (.exit 11) (ee26 x1 x4 x5 x6 x7 x11 x13 x15 x16 x17 x18 .undef .undef .undef .undef) (gc n11 (ee26 x1 x4 x5 x6 x7 x11 x13 x15 x16 x17 x18 .undef .undef .undef .undef) S) := nr ((show k87 b n7 n9 n11 (.exit 11) (ee26 x1 x4 x5 x6 x7 x11 x13 x15 x16 x17 x18 x128 x129 x130 x131) S = (k86 b n7 n9 n11) (.exit 11) (ee26 x1 x4 x5 x6 x7 x11 x13 x15 x16 x17 x18 x128 x129 x130 x131) S from stepC_x _ _ _ _ _ _).trans ((show (k86 b n7 n9 n11) (.exit 11) (ee26 x1 x4 x5 x6 x7 x11 x13 x15 x16 x17 x18 x128 x129 x130 x131) S = _ from afterC_x _ _ _ _ _ _ _).trans (if_pos rfl)))
def c88 : Code := at0 c85
def c89 : Code := at1 c85
def c91 : Code := at1 c89
def c92 : Code := at0 c91
def c93 : Code := at1 c91
def k94 (b n7 n9 n11 : Nat) : KT := seqC (fun e S => execL (C b) 11 c93 (k87 b n7 n9 n11) e S) (k87 b n7 n9 n11)
@[go_sem] theorem g95 : execL (C b) 11 c93 K (ee23 x1 x4 x5 x6 x7 x11 x13 x15 x16 x17 x18 x20 x128 x129 x130 x138 x157) S =
  withV (evBin .add (tyi Try.prog 3) x130 (.int .i64 1)) fun x162 =>
    withV (some x162) fun x130 =>
    K .normal (ee25 x1 x4 x5 x6 x7 x11 x13 x15 x16 x17 x18 x128 x129 x130) S := nr (by kernel_rfl)
@[go_sem] theorem k94_n : k94 b n7 n9 n11 .normal e S = execL (C b) 11 c93 (k87 b n7 n9 n11) e S := nr (seqN rfl)
def k96 (b n7 n9 n11 : Nat) : KT := seqC (fun e S => execL (C b) 11 c91 (k87 b n7 n9 n11) e S) (k87 b n7 n9 n11)
def c97 : Code := atB c92
def k98 (b n7 n9 n11 : Nat) : KT := blockC 12 (k94 b n7 n9 n11)
@[go_sem] theorem k98_n : k98 b n7 n9 n11 .normal e S = (k94 b n7 n9 n11) .normal e S := nr (blockC_n _ _ _ _)
@[go_sem] theorem k98_exit : k98 b n7 n9 n11 (.exit i) e S = if i = 12 then (k94 b n7 n9 n11) .normal e S else (k94 b n7 n9 n11) (.exit i) e S := nr (blockC_x _ _ _ _ _)
def c99 : Code := at0 c97
def c100 : Code := at1 c97
def c101 : Code := at0 c100
def c102 : Code := at1 c100
def c103 : Code := at0 c102
def c104 : Code := at1 c102
def c105 : Code := at0 c104
def c106 : Code := at1 c104
def k107 (b n7 n9 n11 : Nat) : KT := seqC (fun e S => execL (C b) 12 c106 (k98 b n7 n9 n11) e S) (k98 b n7 n9 n11)
def c108 : Code := atT c106
@[go_sem] theorem g111 : execL (C b) 12 c108 K (ee23 x1 x4 x5 x6 x7 x11 x13 x15 x16 x17 x18 x20 x128 x129 x130 x138 x157) S =
  withV (some x18) fun x158 =>
    withV (some x20) fun x159 =>
    withN (buildSliceO Try.prog 22 (List.length S) 1 [0] [PV.cells x159]) S fun x160 S =>
    withE (appendE Try.prog b 22 22 S x158 x160) [(1, x1), (4, x4), (5, x5), (6, x6), (7, x7), (11, x11), (13, x13), (15, x15), (16, x16), (17, x17), (18, x18), (20, x20), (128, x128), (129, x129), (130, x130), (138, x138), (157, x157), (158, x158), (159, x159), (160, x160)] fun x161 e1 S =>
    withV (some (Vs.get (put e1 161 x161) 161)) fun x18 =>
    K .normal (ee23 (Vs.get (put (put e1 161 x161) 18 x18) 1) (Vs.get (put (put e1 161 x161) 18 x18) 4) (Vs.get (put (put e1 161 x161) 18 x18) 5) (Vs.get (put (put e1 161 x161) 18 x18) 6) (Vs.get (put (put e1 161 x161) 18 x18) 7) (Vs.get (put (put e1 161 x161) 18 x18) 11) (Vs.get (put (put e1 161 x161) 18 x18) 13) (Vs.get (put (put e1 161 x161) 18 x18) 15) (Vs.get (put (put e1 161 x161) 18 x18) 16) (Vs.get (put (put e1 161 x161) 18 x18) 17) (Vs.get (put (put e1 161 x161) 18 x18) 18) (Vs.get (put (put e1 161 x161) 18 x18) 20) (Vs.get (put (put e1 161 x161) 18 x18) 128) (Vs.get (put (put e1 161 x161) 18 x18) 129) (Vs.get (put (put e1 161 x161) 18 x18) 130) (Vs.get (put (put e1 161 x161) 18 x18) 138) (Vs.get (put (put e1 161 x161) 18 x18) 157)) S := nr (by kernel_rfl)
@[go_sem] theorem k107_n : k107 b n7 n9 n11 .normal (ee23 x1 x4 x5 x6 x7 x11 x13 x15 x16 x17 x18 x20 x128 x129 x130 x138 x157) S =
  condC x157 (execL (C b) 12 c108 (k98 b n7 n9 n11) (ee23 x1 x4 x5 x6 x7 x11 x13 x15 x16 x17 x18 x20 x128 x129 x130 x138 x157) S)
    ((k98 b n7 n9 n11) .normal (ee23 x1 x4 x5 x6 x7 x11 x13 x15 x16 x17 x18 x20 x128 x129 x130 x138 x157) S) := nr (seqN (condE (t := 157) (by kernel_rfl) (rfl) (execL_skip (by kernel_rfl)) rfl))
def k112 (b n7 n9 n11 : Nat) : KT := seqC (fun e S => execL (C b) 12 c104 (k98 b n7 n9 n11) e S) (k98 b n7 n9 n11)
@[go_sem] theorem g113 : execL (C b) 12 c105 K (ee22 x1 x4 x5 x6 x7 x11 x13 x15 x16 x17 x18 x20 x128 x129 x130) S =
  withV (evFieldAddr (tyi Try.prog 26) 0 x1) fun x145 =>
    withV (evLoad (tyi Try.prog 22) S x145) fun x146 =>
    withV (some x20) fun x147 =>
    withV (indexAddrO Try.prog 22 S x146 x147) fun x148 =>
    withV (evLoad (tyi Try.prog 3) S x148) fun x149 =>
    withV (evBin .eql (tyi Try.prog 3) x149 (.int .i64 0)) fun x150 =>
    withV (some x150) fun x151 =>
    withV (gval x151 false (some x5)) fun x152 =>
    withV (gval x151 false (some x20)) fun x153 =>
    withV (gval x151 false (indexAddrO Try.prog 22 S x152 x153)) fun x154 =>
    withV (gval x151 false (evLoad (tyi Try.prog 3) S x154)) fun x155 =>
    withV (gval x151 false (evBin .eql (tyi Try.prog 3) x155 (.int .i64 0))) fun x156 =>
    withV (pickO x151 (.bool true) x156) fun x157 =>
    K .normal (ee23 x1 x4 x5 x6 x7 x11 x13 x15 x16 x17 x18 x20 x128 x129 x130 .undef x157) S := nr (by kernel_rfl)
@[go_sem] theorem k112_n : k112 b n7 n9 n11 .normal e S = execL (C b) 12 c105 (k107 b n7 n9 n11) e S := nr (seqN (enterS (by kernel_rfl)))
def k114 (b n7 n9 n11 : Nat) : KT := seqC (fun e S => execL (C b) 12 c102 (k98 b n7 n9 n11) e S) (k98 b n7 n9 n11)
@[go_sem] theorem g115 : execL (C b) 12 c103 K (ee23 x1 x4 x5 x6 x7 x11 x13 x15 x16 x17 x18 x20 x128 x129 x130 x138 x157) S =
  withV (some x5) fun x139 =>
    withV (some x20) fun x140 =>
    withV (indexAddrO Try.prog 22 S x139 x140) fun x141 =>
    withV (evLoad (tyi Try.prog 3) S x141) fun x142 =>
    withV (evBin .sub (tyi Try.prog 3) x142 (.int .i64 1)) fun x143 =>
    withV (indexAddrO Try.prog 22 S x139 x140) fun x144 =>
    withS (storeE (tyi Try.prog 3) S x144 x143) fun _u S =>
    K .normal (ee22 x1 x4 x5 x6 x7 x11 x13 x15 x16 x17 x18 x20 x128 x129 x130) S := nr (by kernel_rfl)
@[go_sem] theorem k114_n : k114 b n7 n9 n11 .normal e S = execL (C b) 12 c103 (k112 b n7 n9 n11) e S := nr (seqN (enterS (by kernel_rfl)))
@[go_sem] theorem k114_exit : k114 b n7 n9 n11 (.exit i) e S = (k98 b n7 n9 n11) (.exit i) e S := nr (seqC_x _ _ _ _ _)
def k116 (b n7 n9 n11 : Nat) : KT := seqC (fun e S => execL (C b) 12 c100 (k98 b n7 n9 n11) e S) (k98 b n7 n9 n11)
def c117 : Code := at0 c101
def c118 : Code := at1 c101
def k119 (b n7 n9 n11 : Nat) : KT := seqC (fun e S => execL (C b) 12 c118 (k114 b n7 n9 n11) e S) (k114 b n7 n9 n11)
@[go_sem] theorem k119_n : k119 b n7 n9 n11 .normal (ee23 x1 x4 x5 x6 x7 x11 x13 x15 x16 x17 x18 x20 x128 x129 x130 x138 x157) S =
  condC x138 ((k114 b n7 n9 n11) (.exit 12) (ee23 x1 x4 x5 x6 x7 x11 x13 x15 x16 x17 x18 x20 x128 x129 x130 x138 x157) S)
    ((k114 b n7 n9 n11) .normal (ee23 x1 x4 x5 x6 x7 x11 x13 x15 x16 x17 x18 x20 x128 x129 x130 x138 x157) S) := nr (seqN (condE (t := 138) (by kernel_rfl) (execL_exit (by kernel_rfl)) (execL_skip (by kernel_rfl)) rfl))
@[go_sem] theorem g122 : execL (C b) 12 c117 K (ee22 x1 x4 x5 x6 x7 x11 x13 x15 x16 x17 x18 x20 x128 x129 x130) S =
  withV (evLoad (tyi Try.prog 22) S x4) fun x134 =>
    withV (some x20) fun x135 =>
    withV (indexAddrO Try.prog 22 S x134 x135) fun x136 =>
    withV (evLoad (tyi Try.prog 3) S x136) fun x137 =>
    withV (evBin .geq (tyi Try.prog 3) x137 (.int .i64 0)) fun x138 =>
    K .normal (ee23 x1 x4 x5 x6 x7 x11 x13 x15 x16 x17 x18 x20 x128 x129 x130 x138 .undef) S := nr (by kernel_rfl)
@[go_sem] theorem k116_n : k116 b n7 n9 n11 .normal (ee22 x1 x4 x5 x6 x7 x11 x13 x15 x16 x17 x18 x20 x128 x129 x130) S =
  execL (C b) 12 c117 (k119 b n7 n9 n11) (ee22 x1 x4 x5 x6 x7 x11 x13 x15 x16 x17 x18 x20 x128 x129 x130) S := nr (seqN ((enterS (by kernel_rfl)).trans (enterS (by kernel_rfl))))
@[go_sem] theorem g123 : execL (C b) 12 c99 K (ee26 x1 x4 x5 x6 x7 x11 x13 x15 x16 x17 x18 x128 x129 x130 x131) S =
  withV (indexAddrO Try.prog 22 S x128 x130) fun x132 =>
    withV (evLoad (tyi Try.prog 3) S x132) fun x133 =>
    withV (some x133) fun x20 =>
    K .normal (ee22 x1 x4 x5 x6 x7 x11 x13 x15 x16 x17 x18 x20 x128 x129 x130) S := nr (by kernel_rfl)
@[go_sem] theorem k96_n : k96 b n7 n9 n11 .normal (ee26 x1 x4 x5 x6 x7 x11 x13 x15 x16 x17 x18 x128 x129 x130 x131) S =
  execL (C b) 12 c99 (k116 b n7 n9 n11) (ee26 x1 x4 x5 x6 x7 x11 x13 x15 x16 x17 x18 x128 x129 x130 x131) S := nr (seqN ((enterS (by kernel_rfl)).trans ((blockE (by kernel_rfl)).trans (enterS (by kernel_rfl)))))
@[go_sem] theorem k96_exit : k96 b n7 n9 n11 (.exit i) e S = (k87 b n7 n9 n11) (.exit i) e S := nr (seqC_x _ _ _ _ _)
def k124 (b n7 n9 n11 : Nat) : KT := seqC (fun e S => execL (C b) 11 c89 (k87 b n7 n9 n11) e S) (k87 b n7 n9 n11)
@[go_sem] theorem k124_n : k124 b n7 n9 n11 .normal (ee26 x1 x4 x5 x6 x7 x11 x13 x15 x16 x17 x18 x128 x129 x130 x131) S =
  condC x131 ((k96 b n7 n9 n11) .normal (ee26 x1 x4 x5 x6 x7 x11 x13 x15 x16 x17 x18 x128 x129 x130 x131) S)
    ((k96 b n7 n9 n11) (.exit 11) (ee26 x1 x4 x5 x6 x7 x11 x13 x15 x16 x17 x18 x128 x129 x130 x131) S) := nr (seqN ((enterS (by kernel_rfl)).trans (condE (t := 131) (by kernel_rfl) (execL_skip (by kernel_rfl)) (execL_exit (by kernel_rfl)) rfl)))
@[go_sem] theorem g127 : execL (C b) 11 c88 K (ee25 x1 x4 x5 x6 x7 x11 x13 x15 x16 x17 x18 x128 x129 x130) S =
  withV (evBin .lss (tyi Try.prog 3) x130 x129) fun x131 =>
    K .normal (ee26 x1 x4 x5 x6 x7 x11 x13 x15 x16 x17 x18 x128 x129 x130 x131) S := nr (by kernel_rfl)
def B11 (b n7 n9 n11 : Nat) (x1 x4 x5 x6 x7 x11 x13 x15 x16 x17 x18 x128 x129 x130 : PV) (S : Store) : RT := execL (C b) 11 c85 (k87 b n7 n9 n11) (ee25 x1 x4 x5 x6 x7 x11 x13 x15 x16 x17 x18 x128 x129 x130) S
@[go_sem] theorem B11_eq : B11 b n7 n9 n11 x1 x4 x5 x6 x7 x11 x13 x15 x16 x17 x18 x128 x129 x130 S =
  execL (C b) 11 c88 (k124 b n7 n9 n11) (ee25 x1 x4 x5 x6 x7 x11 x13 x15 x16 x17 x18 x128 x129 x130) S := nr (enterS (by kernel_rfl))
theorem L11_step {b n7 n9 n11 : Nat} {x1 x4 x5 x6 x7 x11 x13 x15 x16 x17 x18 x128 x129 x130 : PV} {S : Store} {z : PV × Store} (h : B11 b n7 n9 n11 x1 x4 x5 x6 x7 x11 x13 x15 x16 x17 x18 x128 x129 x130 S = some z) : L11 b n7 n9 n11 x1 x4 x5 x6 x7 x11 x13 x15 x16 x17 x18 x128 x129 x130 S = some z := loopL_step h
theorem L11_in (b n7 n9 : Nat) (x1 x4 x5 x6 x7 x11 x13 x15 x16 x17 x18 x128 x129 x130 : PV) (S : Store) : execL (C b) 11 c83 (k84 b n7 n9) (ee25 x1 x4 x5 x6 x7 x11 x13 x15 x16 x17 x18 x128 x129 x130) S = L11 b n7 n9 (List.length S) x1 x4 x5 x6 x7 x11 x13 x15 x16 x17 x18 x128 x129 x130 S := by kernel_rfl
@[go_sem] theorem k82_n : k82 b n7 n9 .normal (ee25 x1 x4 x5 x6 x7 x11 x13 x15 x16 x17 x18 x128 x129 x130) S =
  L11 b n7 n9 (List.length S) x1 x4 x5 x6 x7 x11 x13 x15 x16 x17 x18 x128 x129 x130 S := nr (seqN ((blockE (by kernel_rfl)).trans (L11_in b n7 n9 x1 x4 x5 x6 x7 x11 x13 x15 x16 x17 x18 x128 x129 x130 S)))
@[go_sem] theorem g129 : execL (C b) 10 c80 K (ee24 x1 x4 x5 x6 x7 x11 x13 x15 x16 x17 x18 x119) S =
  withV (some x6) fun x122 =>
    withV (evLoad (tyi Try.prog 22) S x7) fun x123 =>
    withV (some x15) fun x124 =>
    withV (indexAddrO Try.prog 22 S x123 x124) fun x125 =>
    withV (evLoad (tyi Try.prog 3) S x125) fun x126 =>
    withV (indexAddrO Try.prog 23 S x122 x126) fun x127 =>
    withV (evLoad (tyi Try.prog 22) S x127) fun x128 =>
    withV (lenO (tyi Try.prog 22) x128) fun x129 =>
    withV (some (.int .i64 0)) fun x130 =>
    K .normal (ee25 x1 x4 x5 x6 x7 x11 x13 x15 x16 x17 x18 x128 x129 x130) S := nr (by kernel_rfl)
@[go_sem] theorem k77_n : k77 b n7 n9 .normal (ee24 x1 x4 x5 x6 x7 x11 x13 x15 x16 x17 x18 x119) S =
  execL (C b) 10 c80 (k82 b n7 n9) (ee24 x1 x4 x5 x6 x7 x11 x13 x15 x16 x17 x18 x119) S := nr (seqN ((enterS (by kernel_rfl)).trans ((blockE (by kernel_rfl)).trans (enterS (by kernel_rfl)))))
@[go_sem] theorem k77_exit : k77 b n7 n9 (.exit i) e S = (k70 b n7 n9) (.exit i) e S := nr (seqC_x _ _ _ _ _)
def c130 : Code := at0 c71
def c131 : Code := at1 c71
def k132 (b n7 n9 : Nat) : KT := seqC (fun e S => execL (C b) 9 c131 (k77 b n7 n9) e S) (k77 b n7 n9)
@[go_sem] theorem k132_n : k132 b n7 n9 .normal (ee24 x1 x4 x5 x6 x7 x11 x13 x15 x16 x17 x18 x119) S =
  condC x119 ((k77 b n7 n9) .normal (ee24 x1 x4 x5 x6 x7 x11 x13 x15 x16 x17 x18 x119) S)
    ((k77 b n7 n9) (.exit 9) (ee24 x1 x4 x5 x6 x7 x11 x13 x15 x16 x17 x18 x119) S) := nr (seqN (condE (t := 119) (by kernel_rfl) (execL_skip (by kernel_rfl)) (execL_exit (by kernel_rfl)) rfl))
@[go_sem] theorem g135 : execL (C b) 9 c130 K (ee21 x1 x4 x5 x6 x7 x11 x13 x15 x16 x17 x18) S =
  withV (some x15) fun x117 =>
    withV (some x17) fun x118 =>
    withV (evBin .lss (tyi Try.prog 3) x117 x118) fun x119 =>
    K .normal (ee24 x1 x4 x5 x6 x7 x11 x13 x15 x16 x17 x18 x119) S := nr (by kernel_rfl)
def B9 (b n7 n9 : Nat) (x1 x4 x5 x6 x7 x11 x13 x15 x16 x17 x18 : PV) (S : Store) : RT := execL (C b) 9 c68 (k70 b n7 n9) (ee21 x1 x4 x5 x6 x7 x11 x13 x15 x16 x17 x18) S
@[go_sem] theorem B9_eq : B9 b n7 n9 x1 x4 x5 x6 x7 x11 x13 x15 x16 x17 x18 S =
  execL (C b) 9 c130 (k132 b n7 n9) (ee21 x1 x4 x5 x6 x7 x11 x13 x15 x16 x17 x18) S := nr ((enterS (by kernel_rfl)).trans (enterS (by kernel_rfl)))
theorem L9_step {b n7 n9 : Nat} {x1 x4 x5 x6 x7 x11 x13 x15 x16 x17 x18 : PV} {S : Store} {z : PV × Store} (h : B9 b n7 n9 x1 x4 x5 x6 x7 x11 x13 x15 x16 x17 x18 S = some z) : L9 b n7 n9 x1 x4 x5 x6 x7 x11 x13 x15 x16 x17 x18 S = some z := loopL_step h
theorem L9_in (b n7 : Nat) (x1 x4 x5 x6 x7 x11 x13 x15 x16 x17 x18 : PV) (S : Store) : execL (C b) 9 c66 (k67 b n7) (ee21 x1 x4 x5 x6 x7 x11 x13 x15 x16 x17 x18) S = withO S x18 fun y18 S => L9 b n7 (List.length S) x1 x4 x5 x6 x7 x11 x13 x15 x16 x17 y18 S := (show execL (C b) 9 c66 (k67 b n7) (ee21 x1 x4 x5 x6 x7 x11 x13 x15 x16 x17 x18) S = (fun e S => (fzSlots [] e S).bind (fun r => L9g b n7 r.2.length r.1 r.2)) (ownAll [18] (keepOnly [1, 4, 5, 6, 7, 11, 13, 15, 16, 17, 18] (ee21 x1 x4 x5 x6 x7 x11 x13 x15 x16 x17 x18)) S).1 (ownAll [18] (keepOnly [1, 4, 5, 6, 7, 11, 13, 15, 16, 17, 18] (ee21 x1 x4 x5 x6 x7 x11 x13 x15 x16 x17 x18)) S).2 from by kernel_rfl).trans ((own_cons (fun e S => (fzSlots [] e S).bind (fun r => L9g b n7 r.2.length r.1 r.2)) 18 [] (e := (keepOnly [1, 4, 5, 6, 7, 11, 13, 15, 16, 17, 18] (ee21 x1 x4 x5 x6 x7 x11 x13 x15 x16 x17 x18))) (S := S) (by kernel_rfl) (by decide)).trans ((congrArg (withO S (get (keepOnly [1, 4, 5, 6, 7, 11, 13, 15, 16, 17, 18] (ee21 x1 x4 x5 x6 x7 x11 x13 x15 x16 x17 x18)) 18)) (funext fun y18 => funext fun S => show _ = (L9 b n7 (List.length S) x1 x4 x5 x6 x7 x11 x13 x15 x16 x17 y18 S) from (by kernel_rfl))).trans (by kernel_rfl)))
@[go_sem] theorem k65_n : k65 b n7 .normal (ee21 x1 x4 x5 x6 x7 x11 x13 x15 x16 x17 x18) S =
  withO S x18 fun y18 S => L9 b n7 (List.length S) x1 x4 x5 x6 x7 x11 x13 x15 x16 x17 y18 S := nr (seqN ((enterS (by kernel_rfl)).trans ((blockE (by kernel_rfl)).trans (L9_in b n7 x1 x4 x5 x6 x7 x11 x13 x15 x16 x17 x18 S))))
def k137 (b n7 : Nat) : KT := seqC (fun e S => execL (C b) 8 c47 (k45 b n7) e S) (k45 b n7)
@[go_sem] theorem g138 : execL (C b) 8 c48 K (ee20 x1 x4 x5 x6 x7 x11 x13 x15 x16 x17) S =
  withV (some (.sl [] true)) fun x18 =>
    K .normal (ee21 x1 x4 x5 x6 x7 x11 x13 x15 x16 x17 x18) S := nr (by kernel_rfl)
@[go_sem] theorem k137_n : k137 b n7 .normal e S = execL (C b) 8 c48 (k65 b n7) e S := nr (seqN (enterS (by kernel_rfl)))
@[go_sem] theorem g139 : execL (C b) 8 c46 K (ee28 x1 x4 x5 x6 x7 x11 x13 x15 x16 x112) S =
  withV (evLoad (tyi Try.prog 22) S x7) fun x115 =>
    withV (lenO (tyi Try.prog 22) x115) fun x116 =>
    withV (some x116) fun x17 =>
    K .normal (ee20 x1 x4 x5 x6 x7 x11 x13 x15 x16 x17) S := nr (by kernel_rfl)
@[go_sem] theorem k43_n : k43 b n7 .normal (ee28 x1 x4 x5 x6 x7 x11 x13 x15 x16 x112) S =
  execL (C b) 8 c46 (k137 b n7) (ee28 x1 x4 x5 x6 x7 x11 x13 x15 x16 x112) S := nr (seqN ((enterS (by kernel_rfl)).trans ((blockE (by kernel_rfl)).trans (enterS (by kernel_rfl)))))
@[go_sem] theorem k43_exit : k43 b n7 (.exit i) e S = (k36 b n7) (.exit i) e S := nr (seqC_x _ _ _ _ _)
def c140 : Code := at0 c37
def c141 : Code := at1 c37
def k142 (b n7 : Nat) : KT := seqC (fun e S => execL (C b) 7 c141 (k43 b n7) e S) (k43 b n7)
@[go_sem] theorem k142_n : k142 b n7 .normal (ee28 x1 x4 x5 x6 x7 x11 x13 x15 x16 x112) S =
  condC x112 ((k43 b n7) .normal (ee28 x1 x4 x5 x6 x7 x11 x13 x15 x16 x112) S)
    ((k43 b n7) (.exit 7) (ee28 x1 x4 x5 x6 x7 x11 x13 x15 x16 x112) S) := nr (seqN (condE (t := 112) (by kernel_rfl) (execL_skip (by kernel_rfl)) (execL_exit (by kernel_rfl)) rfl))
@[go_sem] theorem g145 : execL (C b) 7 c140 K (ee19 x1 x4 x5 x6 x7 x11 x13 x15 x16) S =
  withV (some x15) fun x105 =>
    withV (evLoad (tyi Try.prog 22) S x7) fun x106 =>
    withV (lenO (tyi Try.prog 22) x106) fun x107 =>
    withV (evBin .lss (tyi Try.prog 3) x105 x107) fun x108 =>
    withV (some x108) fun x109 =>
    withV (gval x109 false (some x16)) fun x110 =>
    withV (gval x109 false (evBin .eql (tyi Try.prog 3) x110 (.int .i64 0))) fun x111 =>
    withV (pickO x109 (.bool true) x111) fun x112 =>
    K .normal (ee28 x1 x4 x5 x6 x7 x11 x13 x15 x16 x112) S := nr (by kernel_rfl)
def B7 (b n7 : Nat) (x1 x4 x5 x6 x7 x11 x13 x15 x16 : PV) (S : Store) : RT := execL (C b) 7 c34 (k36 b n7) (ee19 x1 x4 x5 x6 x7 x11 x13 x15 x16) S
@[go_sem] theorem B7_eq : B7 b n7 x1 x4 x5 x6 x7 x11 x13 x15 x16 S =
  execL (C b) 7 c140 (k142 b n7) (ee19 x1 x4 x5 x6 x7 x11 x13 x15 x16) S := nr ((enterS (by kernel_rfl)).trans (enterS (by kernel_rfl)))
theorem L7_step {b n7 : Nat} {x1 x4 x5 x6 x7 x11 x13 x15 x16 : PV} {S : Store} {z : PV × Store} (h : B7 b n7 x1 x4 x5 x6 x7 x11 x13 x15 x16 S = some z) : L7 b n7 x1 x4 x5 x6 x7 x11 x13 x15 x16 S = some z := loopL_step h
theorem L7_in (b : Nat) (x1 x4 x5 x6 x7 x11 x13 x15 x16 : PV) (S : Store) : execL (C b) 7 c32 (k33 b) (ee19 x1 x4 x5 x6 x7 x11 x13 x15 x16) S = L7 b (List.length S) x1 x4 x5 x6 x7 x11 x13 x15 x16 S := by kernel_rfl
@[go_sem] theorem k31_n : k31 b .normal (ee19 x1 x4 x5 x6 x7 x11 x13 x15 x16) S =
  L7 b (List.length S) x1 x4 x5 x6 x7 x11 x13 x15 x16 S := nr (seqN ((blockE (by kernel_rfl)).trans (L7_in b x1 x4 x5 x6 x7 x11 x13 x15 x16 S)))
@[go_sem] theorem g147 : execL (C b) 0 c29 K (ee18 x1 x4 x5 x6 x7 x11 x13) S =
  withV (some (.int .i64 0)) fun x15 =>
    withV (some (.int .i64 0)) fun x16 =>
    K .normal (ee19 x1 x4 x5 x6 x7 x11 x13 x15 x16) S := nr (by kernel_rfl)
@[go_sem] theorem k28_n : k28 b .normal (ee18 x1 x4 x5 x6 x7 x11 x13) S =
  execL (C b) 0 c29 (k31 b) (ee18 x1 x4 x5 x6 x7 x11 x13) S := nr (seqN ((enterS (by kernel_rfl)).trans (enterS (by kernel_rfl))))
def k148 (b : Nat) : KT := seqC (fun e S => execL (C b) 0 c18 (k0 b) e S) (k0 b)
@[go_sem] theorem g149 : execL (C b) 0 c19 K (ee17 x1 x4 x5 x6 x7 x11 x12 x13 x69 x70 x71) S =
  withV (some x11) fun x102 =>
    withV (some x12) fun x103 =>
    withS (callV (C b) S x102 [x103, (.int .i64 0)]) fun x104 S =>
    K .normal (ee18 x1 x4 x5 x6 x7 x11 x13) S := nr (by kernel_rfl)
@[go_sem] theorem k148_n : k148 b .normal e S = execL (C b) 0 c19 (k28 b) e S := nr (seqN (enterS (by kernel_rfl)))
def k150 (b : Nat) : KT := seqC (fun e S => execL (C b) 0 c16 (k0 b) e S) (k0 b)
def c151 : Code := at0 c17
def c152 : Code := at1 c17
def k153 (b : Nat) : KT := seqC (fun e S => execL (C b) 0 c152 (k148 b) e S) (k148 b)
def c154 : Code := atB c152
def k155 (b : Nat) : KT := blockC 4 (k148 b)
@[go_sem] theorem k155_exit : k155 b (.exit i) e S = if i = 4 then (k148 b) .normal e S else (k148 b) (.exit i) e S := nr (blockC_x _ _ _ _ _)
def c156 : Code := atL c154
def k157 (b n4 : Nat) : KT := afterC 4 n4 [1, 4, 5, 6, 7, 11, 12, 13] (k155 b)
def L4g (b n4 : Nat) (e : Env) (S : Store) : RT := loopL (fun K e S => execL (C b) 4 c156 K e S) (normG [1, 4, 5, 6, 7, 11, 12, 13, 69, 70] [] n4) (k157 b n4) e S
def L4 (b n4 : Nat) (x1 x4 x5 x6 x7 x11 x12 x13 x69 x70 : PV) (S : Store) : RT := L4g b n4 (ee16 x1 x4 x5 x6 x7 x11 x12 x13 x69 x70) S
def k158 (b n4 : Nat) : KT := stepC (normG [1, 4, 5, 6, 7, 11, 12, 13, 69, 70] [] n4) (k157 b n4) (L4g b n4)
@[go_sem] theorem k158_n : k158 b n4 .normal (ee16 x1 x4 x5 x6 x7 x11 x12 x13 x69 x70) S = L4 b n4 x1 x4 x5 x6 x7 x11 x12 x13 x69 x70 (gc n4 (ee16 x1 x4 x5 x6 x7 x11 x12 x13 x69 x70) S) := nr (by kernel_rfl)
@[go_sem] theorem k158_x1 : k158 b n4 (.exit 4) (ee17 x1 x4 x5 x6 x7 x11 x12 x13 x69 x70 x71) S = (k155 b) (.exit 4) (ee17 x1 x4 x5 x6 x7 x11 x12 x13 .undef .undef .undef) (gc n4 (ee17 x1 x4 x5 x6 x7 x11 x12 x13 .undef .undef .undef) S) := nr ((show k158 b n4 (.exit 4) (ee17 x1 x4 x5 x6 x7 x11 x12 x13 x69 x70 x71) S = (k157 b n4) (.exit 4) (ee17 x1 x4 x5 x6 x7 x11 x12 x13 x69 x70 x71) S from stepC_x _ _ _ _ _ _).trans ((show (k157 b n4) (.exit 4) (ee17 x1 x4 x5 x6 x7 x11 x12 x13 x69 x70 x71) S = _ from afterC_x _ _ _ _ _ _ _).trans (if_pos rfl)))
def c159 : Code := at0 c156
def c160 : Code := at1 c156
def c162 : Code := at1 c160
def c163 : Code := at0 c162
def c164 : Code := at1 c162
def k165 (b n4 : Nat) : KT := seqC (fun e S => execL (C b) 4 c164 (k158 b n4) e S) (k158 b n4)
@[go_sem] theorem g166 : execL (C b) 4 c164 K (ee15 x1 x4 x5 x6 x7 x11 x12 x13 x14 x69 x70 x83) S =
  withV (evBin .add (tyi Try.prog 3) x70 (.int .i64 1)) fun x101 =>
    withV (some x101) fun x70 =>
    K .normal (ee16 x1 x4 x5 x6 x7 x11 x12 x13 x69 x70) S := nr (by kernel_rfl)
@[go_sem] theorem k165_n : k165 b n4 .normal e S = execL (C b) 4 c164 (k158 b n4) e S := nr (seqN rfl)
def k167 (b n4 : Nat) : KT := seqC (fun e S => execL (C b) 4 c162 (k158 b n4) e S) (k158 b n4)
def c168 : Code := atB c163
def k169 (b n4 : Nat) : KT := blockC 5 (k165 b n4)
@[go_sem] theorem k169_n : k169 b n4 .normal e S = (k165 b n4) .normal e S := nr (blockC_n _ _ _ _)
def c170 : Code := at0 c168
def c171 : Code := at1 c168
def k172 (b n4 : Nat) : KT := seqC (fun e S => execL (C b) 5 c171 (k169 b n4) e S) (k169 b n4)
def c173 : Code := atB c171
def k174 (b n4 : Nat) : KT := blockC 6 (k169 b n4)
@[go_sem] theorem k174_n : k174 b n4 .normal e S = (k169 b n4) .normal e S := nr (blockC_n _ _ _ _)
def c175 : Code := at0 c173
def c176 : Code := at1 c173
def k177 (b n4 : Nat) : KT := seqC (fun e S => execL (C b) 6 c176 (k174 b n4) e S) (k174 b n4)
def c178 : Code := atT c176
def c179 : Code := atF c176
@[go_sem] theorem g181 : execL (C b) 6 c178 K (ee14 x1 x4 x5 x6 x7 x11 x12 x13 x14 x69 x70 x73) S =
  withV (some x12) fun x79 =>
    withV (some x14) fun x80 =>
    withN (buildSliceO Try.prog 22 (List.length S) 1 [0] [PV.cells x80]) S fun x81 S =>
    withE (appendE Try.prog b 22 22 S x79 x81) [(1, x1), (4, x4), (5, x5), (6, x6), (7, x7), (11, x11), (12, x12), (13, x13), (14, x14), (69, x69), (70, x70), (73, x73), (79, x79), (80, x80), (81, x81)] fun x82 e1 S =>
    withV (some (Vs.get (put e1 82 x82) 82)) fun x12 =>
    K .normal (ee15 (Vs.get (put (put e1 82 x82) 12 x12) 1) (Vs.get (put (put e1 82 x82) 12 x12) 4) (Vs.get (put (put e1 82 x82) 12 x12) 5) (Vs.get (put (put e1 82 x82) 12 x12) 6) (Vs.get (put (put e1 82 x82) 12 x12) 7) (Vs.get (put (put e1 82 x82) 12 x12) 11) (Vs.get (put (put e1 82 x82) 12 x12) 12) (Vs.get (put (put e1 82 x82) 12 x12) 13) (Vs.get (put (put e1 82 x82) 12 x12) 14) (Vs.get (put (put e1 82 x82) 12 x12) 69) (Vs.get (put (put e1 82 x82) 12 x12) 70) (Vs.get (put (put e1 82 x82) 12 x12) 83)) S := nr (by kernel_rfl)
def c183 : Code := at0 c179
def c184 : Code := at1 c179
def k185 (b n4 : Nat) : KT := seqC (fun e S => execL (C b) 6 c184 (k174 b n4) e S) (k174 b n4)
def c186 : Code := atT c184
@[go_sem] theorem g189 : execL (C b) 6 c186 K (ee15 x1 x4 x5 x6 x7 x11 x12 x13 x14 x69 x70 x83) S =
  withV (some x13) fun x97 =>
    withV (some x14) fun x98 =>
    withN (buildSliceO Try.prog 22 (List.length S) 1 [0] [PV.cells x98]) S fun x99 S =>
    withE (appendE Try.prog b 22 22 S x97 x99) [(1, x1), (4, x4), (5, x5), (6, x6), (7, x7), (11, x11), (12, x12), (13, x13), (14, x14), (69, x69), (70, x70), (83, x83), (97, x97), (98, x98), (99, x99)] fun x100 e1 S =>
    withV (some (Vs.get (put e1 100 x100) 100)) fun x13 =>
    K .normal (ee15 (Vs.get (put (put e1 100 x100) 13 x13) 1) (Vs.get (put (put e1 100 x100) 13 x13) 4) (Vs.get (put (put e1 100 x100) 13 x13) 5) (Vs.get (put (put e1 100 x100) 13 x13) 6) (Vs.get (put (put e1 100 x100) 13 x13) 7) (Vs.get (put (put e1 100 x100) 13 x13) 11) (Vs.get (put (put e1 100 x100) 13 x13) 12) (Vs.get (put (put e1 100 x100) 13 x13) 13) (Vs.get (put (put e1 100 x100) 13 x13) 14) (Vs.get (put (put e1 100 x100) 13 x13) 69) (Vs.get (put (put e1 100 x100) 13 x13) 70) (Vs.get (put (put e1 100 x100) 13 x13) 83)) S := nr (by kernel_rfl)
@[go_sem] theorem k185_n : k185 b n4 .normal (ee15 x1 x4 x5 x6 x7 x11 x12 x13 x14 x69 x70 x83) S =
  condC x83 (execL (C b) 6 c186 (k174 b n4) (ee15 x1 x4 x5 x6 x7 x11 x12 x13 x14 x69 x70 x83) S)
    ((k174 b n4) .normal (ee15 x1 x4 x5 x6 x7 x11 x12 x13 x14 x69 x70 x83) S) := nr (seqN (condE (t := 83) (by kernel_rfl) (rfl) (execL_skip (by kernel_rfl)) rfl))
@[go_sem] theorem g190 : execL (C b) 6 c183 K (ee14 x1 x4 x5 x6 x7 x11 x12 x13 x14 x69 x70 x73) S =
  withV (evFieldAddr (tyi Try.prog 26) 0 x1) fun x84 =>
    withV (evLoad (tyi Try.prog 22) S x84) fun x85 =>
    withV (some x14) fun x86 =>
    withV (indexAddrO Try.prog 22 S x85 x86) fun x87 =>
    withV (evLoad (tyi Try.prog 3) S x87) fun x88 =>
    withV (evBin .eql (tyi Try.prog 3) x88 (.int .i64 1)) fun x89 =>
    withV (some x89) fun x90 =>
    withV (gval x90 true (some x5)) fun x91 =>
    withV (gval x90 true (some x14)) fun x92 =>
    withV (gval x90 true (indexAddrO Try.prog 22 S x91 x92)) fun x93 =>
    withV (gval x90 true (evLoad (tyi Try.prog 3) S x93)) fun x94 =>
    withV (gval x90 true (evBin .eql (tyi Try.prog 3) x94 (.int .i64 0))) fun x95 =>
    withV (pickO x90 x95 (.bool false)) fun x96 =>
    withV (some x96) fun x83 =>
    K .normal (ee15 x1 x4 x5 x6 x7 x11 x12 x13 x14 x69 x70 x83) S := nr (by kernel_rfl)
@[go_sem] theorem k177_n : k177 b n4 .normal (ee14 x1 x4 x5 x6 x7 x11 x12 x13 x14 x69 x70 x73) S =
  condC x73 (execL (C b) 6 c178 (k174 b n4) (ee14 x1 x4 x5 x6 x7 x11 x12 x13 x14 x69 x70 x73) S)
    (execL (C b) 6 c183 (k185 b n4) (ee14 x1 x4 x5 x6 x7 x11 x12 x13 x14 x69 x70 x73) S) := nr (seqN (condE (t := 73) (by kernel_rfl) (rfl) (enterS (by kernel_rfl)) rfl))
@[go_sem] theorem g191 : execL (C b) 6 c175 K (ee13 x1 x4 x5 x6 x7 x11 x12 x13 x14 x69 x70) S =
  withV (evFieldAddr (tyi Try.prog 26) 2 x1) fun x74 =>
    withV (evLoad (tyi Try.prog 24) S x74) fun x75 =>
    withV (some x14) fun x76 =>
    withV (indexAddrO Try.prog 24 S x75 x76) fun x77 =>
    withV (evLoad (tyi Try.prog 4) S x77) fun x78 =>
    withV (some x78) fun x73 =>
    K .normal (ee14 x1 x4 x5 x6 x7 x11 x12 x13 x14 x69 x70 x73) S := nr (by kernel_rfl)
@[go_sem] theorem k172_n : k172 b n4 .normal (ee13 x1 x4 x5 x6 x7 x11 x12 x13 x14 x69 x70) S =
  execL (C b) 6 c175 (k177 b n4) (ee13 x1 x4 x5 x6 x7 x11 x12 x13 x14 x69 x70) S := nr (seqN ((blockE (by kernel_rfl)).trans (enterS (by kernel_rfl))))
@[go_sem] theorem g192 : execL (C b) 5 c170 K (ee17 x1 x4 x5 x6 x7 x11 x12 x13 x69 x70 x71) S =
  withV (some x70) fun x72 =>
    withV (some x72) fun x14 =>
    K .normal (ee13 x1 x4 x5 x6 x7 x11 x12 x13 x14 x69 x70) S := nr (by kernel_rfl)
@[go_sem] theorem k167_n : k167 b n4 .normal (ee17 x1 x4 x5 x6 x7 x11 x12 x13 x69 x70 x71) S =
  execL (C b) 5 c170 (k172 b n4) (ee17 x1 x4 x5 x6 x7 x11 x12 x13 x69 x70 x71) S := nr (seqN ((enterS (by kernel_rfl)).trans ((blockE (by kernel_rfl)).trans (enterS (by kernel_rfl)))))
@[go_sem] theorem k167_exit : k167 b n4 (.exit i) e S = (k158 b n4) (.exit i) e S := nr (seqC_x _ _ _ _ _)
def k193 (b n4 : Nat) : KT := seqC (fun e S => execL (C b) 4 c160 (k158 b n4) e S) (k158 b n4)
@[go_sem] theorem k193_n : k193 b n4 .normal (ee17 x1 x4 x5 x6 x7 x11 x12 x13 x69 x70 x71) S =
  condC x71 ((k167 b n4) .normal (ee17 x1 x4 x5 x6 x7 x11 x12 x13 x69 x70 x71) S)
    ((k167 b n4) (.exit 4) (ee17 x1 x4 x5 x6 x7 x11 x12 x13 x69 x70 x71) S) := nr (seqN ((enterS (by kernel_rfl)).trans (condE (t := 71) (by kernel_rfl) (execL_skip (by kernel_rfl)) (execL_exit (by kernel_rfl)) rfl)))
@[go_sem] theorem g196 : execL (C b) 4 c159 K (ee16 x1 x4 x5 x6 x7 x11 x12 x13 x69 x70) S =
  withV (evBin .lss (tyi Try.prog 3) x70 x69) fun x71 =>
    K .normal (ee17 x1 x4 x5 x6 x7 x11 x12 x13 x69 x70 x71) S := nr (by kernel_rfl)
def B4 (b n4 : Nat) (x1 x4 x5 x6 x7 x11 x12 x13 x69 x70 : PV) (S : Store) : RT := execL (C b) 4 c156 (k158 b n4) (ee16 x1 x4 x5 x6 x7 x11 x12 x13 x69 x70) S
@[go_sem] theorem B4_eq : B4 b n4 x1 x4 x5 x6 x7 x11 x12 x13 x69 x70 S =
  execL (C b) 4 c159 (k193 b n4) (ee16 x1 x4 x5 x6 x7 x11 x12 x13 x69 x70) S := nr (enterS (by kernel_rfl))
theorem L4_step {b n4 : Nat} {x1 x4 x5 x6 x7 x11 x12 x13 x69 x70 : PV} {S : Store} {z : PV × Store} (h : B4 b n4 x1 x4 x5 x6 x7 x11 x12 x13 x69 x70 S = some z) : L4 b n4 x1 x4 x5 x6 x7 x11 x12 x13 x69 x70 S = some z := loopL_step h
theorem L4_in (b : Nat) (x1 x4 x5 x6 x7 x11 x12 x13 x69 x70 : PV) (S : Store) : execL (C b) 4 c154 (k155 b) (ee16 x1 x4 x5 x6 x7 x11 x12 x13 x69 x70) S = withO S x12 fun y12 S => withO S x13 fun y13 S => L4 b (List.length S) x1 x4 x5 x6 x7 x11 y12 y13 x69 x70 S := (show execL (C b) 4 c154 (k155 b) (ee16 x1 x4 x5 x6 x7 x11 x12 x13 x69 x70) S = (fun e S => (fzSlots [] e S).bind (fun r => L4g b r.2.length r.1 r.2)) (ownAll [12, 13] (keepOnly [1, 4, 5, 6, 7, 11, 12, 13, 69, 70] (ee16 x1 x4 x5 x6 x7 x11 x12 x13 x69 x70)) S).1 (ownAll [12, 13] (keepOnly [1, 4, 5, 6, 7, 11, 12, 13, 69, 70] (ee16 x1 x4 x5 x6 x7 x11 x12 x13 x69 x70)) S).2 from by kernel_rfl).trans ((own_cons (fun e S => (fzSlots [] e S).bind (fun r => L4g b r.2.length r.1 r.2)) 12 [13] (e := (keepOnly [1, 4, 5, 6, 7, 11, 12, 13, 69, 70] (ee16 x1 x4 x5 x6 x7 x11 x12 x13 x69 x70))) (S := S) (by kernel_rfl) (by decide)).trans ((congrArg (withO S (get (keepOnly [1, 4, 5, 6, 7, 11, 12, 13, 69, 70] (ee16 x1 x4 x5 x6 x7 x11 x12 x13 x69 x70)) 12)) (funext fun y12 => funext fun S => show _ = (withO S x13 fun y13 S => L4 b (List.length S) x1 x4 x5 x6 x7 x11 y12 y13 x69 x70 S) from (own_cons (fun e S => (fzSlots [] e S).bind (fun r => L4g b r.2.length r.1 r.2)) 13 [] (e := (put (keepOnly [1, 4, 5, 6, 7, 11, 12, 13, 69, 70] (ee16 x1 x4 x5 x6 x7 x11 x12 x13 x69 x70)) 12 y12)) (S := S) (by kernel_rfl) (by decide)).trans ((congrArg (withO S (get (put (keepOnly [1, 4, 5, 6, 7, 11, 12, 13, 69, 70] (ee16 x1 x4 x5 x6 x7 x11 x12 x13 x69 x70)) 12 y12) 13)) (funext fun y13 => funext fun S => show _ = (L4 b (List.length S) x1 x4 x5 x6 x7 x11 y12 y13 x69 x70 S) from (by kernel_rfl))).trans (by kernel_rfl)))).trans (by kernel_rfl)))
@[go_sem] theorem k153_n : k153 b .normal (ee16 x1 x4 x5 x6 x7 x11 x12 x13 x69 x70) S =
  withO S x12 fun y12 S => withO S x13 fun y13 S => L4 b (List.length S) x1 x4 x5 x6 x7 x11 y12 y13 x69 x70 S := nr (seqN ((blockE (by kernel_rfl)).trans (L4_in b x1 x4 x5 x6 x7 x11 x12 x13 x69 x70 S)))
@[go_sem] theorem g198 : execL (C b) 0 c151 K (ee10 x1 x3 x4 x5 x6 x7 x11 x12 x13) S =
  withV (some x3) fun x69 =>
    withV (some (.int .i64 0)) fun x70 =>
    K .normal (ee16 x1 x4 x5 x6 x7 x11 x12 x13 x69 x70) S := nr (by kernel_rfl)
@[go_sem] theorem k150_n : k150 b .normal (ee10 x1 x3 x4 x5 x6 x7 x11 x12 x13) S =
  execL (C b) 0 c151 (k153 b) (ee10 x1 x3 x4 x5 x6 x7 x11 x12 x13) S := nr (seqN ((enterS (by kernel_rfl)).trans (enterS (by kernel_rfl))))
def k199 (b : Nat) : KT := seqC (fun e S => execL (C b) 0 c14 (k0 b) e S) (k0 b)
@[go_sem] theorem g200 : execL (C b) 0 c15 K (ee9 x1 x3 x4 x5 x6 x7 x11) S =
  withV (some (.sl [] true)) fun x12 =>
    withV (some (.sl [] true)) fun x13 =>
    K .normal (ee10 x1 x3 x4 x5 x6 x7 x11 x12 x13) S := nr (by kernel_rfl)
@[go_sem] theorem k199_n : k199 b .normal e S = execL (C b) 0 c15 (k150 b) e S := nr (seqN (enterS (by kernel_rfl)))
def k201 (b : Nat) : KT := seqC (fun e S => execL (C b) 0 c12 (k0 b) e S) (k0 b)
@[go_sem] theorem g202 : execL (C b) 0 c13 K (ee12 x1 x3 x4 x5 x6 x7 x30 x31 x32) S =
  withV (some (.fn 83 [] [x4, x7])) fun x68 =>
    withV (some x68) fun x11 =>
    K .normal (ee9 x1 x3 x4 x5 x6 x7 x11) S := nr (by kernel_rfl)
@[go_sem] theorem k201_n : k201 b .normal e S = execL (C b) 0 c13 (k199 b) e S := nr (seqN (enterS (by kernel_rfl)))
def k203 (b : Nat) : KT := seqC (fun e S => execL (C b) 0 c10 (k0 b) e S) (k0 b)
def c204 : Code := at0 c11
def c205 : Code := at1 c11
def k206 (b : Nat) : KT := seqC (fun e S => execL (C b) 0 c205 (k201 b) e S) (k201 b)
def c207 : Code := atB c205
def k208 (b : Nat) : KT := blockC 0 (k201 b)
@[go_sem] theorem k208_exit : k208 b (.exit i) e S = if i = 0 then (k201 b) .normal e S else (k201 b) (.exit i) e S := nr (blockC_x _ _ _ _ _)
def c209 : Code := atL c207
def k210 (b n0 : Nat) : KT := afterC 0 n0 [1, 3, 4, 5, 6, 7] (k208 b)
def L0g (b n0 : Nat) (e : Env) (S : Store) : RT := loopL (fun K e S => execL (C b) 0 c209 K e S) (normG [1, 3, 4, 5, 6, 7, 30, 31] [] n0) (k210 b n0) e S
def L0 (b n0 : Nat) (x1 x3 x4 x5 x6 x7 x30 x31 : PV) (S : Store) : RT := L0g b n0 (ee11 x1 x3 x4 x5 x6 x7 x30 x31) S
def k211 (b n0 : Nat) : KT := stepC (normG [1, 3, 4, 5, 6, 7, 30, 31] [] n0) (k210 b n0) (L0g b n0)
@[go_sem] theorem k211_n : k211 b n0 .normal (ee11 x1 x3 x4 x5 x6 x7 x30 x31) S = L0 b n0 x1 x3 x4 x5 x6 x7 x30 x31 (gc n0 (ee11 x1 x3 x4 x5 x6 x7 x30 x31) S) := nr (by kernel_rfl)
@[go_sem] theorem k211_x1 : k211 b n0 (.exit 0) (ee12 x1 x3 x4 x5 x6 x7 x30 x31 x32) S = (k208 b) (.exit 0) (ee12 x1 x3 x4 x5 x6 x7 .undef .undef .undef) (gc n0 (ee12 x1 x3 x4 x5 x6 x7 .undef .undef .undef) S) := nr ((show k211 b n0 (.exit 0) (ee12 x1 x3 x4 x5 x6 x7 x30 x31 x32) S = (k210 b n0) (.exit 0) (ee12 x1 x3 x4 x5 x6 x7 x30 x31 x32) S from stepC_x _ _ _ _ _ _).trans ((show (k210 b n0) (.exit 0) (ee12 x1 x3 x4 x5 x6 x7 x30 x31 x32) S = _ from afterC_x _ _ _ _ _ _ _).trans (if_pos rfl)))
def c212 : Code := at0 c209
def c213 : Code := at1 c209
def c215 : Code := at1 c213
def c216 : Code := at0 c215
def c217 : Code := at1 c215
def k218 (b n0 : Nat) : KT := seqC (fun e S => execL (C b) 0 c217 (k211 b n0) e S) (k211 b n0)
@[go_sem] theorem g219 : execL (C b) 0 c217 K (ee8 x1 x3 x4 x5 x6 x7 x8 x30 x31 x50 x51 x52 x53) S =
  withV (evBin .add (tyi Try.prog 3) x31 (.int .i64 1)) fun x67 =>
    withV (some x67) fun x31 =>
    K .normal (ee11 x1 x3 x4 x5 x6 x7 x30 x31) S := nr (by kernel_rfl)
@[go_sem] theorem k218_n : k218 b n0 .normal e S = execL (C b) 0 c217 (k211 b n0) e S := nr (seqN rfl)
def k220 (b n0 : Nat) : KT := seqC (fun e S => execL (C b) 0 c215 (k211 b n0) e S) (k211 b n0)
def c221 : Code := atB c216
def k222 (b n0 : Nat) : KT := blockC 1 (k218 b n0)
@[go_sem] theorem k222_n : k222 b n0 .normal e S = (k218 b n0) .normal e S := nr (blockC_n _ _ _ _)
def c223 : Code := at0 c221
def c224 : Code := at1 c221
def c225 : Code := at0 c224
def c226 : Code := at1 c224
def c227 : Code := at0 c226
def c228 : Code := at1 c226
def c229 : Code := at0 c228
def c230 : Code := at1 c228
def k231 (b n0 : Nat) : KT := seqC (fun e S => execL (C b) 1 c230 (k222 b n0) e S) (k222 b n0)
def c232 : Code := atB c230
def k233 (b n0 : Nat) : KT := blockC 2 (k222 b n0)
@[go_sem] theorem k233_exit : k233 b n0 (.exit i) e S = if i = 2 then (k222 b n0) .normal e S else (k222 b n0) (.exit i) e S := nr (blockC_x _ _ _ _ _)
def c234 : Code := atL c232
def k235 (b n0 n2 : Nat) : KT := afterC 2 n2 [1, 3, 4, 5, 6, 7, 30, 31] (k233 b n0)
def L2g (b n0 n2 : Nat) (e : Env) (S : Store) : RT := loopL (fun K e S => execL (C b) 2 c234 K e S) (normG [1, 3, 4, 5, 6, 7, 8, 30, 31, 50, 51, 52] [] n2) (k235 b n0 n2) e S
def L2 (b n0 n2 : Nat) (x1 x3 x4 x5 x6 x7 x8 x30 x31 x50 x51 x52 : PV) (S : Store) : RT := L2g b n0 n2 (ee7 x1 x3 x4 x5 x6 x7 x8 x30 x31 x50 x51 x52) S
def k236 (b n0 n2 : Nat) : KT := stepC (normG [1, 3, 4, 5, 6, 7, 8, 30, 31, 50, 51, 52] [] n2) (k235 b n0 n2) (L2g b n0 n2)
@[go_sem] theorem k236_n : k236 b n0 n2 .normal (ee7 x1 x3 x4 x5 x6 x7 x8 x30 x31 x50 x51 x52) S = L2 b n0 n2 x1 x3 x4 x5 x6 x7 x8 x30 x31 x50 x51 x52 (gc n2 (ee7 x1 x3 x4 x5 x6 x7 x8 x30 x31 x50 x51 x52) S) := nr (by kernel_rfl)
@[go_sem] theorem k236_x1 : k236 b n0 n2 (.exit 2) (ee8 x1 x3 x4 x5 x6 x7 x8 x30 x31 x50 x51 x52 x53) S = (k233 b n0) (.exit 2) (ee8 x1 x3 x4 x5 x6 x7 .undef x30 x31 .undef .undef .undef .undef) (gc n2 (ee8 x1 x3 x4 x5 x6 x7 .undef x30 x31 .undef .undef .undef .undef) S) := nr ((show k236 b n0 n2 (.exit 2) (ee8 x1 x3 x4 x5 x6 x7 x8 x30 x31 x50 x51 x52 x53) S = (k235 b n0 n2) (.exit 2) (ee8 x1 x3 x4 x5 x6 x7 x8 x30 x31 x50 x51 x52 x53) S from stepC_x _ _ _ _ _ _).trans ((show (k235 b n0 n2) (.exit 2) (ee8 x1 x3 x4 x5 x6 x7 x8 x30 x31 x50 x51 x52 x53) S = _ from afterC_x _ _ _ _ _ _ _).trans (if_pos rfl)))
def c237 : Code := at0 c234
def c238 : Code := at1 c234
def c240 : Code := at1 c238
def c241 : Code := at0 c240
def c242 : Code := at1 c240
def k243 (b n0 n2 : Nat) : KT := seqC (fun e S => execL (C b) 2 c242 (k236 b n0 n2) e S) (k236 b n0 n2)
@[go_sem] theorem g244 : execL (C b) 2 c242 K (ee7 x1 x3 x4 x5 x6 x7 x8 x30 x31 x50 x51 x52) S =
  withV (evBin .add (tyi Try.prog 3) x52 (.int .i64 1)) fun x66 =>
    withV (some x66) fun x52 =>
    K .normal (ee7 x1 x3 x4 x5 x6 x7 x8 x30 x31 x50 x51 x52) S := nr (by kernel_rfl)
@[go_sem] theorem k243_n : k243 b n0 n2 .normal e S = execL (C b) 2 c242 (k236 b n0 n2) e S := nr (seqN rfl)
def k245 (b n0 n2 : Nat) : KT := seqC (fun e S => execL (C b) 2 c240 (k236 b n0 n2) e S) (k236 b n0 n2)
def c246 : Code := atB c241
def k247 (b n0 n2 : Nat) : KT := blockC 3 (k243 b n0 n2)
@[go_sem] theorem k247_n : k247 b n0 n2 .normal e S = (k243 b n0 n2) .normal e S := nr (blockC_n _ _ _ _)
def c248 : Code := at0 c246
def c249 : Code := at1 c246
def k250 (b n0 n2 : Nat) : KT := seqC (fun e S => execL (C b) 3 c249 (k247 b n0 n2) e S) (k247 b n0 n2)
@[go_sem] theorem g251 : execL (C b) 3 c249 K (ee5 x1 x3 x4 x5 x6 x7 x8 x10 x30 x31 x50 x51 x52) S =
  withV (some x6) fun x56 =>
    withV (some x10) fun x57 =>
    withV (some x6) fun x58 =>
    withV (some x10) fun x59 =>
    withV (indexAddrO Try.prog 23 S x58 x59) fun x60 =>
    withV (evLoad (tyi Try.prog 22) S x60) fun x61 =>
    withV (some x8) fun x62 =>
    withN (buildSliceO Try.prog 22 (List.length S) 1 [0] [PV.cells x62]) S fun x63 S =>
    withE (appendE Try.prog b 22 22 S x61 x63) [(1, x1), (3, x3), (4, x4), (5, x5), (6, x6), (7, x7), (8, x8), (10, x10), (30, x30), (31, x31), (50, x50), (51, x51), (52, x52), (56, x56), (57, x57), (58, x58), (59, x59), (60, x60), (61, x61), (62, x62), (63, x63)] fun x64 e1 S =>
    withV (indexAddrO Try.prog 23 S (Vs.get (put e1 64 x64) 56) (Vs.get (put e1 64 x64) 57)) fun x65 =>
    withS (storeE (tyi Try.prog 22) S (Vs.get (put (put e1 64 x64) 65 x65) 65) (Vs.get (put (put e1 64 x64) 65 x65) 64)) fun _u S =>
    K .normal (ee7 (Vs.get (put (put e1 64 x64) 65 x65) 1) (Vs.get (put (put e1 64 x64) 65 x65) 3) (Vs.get (put (put e1 64 x64) 65 x65) 4) (Vs.get (put (put e1 64 x64) 65 x65) 5) (Vs.get (put (put e1 64 x64) 65 x65) 6) (Vs.get (put (put e1 64 x64) 65 x65) 7) (Vs.get (put (put e1 64 x64) 65 x65) 8) (Vs.get (put (put e1 64 x64) 65 x65) 30) (Vs.get (put (put e1 64 x64) 65 x65) 31) (Vs.get (put (put e1 64 x64) 65 x65) 50) (Vs.get (put (put e1 64 x64) 65 x65) 51) (Vs.get (put (put e1 64 x64) 65 x65) 52)) S := nr (by kernel_rfl)
@[go_sem] theorem k250_n : k250 b n0 n2 .normal e S = execL (C b) 3 c249 (k247 b n0 n2) e S := nr (seqN rfl)
@[go_sem] theorem g252 : execL (C b) 3 c248 K (ee8 x1 x3 x4 x5 x6 x7 x8 x30 x31 x50 x51 x52 x53) S =
  withV (indexAddrO Try.prog 22 S x50 x52) fun x54 =>
    withV (evLoad (tyi Try.prog 3) S x54) fun x55 =>
    withV (some x55) fun x10 =>
    K .normal (ee5 x1 x3 x4 x5 x6 x7 x8 x10 x30 x31 x50 x51 x52) S := nr (by kernel_rfl)
@[go_sem] theorem k245_n : k245 b n0 n2 .normal (ee8 x1 x3 x4 x5 x6 x7 x8 x30 x31 x50 x51 x52 x53) S =
  execL (C b) 3 c248 (k250 b n0 n2) (ee8 x1 x3 x4 x5 x6 x7 x8 x30 x31 x50 x51 x52 x53) S := nr (seqN ((enterS (by kernel_rfl)).trans ((blockE (by kernel_rfl)).trans (enterS (by kernel_rfl)))))
@[go_sem] theorem k245_exit : k245 b n0 n2 (.exit i) e S = (k236 b n0 n2) (.exit i) e S := nr (seqC_x _ _ _ _ _)
def k253 (b n0 n2 : Nat) : KT := seqC (fun e S => execL (C b) 2 c238 (k236 b n0 n2) e S) (k236 b n0 n2)
@[go_sem] theorem k253_n : k253 b n0 n2 .normal (ee8 x1 x3 x4 x5 x6 x7 x8 x30 x31 x50 x51 x52 x53) S =
  condC x53 ((k245 b n0 n2) .normal (ee8 x1 x3 x4 x5 x6 x7 x8 x30 x31 x50 x51 x52 x53) S)
    ((k245 b n0 n2) (.exit 2) (ee8 x1 x3 x4 x5 x6 x7 x8 x30 x31 x50 x51 x52 x53) S) := nr (seqN ((enterS (by kernel_rfl)).trans (condE (t := 53) (by kernel_rfl) (execL_skip (by kernel_rfl)) (execL_exit (by kernel_rfl)) rfl)))
@[go_sem] theorem g256 : execL (C b) 2 c237 K (ee7 x1 x3 x4 x5 x6 x7 x8 x30 x31 x50 x51 x52) S =
  withV (evBin .lss (tyi Try.prog 3) x52 x51) fun x53 =>
    K .normal (ee8 x1 x3 x4 x5 x6 x7 x8 x30 x31 x50 x51 x52 x53) S := nr (by kernel_rfl)
def B2 (b n0 n2 : Nat) (x1 x3 x4 x5 x6 x7 x8 x30 x31 x50 x51 x52 : PV) (S : Store) : RT := execL (C b) 2 c234 (k236 b n0 n2) (ee7 x1 x3 x4 x5 x6 x7 x8 x30 x31 x50 x51 x52) S
@[go_sem] theorem B2_eq : B2 b n0 n2 x1 x3 x4 x5 x6 x7 x8 x30 x31 x50 x51 x52 S =
  execL (C b) 2 c237 (k253 b n0 n2) (ee7 x1 x3 x4 x5 x6 x7 x8 x30 x31 x50 x51 x52) S := nr (enterS (by kernel_rfl))
theorem L2_step {b n0 n2 : Nat} {x1 x3 x4 x5 x6 x7 x8 x30 x31 x50 x51 x52 : PV} {S : Store} {z : PV × Store} (h : B2 b n0 n2 x1 x3 x4 x5 x6 x7 x8 x30 x31 x50 x51 x52 S = some z) : L2 b n0 n2 x1 x3 x4 x5 x6 x7 x8 x30 x31 x50 x51 x52 S = some z := loopL_step h
theorem L2_in (b n0 : Nat) (x1 x3 x4 x5 x6 x7 x8 x30 x31 x50 x51 x52 : PV) (S : Store) : execL (C b) 2 c232 (k233 b n0) (ee7 x1 x3 x4 x5 x6 x7 x8 x30 x31 x50 x51 x52) S = L2 b n0 (List.length S) x1 x3 x4 x5 x6 x7 x8 x30 x31 x50 x51 x52 S := by kernel_rfl
@[go_sem] theorem k231_n : k231 b n0 .normal (ee7 x1 x3 x4 x5 x6 x7 x8 x30 x31 x50 x51 x52) S =
  L2 b n0 (List.length S) x1 x3 x4 x5 x6 x7 x8 x30 x31 x50 x51 x52 S := nr (seqN ((blockE (by kernel_rfl)).trans (L2_in b n0 x1 x3 x4 x5 x6 x7 x8 x30 x31 x50 x51 x52 S)))
def k258 (b n0 : Nat) : KT := seqC (fun e S => execL (C b) 1 c228 (k222 b n0) e S) (k222 b n0)
@[go_sem] theorem g259 : execL (C b) 1 c229 K (ee6 x1 x3 x4 x5 x6 x7 x8 x30 x31) S =
  withV (evFieldAddr (tyi Try.prog 26) 1 x1) fun x46 =>
    withV (evLoad (tyi Try.prog 23) S x46) fun x47 =>
    withV (some x8) fun x48 =>
    withV (indexAddrO Try.prog 23 S x47 x48) fun x49 =>
    withV (evLoad (tyi Try.prog 22) S x49) fun x50 =>
    withV (lenO (tyi Try.prog 22) x50) fun x51 =>
    withV (some (.int .i64 0)) fun x52 =>
    K .normal (ee7 x1 x3 x4 x5 x6 x7 x8 x30 x31 x50 x51 x52) S := nr (by kernel_rfl)
@[go_sem] theorem k258_n : k258 b n0 .normal e S = execL (C b) 1 c229 (k231 b n0) e S := nr (seqN (enterS (by kernel_rfl)))
def k260 (b n0 : Nat) : KT := seqC (fun e S => execL (C b) 1 c226 (k222 b n0) e S) (k222 b n0)
@[go_sem] theorem g261 : execL (C b) 1 c227 K (ee6 x1 x3 x4 x5 x6 x7 x8 x30 x31) S =
  withV (some x5) fun x37 =>
    withV (some x8) fun x38 =>
    withV (evFieldAddr (tyi Try.prog 26) 1 x1) fun x39 =>
    withV (evLoad (tyi Try.prog 23) S x39) fun x40 =>
    withV (some x8) fun x41 =>
    withV (indexAddrO Try.prog 23 S x40 x41) fun x42 =>
    withV (evLoad (tyi Try.prog 22) S x42) fun x43 =>
    withV (lenO (tyi Try.prog 22) x43) fun x44 =>
    withV (indexAddrO Try.prog 22 S x37 x38) fun x45 =>
    withS (storeE (tyi Try.prog 3) S x45 x44) fun _u S =>
    K .normal (ee6 x1 x3 x4 x5 x6 x7 x8 x30 x31) S := nr (by kernel_rfl)
@[go_sem] theorem k260_n : k260 b n0 .normal e S = execL (C b) 1 c227 (k258 b n0) e S := nr (seqN (enterS (by kernel_rfl)))
def k262 (b n0 : Nat) : KT := seqC (fun e S => execL (C b) 1 c224 (k222 b n0) e S) (k222 b n0)
@[go_sem] theorem g263 : execL (C b) 1 c225 K (ee6 x1 x3 x4 x5 x6 x7 x8 x30 x31) S =
  withV (evLoad (tyi Try.prog 22) S x4) fun x34 =>
    withV (some x8) fun x35 =>
    withV (indexAddrO Try.prog 22 S x34 x35) fun x36 =>
    withS (storeE (tyi Try.prog 3) S x36 (.int .i64 (-1))) fun _u S =>
    K .normal (ee6 x1 x3 x4 x5 x6 x7 x8 x30 x31) S := nr (by kernel_rfl)
@[go_sem] theorem k262_n : k262 b n0 .normal e S = execL (C b) 1 c225 (k260 b n0) e S := nr (seqN (enterS (by kernel_rfl)))
@[go_sem] theorem g264 : execL (C b) 1 c223 K (ee12 x1 x3 x4 x5 x6 x7 x30 x31 x32) S =
  withV (some x31) fun x33 =>
    withV (some x33) fun x8 =>
    K .normal (ee6 x1 x3 x4 x5 x6 x7 x8 x30 x31) S := nr (by kernel_rfl)
@[go_sem] theorem k220_n : k220 b n0 .normal (ee12 x1 x3 x4 x5 x6 x7 x30 x31 x32) S =
  execL (C b) 1 c223 (k262 b n0) (ee12 x1 x3 x4 x5 x6 x7 x30 x31 x32) S := nr (seqN ((enterS (by kernel_rfl)).trans ((blockE (by kernel_rfl)).trans (enterS (by kernel_rfl)))))
@[go_sem] theorem k220_exit : k220 b n0 (.exit i) e S = (k211 b n0) (.exit i) e S := nr (seqC_x _ _ _ _ _)
def k265 (b n0 : Nat) : KT := seqC (fun e S => execL (C b) 0 c213 (k211 b n0) e S) (k211 b n0)
@[go_sem] theorem k265_n : k265 b n0 .normal (ee12 x1 x3 x4 x5 x6 x7 x30 x31 x32) S =
  condC x32 ((k220 b n0) .normal (ee12 x1 x3 x4 x5 x6 x7 x30 x31 x32) S)
    ((k220 b n0) (.exit 0) (ee12 x1 x3 x4 x5 x6 x7 x30 x31 x32) S) := nr (seqN ((enterS (by kernel_rfl)).trans (condE (t := 32) (by kernel_rfl) (execL_skip (by kernel_rfl)) (execL_exit (by kernel_rfl)) rfl)))
@[go_sem] theorem g268 : execL (C b) 0 c212 K (ee11 x1 x3 x4 x5 x6 x7 x30 x31) S =
  withV (evBin .lss (tyi Try.prog 3) x31 x30) fun x32 =>
    K .normal (ee12 x1 x3 x4 x5 x6 x7 x30 x31 x32) S := nr (by kernel_rfl)
def B0 (b n0 : Nat) (x1 x3 x4 x5 x6 x7 x30 x31 : PV) (S : Store) : RT := execL (C b) 0 c209 (k211 b n0) (ee11 x1 x3 x4 x5 x6 x7 x30 x31) S
@[go_sem] theorem B0_eq : B0 b n0 x1 x3 x4 x5 x6 x7 x30 x31 S =
  execL (C b) 0 c212 (k265 b n0) (ee11 x1 x3 x4 x5 x6 x7 x30 x31) S := nr (enterS (by kernel_rfl))
theorem L0_step {b n0 : Nat} {x1 x3 x4 x5 x6 x7 x30 x31 : PV} {S : Store} {z : PV × Store} (h : B0 b n0 x1 x3 x4 x5 x6 x7 x30 x31 S = some z) : L0 b n0 x1 x3 x4 x5 x6 x7 x30 x31 S = some z := loopL_step h
theorem L0_in (b : Nat) (x1 x3 x4 x5 x6 x7 x30 x31 : PV) (S : Store) : execL (C b) 0 c207 (k208 b) (ee11 x1 x3 x4 x5 x6 x7 x30 x31) S = withM S x6 0 fun S => L0 b (List.length S) x1 x3 x4 x5 x6 x7 x30 x31 S := (show execL (C b) 0 c207 (k208 b) (ee11 x1 x3 x4 x5 x6 x7 x30 x31) S = (fun e S => (fzSlots [] e S).bind (fun r => L0g b r.2.length r.1 r.2)) (ownAll [1006] (keepOnly [1, 3, 4, 5, 6, 7, 30, 31] (ee11 x1 x3 x4 x5 x6 x7 x30 x31)) S).1 (ownAll [1006] (keepOnly [1, 3, 4, 5, 6, 7, 30, 31] (ee11 x1 x3 x4 x5 x6 x7 x30 x31)) S).2 from by kernel_rfl).trans ((own_mem (fun e S => (fzSlots [] e S).bind (fun r => L0g b r.2.length r.1 r.2)) 1006 [] (e := (keepOnly [1, 3, 4, 5, 6, 7, 30, 31] (ee11 x1 x3 x4 x5 x6 x7 x30 x31))) (S := S) (by decide)).trans ((congrArg (withM S (get (keepOnly [1, 3, 4, 5, 6, 7, 30, 31] (ee11 x1 x3 x4 x5 x6 x7 x30 x31)) 6) 0) (funext fun S => show _ = (L0 b (List.length S) x1 x3 x4 x5 x6 x7 x30 x31 S) from (by kernel_rfl))).trans (by kernel_rfl)))
@[go_sem] theorem k206_n : k206 b .normal (ee11 x1 x3 x4 x5 x6 x7 x30 x31) S =
  withM S x6 0 fun S => L0 b (List.length S) x1 x3 x4 x5 x6 x7 x30 x31 S := nr (seqN ((blockE (by kernel_rfl)).trans (L0_in b x1 x3 x4 x5 x6 x7 x30 x31 S)))
@[go_sem] theorem g270 : execL (C b) 0 c204 K (ee4 x1 x3 x4 x5 x6 x7) S =
  withV (some x3) fun x30 =>
    withV (some (.int .i64 0)) fun x31 =>
    K .normal (ee11 x1 x3 x4 x5 x6 x7 x30 x31) S := nr (by kernel_rfl)
@[go_sem] theorem k203_n : k203 b .normal (ee4 x1 x3 x4 x5 x6 x7) S =
  execL (C b) 0 c204 (k206 b) (ee4 x1 x3 x4 x5 x6 x7) S := nr (seqN ((enterS (by kernel_rfl)).trans (enterS (by kernel_rfl))))
def k271 (b : Nat) : KT := seqC (fun e S => execL (C b) 0 c8 (k0 b) e S) (k0 b)
@[go_sem] theorem g272 : execL (C b) 0 c9 K (ee3 x1 x3 x4 x5 x6) S =
  withN (allocO (tyi Try.prog 22) (List.length S)) S fun x7 S =>
    K .normal (ee4 x1 x3 x4 x5 x6 x7) S := nr (by kernel_rfl)
@[go_sem] theorem k271_n : k271 b .normal e S = execL (C b) 0 c9 (k203 b) e S := nr (seqN (enterS (by kernel_rfl)))
def k273 (b : Nat) : KT := seqC (fun e S => execL (C b) 0 c6 (k0 b) e S) (k0 b)
@[go_sem] theorem g274 : execL (C b) 0 c7 K (ee2 x1 x3 x4 x5) S =
  withV (some x3) fun x28 =>
    withN (makeSliceO Try.prog 23 (List.length S) x28 x28) S fun x29 S =>
    withV (some x29) fun x6 =>
    K .normal (ee3 x1 x3 x4 x5 x6) S := nr (by kernel_rfl)
@[go_sem] theorem k273_n : k273 b .normal e S = execL (C b) 0 c7 (k271 b) e S := nr (seqN (enterS (by kernel_rfl)))
def k275 (b : Nat) : KT := seqC (fun e S => execL (C b) 0 c4 (k0 b) e S) (k0 b)
@[go_sem] theorem g276 : execL (C b) 0 c5 K (ee1 x1 x3) S =
  withV (some x3) fun x24 =>
    withN (makeSliceO Try.prog 22 (List.length S) x24 x24) S fun x25 S =>
    withV (some x3) fun x26 =>
    withN (makeSliceO Try.prog 22 (List.length S) x26 x26) S fun x27 S =>
    withN (allocO (tyi Try.prog 22) (List.length S)) S fun x4 S =>
    withS (storeE (tyi Try.prog 22) S x4 x25) fun _u S =>
    withV (some x27) fun x5 =>
    K .normal (ee2 x1 x3 x4 x5) S := nr (by kernel_rfl)
@[go_sem] theorem k275_n : k275 b .normal e S = execL (C b) 0 c5 (k273 b) e S := nr (seqN (enterS (by kernel_rfl)))
def k277 (b : Nat) : KT := seqC (fun e S => execL (C b) 0 c2 (k0 b) e S) (k0 b)
@[go_sem] theorem g278 : execL (C b) 0 c3 K (ee0 x1) S =
  withV (evFieldAddr (tyi Try.prog 26) 0 x1) fun x21 =>
    withV (evLoad (tyi Try.prog 22) S x21) fun x22 =>
    withV (lenO (tyi Try.prog 22) x22) fun x23 =>
    withV (some x23) fun x3 =>
    K .normal (ee1 x1 x3) S := nr (by kernel_rfl)
@[go_sem] theorem k277_n : k277 b .normal e S = execL (C b) 0 c3 (k275 b) e S := nr (seqN (enterS (by kernel_rfl)))
@[go_sem] theorem g279 : execL (C b) 0 c1 K [(0, x0)] S =
  withN (boxed S (List.length S) (TI.size (tyi Try.prog 26)) x0) S fun x1 S =>
    withV (some (.sl [] true)) fun x2 =>
    K .normal (ee0 x1) S := nr (by kernel_rfl)
def E (b : Nat) (x0 : PV) (S : Store) : RT := execL (C b) 0 code (k0 b) [(0, x0)] S
@[go_sem] theorem E_eq : E b x0 S =
  execL (C b) 0 c1 (k277 b) [(0, x0)] S := nr (enterS (by kernel_rfl))
@[go_sem] theorem k0_ret29 : k0 b .ret (ee29 x2) S = some (x2, S) := nr (by kernel_rfl)
theorem call {x0 : PV} {r : PV × Store} {v : PV} (h : E 0 x0 [] = some r) (hv : fzPV r.2 r.1 = some v) : callL Try.prog hints 57 [x0] = some v := callL_of (fn := Try.f57) (c := code) (by kernel_rfl) (by kernel_rfl) (by decide) (by kernel_rfl) (Nat.le_of_ble_eq_true (by kernel_rfl)) h hv
end
end F57
end
end Go.Vs
