/- Printed by a program of mine (stage1.py): the functions 72, 78, 79, 81, piece by piece. -/

import Derived.Test.YtnddhkcciphhkaaMP9
set_option linter.unusedVariables false
set_option linter.unusedSimpArgs false
namespace Go.Vs
open Go Go.Proofs
noncomputable section

/-! ### tree.root -/
namespace F72
section
variable (b : Nat) (K : KT) (x0 x1 x2 x3 x12 : PV) (e : Env) (S : Store)
noncomputable def hint : Hint := { keep := [], loops := [], regs := [(0, [1]), (1, [1, 3]), (2, [1, 3, 12]), (3, [2]), (4, [2])] }
noncomputable def C (b : Nat) : Ctx := ctxL Try.prog hints b hint
noncomputable def code : Code := Try.f72.body.get rfl
noncomputable def k0 (b : Nat) : KT := endC Try.prog Try.f72
def ee0 (x1 : PV) : Env := [(1, x1)]
def ee1 (x1 x3 : PV) : Env := [(1, x1), (3, x3)]
def ee2 (x1 x3 x12 : PV) : Env := [(1, x1), (3, x3), (12, x12)]
def ee3 (x2 : PV) : Env := [(2, x2)]
def c1 : Code := at0 code
def c2 : Code := at1 code
def c3 : Code := at0 c2
def c4 : Code := at1 c2
def c5 : Code := at0 c4
def c6 : Code := at1 c4
def c7 : Code := at0 c6
def c8 : Code := at1 c6
def k9 (b : Nat) : KT := seqC (fun e S => execL (C b) 0 c8 (k0 b) e S) (k0 b)
@[go_sem] theorem k9_n : k9 b .normal (ee3 x2) S =
  (k0 b) .ret (ee3 x2) S := nr (seqN (execL_ret (by kernel_rfl)))
def k10 (b : Nat) : KT := seqC (fun e S => execL (C b) 0 c6 (k0 b) e S) (k0 b)
@[go_sem] theorem g11 : execL (C b) 0 c7 K (ee2 x1 x3 x12) S =
  withV (evLoad (tyi Try.prog 54) S x1) fun x13 =>
    withV (some x3) fun x14 =>
    withN (callO (callL Try.prog hints) S 36 [x13, x14]) S fun x15 S =>
    withV (some x15) fun x2 =>
    K .normal (ee3 x2) S := nr (by kernel_rfl)
@[go_sem] theorem k10_n : k10 b .normal e S = execL (C b) 0 c7 (k9 b) e S := nr (seqN (enterS (by kernel_rfl)))
@[go_sem] theorem k10_ret : k10 b .ret e S = (k0 b) .ret e S := nr (seqC_r _ _ _ _)
def k12 (b : Nat) : KT := seqC (fun e S => execL (C b) 0 c4 (k0 b) e S) (k0 b)
def c13 : Code := at0 c5
def c14 : Code := at1 c5
def k15 (b : Nat) : KT := seqC (fun e S => execL (C b) 0 c14 (k10 b) e S) (k10 b)
def c16 : Code := atT c14
def c19 : Code := at0 c16
def c20 : Code := at1 c16
def k21 (b : Nat) : KT := seqC (fun e S => execL (C b) 0 c20 (k10 b) e S) (k10 b)
@[go_sem] theorem k21_n : k21 b .normal (ee3 x2) S =
  (k10 b) .ret (ee3 x2) S := nr (seqN (execL_ret (by kernel_rfl)))
@[go_sem] theorem g22 : execL (C b) 0 c19 K (ee2 x1 x3 x12) S =
  withV (some (.int .i64 80)) fun x2 =>
    K .normal (ee3 x2) S := nr (by kernel_rfl)
@[go_sem] theorem k15_n : k15 b .normal (ee2 x1 x3 x12) S =
  condC x12 (execL (C b) 0 c19 (k21 b) (ee2 x1 x3 x12) S)
    ((k10 b) .normal (ee2 x1 x3 x12) S) := nr (seqN (condE (t := 12) (by kernel_rfl) (enterS (by kernel_rfl)) (execL_skip (by kernel_rfl)) rfl))
@[go_sem] theorem g23 : execL (C b) 0 c13 K (ee1 x1 x3) S =
  withV (some x3) fun x7 =>
    withV (evBin .eql (tyi Try.prog 3) x7 (.int .i64 0)) fun x8 =>
    withV (some x8) fun x9 =>
    withV (gval x9 false (some x3)) fun x10 =>
    withV (gval x9 false (evBin .eql (tyi Try.prog 3) x10 (.int .i64 4))) fun x11 =>
    withV (pickO x9 (.bool true) x11) fun x12 =>
    K .normal (ee2 x1 x3 x12) S := nr (by kernel_rfl)
@[go_sem] theorem k12_n : k12 b .normal (ee1 x1 x3) S =
  execL (C b) 0 c13 (k15 b) (ee1 x1 x3) S := nr (seqN ((enterS (by kernel_rfl)).trans (enterS (by kernel_rfl))))
def k24 (b : Nat) : KT := seqC (fun e S => execL (C b) 0 c2 (k0 b) e S) (k0 b)
@[go_sem] theorem g25 : execL (C b) 0 c3 K (ee0 x1) S =
  withV (evFieldAddr (tyi Try.prog 54) 0 x1) fun x4 =>
    withV (evLoad (tyi Try.prog 3) S x4) fun x5 =>
    withN (callO (callL Try.prog hints) S 40 [x5]) S fun x6 S =>
    withV (some x6) fun x3 =>
    K .normal (ee1 x1 x3) S := nr (by kernel_rfl)
@[go_sem] theorem k24_n : k24 b .normal e S = execL (C b) 0 c3 (k12 b) e S := nr (seqN (enterS (by kernel_rfl)))
@[go_sem] theorem g26 : execL (C b) 0 c1 K [(0, x0)] S =
  withN (boxed S (List.length S) (TI.size (tyi Try.prog 54)) x0) S fun x1 S =>
    withV (some (.int .i64 0)) fun x2 =>
    K .normal (ee0 x1) S := nr (by kernel_rfl)
def E (b : Nat) (x0 : PV) (S : Store) : RT := execL (C b) 0 code (k0 b) [(0, x0)] S
@[go_sem] theorem E_eq : E b x0 S =
  execL (C b) 0 c1 (k24 b) [(0, x0)] S := nr (enterS (by kernel_rfl))
@[go_sem] theorem k0_ret3 : k0 b .ret (ee3 x2) S = some (x2, S) := nr (by kernel_rfl)
theorem call {x0 : PV} {r : PV × Store} {v : PV} (h : E 0 x0 [] = some r) (hv : fzPV r.2 r.1 = some v) : callL Try.prog hints 72 [x0] = some v := callL_of (fn := Try.f72) (c := code) (by kernel_rfl) (by kernel_rfl) (by decide) (by kernel_rfl) (Nat.le_of_ble_eq_true (by kernel_rfl)) h hv
end
end F72
/-! ### tree.step -/
namespace F78
section
variable (b i n n0 : Nat) (K : KT) (x0 x1 x2 x4 x5 x7 x8 x9 x10 x11 x22 : PV) (e : Env) (S : Store)
noncomputable def hint : Hint := { keep := [], loops := [(0, { live := [2, 4, 8, 9, 10], after := [2, 4], own := [], fz := [] })], regs := [(0, [1, 2, 4]), (1, [2, 4, 8, 9, 10]), (2, [2, 4, 8, 9, 10, 11]), (3, [2, 4, 7, 8, 9, 10]), (4, [2, 4, 7, 8, 9, 10, 22]), (5, [4, 5]), (6, [2, 4, 8, 9, 10]), (7, [2, 4, 8, 9, 10]), (8, [4, 5])] }
noncomputable def C (b : Nat) : Ctx := ctxL Try.prog hints b hint
noncomputable def code : Code := Try.f78.body.get rfl
noncomputable def k0 (b : Nat) : KT := endC Try.prog Try.f78
def ee0 (x1 x2 x4 : PV) : Env := [(1, x1), (2, x2), (4, x4)]
def ee1 (x2 x4 x7 x8 x9 x10 : PV) : Env := [(2, x2), (4, x4), (7, x7), (8, x8), (9, x9), (10, x10)]
def ee2 (x2 x4 x7 x8 x9 x10 x22 : PV) : Env := [(2, x2), (4, x4), (7, x7), (8, x8), (9, x9), (10, x10), (22, x22)]
def ee3 (x2 x4 x8 x9 x10 : PV) : Env := [(2, x2), (4, x4), (8, x8), (9, x9), (10, x10)]
def ee4 (x2 x4 x8 x9 x10 x11 : PV) : Env := [(2, x2), (4, x4), (8, x8), (9, x9), (10, x10), (11, x11)]
def ee5 (x4 x5 : PV) : Env := [(4, x4), (5, x5)]
def c1 : Code := at0 code
def c2 : Code := at1 code
def c3 : Code := at0 c2
def c4 : Code := at1 c2
def c5 : Code := at0 c4
def c6 : Code := at1 c4
def k7 (b : Nat) : KT := seqC (fun e S => execL (C b) 0 c6 (k0 b) e S) (k0 b)
@[go_sem] theorem k7_n : k7 b .normal (ee5 x4 x5) S =
  (k0 b) .ret (ee5 x4 x5) S := nr (seqN (execL_ret (by kernel_rfl)))
def k8 (b : Nat) : KT := seqC (fun e S => execL (C b) 0 c4 (k0 b) e S) (k0 b)
@[go_sem] theorem g9 : execL (C b) 0 c5 K (ee4 x2 x4 x8 x9 x10 x11) S =
  withV (evLoad (tyi Try.prog 54) S x2) fun x30 =>
    withS (storeE (tyi Try.prog 54) S x4 x30) fun _u S =>
    withV (some (.bool true)) fun x5 =>
    K .normal (ee5 x4 x5) S := nr (by kernel_rfl)
@[go_sem] theorem k8_n : k8 b .normal e S = execL (C b) 0 c5 (k7 b) e S := nr (seqN (enterS (by kernel_rfl)))
@[go_sem] theorem k8_ret : k8 b .ret e S = (k0 b) .ret e S := nr (seqC_r _ _ _ _)
def k10 (b : Nat) : KT := seqC (fun e S => execL (C b) 0 c2 (k0 b) e S) (k0 b)
def c11 : Code := at0 c3
def c12 : Code := at1 c3
def k13 (b : Nat) : KT := seqC (fun e S => execL (C b) 0 c12 (k8 b) e S) (k8 b)
def c14 : Code := atB c12
def k15 (b : Nat) : KT := blockC 0 (k8 b)
@[go_sem] theorem k15_ret : k15 b .ret e S = (k8 b) .ret e S := nr (blockC_r _ _ _ _)
@[go_sem] theorem k15_exit : k15 b (.exit i) e S = if i = 0 then (k8 b) .normal e S else (k8 b) (.exit i) e S := nr (blockC_x _ _ _ _ _)
def c16 : Code := atL c14
def k17 (b n0 : Nat) : KT := afterC 0 n0 [2, 4] (k15 b)
def L0g (b n0 : Nat) (e : Env) (S : Store) : RT := loopL (fun K e S => execL (C b) 0 c16 K e S) (normG [2, 4, 8, 9, 10] [] n0) (k17 b n0) e S
def L0 (b n0 : Nat) (x2 x4 x8 x9 x10 : PV) (S : Store) : RT := L0g b n0 (ee3 x2 x4 x8 x9 x10) S
def k18 (b n0 : Nat) : KT := stepC (normG [2, 4, 8, 9, 10] [] n0) (k17 b n0) (L0g b n0)
@[go_sem] theorem k18_n : k18 b n0 .normal (ee3 x2 x4 x8 x9 x10) S = L0 b n0 x2 x4 x8 x9 x10 (gc n0 (ee3 x2 x4 x8 x9 x10) S) := nr (by kernel_rfl)
@[go_sem] theorem k18_ret : k18 b n0 .ret e S = (k15 b) .ret e S := nr ((show k18 b n0 .ret e S = (k17 b n0) .ret e S from stepC_r _ _ _ _ _).trans (afterC_r _ _ _ _ _ _))
@[go_sem] theorem k18_x1 : k18 b n0 (.exit 0) (ee4 x2 x4 x8 x9 x10 x11) S = (k15 b) (.exit 0) (ee4 x2 x4 .undef .undef .undef .undef) (gc n0 (ee4 x2 x4 .undef .undef .undef .undef) S) := nr ((show k18 b n0 (.exit 0) (ee4 x2 x4 x8 x9 x10 x11) S = (k17 b n0) (.exit 0) (ee4 x2 x4 x8 x9 x10 x11) S from stepC_x _ _ _ _ _ _).trans ((show (k17 b n0) (.exit 0) (ee4 x2 x4 x8 x9 x10 x11) S = _ from afterC_x _ _ _ _ _ _ _).trans (if_pos rfl)))
def c19 : Code := at0 c16
def c20 : Code := at1 c16
def c22 : Code := at1 c20
def c23 : Code := at0 c22
def c24 : Code := at1 c22
def k25 (b n0 : Nat) : KT := seqC (fun e S => execL (C b) 0 c24 (k18 b n0) e S) (k18 b n0)
@[go_sem] theorem g26 : execL (C b) 0 c24 K (ee3 x2 x4 x8 x9 x10) S =
  withV (evBin .add (tyi Try.prog 3) x10 (.int .i64 1)) fun x29 =>
    withV (some x29) fun x10 =>
    K .normal (ee3 x2 x4 x8 x9 x10) S := nr (by kernel_rfl)
@[go_sem] theorem k25_n : k25 b n0 .normal e S = execL (C b) 0 c24 (k18 b n0) e S := nr (seqN rfl)
@[go_sem] theorem k25_ret : k25 b n0 .ret e S = (k18 b n0) .ret e S := nr (seqC_r _ _ _ _)
def k27 (b n0 : Nat) : KT := seqC (fun e S => execL (C b) 0 c22 (k18 b n0) e S) (k18 b n0)
def c28 : Code := atB c23
def k29 (b n0 : Nat) : KT := blockC 1 (k25 b n0)
@[go_sem] theorem k29_n : k29 b n0 .normal e S = (k25 b n0) .normal e S := nr (blockC_n _ _ _ _)
@[go_sem] theorem k29_ret : k29 b n0 .ret e S = (k25 b n0) .ret e S := nr (blockC_r _ _ _ _)
def c30 : Code := at0 c28
def c31 : Code := at1 c28
def c32 : Code := at0 c31
def c33 : Code := at1 c31
def k34 (b n0 : Nat) : KT := seqC (fun e S => execL (C b) 1 c33 (k29 b n0) e S) (k29 b n0)
@[go_sem] theorem g35 : execL (C b) 1 c33 K (ee2 x2 x4 x7 x8 x9 x10 x22) S =
  withV (evFieldAddr (tyi Try.prog 54) 3 x2) fun x24 =>
    withV (evLoad (tyi Try.prog 52) S x24) fun x25 =>
    withV (some x7) fun x26 =>
    withV (indexAddrO Try.prog 52 S x25 x26) fun x27 =>
    withV (evLoad (tyi Try.prog 54) S x27) fun x28 =>
    withS (storeE (tyi Try.prog 54) S x2 x28) fun _u S =>
    K .normal (ee3 x2 x4 x8 x9 x10) S := nr (by kernel_rfl)
@[go_sem] theorem k34_n : k34 b n0 .normal e S = execL (C b) 1 c33 (k29 b n0) e S := nr (seqN rfl)
@[go_sem] theorem k34_ret : k34 b n0 .ret e S = (k29 b n0) .ret e S := nr (seqC_r _ _ _ _)
def k36 (b n0 : Nat) : KT := seqC (fun e S => execL (C b) 1 c31 (k29 b n0) e S) (k29 b n0)
def c37 : Code := at0 c32
def c38 : Code := at1 c32
def k39 (b n0 : Nat) : KT := seqC (fun e S => execL (C b) 1 c38 (k34 b n0) e S) (k34 b n0)
def c40 : Code := atT c38
def c43 : Code := at0 c40
def c44 : Code := at1 c40
def k45 (b n0 : Nat) : KT := seqC (fun e S => execL (C b) 1 c44 (k34 b n0) e S) (k34 b n0)
@[go_sem] theorem k45_n : k45 b n0 .normal (ee5 x4 x5) S =
  (k34 b n0) .ret (ee5 x4 x5) S := nr (seqN (execL_ret (by kernel_rfl)))
@[go_sem] theorem g46 : execL (C b) 1 c43 K (ee2 x2 x4 x7 x8 x9 x10 x22) S =
  withV (buildO (tyi Try.prog 54) []) fun x23 =>
    withS (storeE (tyi Try.prog 54) S x4 x23) fun _u S =>
    withV (some (.bool false)) fun x5 =>
    K .normal (ee5 x4 x5) S := nr (by kernel_rfl)
@[go_sem] theorem k39_n : k39 b n0 .normal (ee2 x2 x4 x7 x8 x9 x10 x22) S =
  condC x22 (execL (C b) 1 c43 (k45 b n0) (ee2 x2 x4 x7 x8 x9 x10 x22) S)
    ((k34 b n0) .normal (ee2 x2 x4 x7 x8 x9 x10 x22) S) := nr (seqN (condE (t := 22) (by kernel_rfl) (enterS (by kernel_rfl)) (execL_skip (by kernel_rfl)) rfl))
@[go_sem] theorem g47 : execL (C b) 1 c37 K (ee1 x2 x4 x7 x8 x9 x10) S =
  withV (some x7) fun x14 =>
    withV (evBin .lss (tyi Try.prog 3) x14 (.int .i64 0)) fun x15 =>
    withV (some x15) fun x16 =>
    withV (gval x16 false (some x7)) fun x17 =>
    withV (gval x16 false (evFieldAddr (tyi Try.prog 54) 3 x2)) fun x18 =>
    withV (gval x16 false (evLoad (tyi Try.prog 52) S x18)) fun x19 =>
    withV (gval x16 false (lenO (tyi Try.prog 52) x19)) fun x20 =>
    withV (gval x16 false (evBin .geq (tyi Try.prog 3) x17 x20)) fun x21 =>
    withV (pickO x16 (.bool true) x21) fun x22 =>
    K .normal (ee2 x2 x4 x7 x8 x9 x10 x22) S := nr (by kernel_rfl)
@[go_sem] theorem k36_n : k36 b n0 .normal (ee1 x2 x4 x7 x8 x9 x10) S =
  execL (C b) 1 c37 (k39 b n0) (ee1 x2 x4 x7 x8 x9 x10) S := nr (seqN ((enterS (by kernel_rfl)).trans (enterS (by kernel_rfl))))
@[go_sem] theorem g48 : execL (C b) 1 c30 K (ee4 x2 x4 x8 x9 x10 x11) S =
  withV (indexAddrO Try.prog 22 S x8 x10) fun x12 =>
    withV (evLoad (tyi Try.prog 3) S x12) fun x13 =>
    withV (some x13) fun x7 =>
    K .normal (ee1 x2 x4 x7 x8 x9 x10) S := nr (by kernel_rfl)
@[go_sem] theorem k27_n : k27 b n0 .normal (ee4 x2 x4 x8 x9 x10 x11) S =
  execL (C b) 1 c30 (k36 b n0) (ee4 x2 x4 x8 x9 x10 x11) S := nr (seqN ((enterS (by kernel_rfl)).trans ((blockE (by kernel_rfl)).trans (enterS (by kernel_rfl)))))
@[go_sem] theorem k27_exit : k27 b n0 (.exit i) e S = (k18 b n0) (.exit i) e S := nr (seqC_x _ _ _ _ _)
def k49 (b n0 : Nat) : KT := seqC (fun e S => execL (C b) 0 c20 (k18 b n0) e S) (k18 b n0)
@[go_sem] theorem k49_n : k49 b n0 .normal (ee4 x2 x4 x8 x9 x10 x11) S =
  condC x11 ((k27 b n0) .normal (ee4 x2 x4 x8 x9 x10 x11) S)
    ((k27 b n0) (.exit 0) (ee4 x2 x4 x8 x9 x10 x11) S) := nr (seqN ((enterS (by kernel_rfl)).trans (condE (t := 11) (by kernel_rfl) (execL_skip (by kernel_rfl)) (execL_exit (by kernel_rfl)) rfl)))
@[go_sem] theorem g52 : execL (C b) 0 c19 K (ee3 x2 x4 x8 x9 x10) S =
  withV (evBin .lss (tyi Try.prog 3) x10 x9) fun x11 =>
    K .normal (ee4 x2 x4 x8 x9 x10 x11) S := nr (by kernel_rfl)
def B0 (b n0 : Nat) (x2 x4 x8 x9 x10 : PV) (S : Store) : RT := execL (C b) 0 c16 (k18 b n0) (ee3 x2 x4 x8 x9 x10) S
@[go_sem] theorem B0_eq : B0 b n0 x2 x4 x8 x9 x10 S =
  execL (C b) 0 c19 (k49 b n0) (ee3 x2 x4 x8 x9 x10) S := nr (enterS (by kernel_rfl))
theorem L0_step {b n0 : Nat} {x2 x4 x8 x9 x10 : PV} {S : Store} {z : PV × Store} (h : B0 b n0 x2 x4 x8 x9 x10 S = some z) : L0 b n0 x2 x4 x8 x9 x10 S = some z := loopL_step h
theorem L0_in (b : Nat) (x2 x4 x8 x9 x10 : PV) (S : Store) : execL (C b) 0 c14 (k15 b) (ee3 x2 x4 x8 x9 x10) S = L0 b (List.length S) x2 x4 x8 x9 x10 S := by kernel_rfl
@[go_sem] theorem k13_n : k13 b .normal (ee3 x2 x4 x8 x9 x10) S =
  L0 b (List.length S) x2 x4 x8 x9 x10 S := nr (seqN ((blockE (by kernel_rfl)).trans (L0_in b x2 x4 x8 x9 x10 S)))
@[go_sem] theorem g54 : execL (C b) 0 c11 K (ee0 x1 x2 x4) S =
  withV (some x1) fun x8 =>
    withV (lenO (tyi Try.prog 22) x8) fun x9 =>
    withV (some (.int .i64 0)) fun x10 =>
    K .normal (ee3 x2 x4 x8 x9 x10) S := nr (by kernel_rfl)
@[go_sem] theorem k10_n : k10 b .normal (ee0 x1 x2 x4) S =
  execL (C b) 0 c11 (k13 b) (ee0 x1 x2 x4) S := nr (seqN ((enterS (by kernel_rfl)).trans (enterS (by kernel_rfl))))
@[go_sem] theorem g55 : execL (C b) 0 c1 K [(0, x0), (1, x1)] S =
  withN (boxed S (List.length S) (TI.size (tyi Try.prog 54)) x0) S fun x2 S =>
    withN (allocO (tyi Try.prog 54) (List.length S)) S fun x4 S =>
    withV (some (.bool false)) fun x5 =>
    K .normal (ee0 x1 x2 x4) S := nr (by kernel_rfl)
def E (b : Nat) (x0 x1 : PV) (S : Store) : RT := execL (C b) 0 code (k0 b) [(0, x0), (1, x1)] S
@[go_sem] theorem E_eq : E b x0 x1 S =
  execL (C b) 0 c1 (k10 b) [(0, x0), (1, x1)] S := nr (enterS (by kernel_rfl))
@[go_sem] theorem gc_ee3 : gc n (ee3 x2 x4 x8 x9 x10) S = gc n [(2, x2), (4, x4), (8, x8), (9, x9), (10, x10)] S := nr (rfl)
@[go_sem] theorem gc_ee4 : gc n (ee4 x2 x4 x8 x9 x10 x11) S = gc n [(2, x2), (4, x4), (8, x8), (9, x9), (10, x10), (11, x11)] S := nr (rfl)
@[go_sem] theorem k0_ret5 : k0 b .ret (ee5 x4 x5) S = withV (evLoad (tyi Try.prog 54) S x4) fun v0 => some ((.tup [v0, x5]), S) := nr ((show k0 b .ret (ee5 x4 x5) S = (evResults Try.prog Try.f78 [(4, x4), (5, x5)] S).map (fun v => (v, S)) from by kernel_rfl).trans ((evRes _ _ _ _).trans (by kernel_rfl)))
theorem call {x0 x1 : PV} {r : PV × Store} {v : PV} (h : E 0 x0 x1 [] = some r) (hv : fzPV r.2 r.1 = some v) : callL Try.prog hints 78 [x0, x1] = some v := callL_of (fn := Try.f78) (c := code) (by kernel_rfl) (by kernel_rfl) (by decide) (by kernel_rfl) (Nat.le_of_ble_eq_true (by kernel_rfl)) h hv
end
end F78
/-! ### tree.Copy -/
namespace F79
section
variable (b i n n0 : Nat) (K : KT) (x0 x1 x2 x3 x5 x6 x20 x31 x39 x40 x41 x42 : PV) (e : Env) (S : Store)
noncomputable def hint : Hint := { keep := [], loops := [(0, { live := [2, 3, 39, 40, 41], after := [2, 3], own := [6003], fz := [] })], regs := [(0, [1, 2]), (1, [1, 2, 3]), (2, [1, 2, 3, 20]), (3, [1, 2, 3, 20]), (4, [1, 2, 3, 31]), (5, [1, 2, 3, 31]), (6, [2, 3, 39, 40, 41]), (7, [2, 3, 39, 40, 41, 42]), (8, [2, 3, 5, 39, 40, 41]), (9, [2, 3, 6, 39, 40, 41]), (10, [2, 3, 39, 40, 41]), (11, [2, 3, 39, 40, 41]), (12, [2])] }
noncomputable def C (b : Nat) : Ctx := ctxL Try.prog hints b hint
noncomputable def code : Code := Try.f79.body.get rfl
noncomputable def k0 (b : Nat) : KT := endC Try.prog Try.f79
def ee0 (x1 x2 : PV) : Env := [(1, x1), (2, x2)]
def ee1 (x1 x2 x3 : PV) : Env := [(1, x1), (2, x2), (3, x3)]
def ee2 (x1 x2 x3 x20 : PV) : Env := [(1, x1), (2, x2), (3, x3), (20, x20)]
def ee3 (x1 x2 x3 x31 : PV) : Env := [(1, x1), (2, x2), (3, x3), (31, x31)]
def ee4 (x2 : PV) : Env := [(2, x2)]
def ee5 (x2 x3 x5 x39 x40 x41 : PV) : Env := [(2, x2), (3, x3), (5, x5), (39, x39), (40, x40), (41, x41)]
def ee6 (x2 x3 x6 x39 x40 x41 : PV) : Env := [(2, x2), (3, x3), (6, x6), (39, x39), (40, x40), (41, x41)]
def ee7 (x2 x3 x39 x40 x41 : PV) : Env := [(2, x2), (3, x3), (39, x39), (40, x40), (41, x41)]
def ee8 (x2 x3 x39 x40 x41 x42 : PV) : Env := [(2, x2), (3, x3), (39, x39), (40, x40), (41, x41), (42, x42)]
def c1 : Code := at0 code
def c2 : Code := at1 code
def c3 : Code := at0 c2
def c4 : Code := at1 c2
def c5 : Code := at0 c4
def c6 : Code := at1 c4
def c7 : Code := at0 c6
def c8 : Code := at1 c6
def c9 : Code := at0 c8
def c10 : Code := at1 c8
def c11 : Code := at0 c10
def c12 : Code := at1 c10
def k13 (b : Nat) : KT := seqC (fun e S => execL (C b) 0 c12 (k0 b) e S) (k0 b)
@[go_sem] theorem k13_n : k13 b .normal (ee4 x2) S =
  (k0 b) .ret (ee4 x2) S := nr (seqN (execL_ret (by kernel_rfl)))
def k14 (b : Nat) : KT := seqC (fun e S => execL (C b) 0 c10 (k0 b) e S) (k0 b)
@[go_sem] theorem g15 : execL (C b) 0 c11 K (ee8 x2 x3 x39 x40 x41 x42) S =
  withV (evLoad (tyi Try.prog 54) S x3) fun x54 =>
    withS (storeE (tyi Try.prog 54) S x2 x54) fun _u S =>
    K .normal (ee4 x2) S := nr (by kernel_rfl)
@[go_sem] theorem k14_n : k14 b .normal e S = execL (C b) 0 c11 (k13 b) e S := nr (seqN (enterS (by kernel_rfl)))
def k16 (b : Nat) : KT := seqC (fun e S => execL (C b) 0 c8 (k0 b) e S) (k0 b)
def c17 : Code := at0 c9
def c18 : Code := at1 c9
def k19 (b : Nat) : KT := seqC (fun e S => execL (C b) 0 c18 (k14 b) e S) (k14 b)
def c20 : Code := atB c18
def k21 (b : Nat) : KT := blockC 0 (k14 b)
@[go_sem] theorem k21_exit : k21 b (.exit i) e S = if i = 0 then (k14 b) .normal e S else (k14 b) (.exit i) e S := nr (blockC_x _ _ _ _ _)
def c22 : Code := atL c20
def k23 (b n0 : Nat) : KT := afterC 0 n0 [2, 3] (k21 b)
def L0g (b n0 : Nat) (e : Env) (S : Store) : RT := loopL (fun K e S => execL (C b) 0 c22 K e S) (normG [2, 3, 39, 40, 41] [] n0) (k23 b n0) e S
def L0 (b n0 : Nat) (x2 x3 x39 x40 x41 : PV) (S : Store) : RT := L0g b n0 (ee7 x2 x3 x39 x40 x41) S
def k24 (b n0 : Nat) : KT := stepC (normG [2, 3, 39, 40, 41] [] n0) (k23 b n0) (L0g b n0)
@[go_sem] theorem k24_n : k24 b n0 .normal (ee7 x2 x3 x39 x40 x41) S = L0 b n0 x2 x3 x39 x40 x41 (gc n0 (ee7 x2 x3 x39 x40 x41) S) := nr (by kernel_rfl)
@[go_sem] theorem k24_x1 : k24 b n0 (.exit 0) (ee8 x2 x3 x39 x40 x41 x42) S = (k21 b) (.exit 0) (ee8 x2 x3 .undef .undef .undef .undef) (gc n0 (ee8 x2 x3 .undef .undef .undef .undef) S) := nr ((show k24 b n0 (.exit 0) (ee8 x2 x3 x39 x40 x41 x42) S = (k23 b n0) (.exit 0) (ee8 x2 x3 x39 x40 x41 x42) S from stepC_x _ _ _ _ _ _).trans ((show (k23 b n0) (.exit 0) (ee8 x2 x3 x39 x40 x41 x42) S = _ from afterC_x _ _ _ _ _ _ _).trans (if_pos rfl)))
def c25 : Code := at0 c22
def c26 : Code := at1 c22
def c28 : Code := at1 c26
def c29 : Code := at0 c28
def c30 : Code := at1 c28
def k31 (b n0 : Nat) : KT := seqC (fun e S => execL (C b) 0 c30 (k24 b n0) e S) (k24 b n0)
@[go_sem] theorem g32 : execL (C b) 0 c30 K (ee7 x2 x3 x39 x40 x41) S =
  withV (evBin .add (tyi Try.prog 3) x41 (.int .i64 1)) fun x53 =>
    withV (some x53) fun x41 =>
    K .normal (ee7 x2 x3 x39 x40 x41) S := nr (by kernel_rfl)
@[go_sem] theorem k31_n : k31 b n0 .normal e S = execL (C b) 0 c30 (k24 b n0) e S := nr (seqN rfl)
def k33 (b n0 : Nat) : KT := seqC (fun e S => execL (C b) 0 c28 (k24 b n0) e S) (k24 b n0)
def c34 : Code := atB c29
def k35 (b n0 : Nat) : KT := blockC 1 (k31 b n0)
@[go_sem] theorem k35_n : k35 b n0 .normal e S = (k31 b n0) .normal e S := nr (blockC_n _ _ _ _)
def c36 : Code := at0 c34
def c37 : Code := at1 c34
def c38 : Code := at0 c37
def c39 : Code := at1 c37
def k40 (b n0 : Nat) : KT := seqC (fun e S => execL (C b) 1 c39 (k35 b n0) e S) (k35 b n0)
@[go_sem] theorem g41 : execL (C b) 1 c39 K (ee6 x2 x3 x6 x39 x40 x41) S =
  withV (evFieldAddr (tyi Try.prog 54) 3 x3) fun x47 =>
    withV (evLoad (tyi Try.prog 52) S x47) fun x48 =>
    withV (evLoad (tyi Try.prog 54) S x6) fun x49 =>
    withN (buildSliceO Try.prog 52 (List.length S) 1 [0] [PV.cells x49]) S fun x50 S =>
    withE (appendE Try.prog b 52 52 S x48 x50) [(2, x2), (3, x3), (6, x6), (39, x39), (40, x40), (41, x41), (47, x47), (48, x48), (49, x49), (50, x50)] fun x51 e1 S =>
    withV (evFieldAddr (tyi Try.prog 54) 3 (Vs.get (put e1 51 x51) 3)) fun x52 =>
    withS (storeE (tyi Try.prog 52) S (Vs.get (put (put e1 51 x51) 52 x52) 52) (Vs.get (put (put e1 51 x51) 52 x52) 51)) fun _u S =>
    K .normal (ee7 (Vs.get (put (put e1 51 x51) 52 x52) 2) (Vs.get (put (put e1 51 x51) 52 x52) 3) (Vs.get (put (put e1 51 x51) 52 x52) 39) (Vs.get (put (put e1 51 x51) 52 x52) 40) (Vs.get (put (put e1 51 x51) 52 x52) 41)) S := nr (by kernel_rfl)
@[go_sem] theorem k40_n : k40 b n0 .normal e S = execL (C b) 1 c39 (k35 b n0) e S := nr (seqN rfl)
def k42 (b n0 : Nat) : KT := seqC (fun e S => execL (C b) 1 c37 (k35 b n0) e S) (k35 b n0)
@[go_sem] theorem g43 : execL (C b) 1 c38 K (ee5 x2 x3 x5 x39 x40 x41) S =
  withV (evLoad (tyi Try.prog 54) S x5) fun x45 =>
    withN (callO (callL Try.prog hints) S 79 [x45]) S fun x46 S =>
    withN (allocO (tyi Try.prog 54) (List.length S)) S fun x6 S =>
    withS (storeE (tyi Try.prog 54) S x6 x46) fun _u S =>
    K .normal (ee6 x2 x3 x6 x39 x40 x41) S := nr (by kernel_rfl)
@[go_sem] theorem k42_n : k42 b n0 .normal e S = execL (C b) 1 c38 (k40 b n0) e S := nr (seqN (enterS (by kernel_rfl)))
@[go_sem] theorem g44 : execL (C b) 1 c36 K (ee8 x2 x3 x39 x40 x41 x42) S =
  withV (indexAddrO Try.prog 52 S x39 x41) fun x43 =>
    withV (evLoad (tyi Try.prog 54) S x43) fun x44 =>
    withN (allocO (tyi Try.prog 54) (List.length S)) S fun x5 S =>
    withS (storeE (tyi Try.prog 54) S x5 x44) fun _u S =>
    K .normal (ee5 x2 x3 x5 x39 x40 x41) S := nr (by kernel_rfl)
@[go_sem] theorem k33_n : k33 b n0 .normal (ee8 x2 x3 x39 x40 x41 x42) S =
  execL (C b) 1 c36 (k42 b n0) (ee8 x2 x3 x39 x40 x41 x42) S := nr (seqN ((enterS (by kernel_rfl)).trans ((blockE (by kernel_rfl)).trans (enterS (by kernel_rfl)))))
@[go_sem] theorem k33_exit : k33 b n0 (.exit i) e S = (k24 b n0) (.exit i) e S := nr (seqC_x _ _ _ _ _)
def k45 (b n0 : Nat) : KT := seqC (fun e S => execL (C b) 0 c26 (k24 b n0) e S) (k24 b n0)
@[go_sem] theorem k45_n : k45 b n0 .normal (ee8 x2 x3 x39 x40 x41 x42) S =
  condC x42 ((k33 b n0) .normal (ee8 x2 x3 x39 x40 x41 x42) S)
    ((k33 b n0) (.exit 0) (ee8 x2 x3 x39 x40 x41 x42) S) := nr (seqN ((enterS (by kernel_rfl)).trans (condE (t := 42) (by kernel_rfl) (execL_skip (by kernel_rfl)) (execL_exit (by kernel_rfl)) rfl)))
@[go_sem] theorem g48 : execL (C b) 0 c25 K (ee7 x2 x3 x39 x40 x41) S =
  withV (evBin .lss (tyi Try.prog 3) x41 x40) fun x42 =>
    K .normal (ee8 x2 x3 x39 x40 x41 x42) S := nr (by kernel_rfl)
def B0 (b n0 : Nat) (x2 x3 x39 x40 x41 : PV) (S : Store) : RT := execL (C b) 0 c22 (k24 b n0) (ee7 x2 x3 x39 x40 x41) S
@[go_sem] theorem B0_eq : B0 b n0 x2 x3 x39 x40 x41 S =
  execL (C b) 0 c25 (k45 b n0) (ee7 x2 x3 x39 x40 x41) S := nr (enterS (by kernel_rfl))
theorem L0_step {b n0 : Nat} {x2 x3 x39 x40 x41 : PV} {S : Store} {z : PV × Store} (h : B0 b n0 x2 x3 x39 x40 x41 S = some z) : L0 b n0 x2 x3 x39 x40 x41 S = some z := loopL_step h
theorem L0_in (b : Nat) (x2 x3 x39 x40 x41 : PV) (S : Store) : execL (C b) 0 c20 (k21 b) (ee7 x2 x3 x39 x40 x41) S = withM S x3 5 fun S => L0 b (List.length S) x2 x3 x39 x40 x41 S := (show execL (C b) 0 c20 (k21 b) (ee7 x2 x3 x39 x40 x41) S = (fun e S => (fzSlots [] e S).bind (fun r => L0g b r.2.length r.1 r.2)) (ownAll [6003] (keepOnly [2, 3, 39, 40, 41] (ee7 x2 x3 x39 x40 x41)) S).1 (ownAll [6003] (keepOnly [2, 3, 39, 40, 41] (ee7 x2 x3 x39 x40 x41)) S).2 from by kernel_rfl).trans ((own_mem (fun e S => (fzSlots [] e S).bind (fun r => L0g b r.2.length r.1 r.2)) 6003 [] (e := (keepOnly [2, 3, 39, 40, 41] (ee7 x2 x3 x39 x40 x41))) (S := S) (by decide)).trans ((congrArg (withM S (get (keepOnly [2, 3, 39, 40, 41] (ee7 x2 x3 x39 x40 x41)) 3) 5) (funext fun S => show _ = (L0 b (List.length S) x2 x3 x39 x40 x41 S) from (by kernel_rfl))).trans (by kernel_rfl)))
@[go_sem] theorem k19_n : k19 b .normal (ee7 x2 x3 x39 x40 x41) S =
  withM S x3 5 fun S => L0 b (List.length S) x2 x3 x39 x40 x41 S := nr (seqN ((blockE (by kernel_rfl)).trans (L0_in b x2 x3 x39 x40 x41 S)))
@[go_sem] theorem g50 : execL (C b) 0 c17 K (ee3 x1 x2 x3 x31) S =
  withV (evFieldAddr (tyi Try.prog 54) 3 x1) fun x38 =>
    withV (evLoad (tyi Try.prog 52) S x38) fun x39 =>
    withV (lenO (tyi Try.prog 52) x39) fun x40 =>
    withV (some (.int .i64 0)) fun x41 =>
    K .normal (ee7 x2 x3 x39 x40 x41) S := nr (by kernel_rfl)
@[go_sem] theorem k16_n : k16 b .normal (ee3 x1 x2 x3 x31) S =
  execL (C b) 0 c17 (k19 b) (ee3 x1 x2 x3 x31) S := nr (seqN ((enterS (by kernel_rfl)).trans (enterS (by kernel_rfl))))
def k51 (b : Nat) : KT := seqC (fun e S => execL (C b) 0 c6 (k0 b) e S) (k0 b)
def c52 : Code := at0 c7
def c53 : Code := at1 c7
def k54 (b : Nat) : KT := seqC (fun e S => execL (C b) 0 c53 (k16 b) e S) (k16 b)
def c55 : Code := atT c53
@[go_sem] theorem g58 : execL (C b) 0 c55 K (ee3 x1 x2 x3 x31) S =
  withV (evFieldAddr (tyi Try.prog 54) 2 x1) fun x32 =>
    withV (evFieldAddr (tyi Try.prog 51) 2 x32) fun x33 =>
    withV (evLoad (tyi Try.prog 49) S x33) fun x34 =>
    withE (appendE Try.prog b 49 49 S (.sl [] true) x34) [(1, x1), (2, x2), (3, x3), (31, x31), (32, x32), (33, x33), (34, x34)] fun x35 e1 S =>
    withV (evFieldAddr (tyi Try.prog 54) 2 (Vs.get (put e1 35 x35) 3)) fun x36 =>
    withV (evFieldAddr (tyi Try.prog 51) 2 (Vs.get (put (put e1 35 x35) 36 x36) 36)) fun x37 =>
    withS (storeE (tyi Try.prog 49) S (Vs.get (put (put (put e1 35 x35) 36 x36) 37 x37) 37) (Vs.get (put (put (put e1 35 x35) 36 x36) 37 x37) 35)) fun _u S =>
    K .normal (ee3 (Vs.get (put (put (put e1 35 x35) 36 x36) 37 x37) 1) (Vs.get (put (put (put e1 35 x35) 36 x36) 37 x37) 2) (Vs.get (put (put (put e1 35 x35) 36 x36) 37 x37) 3) (Vs.get (put (put (put e1 35 x35) 36 x36) 37 x37) 31)) S := nr (by kernel_rfl)
@[go_sem] theorem k54_n : k54 b .normal (ee3 x1 x2 x3 x31) S =
  condC x31 (execL (C b) 0 c55 (k16 b) (ee3 x1 x2 x3 x31) S)
    ((k16 b) .normal (ee3 x1 x2 x3 x31) S) := nr (seqN (condE (t := 31) (by kernel_rfl) (rfl) (execL_skip (by kernel_rfl)) rfl))
@[go_sem] theorem g59 : execL (C b) 0 c52 K (ee2 x1 x2 x3 x20) S =
  withV (evFieldAddr (tyi Try.prog 54) 2 x1) fun x27 =>
    withV (evFieldAddr (tyi Try.prog 51) 2 x27) fun x28 =>
    withV (evLoad (tyi Try.prog 49) S x28) fun x29 =>
    withV (lenO (tyi Try.prog 49) x29) fun x30 =>
    withV (evBin .gtr (tyi Try.prog 3) x30 (.int .i64 0)) fun x31 =>
    K .normal (ee3 x1 x2 x3 x31) S := nr (by kernel_rfl)
@[go_sem] theorem k51_n : k51 b .normal (ee2 x1 x2 x3 x20) S =
  execL (C b) 0 c52 (k54 b) (ee2 x1 x2 x3 x20) S := nr (seqN ((enterS (by kernel_rfl)).trans (enterS (by kernel_rfl))))
def k60 (b : Nat) : KT := seqC (fun e S => execL (C b) 0 c4 (k0 b) e S) (k0 b)
def c61 : Code := at0 c5
def c62 : Code := at1 c5
def k63 (b : Nat) : KT := seqC (fun e S => execL (C b) 0 c62 (k51 b) e S) (k51 b)
def c64 : Code := atT c62
@[go_sem] theorem g67 : execL (C b) 0 c64 K (ee2 x1 x2 x3 x20) S =
  withV (evFieldAddr (tyi Try.prog 54) 2 x1) fun x21 =>
    withV (evFieldAddr (tyi Try.prog 51) 1 x21) fun x22 =>
    withV (evLoad (tyi Try.prog 49) S x22) fun x23 =>
    withE (appendE Try.prog b 49 49 S (.sl [] true) x23) [(1, x1), (2, x2), (3, x3), (20, x20), (21, x21), (22, x22), (23, x23)] fun x24 e1 S =>
    withV (evFieldAddr (tyi Try.prog 54) 2 (Vs.get (put e1 24 x24) 3)) fun x25 =>
    withV (evFieldAddr (tyi Try.prog 51) 1 (Vs.get (put (put e1 24 x24) 25 x25) 25)) fun x26 =>
    withS (storeE (tyi Try.prog 49) S (Vs.get (put (put (put e1 24 x24) 25 x25) 26 x26) 26) (Vs.get (put (put (put e1 24 x24) 25 x25) 26 x26) 24)) fun _u S =>
    K .normal (ee2 (Vs.get (put (put (put e1 24 x24) 25 x25) 26 x26) 1) (Vs.get (put (put (put e1 24 x24) 25 x25) 26 x26) 2) (Vs.get (put (put (put e1 24 x24) 25 x25) 26 x26) 3) (Vs.get (put (put (put e1 24 x24) 25 x25) 26 x26) 20)) S := nr (by kernel_rfl)
@[go_sem] theorem k63_n : k63 b .normal (ee2 x1 x2 x3 x20) S =
  condC x20 (execL (C b) 0 c64 (k51 b) (ee2 x1 x2 x3 x20) S)
    ((k51 b) .normal (ee2 x1 x2 x3 x20) S) := nr (seqN (condE (t := 20) (by kernel_rfl) (rfl) (execL_skip (by kernel_rfl)) rfl))
@[go_sem] theorem g68 : execL (C b) 0 c61 K (ee1 x1 x2 x3) S =
  withV (evFieldAddr (tyi Try.prog 54) 2 x1) fun x16 =>
    withV (evFieldAddr (tyi Try.prog 51) 1 x16) fun x17 =>
    withV (evLoad (tyi Try.prog 49) S x17) fun x18 =>
    withV (lenO (tyi Try.prog 49) x18) fun x19 =>
    withV (evBin .gtr (tyi Try.prog 3) x19 (.int .i64 0)) fun x20 =>
    K .normal (ee2 x1 x2 x3 x20) S := nr (by kernel_rfl)
@[go_sem] theorem k60_n : k60 b .normal (ee1 x1 x2 x3) S =
  execL (C b) 0 c61 (k63 b) (ee1 x1 x2 x3) S := nr (seqN ((enterS (by kernel_rfl)).trans (enterS (by kernel_rfl))))
def k69 (b : Nat) : KT := seqC (fun e S => execL (C b) 0 c2 (k0 b) e S) (k0 b)
@[go_sem] theorem g70 : execL (C b) 0 c3 K (ee0 x1 x2) S =
  withV (evFieldAddr (tyi Try.prog 54) 0 x1) fun x7 =>
    withV (evLoad (tyi Try.prog 3) S x7) fun x8 =>
    withV (evFieldAddr (tyi Try.prog 54) 1 x1) fun x9 =>
    withV (evLoad (tyi Try.prog 9) S x9) fun x10 =>
    withV (evFieldAddr (tyi Try.prog 54) 2 x1) fun x11 =>
    withV (evFieldAddr (tyi Try.prog 51) 0 x11) fun x12 =>
    withV (evLoad (tyi Try.prog 4) S x12) fun x13 =>
    withV (buildO (tyi Try.prog 51) [(0, x13)]) fun x14 =>
    withV (buildO (tyi Try.prog 54) [(0, x8), (1, x10), (2, x14)]) fun x15 =>
    withN (allocO (tyi Try.prog 54) (List.length S)) S fun x3 S =>
    withS (storeE (tyi Try.prog 54) S x3 x15) fun _u S =>
    K .normal (ee1 x1 x2 x3) S := nr (by kernel_rfl)
@[go_sem] theorem k69_n : k69 b .normal e S = execL (C b) 0 c3 (k60 b) e S := nr (seqN (enterS (by kernel_rfl)))
@[go_sem] theorem g71 : execL (C b) 0 c1 K [(0, x0)] S =
  withN (boxed S (List.length S) (TI.size (tyi Try.prog 54)) x0) S fun x1 S =>
    withN (allocO (tyi Try.prog 54) (List.length S)) S fun x2 S =>
    K .normal (ee0 x1 x2) S := nr (by kernel_rfl)
def E (b : Nat) (x0 : PV) (S : Store) : RT := execL (C b) 0 code (k0 b) [(0, x0)] S
@[go_sem] theorem E_eq : E b x0 S =
  execL (C b) 0 c1 (k69 b) [(0, x0)] S := nr (enterS (by kernel_rfl))
@[go_sem] theorem k0_ret4 : k0 b .ret (ee4 x2) S = withV (evLoad (tyi Try.prog 54) S x2) fun v0 => some (v0, S) := nr ((show k0 b .ret (ee4 x2) S = (evResults Try.prog Try.f79 [(2, x2)] S).map (fun v => (v, S)) from by kernel_rfl).trans ((evRes _ _ _ _).trans (by kernel_rfl)))
@[go_sem] theorem gc_ee7 : gc n (ee7 x2 x3 x39 x40 x41) S = gc n [(2, x2), (3, x3), (39, x39), (40, x40), (41, x41)] S := nr (rfl)
@[go_sem] theorem gc_ee8 : gc n (ee8 x2 x3 x39 x40 x41 x42) S = gc n [(2, x2), (3, x3), (39, x39), (40, x40), (41, x41), (42, x42)] S := nr (rfl)
theorem call {x0 : PV} {r : PV × Store} {v : PV} (h : E 0 x0 [] = some r) (hv : fzPV r.2 r.1 = some v) : callL Try.prog hints 79 [x0] = some v := callL_of (fn := Try.f79) (c := code) (by kernel_rfl) (by kernel_rfl) (by decide) (by kernel_rfl) (Nat.le_of_ble_eq_true (by kernel_rfl)) h hv
end
end F79
/-! ### tree.put -/
namespace F81
section
variable (b i n n0 : Nat) (K : KT) (x0 x1 x2 x3 x5 x6 x7 x8 x9 x10 x13 x19 x20 x21 x22 x30 : PV) (e : Env) (S : Store)
noncomputable def hint : Hint := { keep := [], loops := [(0, { live := [1, 3, 5, 6, 7, 19, 20, 21], after := [3, 6, 7], own := [6007], fz := [] })], regs := [(0, [1, 3, 5, 6]), (1, [1, 3, 5, 6, 13]), (2, [6]), (3, [1, 3, 5, 6, 7]), (4, [1, 3, 5, 6, 7]), (5, [1, 3, 5, 6, 7, 19, 20, 21]), (6, [1, 3, 5, 6, 7, 19, 20, 21, 22]), (7, [1, 3, 5, 6, 7, 8, 9, 19, 20, 21]), (8, [1, 3, 5, 6, 7, 8, 9, 10, 19, 20, 21]), (9, [1, 3, 5, 6, 7, 9, 10, 19, 20, 21, 30]), (10, [1, 3, 5, 6, 7, 10, 19, 20, 21]), (11, [1, 3, 5, 6, 7, 10, 19, 20, 21]), (12, [1, 3, 5, 6, 7, 19, 20, 21]), (13, [1, 3, 5, 6, 7, 19, 20, 21]), (14, [6, 7]), (15, [6])] }
noncomputable def C (b : Nat) : Ctx := ctxL Try.prog hints b hint
noncomputable def code : Code := Try.f81.body.get rfl
noncomputable def k0 (b : Nat) : KT := endC Try.prog Try.f81
def ee0 (x1 x3 x5 x6 : PV) : Env := [(1, x1), (3, x3), (5, x5), (6, x6)]
def ee1 (x1 x3 x5 x6 x7 : PV) : Env := [(1, x1), (3, x3), (5, x5), (6, x6), (7, x7)]
def ee2 (x1 x3 x5 x6 x7 x8 x9 x10 x19 x20 x21 : PV) : Env := [(1, x1), (3, x3), (5, x5), (6, x6), (7, x7), (8, x8), (9, x9), (10, x10), (19, x19), (20, x20), (21, x21)]
def ee3 (x1 x3 x5 x6 x7 x8 x9 x19 x20 x21 : PV) : Env := [(1, x1), (3, x3), (5, x5), (6, x6), (7, x7), (8, x8), (9, x9), (19, x19), (20, x20), (21, x21)]
def ee4 (x1 x3 x5 x6 x7 x9 x10 x19 x20 x21 x30 : PV) : Env := [(1, x1), (3, x3), (5, x5), (6, x6), (7, x7), (9, x9), (10, x10), (19, x19), (20, x20), (21, x21), (30, x30)]
def ee5 (x1 x3 x5 x6 x7 x10 x19 x20 x21 : PV) : Env := [(1, x1), (3, x3), (5, x5), (6, x6), (7, x7), (10, x10), (19, x19), (20, x20), (21, x21)]
def ee6 (x1 x3 x5 x6 x7 x19 x20 x21 : PV) : Env := [(1, x1), (3, x3), (5, x5), (6, x6), (7, x7), (19, x19), (20, x20), (21, x21)]
def ee7 (x1 x3 x5 x6 x7 x19 x20 x21 x22 : PV) : Env := [(1, x1), (3, x3), (5, x5), (6, x6), (7, x7), (19, x19), (20, x20), (21, x21), (22, x22)]
def ee8 (x1 x3 x5 x6 x13 : PV) : Env := [(1, x1), (3, x3), (5, x5), (6, x6), (13, x13)]
def ee9 (x6 : PV) : Env := [(6, x6)]
def ee10 (x6 x7 : PV) : Env := [(6, x6), (7, x7)]
def c1 : Code := at0 code
def c2 : Code := at1 code
def c3 : Code := at0 c2
def c4 : Code := at1 c2
def c5 : Code := at0 c4
def c6 : Code := at1 c4
def c7 : Code := at0 c6
def c8 : Code := at1 c6
def c9 : Code := at0 c8
def c10 : Code := at1 c8
def c11 : Code := at0 c10
def c12 : Code := at1 c10
def c13 : Code := at0 c12
def c14 : Code := at1 c12
def k15 (b : Nat) : KT := seqC (fun e S => execL (C b) 0 c14 (k0 b) e S) (k0 b)
@[go_sem] theorem k15_n : k15 b .normal (ee9 x6) S =
  (k0 b) .ret (ee9 x6) S := nr (seqN (execL_ret (by kernel_rfl)))
def k16 (b : Nat) : KT := seqC (fun e S => execL (C b) 0 c12 (k0 b) e S) (k0 b)
@[go_sem] theorem g17 : execL (C b) 0 c13 K (ee10 x6 x7) S =
  withV (evLoad (tyi Try.prog 54) S x7) fun x51 =>
    withS (storeE (tyi Try.prog 54) S x6 x51) fun _u S =>
    K .normal (ee9 x6) S := nr (by kernel_rfl)
@[go_sem] theorem k16_n : k16 b .normal e S = execL (C b) 0 c13 (k15 b) e S := nr (seqN (enterS (by kernel_rfl)))
def k18 (b : Nat) : KT := seqC (fun e S => execL (C b) 0 c10 (k0 b) e S) (k0 b)
@[go_sem] theorem g19 : execL (C b) 0 c11 K (ee7 x1 x3 x5 x6 x7 x19 x20 x21 x22) S =
  withV (evFieldAddr (tyi Try.prog 54) 2 x3) fun x45 =>
    withV (evLoad (tyi Try.prog 51) S x45) fun x46 =>
    withV (buildO (tyi Try.prog 54) [(2, x46)]) fun x47 =>
    withN (callO (callL Try.prog hints) S 79 [x47]) S fun x48 S =>
    withV (evField (tyi Try.prog 54) 2 x48) fun x49 =>
    withV (evFieldAddr (tyi Try.prog 54) 2 x7) fun x50 =>
    withS (storeE (tyi Try.prog 51) S x50 x49) fun _u S =>
    K .normal (ee10 x6 x7) S := nr (by kernel_rfl)
@[go_sem] theorem k18_n : k18 b .normal e S = execL (C b) 0 c11 (k16 b) e S := nr (seqN (enterS (by kernel_rfl)))
def k20 (b : Nat) : KT := seqC (fun e S => execL (C b) 0 c8 (k0 b) e S) (k0 b)
def c21 : Code := at0 c9
def c22 : Code := at1 c9
def k23 (b : Nat) : KT := seqC (fun e S => execL (C b) 0 c22 (k18 b) e S) (k18 b)
def c24 : Code := atB c22
def k25 (b : Nat) : KT := blockC 0 (k18 b)
@[go_sem] theorem k25_exit : k25 b (.exit i) e S = if i = 0 then (k18 b) .normal e S else (k18 b) (.exit i) e S := nr (blockC_x _ _ _ _ _)
def c26 : Code := atL c24
def k27 (b n0 : Nat) : KT := afterC 0 n0 [3, 6, 7] (k25 b)
def L0g (b n0 : Nat) (e : Env) (S : Store) : RT := loopL (fun K e S => execL (C b) 0 c26 K e S) (normG [1, 3, 5, 6, 7, 19, 20, 21] [] n0) (k27 b n0) e S
def L0 (b n0 : Nat) (x1 x3 x5 x6 x7 x19 x20 x21 : PV) (S : Store) : RT := L0g b n0 (ee6 x1 x3 x5 x6 x7 x19 x20 x21) S
def k28 (b n0 : Nat) : KT := stepC (normG [1, 3, 5, 6, 7, 19, 20, 21] [] n0) (k27 b n0) (L0g b n0)
@[go_sem] theorem k28_n : k28 b n0 .normal (ee6 x1 x3 x5 x6 x7 x19 x20 x21) S = L0 b n0 x1 x3 x5 x6 x7 x19 x20 x21 (gc n0 (ee6 x1 x3 x5 x6 x7 x19 x20 x21) S) := nr (by kernel_rfl)
@[go_sem] theorem k28_x1 : k28 b n0 (.exit 0) (ee7 x1 x3 x5 x6 x7 x19 x20 x21 x22) S = (k25 b) (.exit 0) (ee7 .undef x3 .undef x6 x7 .undef .undef .undef .undef) (gc n0 (ee7 .undef x3 .undef x6 x7 .undef .undef .undef .undef) S) := nr ((show k28 b n0 (.exit 0) (ee7 x1 x3 x5 x6 x7 x19 x20 x21 x22) S = (k27 b n0) (.exit 0) (ee7 x1 x3 x5 x6 x7 x19 x20 x21 x22) S from stepC_x _ _ _ _ _ _).trans ((show (k27 b n0) (.exit 0) (ee7 x1 x3 x5 x6 x7 x19 x20 x21 x22) S = _ from afterC_x _ _ _ _ _ _ _).trans (if_pos rfl)))
def c29 : Code := at0 c26
def c30 : Code := at1 c26
def c32 : Code := at1 c30
def c33 : Code := at0 c32
def c34 : Code := at1 c32
def k35 (b n0 : Nat) : KT := seqC (fun e S => execL (C b) 0 c34 (k28 b n0) e S) (k28 b n0)
@[go_sem] theorem g36 : execL (C b) 0 c34 K (ee6 x1 x3 x5 x6 x7 x19 x20 x21) S =
  withV (evBin .add (tyi Try.prog 3) x21 (.int .i64 1)) fun x44 =>
    withV (some x44) fun x21 =>
    K .normal (ee6 x1 x3 x5 x6 x7 x19 x20 x21) S := nr (by kernel_rfl)
@[go_sem] theorem k35_n : k35 b n0 .normal e S = execL (C b) 0 c34 (k28 b n0) e S := nr (seqN rfl)
def k37 (b n0 : Nat) : KT := seqC (fun e S => execL (C b) 0 c32 (k28 b n0) e S) (k28 b n0)
def c38 : Code := atB c33
def k39 (b n0 : Nat) : KT := blockC 1 (k35 b n0)
@[go_sem] theorem k39_n : k39 b n0 .normal e S = (k35 b n0) .normal e S := nr (blockC_n _ _ _ _)
def c40 : Code := at0 c38
def c41 : Code := at1 c38
def c42 : Code := at0 c41
def c43 : Code := at1 c41
def c44 : Code := at0 c43
def c45 : Code := at1 c43
def k46 (b n0 : Nat) : KT := seqC (fun e S => execL (C b) 1 c45 (k39 b n0) e S) (k39 b n0)
@[go_sem] theorem g47 : execL (C b) 1 c45 K (ee5 x1 x3 x5 x6 x7 x10 x19 x20 x21) S =
  withV (evFieldAddr (tyi Try.prog 54) 3 x7) fun x38 =>
    withV (evLoad (tyi Try.prog 52) S x38) fun x39 =>
    withV (evLoad (tyi Try.prog 54) S x10) fun x40 =>
    withN (buildSliceO Try.prog 52 (List.length S) 1 [0] [PV.cells x40]) S fun x41 S =>
    withE (appendE Try.prog b 52 52 S x39 x41) [(1, x1), (3, x3), (5, x5), (6, x6), (7, x7), (10, x10), (19, x19), (20, x20), (21, x21), (38, x38), (39, x39), (40, x40), (41, x41)] fun x42 e1 S =>
    withV (evFieldAddr (tyi Try.prog 54) 3 (Vs.get (put e1 42 x42) 7)) fun x43 =>
    withS (storeE (tyi Try.prog 52) S (Vs.get (put (put e1 42 x42) 43 x43) 43) (Vs.get (put (put e1 42 x42) 43 x43) 42)) fun _u S =>
    K .normal (ee6 (Vs.get (put (put e1 42 x42) 43 x43) 1) (Vs.get (put (put e1 42 x42) 43 x43) 3) (Vs.get (put (put e1 42 x42) 43 x43) 5) (Vs.get (put (put e1 42 x42) 43 x43) 6) (Vs.get (put (put e1 42 x42) 43 x43) 7) (Vs.get (put (put e1 42 x42) 43 x43) 19) (Vs.get (put (put e1 42 x42) 43 x43) 20) (Vs.get (put (put e1 42 x42) 43 x43) 21)) S := nr (by kernel_rfl)
@[go_sem] theorem k46_n : k46 b n0 .normal e S = execL (C b) 1 c45 (k39 b n0) e S := nr (seqN rfl)
def k48 (b n0 : Nat) : KT := seqC (fun e S => execL (C b) 1 c43 (k39 b n0) e S) (k39 b n0)
def c49 : Code := at0 c44
def c50 : Code := at1 c44
def k51 (b n0 : Nat) : KT := seqC (fun e S => execL (C b) 1 c50 (k46 b n0) e S) (k46 b n0)
def c52 : Code := atT c50
def c53 : Code := atF c50
@[go_sem] theorem g55 : execL (C b) 1 c52 K (ee4 x1 x3 x5 x6 x7 x9 x10 x19 x20 x21 x30) S =
  withV (evLoad (tyi Try.prog 54) S x9) fun x31 =>
    withV (some x1) fun x32 =>
    withV (sliceO Try.prog 22 S x32 (some (.int .i64 1)) none none) fun x33 =>
    withV (evLoad (tyi Try.prog 54) S x5) fun x34 =>
    withN (callO (callL Try.prog hints) S 81 [x31, x33, x34]) S fun x35 S =>
    withS (storeE (tyi Try.prog 54) S x10 x35) fun _u S =>
    K .normal (ee5 x1 x3 x5 x6 x7 x10 x19 x20 x21) S := nr (by kernel_rfl)
@[go_sem] theorem g57 : execL (C b) 1 c53 K (ee4 x1 x3 x5 x6 x7 x9 x10 x19 x20 x21 x30) S =
  withV (evLoad (tyi Try.prog 54) S x9) fun x36 =>
    withN (callO (callL Try.prog hints) S 79 [x36]) S fun x37 S =>
    withS (storeE (tyi Try.prog 54) S x10 x37) fun _u S =>
    K .normal (ee5 x1 x3 x5 x6 x7 x10 x19 x20 x21) S := nr (by kernel_rfl)
@[go_sem] theorem k51_n : k51 b n0 .normal (ee4 x1 x3 x5 x6 x7 x9 x10 x19 x20 x21 x30) S =
  condC x30 (execL (C b) 1 c52 (k46 b n0) (ee4 x1 x3 x5 x6 x7 x9 x10 x19 x20 x21 x30) S)
    (execL (C b) 1 c53 (k46 b n0) (ee4 x1 x3 x5 x6 x7 x9 x10 x19 x20 x21 x30) S) := nr (seqN (condE (t := 30) (by kernel_rfl) (rfl) (rfl) rfl))
@[go_sem] theorem g58 : execL (C b) 1 c49 K (ee2 x1 x3 x5 x6 x7 x8 x9 x10 x19 x20 x21) S =
  withV (some x8) fun x26 =>
    withV (some x1) fun x27 =>
    withV (indexAddrO Try.prog 22 S x27 (.int .i64 0)) fun x28 =>
    withV (evLoad (tyi Try.prog 3) S x28) fun x29 =>
    withV (evBin .eql (tyi Try.prog 3) x26 x29) fun x30 =>
    K .normal (ee4 x1 x3 x5 x6 x7 x9 x10 x19 x20 x21 x30) S := nr (by kernel_rfl)
@[go_sem] theorem k48_n : k48 b n0 .normal (ee2 x1 x3 x5 x6 x7 x8 x9 x10 x19 x20 x21) S =
  execL (C b) 1 c49 (k51 b n0) (ee2 x1 x3 x5 x6 x7 x8 x9 x10 x19 x20 x21) S := nr (seqN ((enterS (by kernel_rfl)).trans (enterS (by kernel_rfl))))
def k59 (b n0 : Nat) : KT := seqC (fun e S => execL (C b) 1 c41 (k39 b n0) e S) (k39 b n0)
@[go_sem] theorem g60 : execL (C b) 1 c42 K (ee3 x1 x3 x5 x6 x7 x8 x9 x19 x20 x21) S =
  withN (allocO (tyi Try.prog 54) (List.length S)) S fun x10 S =>
    K .normal (ee2 x1 x3 x5 x6 x7 x8 x9 x10 x19 x20 x21) S := nr (by kernel_rfl)
@[go_sem] theorem k59_n : k59 b n0 .normal e S = execL (C b) 1 c42 (k48 b n0) e S := nr (seqN (enterS (by kernel_rfl)))
@[go_sem] theorem g61 : execL (C b) 1 c40 K (ee7 x1 x3 x5 x6 x7 x19 x20 x21 x22) S =
  withV (some x21) fun x23 =>
    withV (indexAddrO Try.prog 52 S x19 x21) fun x24 =>
    withV (evLoad (tyi Try.prog 54) S x24) fun x25 =>
    withN (allocO (tyi Try.prog 54) (List.length S)) S fun x9 S =>
    withV (some x23) fun x8 =>
    withS (storeE (tyi Try.prog 54) S x9 x25) fun _u S =>
    K .normal (ee3 x1 x3 x5 x6 x7 x8 x9 x19 x20 x21) S := nr (by kernel_rfl)
@[go_sem] theorem k37_n : k37 b n0 .normal (ee7 x1 x3 x5 x6 x7 x19 x20 x21 x22) S =
  execL (C b) 1 c40 (k59 b n0) (ee7 x1 x3 x5 x6 x7 x19 x20 x21 x22) S := nr (seqN ((enterS (by kernel_rfl)).trans ((blockE (by kernel_rfl)).trans (enterS (by kernel_rfl)))))
@[go_sem] theorem k37_exit : k37 b n0 (.exit i) e S = (k28 b n0) (.exit i) e S := nr (seqC_x _ _ _ _ _)
def k62 (b n0 : Nat) : KT := seqC (fun e S => execL (C b) 0 c30 (k28 b n0) e S) (k28 b n0)
@[go_sem] theorem k62_n : k62 b n0 .normal (ee7 x1 x3 x5 x6 x7 x19 x20 x21 x22) S =
  condC x22 ((k37 b n0) .normal (ee7 x1 x3 x5 x6 x7 x19 x20 x21 x22) S)
    ((k37 b n0) (.exit 0) (ee7 x1 x3 x5 x6 x7 x19 x20 x21 x22) S) := nr (seqN ((enterS (by kernel_rfl)).trans (condE (t := 22) (by kernel_rfl) (execL_skip (by kernel_rfl)) (execL_exit (by kernel_rfl)) rfl)))
@[go_sem] theorem g65 : execL (C b) 0 c29 K (ee6 x1 x3 x5 x6 x7 x19 x20 x21) S =
  withV (evBin .lss (tyi Try.prog 3) x21 x20) fun x22 =>
    K .normal (ee7 x1 x3 x5 x6 x7 x19 x20 x21 x22) S := nr (by kernel_rfl)
def B0 (b n0 : Nat) (x1 x3 x5 x6 x7 x19 x20 x21 : PV) (S : Store) : RT := execL (C b) 0 c26 (k28 b n0) (ee6 x1 x3 x5 x6 x7 x19 x20 x21) S
@[go_sem] theorem B0_eq : B0 b n0 x1 x3 x5 x6 x7 x19 x20 x21 S =
  execL (C b) 0 c29 (k62 b n0) (ee6 x1 x3 x5 x6 x7 x19 x20 x21) S := nr (enterS (by kernel_rfl))
theorem L0_step {b n0 : Nat} {x1 x3 x5 x6 x7 x19 x20 x21 : PV} {S : Store} {z : PV × Store} (h : B0 b n0 x1 x3 x5 x6 x7 x19 x20 x21 S = some z) : L0 b n0 x1 x3 x5 x6 x7 x19 x20 x21 S = some z := loopL_step h
theorem L0_in (b : Nat) (x1 x3 x5 x6 x7 x19 x20 x21 : PV) (S : Store) : execL (C b) 0 c24 (k25 b) (ee6 x1 x3 x5 x6 x7 x19 x20 x21) S = withM S x7 5 fun S => L0 b (List.length S) x1 x3 x5 x6 x7 x19 x20 x21 S := (show execL (C b) 0 c24 (k25 b) (ee6 x1 x3 x5 x6 x7 x19 x20 x21) S = (fun e S => (fzSlots [] e S).bind (fun r => L0g b r.2.length r.1 r.2)) (ownAll [6007] (keepOnly [1, 3, 5, 6, 7, 19, 20, 21] (ee6 x1 x3 x5 x6 x7 x19 x20 x21)) S).1 (ownAll [6007] (keepOnly [1, 3, 5, 6, 7, 19, 20, 21] (ee6 x1 x3 x5 x6 x7 x19 x20 x21)) S).2 from by kernel_rfl).trans ((own_mem (fun e S => (fzSlots [] e S).bind (fun r => L0g b r.2.length r.1 r.2)) 6007 [] (e := (keepOnly [1, 3, 5, 6, 7, 19, 20, 21] (ee6 x1 x3 x5 x6 x7 x19 x20 x21))) (S := S) (by decide)).trans ((congrArg (withM S (get (keepOnly [1, 3, 5, 6, 7, 19, 20, 21] (ee6 x1 x3 x5 x6 x7 x19 x20 x21)) 7) 5) (funext fun S => show _ = (L0 b (List.length S) x1 x3 x5 x6 x7 x19 x20 x21 S) from (by kernel_rfl))).trans (by kernel_rfl)))
@[go_sem] theorem k23_n : k23 b .normal (ee6 x1 x3 x5 x6 x7 x19 x20 x21) S =
  withM S x7 5 fun S => L0 b (List.length S) x1 x3 x5 x6 x7 x19 x20 x21 S := nr (seqN ((blockE (by kernel_rfl)).trans (L0_in b x1 x3 x5 x6 x7 x19 x20 x21 S)))
@[go_sem] theorem g67 : execL (C b) 0 c21 K (ee1 x1 x3 x5 x6 x7) S =
  withV (evFieldAddr (tyi Try.prog 54) 3 x3) fun x18 =>
    withV (evLoad (tyi Try.prog 52) S x18) fun x19 =>
    withV (lenO (tyi Try.prog 52) x19) fun x20 =>
    withV (some (.int .i64 0)) fun x21 =>
    K .normal (ee6 x1 x3 x5 x6 x7 x19 x20 x21) S := nr (by kernel_rfl)
@[go_sem] theorem k20_n : k20 b .normal (ee1 x1 x3 x5 x6 x7) S =
  execL (C b) 0 c21 (k23 b) (ee1 x1 x3 x5 x6 x7) S := nr (seqN ((enterS (by kernel_rfl)).trans (enterS (by kernel_rfl))))
def k68 (b : Nat) : KT := seqC (fun e S => execL (C b) 0 c6 (k0 b) e S) (k0 b)
@[go_sem] theorem g69 : execL (C b) 0 c7 K (ee1 x1 x3 x5 x6 x7) S =
  withV (evFieldAddr (tyi Try.prog 54) 3 x7) fun x17 =>
    withS (storeE (tyi Try.prog 52) S x17 (.sl [] true)) fun _u S =>
    K .normal (ee1 x1 x3 x5 x6 x7) S := nr (by kernel_rfl)
@[go_sem] theorem k68_n : k68 b .normal e S = execL (C b) 0 c7 (k20 b) e S := nr (seqN (enterS (by kernel_rfl)))
def k70 (b : Nat) : KT := seqC (fun e S => execL (C b) 0 c4 (k0 b) e S) (k0 b)
@[go_sem] theorem g71 : execL (C b) 0 c5 K (ee8 x1 x3 x5 x6 x13) S =
  withV (evLoad (tyi Try.prog 54) S x3) fun x16 =>
    withN (allocO (tyi Try.prog 54) (List.length S)) S fun x7 S =>
    withS (storeE (tyi Try.prog 54) S x7 x16) fun _u S =>
    K .normal (ee1 x1 x3 x5 x6 x7) S := nr (by kernel_rfl)
@[go_sem] theorem k70_n : k70 b .normal e S = execL (C b) 0 c5 (k68 b) e S := nr (seqN (enterS (by kernel_rfl)))
@[go_sem] theorem k70_ret : k70 b .ret e S = (k0 b) .ret e S := nr (seqC_r _ _ _ _)
def k72 (b : Nat) : KT := seqC (fun e S => execL (C b) 0 c2 (k0 b) e S) (k0 b)
def c73 : Code := at0 c3
def c74 : Code := at1 c3
def k75 (b : Nat) : KT := seqC (fun e S => execL (C b) 0 c74 (k70 b) e S) (k70 b)
def c76 : Code := atT c74
def c79 : Code := at0 c76
def c80 : Code := at1 c76
def k81 (b : Nat) : KT := seqC (fun e S => execL (C b) 0 c80 (k70 b) e S) (k70 b)
@[go_sem] theorem k81_n : k81 b .normal (ee9 x6) S =
  (k70 b) .ret (ee9 x6) S := nr (seqN (execL_ret (by kernel_rfl)))
@[go_sem] theorem g82 : execL (C b) 0 c79 K (ee8 x1 x3 x5 x6 x13) S =
  withV (evLoad (tyi Try.prog 54) S x5) fun x14 =>
    withN (callO (callL Try.prog hints) S 79 [x14]) S fun x15 S =>
    withS (storeE (tyi Try.prog 54) S x6 x15) fun _u S =>
    K .normal (ee9 x6) S := nr (by kernel_rfl)
@[go_sem] theorem k75_n : k75 b .normal (ee8 x1 x3 x5 x6 x13) S =
  condC x13 (execL (C b) 0 c79 (k81 b) (ee8 x1 x3 x5 x6 x13) S)
    ((k70 b) .normal (ee8 x1 x3 x5 x6 x13) S) := nr (seqN (condE (t := 13) (by kernel_rfl) (enterS (by kernel_rfl)) (execL_skip (by kernel_rfl)) rfl))
@[go_sem] theorem g83 : execL (C b) 0 c73 K (ee0 x1 x3 x5 x6) S =
  withV (some x1) fun x11 =>
    withV (lenO (tyi Try.prog 22) x11) fun x12 =>
    withV (evBin .eql (tyi Try.prog 3) x12 (.int .i64 0)) fun x13 =>
    K .normal (ee8 x1 x3 x5 x6 x13) S := nr (by kernel_rfl)
@[go_sem] theorem k72_n : k72 b .normal (ee0 x1 x3 x5 x6) S =
  execL (C b) 0 c73 (k75 b) (ee0 x1 x3 x5 x6) S := nr (seqN ((enterS (by kernel_rfl)).trans (enterS (by kernel_rfl))))
@[go_sem] theorem g84 : execL (C b) 0 c1 K [(0, x0), (1, x1), (2, x2)] S =
  withN (boxed S (List.length S) (TI.size (tyi Try.prog 54)) x0) S fun x3 S =>
    withN (boxed S (List.length S) (TI.size (tyi Try.prog 54)) x2) S fun x5 S =>
    withN (allocO (tyi Try.prog 54) (List.length S)) S fun x6 S =>
    K .normal (ee0 x1 x3 x5 x6) S := nr (by kernel_rfl)
def E (b : Nat) (x0 x1 x2 : PV) (S : Store) : RT := execL (C b) 0 code (k0 b) [(0, x0), (1, x1), (2, x2)] S
@[go_sem] theorem E_eq : E b x0 x1 x2 S =
  execL (C b) 0 c1 (k72 b) [(0, x0), (1, x1), (2, x2)] S := nr (enterS (by kernel_rfl))
@[go_sem] theorem gc_ee6 : gc n (ee6 x1 x3 x5 x6 x7 x19 x20 x21) S = gc n [(1, x1), (3, x3), (5, x5), (6, x6), (7, x7), (19, x19), (20, x20), (21, x21)] S := nr (rfl)
@[go_sem] theorem gc_ee7 : gc n (ee7 x1 x3 x5 x6 x7 x19 x20 x21 x22) S = gc n [(1, x1), (3, x3), (5, x5), (6, x6), (7, x7), (19, x19), (20, x20), (21, x21), (22, x22)] S := nr (rfl)
@[go_sem] theorem k0_ret9 : k0 b .ret (ee9 x6) S = withV (evLoad (tyi Try.prog 54) S x6) fun v0 => some (v0, S) := nr ((show k0 b .ret (ee9 x6) S = (evResults Try.prog Try.f81 [(6, x6)] S).map (fun v => (v, S)) from by kernel_rfl).trans ((evRes _ _ _ _).trans (by kernel_rfl)))
theorem call {x0 x1 x2 : PV} {r : PV × Store} {v : PV} (h : E 0 x0 x1 x2 [] = some r) (hv : fzPV r.2 r.1 = some v) : callL Try.prog hints 81 [x0, x1, x2] = some v := callL_of (fn := Try.f81) (c := code) (by kernel_rfl) (by kernel_rfl) (by decide) (by kernel_rfl) (Nat.le_of_ble_eq_true (by kernel_rfl)) h hv
end
end F81
end
end Go.Vs
