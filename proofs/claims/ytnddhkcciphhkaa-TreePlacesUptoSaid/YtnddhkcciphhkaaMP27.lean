/- Printed by a program of mine (stage1.py): the functions 75, 80, 53, 82, 55, 56, 11, piece by piece. -/

import Derived.Test.YtnddhkcciphhkaaMP9
set_option linter.unusedVariables false
set_option linter.unusedSimpArgs false
namespace Go.Vs
open Go Go.Proofs
noncomputable section

/-! ### isochroneref08.whole -/
namespace F75
section
variable (b : Nat) (K : KT) (x0 x1 x2 x3 x12 : PV) (e : Env) (S : Store)
noncomputable def hint : Hint := { keep := [], loops := [], regs := [(0, [1]), (1, [1, 3]), (2, [1, 3, 12]), (3, [2]), (4, [2])] }
noncomputable def C (b : Nat) : Ctx := ctxL Try.prog hints b hint
noncomputable def code : Code := Try.f75.body.get rfl
noncomputable def k0 (b : Nat) : KT := endC Try.prog Try.f75
def ee0 (x1 : PV) : Env := [(1, x1)]
def ee1 (x1 x3 : PV) : Env := [(1, x1), (3, x3)]
def ee2 (x1 x3 x12 : PV) : Env := [(1, x1), (3, x3), (12, x12)]
def ee3 (x2 : PV) : Env := [(2, x2)]
def c1 : Code := at0 code
def c2 : Code := at1 code
def c3 : Code := at0 c2
def c4 : Code := at1 c2
def c5 : Code := at0 c4
def c6 : Code := at1 c4
def c7 : Code := at0 c6
def c8 : Code := at1 c6
def k9 (b : Nat) : KT := seqC (fun e S => execL (C b) 0 c8 (k0 b) e S) (k0 b)
@[go_sem] theorem k9_n : k9 b .normal (ee3 x2) S =
  (k0 b) .ret (ee3 x2) S := nr (seqN (execL_ret (by kernel_rfl)))
def k10 (b : Nat) : KT := seqC (fun e S => execL (C b) 0 c6 (k0 b) e S) (k0 b)
@[go_sem] theorem g11 : execL (C b) 0 c7 K (ee2 x1 x3 x12) S =
  withV (evLoad (tyi Try.prog 54) S x1) fun x13 =>
    withV (some x3) fun x14 =>
    withN (callO (callL Try.prog hints) S 37 [x13, x14]) S fun x15 S =>
    withV (some x15) fun x2 =>
    K .normal (ee3 x2) S := nr (by kernel_rfl)
@[go_sem] theorem k10_n : k10 b .normal e S = execL (C b) 0 c7 (k9 b) e S := nr (seqN (enterS (by kernel_rfl)))
@[go_sem] theorem k10_ret : k10 b .ret e S = (k0 b) .ret e S := nr (seqC_r _ _ _ _)
def k12 (b : Nat) : KT := seqC (fun e S => execL (C b) 0 c4 (k0 b) e S) (k0 b)
def c13 : Code := at0 c5
def c14 : Code := at1 c5
def k15 (b : Nat) : KT := seqC (fun e S => execL (C b) 0 c14 (k10 b) e S) (k10 b)
def c16 : Code := atT c14
def c19 : Code := at0 c16
def c20 : Code := at1 c16
def k21 (b : Nat) : KT := seqC (fun e S => execL (C b) 0 c20 (k10 b) e S) (k10 b)
@[go_sem] theorem k21_n : k21 b .normal (ee3 x2) S =
  (k10 b) .ret (ee3 x2) S := nr (seqN (execL_ret (by kernel_rfl)))
@[go_sem] theorem g22 : execL (C b) 0 c19 K (ee2 x1 x3 x12) S =
  withV (some (.int .i64 80)) fun x2 =>
    K .normal (ee3 x2) S := nr (by kernel_rfl)
@[go_sem] theorem k15_n : k15 b .normal (ee2 x1 x3 x12) S =
  condC x12 (execL (C b) 0 c19 (k21 b) (ee2 x1 x3 x12) S)
    ((k10 b) .normal (ee2 x1 x3 x12) S) := nr (seqN (condE (t := 12) (by kernel_rfl) (enterS (by kernel_rfl)) (execL_skip (by kernel_rfl)) rfl))
@[go_sem] theorem g23 : execL (C b) 0 c13 K (ee1 x1 x3) S =
  withV (some x3) fun x7 =>
    withV (evBin .eql (tyi Try.prog 3) x7 (.int .i64 0)) fun x8 =>
    withV (some x8) fun x9 =>
    withV (gval x9 false (some x3)) fun x10 =>
    withV (gval x9 false (evBin .eql (tyi Try.prog 3) x10 (.int .i64 4))) fun x11 =>
    withV (pickO x9 (.bool true) x11) fun x12 =>
    K .normal (ee2 x1 x3 x12) S := nr (by kernel_rfl)
@[go_sem] theorem k12_n : k12 b .normal (ee1 x1 x3) S =
  execL (C b) 0 c13 (k15 b) (ee1 x1 x3) S := nr (seqN ((enterS (by kernel_rfl)).trans (enterS (by kernel_rfl))))
def k24 (b : Nat) : KT := seqC (fun e S => execL (C b) 0 c2 (k0 b) e S) (k0 b)
@[go_sem] theorem g25 : execL (C b) 0 c3 K (ee0 x1) S =
  withV (evFieldAddr (tyi Try.prog 54) 0 x1) fun x4 =>
    withV (evLoad (tyi Try.prog 3) S x4) fun x5 =>
    withN (callO (callL Try.prog hints) S 41 [x5]) S fun x6 S =>
    withV (some x6) fun x3 =>
    K .normal (ee1 x1 x3) S := nr (by kernel_rfl)
@[go_sem] theorem k24_n : k24 b .normal e S = execL (C b) 0 c3 (k12 b) e S := nr (seqN (enterS (by kernel_rfl)))
@[go_sem] theorem g26 : execL (C b) 0 c1 K [(0, x0)] S =
  withN (boxed S (List.length S) (TI.size (tyi Try.prog 54)) x0) S fun x1 S =>
    withV (some (.int .i64 0)) fun x2 =>
    K .normal (ee0 x1) S := nr (by kernel_rfl)
def E (b : Nat) (x0 : PV) (S : Store) : RT := execL (C b) 0 code (k0 b) [(0, x0)] S
@[go_sem] theorem E_eq : E b x0 S =
  execL (C b) 0 c1 (k24 b) [(0, x0)] S := nr (enterS (by kernel_rfl))
@[go_sem] theorem k0_ret3 : k0 b .ret (ee3 x2) S = some (x2, S) := nr (by kernel_rfl)
theorem call {x0 : PV} {r : PV × Store} {v : PV} (h : E 0 x0 [] = some r) (hv : fzPV r.2 r.1 = some v) : callL Try.prog hints 75 [x0] = some v := callL_of (fn := Try.f75) (c := code) (by kernel_rfl) (by kernel_rfl) (by decide) (by kernel_rfl) (Nat.le_of_ble_eq_true (by kernel_rfl)) h hv
end
end F75
/-! ### isochroneref08.at -/
namespace F80
section
variable (b i n n0 : Nat) (K : KT) (x0 x1 x2 x4 x5 x6 x10 x27 : PV) (e : Env) (S : Store)
noncomputable def hint : Hint := { keep := [], loops := [(0, { live := [1, 2, 4, 6], after := [2, 4], own := [], fz := [] })], regs := [(0, [1, 2, 4]), (1, [1, 2, 4, 6]), (2, [1, 2, 4, 6, 10]), (3, [1, 2, 4, 6]), (4, [1, 2, 4, 6, 27]), (5, [4, 5]), (6, [1, 2, 4, 6]), (7, [4, 5])] }
noncomputable def C (b : Nat) : Ctx := ctxL Try.prog hints b hint
noncomputable def code : Code := Try.f80.body.get rfl
noncomputable def k0 (b : Nat) : KT := endC Try.prog Try.f80
def ee0 (x1 x2 x4 : PV) : Env := [(1, x1), (2, x2), (4, x4)]
def ee1 (x1 x2 x4 x6 : PV) : Env := [(1, x1), (2, x2), (4, x4), (6, x6)]
def ee2 (x1 x2 x4 x6 x10 : PV) : Env := [(1, x1), (2, x2), (4, x4), (6, x6), (10, x10)]
def ee3 (x1 x2 x4 x6 x27 : PV) : Env := [(1, x1), (2, x2), (4, x4), (6, x6), (27, x27)]
def ee4 (x4 x5 : PV) : Env := [(4, x4), (5, x5)]
def c1 : Code := at0 code
def c2 : Code := at1 code
def c3 : Code := at0 c2
def c4 : Code := at1 c2
def c5 : Code := at0 c4
def c6 : Code := at1 c4
def k7 (b : Nat) : KT := seqC (fun e S => execL (C b) 0 c6 (k0 b) e S) (k0 b)
@[go_sem] theorem k7_n : k7 b .normal (ee4 x4 x5) S =
  (k0 b) .ret (ee4 x4 x5) S := nr (seqN (execL_ret (by kernel_rfl)))
def k8 (b : Nat) : KT := seqC (fun e S => execL (C b) 0 c4 (k0 b) e S) (k0 b)
@[go_sem] theorem g9 : execL (C b) 0 c5 K (ee2 x1 x2 x4 x6 x10) S =
  withV (evLoad (tyi Try.prog 54) S x2) fun x37 =>
    withS (storeE (tyi Try.prog 54) S x4 x37) fun _u S =>
    withV (some (.bool true)) fun x5 =>
    K .normal (ee4 x4 x5) S := nr (by kernel_rfl)
@[go_sem] theorem k8_n : k8 b .normal e S = execL (C b) 0 c5 (k7 b) e S := nr (seqN (enterS (by kernel_rfl)))
@[go_sem] theorem k8_ret : k8 b .ret e S = (k0 b) .ret e S := nr (seqC_r _ _ _ _)
def k10 (b : Nat) : KT := seqC (fun e S => execL (C b) 0 c2 (k0 b) e S) (k0 b)
def c11 : Code := at0 c3
def c12 : Code := at1 c3
def k13 (b : Nat) : KT := seqC (fun e S => execL (C b) 0 c12 (k8 b) e S) (k8 b)
def c14 : Code := atB c12
def k15 (b : Nat) : KT := blockC 0 (k8 b)
@[go_sem] theorem k15_ret : k15 b .ret e S = (k8 b) .ret e S := nr (blockC_r _ _ _ _)
@[go_sem] theorem k15_exit : k15 b (.exit i) e S = if i = 0 then (k8 b) .normal e S else (k8 b) (.exit i) e S := nr (blockC_x _ _ _ _ _)
def c16 : Code := atL c14
def k17 (b n0 : Nat) : KT := afterC 0 n0 [2, 4] (k15 b)
def L0g (b n0 : Nat) (e : Env) (S : Store) : RT := loopL (fun K e S => execL (C b) 0 c16 K e S) (normG [1, 2, 4, 6] [] n0) (k17 b n0) e S
def L0 (b n0 : Nat) (x1 x2 x4 x6 : PV) (S : Store) : RT := L0g b n0 (ee1 x1 x2 x4 x6) S
def k18 (b n0 : Nat) : KT := stepC (normG [1, 2, 4, 6] [] n0) (k17 b n0) (L0g b n0)
@[go_sem] theorem k18_n : k18 b n0 .normal (ee1 x1 x2 x4 x6) S = L0 b n0 x1 x2 x4 x6 (gc n0 (ee1 x1 x2 x4 x6) S) := nr (by kernel_rfl)
@[go_sem] theorem k18_ret : k18 b n0 .ret e S = (k15 b) .ret e S := nr ((show k18 b n0 .ret e S = (k17 b n0) .ret e S from stepC_r _ _ _ _ _).trans (afterC_r _ _ _ _ _ _))
@[go_sem] theorem k18_x1 : k18 b n0 (.exit 0) (ee2 x1 x2 x4 x6 x10) S = (k15 b) (.exit 0) (ee2 .undef x2 x4 .undef .undef) (gc n0 (ee2 .undef x2 x4 .undef .undef) S) := nr ((show k18 b n0 (.exit 0) (ee2 x1 x2 x4 x6 x10) S = (k17 b n0) (.exit 0) (ee2 x1 x2 x4 x6 x10) S from stepC_x _ _ _ _ _ _).trans ((show (k17 b n0) (.exit 0) (ee2 x1 x2 x4 x6 x10) S = _ from afterC_x _ _ _ _ _ _ _).trans (if_pos rfl)))
def c19 : Code := at0 c16
def c20 : Code := at1 c16
def c21 : Code := at0 c20
def c22 : Code := at1 c20
def k23 (b n0 : Nat) : KT := seqC (fun e S => execL (C b) 0 c22 (k18 b n0) e S) (k18 b n0)
@[go_sem] theorem g24 : execL (C b) 0 c22 K (ee1 x1 x2 x4 x6) S =
  withV (some x6) fun x11 =>
    withV (evBin .add (tyi Try.prog 3) x11 (.int .i64 1)) fun x12 =>
    withV (some x12) fun x6 =>
    K .normal (ee1 x1 x2 x4 x6) S := nr (by kernel_rfl)
@[go_sem] theorem k23_n : k23 b n0 .normal e S = execL (C b) 0 c22 (k18 b n0) e S := nr (seqN rfl)
@[go_sem] theorem k23_ret : k23 b n0 .ret e S = (k18 b n0) .ret e S := nr (seqC_r _ _ _ _)
def k25 (b n0 : Nat) : KT := seqC (fun e S => execL (C b) 0 c20 (k18 b n0) e S) (k18 b n0)
def c26 : Code := atB c21
def k27 (b n0 : Nat) : KT := blockC 1 (k23 b n0)
@[go_sem] theorem k27_n : k27 b n0 .normal e S = (k23 b n0) .normal e S := nr (blockC_n _ _ _ _)
@[go_sem] theorem k27_ret : k27 b n0 .ret e S = (k23 b n0) .ret e S := nr (blockC_r _ _ _ _)
def c28 : Code := at0 c26
def c29 : Code := at1 c26
def k30 (b n0 : Nat) : KT := seqC (fun e S => execL (C b) 1 c29 (k27 b n0) e S) (k27 b n0)
@[go_sem] theorem g31 : execL (C b) 1 c29 K (ee3 x1 x2 x4 x6 x27) S =
  withV (evFieldAddr (tyi Try.prog 54) 3 x2) fun x29 =>
    withV (evLoad (tyi Try.prog 52) S x29) fun x30 =>
    withV (some x1) fun x31 =>
    withV (some x6) fun x32 =>
    withV (indexAddrO Try.prog 22 S x31 x32) fun x33 =>
    withV (evLoad (tyi Try.prog 3) S x33) fun x34 =>
    withV (indexAddrO Try.prog 52 S x30 x34) fun x35 =>
    withV (evLoad (tyi Try.prog 54) S x35) fun x36 =>
    withS (storeE (tyi Try.prog 54) S x2 x36) fun _u S =>
    K .normal (ee1 x1 x2 x4 x6) S := nr (by kernel_rfl)
@[go_sem] theorem k30_n : k30 b n0 .normal e S = execL (C b) 1 c29 (k27 b n0) e S := nr (seqN rfl)
@[go_sem] theorem k30_ret : k30 b n0 .ret e S = (k27 b n0) .ret e S := nr (seqC_r _ _ _ _)
def c32 : Code := at0 c28
def c33 : Code := at1 c28
def k34 (b n0 : Nat) : KT := seqC (fun e S => execL (C b) 1 c33 (k30 b n0) e S) (k30 b n0)
def c35 : Code := atT c33
def c38 : Code := at0 c35
def c39 : Code := at1 c35
def k40 (b n0 : Nat) : KT := seqC (fun e S => execL (C b) 1 c39 (k30 b n0) e S) (k30 b n0)
@[go_sem] theorem k40_n : k40 b n0 .normal (ee4 x4 x5) S =
  (k30 b n0) .ret (ee4 x4 x5) S := nr (seqN (execL_ret (by kernel_rfl)))
@[go_sem] theorem g41 : execL (C b) 1 c38 K (ee3 x1 x2 x4 x6 x27) S =
  withV (buildO (tyi Try.prog 54) []) fun x28 =>
    withS (storeE (tyi Try.prog 54) S x4 x28) fun _u S =>
    withV (some (.bool false)) fun x5 =>
    K .normal (ee4 x4 x5) S := nr (by kernel_rfl)
@[go_sem] theorem k34_n : k34 b n0 .normal (ee3 x1 x2 x4 x6 x27) S =
  condC x27 (execL (C b) 1 c38 (k40 b n0) (ee3 x1 x2 x4 x6 x27) S)
    ((k30 b n0) .normal (ee3 x1 x2 x4 x6 x27) S) := nr (seqN (condE (t := 27) (by kernel_rfl) (enterS (by kernel_rfl)) (execL_skip (by kernel_rfl)) rfl))
@[go_sem] theorem g42 : execL (C b) 1 c32 K (ee2 x1 x2 x4 x6 x10) S =
  withV (some x1) fun x13 =>
    withV (some x6) fun x14 =>
    withV (indexAddrO Try.prog 22 S x13 x14) fun x15 =>
    withV (evLoad (tyi Try.prog 3) S x15) fun x16 =>
    withV (evBin .lss (tyi Try.prog 3) x16 (.int .i64 0)) fun x17 =>
    withV (some x17) fun x18 =>
    withV (gval x18 false (some x1)) fun x19 =>
    withV (gval x18 false (some x6)) fun x20 =>
    withV (gval x18 false (indexAddrO Try.prog 22 S x19 x20)) fun x21 =>
    withV (gval x18 false (evLoad (tyi Try.prog 3) S x21)) fun x22 =>
    withV (gval x18 false (evFieldAddr (tyi Try.prog 54) 3 x2)) fun x23 =>
    withV (gval x18 false (evLoad (tyi Try.prog 52) S x23)) fun x24 =>
    withV (gval x18 false (lenO (tyi Try.prog 52) x24)) fun x25 =>
    withV (gval x18 false (evBin .geq (tyi Try.prog 3) x22 x25)) fun x26 =>
    withV (pickO x18 (.bool true) x26) fun x27 =>
    K .normal (ee3 x1 x2 x4 x6 x27) S := nr (by kernel_rfl)
@[go_sem] theorem k25_n : k25 b n0 .normal (ee2 x1 x2 x4 x6 x10) S =
  execL (C b) 1 c32 (k34 b n0) (ee2 x1 x2 x4 x6 x10) S := nr (seqN ((enterS (by kernel_rfl)).trans ((blockE (by kernel_rfl)).trans ((enterS (by kernel_rfl)).trans (enterS (by kernel_rfl))))))
@[go_sem] theorem k25_exit : k25 b n0 (.exit i) e S = (k18 b n0) (.exit i) e S := nr (seqC_x _ _ _ _ _)
def c43 : Code := at0 c19
def c44 : Code := at1 c19
def k45 (b n0 : Nat) : KT := seqC (fun e S => execL (C b) 0 c44 (k25 b n0) e S) (k25 b n0)
@[go_sem] theorem k45_n : k45 b n0 .normal (ee2 x1 x2 x4 x6 x10) S =
  condC x10 ((k25 b n0) .normal (ee2 x1 x2 x4 x6 x10) S)
    ((k25 b n0) (.exit 0) (ee2 x1 x2 x4 x6 x10) S) := nr (seqN (condE (t := 10) (by kernel_rfl) (execL_skip (by kernel_rfl)) (execL_exit (by kernel_rfl)) rfl))
@[go_sem] theorem g48 : execL (C b) 0 c43 K (ee1 x1 x2 x4 x6) S =
  withV (some x6) fun x7 =>
    withV (some x1) fun x8 =>
    withV (lenO (tyi Try.prog 22) x8) fun x9 =>
    withV (evBin .lss (tyi Try.prog 3) x7 x9) fun x10 =>
    K .normal (ee2 x1 x2 x4 x6 x10) S := nr (by kernel_rfl)
def B0 (b n0 : Nat) (x1 x2 x4 x6 : PV) (S : Store) : RT := execL (C b) 0 c16 (k18 b n0) (ee1 x1 x2 x4 x6) S
@[go_sem] theorem B0_eq : B0 b n0 x1 x2 x4 x6 S =
  execL (C b) 0 c43 (k45 b n0) (ee1 x1 x2 x4 x6) S := nr ((enterS (by kernel_rfl)).trans (enterS (by kernel_rfl)))
theorem L0_step {b n0 : Nat} {x1 x2 x4 x6 : PV} {S : Store} {z : PV × Store} (h : B0 b n0 x1 x2 x4 x6 S = some z) : L0 b n0 x1 x2 x4 x6 S = some z := loopL_step h
theorem L0_in (b : Nat) (x1 x2 x4 x6 : PV) (S : Store) : execL (C b) 0 c14 (k15 b) (ee1 x1 x2 x4 x6) S = L0 b (List.length S) x1 x2 x4 x6 S := by kernel_rfl
@[go_sem] theorem k13_n : k13 b .normal (ee1 x1 x2 x4 x6) S =
  L0 b (List.length S) x1 x2 x4 x6 S := nr (seqN ((blockE (by kernel_rfl)).trans (L0_in b x1 x2 x4 x6 S)))
@[go_sem] theorem g50 : execL (C b) 0 c11 K (ee0 x1 x2 x4) S =
  withV (some (.int .i64 0)) fun x6 =>
    K .normal (ee1 x1 x2 x4 x6) S := nr (by kernel_rfl)
@[go_sem] theorem k10_n : k10 b .normal (ee0 x1 x2 x4) S =
  execL (C b) 0 c11 (k13 b) (ee0 x1 x2 x4) S := nr (seqN ((enterS (by kernel_rfl)).trans (enterS (by kernel_rfl))))
@[go_sem] theorem g51 : execL (C b) 0 c1 K [(0, x0), (1, x1)] S =
  withN (boxed S (List.length S) (TI.size (tyi Try.prog 54)) x0) S fun x2 S =>
    withN (allocO (tyi Try.prog 54) (List.length S)) S fun x4 S =>
    withV (some (.bool false)) fun x5 =>
    K .normal (ee0 x1 x2 x4) S := nr (by kernel_rfl)
def E (b : Nat) (x0 x1 : PV) (S : Store) : RT := execL (C b) 0 code (k0 b) [(0, x0), (1, x1)] S
@[go_sem] theorem E_eq : E b x0 x1 S =
  execL (C b) 0 c1 (k10 b) [(0, x0), (1, x1)] S := nr (enterS (by kernel_rfl))
@[go_sem] theorem gc_ee1 : gc n (ee1 x1 x2 x4 x6) S = gc n [(1, x1), (2, x2), (4, x4), (6, x6)] S := nr (rfl)
@[go_sem] theorem gc_ee2 : gc n (ee2 x1 x2 x4 x6 x10) S = gc n [(1, x1), (2, x2), (4, x4), (6, x6), (10, x10)] S := nr (rfl)
@[go_sem] theorem k0_ret4 : k0 b .ret (ee4 x4 x5) S = withV (evLoad (tyi Try.prog 54) S x4) fun v0 => some ((.tup [v0, x5]), S) := nr ((show k0 b .ret (ee4 x4 x5) S = (evResults Try.prog Try.f80 [(4, x4), (5, x5)] S).map (fun v => (v, S)) from by kernel_rfl).trans ((evRes _ _ _ _).trans (by kernel_rfl)))
theorem call {x0 x1 : PV} {r : PV × Store} {v : PV} (h : E 0 x0 x1 [] = some r) (hv : fzPV r.2 r.1 = some v) : callL Try.prog hints 80 [x0, x1] = some v := callL_of (fn := Try.f80) (c := code) (by kernel_rfl) (by kernel_rfl) (by decide) (by kernel_rfl) (Nat.le_of_ble_eq_true (by kernel_rfl)) h hv
end
end F80
/-! ### isochroneref08.At -/
namespace F53
section
variable (b : Nat) (K : KT) (x0 x1 x2 x4 x5 x6 x7 x8 x12 x22 : PV) (e : Env) (S : Store)
noncomputable def hint : Hint := { keep := [], loops := [], regs := [(0, [1, 2, 4]), (1, [1, 2, 4, 6]), (2, [1, 2, 4, 6, 12]), (3, [4, 5]), (4, [4, 7, 8]), (5, [4, 7, 22]), (6, [4, 5]), (7, [4, 5])] }
noncomputable def C (b : Nat) : Ctx := ctxL Try.prog hints b hint
noncomputable def code : Code := Try.f53.body.get rfl
noncomputable def k0 (b : Nat) : KT := endC Try.prog Try.f53
def ee0 (x1 x2 x4 : PV) : Env := [(1, x1), (2, x2), (4, x4)]
def ee1 (x1 x2 x4 x6 : PV) : Env := [(1, x1), (2, x2), (4, x4), (6, x6)]
def ee2 (x1 x2 x4 x6 x12 : PV) : Env := [(1, x1), (2, x2), (4, x4), (6, x6), (12, x12)]
def ee3 (x4 x5 : PV) : Env := [(4, x4), (5, x5)]
def ee4 (x4 x7 x8 : PV) : Env := [(4, x4), (7, x7), (8, x8)]
def ee5 (x4 x7 x22 : PV) : Env := [(4, x4), (7, x7), (22, x22)]
def c1 : Code := at0 code
def c2 : Code := at1 code
def c3 : Code := at0 c2
def c4 : Code := at1 c2
def c5 : Code := at0 c4
def c6 : Code := at1 c4
def c7 : Code := at0 c6
def c8 : Code := at1 c6
def c9 : Code := at0 c8
def c10 : Code := at1 c8
def k11 (b : Nat) : KT := seqC (fun e S => execL (C b) 0 c10 (k0 b) e S) (k0 b)
@[go_sem] theorem k11_n : k11 b .normal (ee3 x4 x5) S =
  (k0 b) .ret (ee3 x4 x5) S := nr (seqN (execL_ret (by kernel_rfl)))
def k12 (b : Nat) : KT := seqC (fun e S => execL (C b) 0 c8 (k0 b) e S) (k0 b)
@[go_sem] theorem g13 : execL (C b) 0 c9 K (ee5 x4 x7 x22) S =
  withV (evLoad (tyi Try.prog 54) S x7) fun x24 =>
    withS (storeE (tyi Try.prog 54) S x4 x24) fun _u S =>
    withV (some (.int .i64 0)) fun x5 =>
    K .normal (ee3 x4 x5) S := nr (by kernel_rfl)
@[go_sem] theorem k12_n : k12 b .normal e S = execL (C b) 0 c9 (k11 b) e S := nr (seqN (enterS (by kernel_rfl)))
@[go_sem] theorem k12_ret : k12 b .ret e S = (k0 b) .ret e S := nr (seqC_r _ _ _ _)
def k14 (b : Nat) : KT := seqC (fun e S => execL (C b) 0 c6 (k0 b) e S) (k0 b)
def c15 : Code := at0 c7
def c16 : Code := at1 c7
def k17 (b : Nat) : KT := seqC (fun e S => execL (C b) 0 c16 (k12 b) e S) (k12 b)
def c18 : Code := atT c16
def c21 : Code := at0 c18
def c22 : Code := at1 c18
def k23 (b : Nat) : KT := seqC (fun e S => execL (C b) 0 c22 (k12 b) e S) (k12 b)
@[go_sem] theorem k23_n : k23 b .normal (ee3 x4 x5) S =
  (k12 b) .ret (ee3 x4 x5) S := nr (seqN (execL_ret (by kernel_rfl)))
@[go_sem] theorem g24 : execL (C b) 0 c21 K (ee5 x4 x7 x22) S =
  withV (buildO (tyi Try.prog 54) []) fun x23 =>
    withS (storeE (tyi Try.prog 54) S x4 x23) fun _u S =>
    withV (some (.int .i64 1)) fun x5 =>
    K .normal (ee3 x4 x5) S := nr (by kernel_rfl)
@[go_sem] theorem k17_n : k17 b .normal (ee5 x4 x7 x22) S =
  condC x22 (execL (C b) 0 c21 (k23 b) (ee5 x4 x7 x22) S)
    ((k12 b) .normal (ee5 x4 x7 x22) S) := nr (seqN (condE (t := 22) (by kernel_rfl) (enterS (by kernel_rfl)) (execL_skip (by kernel_rfl)) rfl))
@[go_sem] theorem g25 : execL (C b) 0 c15 K (ee4 x4 x7 x8) S =
  withV (some x8) fun x21 =>
    withV (evUn .not x21) fun x22 =>
    K .normal (ee5 x4 x7 x22) S := nr (by kernel_rfl)
@[go_sem] theorem k14_n : k14 b .normal (ee4 x4 x7 x8) S =
  execL (C b) 0 c15 (k17 b) (ee4 x4 x7 x8) S := nr (seqN ((enterS (by kernel_rfl)).trans (enterS (by kernel_rfl))))
def k26 (b : Nat) : KT := seqC (fun e S => execL (C b) 0 c4 (k0 b) e S) (k0 b)
@[go_sem] theorem g27 : execL (C b) 0 c5 K (ee2 x1 x2 x4 x6 x12) S =
  withV (evLoad (tyi Try.prog 54) S x2) fun x16 =>
    withV (some x1) fun x17 =>
    withN (callO (callL Try.prog hints) S 80 [x16, x17]) S fun x18 S =>
    withV (some x18) fun x15 =>
    withV (extractO x15 0) fun x19 =>
    withV (extractO x15 1) fun x20 =>
    withN (allocO (tyi Try.prog 54) (List.length S)) S fun x7 S =>
    withS (storeE (tyi Try.prog 54) S x7 x19) fun _u S =>
    withV (some x20) fun x8 =>
    K .normal (ee4 x4 x7 x8) S := nr (by kernel_rfl)
@[go_sem] theorem k26_n : k26 b .normal e S = execL (C b) 0 c5 (k14 b) e S := nr (seqN (enterS (by kernel_rfl)))
@[go_sem] theorem k26_ret : k26 b .ret e S = (k0 b) .ret e S := nr (seqC_r _ _ _ _)
def k28 (b : Nat) : KT := seqC (fun e S => execL (C b) 0 c2 (k0 b) e S) (k0 b)
def c29 : Code := at0 c3
def c30 : Code := at1 c3
def c31 : Code := at0 c30
def c32 : Code := at1 c30
def k33 (b : Nat) : KT := seqC (fun e S => execL (C b) 0 c32 (k26 b) e S) (k26 b)
def c34 : Code := atT c32
def c37 : Code := at0 c34
def c38 : Code := at1 c34
def k39 (b : Nat) : KT := seqC (fun e S => execL (C b) 0 c38 (k26 b) e S) (k26 b)
@[go_sem] theorem k39_n : k39 b .normal (ee3 x4 x5) S =
  (k26 b) .ret (ee3 x4 x5) S := nr (seqN (execL_ret (by kernel_rfl)))
@[go_sem] theorem g40 : execL (C b) 0 c37 K (ee2 x1 x2 x4 x6 x12) S =
  withV (buildO (tyi Try.prog 54) []) fun x13 =>
    withV (some x6) fun x14 =>
    withS (storeE (tyi Try.prog 54) S x4 x13) fun _u S =>
    withV (some x14) fun x5 =>
    K .normal (ee3 x4 x5) S := nr (by kernel_rfl)
@[go_sem] theorem k33_n : k33 b .normal (ee2 x1 x2 x4 x6 x12) S =
  condC x12 (execL (C b) 0 c37 (k39 b) (ee2 x1 x2 x4 x6 x12) S)
    ((k26 b) .normal (ee2 x1 x2 x4 x6 x12) S) := nr (seqN (condE (t := 12) (by kernel_rfl) (enterS (by kernel_rfl)) (execL_skip (by kernel_rfl)) rfl))
def k41 (b : Nat) : KT := seqC (fun e S => execL (C b) 0 c30 (k26 b) e S) (k26 b)
@[go_sem] theorem g42 : execL (C b) 0 c31 K (ee1 x1 x2 x4 x6) S =
  withV (some x6) fun x11 =>
    withV (evBin .neq (tyi Try.prog 29) x11 (.int .i64 0)) fun x12 =>
    K .normal (ee2 x1 x2 x4 x6 x12) S := nr (by kernel_rfl)
@[go_sem] theorem k41_n : k41 b .normal e S = execL (C b) 0 c31 (k33 b) e S := nr (seqN (enterS (by kernel_rfl)))
@[go_sem] theorem g43 : execL (C b) 0 c29 K (ee0 x1 x2 x4) S =
  withV (evLoad (tyi Try.prog 54) S x2) fun x9 =>
    withN (callO (callL Try.prog hints) S 75 [x9]) S fun x10 S =>
    withV (some x10) fun x6 =>
    K .normal (ee1 x1 x2 x4 x6) S := nr (by kernel_rfl)
@[go_sem] theorem k28_n : k28 b .normal (ee0 x1 x2 x4) S =
  execL (C b) 0 c29 (k41 b) (ee0 x1 x2 x4) S := nr (seqN ((enterS (by kernel_rfl)).trans (enterS (by kernel_rfl))))
@[go_sem] theorem g44 : execL (C b) 0 c1 K [(0, x0), (1, x1)] S =
  withN (boxed S (List.length S) (TI.size (tyi Try.prog 54)) x0) S fun x2 S =>
    withN (allocO (tyi Try.prog 54) (List.length S)) S fun x4 S =>
    withV (some (.int .i64 0)) fun x5 =>
    K .normal (ee0 x1 x2 x4) S := nr (by kernel_rfl)
def E (b : Nat) (x0 x1 : PV) (S : Store) : RT := execL (C b) 0 code (k0 b) [(0, x0), (1, x1)] S
@[go_sem] theorem E_eq : E b x0 x1 S =
  execL (C b) 0 c1 (k28 b) [(0, x0), (1, x1)] S := nr (enterS (by kernel_rfl))
@[go_sem] theorem k0_ret3 : k0 b .ret (ee3 x4 x5) S = withV (evLoad (tyi Try.prog 54) S x4) fun v0 => some ((.tup [v0, x5]), S) := nr ((show k0 b .ret (ee3 x4 x5) S = (evResults Try.prog Try.f53 [(4, x4), (5, x5)] S).map (fun v => (v, S)) from by kernel_rfl).trans ((evRes _ _ _ _).trans (by kernel_rfl)))
theorem call {x0 x1 : PV} {r : PV × Store} {v : PV} (h : E 0 x0 x1 [] = some r) (hv : fzPV r.2 r.1 = some v) : callL Try.prog hints 53 [x0, x1] = some v := callL_of (fn := Try.f53) (c := code) (by kernel_rfl) (by kernel_rfl) (by decide) (by kernel_rfl) (Nat.le_of_ble_eq_true (by kernel_rfl)) h hv
end
end F53
/-! ### isochroneref08.Put -/
namespace F82
section
variable (b : Nat) (K : KT) (x0 x1 x2 x3 x5 x6 x7 x10 : PV) (e : Env) (S : Store)
noncomputable def hint : Hint := { keep := [], loops := [], regs := [(0, [1, 3, 5, 6]), (1, [1, 3, 5, 6, 10]), (2, [6]), (3, [1, 3, 5, 6, 7]), (4, [1, 3, 5, 6, 7]), (5, [3, 6, 7]), (6, [3, 6]), (7, [6])] }
noncomputable def C (b : Nat) : Ctx := ctxL Try.prog hints b hint
noncomputable def code : Code := Try.f82.body.get rfl
noncomputable def k0 (b : Nat) : KT := endC Try.prog Try.f82
def ee0 (x1 x3 x5 x6 : PV) : Env := [(1, x1), (3, x3), (5, x5), (6, x6)]
def ee1 (x1 x3 x5 x6 x7 : PV) : Env := [(1, x1), (3, x3), (5, x5), (6, x6), (7, x7)]
def ee2 (x1 x3 x5 x6 x10 : PV) : Env := [(1, x1), (3, x3), (5, x5), (6, x6), (10, x10)]
def ee3 (x3 x6 : PV) : Env := [(3, x3), (6, x6)]
def ee4 (x3 x6 x7 : PV) : Env := [(3, x3), (6, x6), (7, x7)]
def ee5 (x6 : PV) : Env := [(6, x6)]
def c1 : Code := at0 code
def c2 : Code := at1 code
def c3 : Code := at0 c2
def c4 : Code := at1 c2
def c5 : Code := at0 c4
def c6 : Code := at1 c4
def c7 : Code := at0 c6
def c8 : Code := at1 c6
def c9 : Code := at0 c8
def c10 : Code := at1 c8
def c11 : Code := at0 c10
def c12 : Code := at1 c10
def c13 : Code := at0 c12
def c14 : Code := at1 c12
def k15 (b : Nat) : KT := seqC (fun e S => execL (C b) 0 c14 (k0 b) e S) (k0 b)
@[go_sem] theorem k15_n : k15 b .normal (ee5 x6) S =
  (k0 b) .ret (ee5 x6) S := nr (seqN (execL_ret (by kernel_rfl)))
def k16 (b : Nat) : KT := seqC (fun e S => execL (C b) 0 c12 (k0 b) e S) (k0 b)
@[go_sem] theorem g17 : execL (C b) 0 c13 K (ee3 x3 x6) S =
  withV (evLoad (tyi Try.prog 54) S x3) fun x37 =>
    withS (storeE (tyi Try.prog 54) S x6 x37) fun _u S =>
    K .normal (ee5 x6) S := nr (by kernel_rfl)
@[go_sem] theorem k16_n : k16 b .normal e S = execL (C b) 0 c13 (k15 b) e S := nr (seqN (enterS (by kernel_rfl)))
def k18 (b : Nat) : KT := seqC (fun e S => execL (C b) 0 c10 (k0 b) e S) (k0 b)
@[go_sem] theorem g19 : execL (C b) 0 c11 K (ee4 x3 x6 x7) S =
  withV (some x7) fun x35 =>
    withV (evFieldAddr (tyi Try.prog 54) 3 x3) fun x36 =>
    withS (storeE (tyi Try.prog 52) S x36 x35) fun _u S =>
    K .normal (ee3 x3 x6) S := nr (by kernel_rfl)
@[go_sem] theorem k18_n : k18 b .normal e S = execL (C b) 0 c11 (k16 b) e S := nr (seqN (enterS (by kernel_rfl)))
def k20 (b : Nat) : KT := seqC (fun e S => execL (C b) 0 c8 (k0 b) e S) (k0 b)
@[go_sem] theorem g21 : execL (C b) 0 c9 K (ee1 x1 x3 x5 x6 x7) S =
  withV (some x7) fun x20 =>
    withV (some x1) fun x21 =>
    withV (indexAddrO Try.prog 22 S x21 (.int .i64 0)) fun x22 =>
    withV (evLoad (tyi Try.prog 3) S x22) fun x23 =>
    withV (some x7) fun x24 =>
    withV (some x1) fun x25 =>
    withV (indexAddrO Try.prog 22 S x25 (.int .i64 0)) fun x26 =>
    withV (evLoad (tyi Try.prog 3) S x26) fun x27 =>
    withV (indexAddrO Try.prog 52 S x24 x27) fun x28 =>
    withV (evLoad (tyi Try.prog 54) S x28) fun x29 =>
    withV (some x1) fun x30 =>
    withV (sliceO Try.prog 22 S x30 (some (.int .i64 1)) none none) fun x31 =>
    withV (evLoad (tyi Try.prog 54) S x5) fun x32 =>
    withN (callO (callL Try.prog hints) S 82 [x29, x31, x32]) S fun x33 S =>
    withV (indexAddrO Try.prog 52 S x20 x23) fun x34 =>
    withS (storeE (tyi Try.prog 54) S x34 x33) fun _u S =>
    K .normal (ee4 x3 x6 x7) S := nr (by kernel_rfl)
@[go_sem] theorem k20_n : k20 b .normal e S = execL (C b) 0 c9 (k18 b) e S := nr (seqN (enterS (by kernel_rfl)))
def k22 (b : Nat) : KT := seqC (fun e S => execL (C b) 0 c6 (k0 b) e S) (k0 b)
@[go_sem] theorem g23 : execL (C b) 0 c7 K (ee1 x1 x3 x5 x6 x7) S =
  withV (some x7) fun x16 =>
    withV (evFieldAddr (tyi Try.prog 54) 3 x3) fun x17 =>
    withV (evLoad (tyi Try.prog 52) S x17) fun x18 =>
    withS (copyE Try.prog 52 52 S x16 x18) fun x19 S =>
    K .normal (ee1 x1 x3 x5 x6 x7) S := nr (by kernel_rfl)
@[go_sem] theorem k22_n : k22 b .normal e S = execL (C b) 0 c7 (k20 b) e S := nr (seqN (enterS (by kernel_rfl)))
def k24 (b : Nat) : KT := seqC (fun e S => execL (C b) 0 c4 (k0 b) e S) (k0 b)
@[go_sem] theorem g25 : execL (C b) 0 c5 K (ee2 x1 x3 x5 x6 x10) S =
  withV (evFieldAddr (tyi Try.prog 54) 3 x3) fun x12 =>
    withV (evLoad (tyi Try.prog 52) S x12) fun x13 =>
    withV (lenO (tyi Try.prog 52) x13) fun x14 =>
    withN (makeSliceO Try.prog 52 (List.length S) x14 x14) S fun x15 S =>
    withV (some x15) fun x7 =>
    K .normal (ee1 x1 x3 x5 x6 x7) S := nr (by kernel_rfl)
@[go_sem] theorem k24_n : k24 b .normal e S = execL (C b) 0 c5 (k22 b) e S := nr (seqN (enterS (by kernel_rfl)))
@[go_sem] theorem k24_ret : k24 b .ret e S = (k0 b) .ret e S := nr (seqC_r _ _ _ _)
def k26 (b : Nat) : KT := seqC (fun e S => execL (C b) 0 c2 (k0 b) e S) (k0 b)
def c27 : Code := at0 c3
def c28 : Code := at1 c3
def k29 (b : Nat) : KT := seqC (fun e S => execL (C b) 0 c28 (k24 b) e S) (k24 b)
def c30 : Code := atT c28
def c33 : Code := at0 c30
def c34 : Code := at1 c30
def k35 (b : Nat) : KT := seqC (fun e S => execL (C b) 0 c34 (k24 b) e S) (k24 b)
@[go_sem] theorem k35_n : k35 b .normal (ee5 x6) S =
  (k24 b) .ret (ee5 x6) S := nr (seqN (execL_ret (by kernel_rfl)))
@[go_sem] theorem g36 : execL (C b) 0 c33 K (ee2 x1 x3 x5 x6 x10) S =
  withV (evLoad (tyi Try.prog 54) S x5) fun x11 =>
    withS (storeE (tyi Try.prog 54) S x6 x11) fun _u S =>
    K .normal (ee5 x6) S := nr (by kernel_rfl)
@[go_sem] theorem k29_n : k29 b .normal (ee2 x1 x3 x5 x6 x10) S =
  condC x10 (execL (C b) 0 c33 (k35 b) (ee2 x1 x3 x5 x6 x10) S)
    ((k24 b) .normal (ee2 x1 x3 x5 x6 x10) S) := nr (seqN (condE (t := 10) (by kernel_rfl) (enterS (by kernel_rfl)) (execL_skip (by kernel_rfl)) rfl))
@[go_sem] theorem g37 : execL (C b) 0 c27 K (ee0 x1 x3 x5 x6) S =
  withV (some x1) fun x8 =>
    withV (lenO (tyi Try.prog 22) x8) fun x9 =>
    withV (evBin .eql (tyi Try.prog 3) x9 (.int .i64 0)) fun x10 =>
    K .normal (ee2 x1 x3 x5 x6 x10) S := nr (by kernel_rfl)
@[go_sem] theorem k26_n : k26 b .normal (ee0 x1 x3 x5 x6) S =
  execL (C b) 0 c27 (k29 b) (ee0 x1 x3 x5 x6) S := nr (seqN ((enterS (by kernel_rfl)).trans (enterS (by kernel_rfl))))
@[go_sem] theorem g38 : execL (C b) 0 c1 K [(0, x0), (1, x1), (2, x2)] S =
  withN (boxed S (List.length S) (TI.size (tyi Try.prog 54)) x0) S fun x3 S =>
    withN (boxed S (List.length S) (TI.size (tyi Try.prog 54)) x2) S fun x5 S =>
    withN (allocO (tyi Try.prog 54) (List.length S)) S fun x6 S =>
    K .normal (ee0 x1 x3 x5 x6) S := nr (by kernel_rfl)
def E (b : Nat) (x0 x1 x2 : PV) (S : Store) : RT := execL (C b) 0 code (k0 b) [(0, x0), (1, x1), (2, x2)] S
@[go_sem] theorem E_eq : E b x0 x1 x2 S =
  execL (C b) 0 c1 (k26 b) [(0, x0), (1, x1), (2, x2)] S := nr (enterS (by kernel_rfl))
@[go_sem] theorem k0_ret5 : k0 b .ret (ee5 x6) S = withV (evLoad (tyi Try.prog 54) S x6) fun v0 => some (v0, S) := nr ((show k0 b .ret (ee5 x6) S = (evResults Try.prog Try.f82 [(6, x6)] S).map (fun v => (v, S)) from by kernel_rfl).trans ((evRes _ _ _ _).trans (by kernel_rfl)))
theorem call {x0 x1 x2 : PV} {r : PV × Store} {v : PV} (h : E 0 x0 x1 x2 [] = some r) (hv : fzPV r.2 r.1 = some v) : callL Try.prog hints 82 [x0, x1, x2] = some v := callL_of (fn := Try.f82) (c := code) (by kernel_rfl) (by kernel_rfl) (by decide) (by kernel_rfl) (Nat.le_of_ble_eq_true (by kernel_rfl)) h hv
end
end F82
/-! ### isochroneref08.Replace -/
namespace F55
section
variable (b : Nat) (K : KT) (x0 x1 x2 x3 x5 x6 x7 x8 x9 x10 x11 x12 x20 x34 x46 : PV) (e : Env) (S : Store)
noncomputable def hint : Hint := { keep := [], loops := [], regs := [(0, [1, 3, 5, 6]), (1, [1, 3, 5, 6, 8, 9]), (2, [1, 3, 5, 6, 8, 9, 20]), (3, [6, 7]), (4, [1, 3, 5, 6, 8, 10]), (5, [1, 3, 5, 6, 34]), (6, [6, 7]), (7, [3, 6, 11]), (8, [6, 11, 12]), (9, [6, 11, 12, 46]), (10, [6, 7]), (11, [6, 7])] }
noncomputable def C (b : Nat) : Ctx := ctxL Try.prog hints b hint
noncomputable def code : Code := Try.f55.body.get rfl
noncomputable def k0 (b : Nat) : KT := endC Try.prog Try.f55
def ee0 (x1 x3 x5 x6 : PV) : Env := [(1, x1), (3, x3), (5, x5), (6, x6)]
def ee1 (x1 x3 x5 x6 x8 x9 : PV) : Env := [(1, x1), (3, x3), (5, x5), (6, x6), (8, x8), (9, x9)]
def ee2 (x1 x3 x5 x6 x8 x9 x20 : PV) : Env := [(1, x1), (3, x3), (5, x5), (6, x6), (8, x8), (9, x9), (20, x20)]
def ee3 (x1 x3 x5 x6 x8 x10 : PV) : Env := [(1, x1), (3, x3), (5, x5), (6, x6), (8, x8), (10, x10)]
def ee4 (x1 x3 x5 x6 x34 : PV) : Env := [(1, x1), (3, x3), (5, x5), (6, x6), (34, x34)]
def ee5 (x3 x6 x11 : PV) : Env := [(3, x3), (6, x6), (11, x11)]
def ee6 (x6 x7 : PV) : Env := [(6, x6), (7, x7)]
def ee7 (x6 x11 x12 : PV) : Env := [(6, x6), (11, x11), (12, x12)]
def ee8 (x6 x11 x12 x46 : PV) : Env := [(6, x6), (11, x11), (12, x12), (46, x46)]
def c1 : Code := at0 code
def c2 : Code := at1 code
def c3 : Code := at0 c2
def c4 : Code := at1 c2
def c5 : Code := at0 c4
def c6 : Code := at1 c4
def c7 : Code := at0 c6
def c8 : Code := at1 c6
def c9 : Code := at0 c8
def c10 : Code := at1 c8
def c11 : Code := at0 c10
def c12 : Code := at1 c10
def c13 : Code := at0 c12
def c14 : Code := at1 c12
def k15 (b : Nat) : KT := seqC (fun e S => execL (C b) 0 c14 (k0 b) e S) (k0 b)
@[go_sem] theorem k15_n : k15 b .normal (ee6 x6 x7) S =
  (k0 b) .ret (ee6 x6 x7) S := nr (seqN (execL_ret (by kernel_rfl)))
def k16 (b : Nat) : KT := seqC (fun e S => execL (C b) 0 c12 (k0 b) e S) (k0 b)
@[go_sem] theorem g17 : execL (C b) 0 c13 K (ee8 x6 x11 x12 x46) S =
  withV (evLoad (tyi Try.prog 54) S x11) fun x49 =>
    withS (storeE (tyi Try.prog 54) S x6 x49) fun _u S =>
    withV (some (.int .i64 0)) fun x7 =>
    K .normal (ee6 x6 x7) S := nr (by kernel_rfl)
@[go_sem] theorem k16_n : k16 b .normal e S = execL (C b) 0 c13 (k15 b) e S := nr (seqN (enterS (by kernel_rfl)))
@[go_sem] theorem k16_ret : k16 b .ret e S = (k0 b) .ret e S := nr (seqC_r _ _ _ _)
def k18 (b : Nat) : KT := seqC (fun e S => execL (C b) 0 c10 (k0 b) e S) (k0 b)
def c19 : Code := at0 c11
def c20 : Code := at1 c11
def c21 : Code := at0 c20
def c22 : Code := at1 c20
def k23 (b : Nat) : KT := seqC (fun e S => execL (C b) 0 c22 (k16 b) e S) (k16 b)
def c24 : Code := atT c22
def c27 : Code := at0 c24
def c28 : Code := at1 c24
def k29 (b : Nat) : KT := seqC (fun e S => execL (C b) 0 c28 (k16 b) e S) (k16 b)
@[go_sem] theorem k29_n : k29 b .normal (ee6 x6 x7) S =
  (k16 b) .ret (ee6 x6 x7) S := nr (seqN (execL_ret (by kernel_rfl)))
@[go_sem] theorem g30 : execL (C b) 0 c27 K (ee8 x6 x11 x12 x46) S =
  withV (buildO (tyi Try.prog 54) []) fun x47 =>
    withV (some x12) fun x48 =>
    withS (storeE (tyi Try.prog 54) S x6 x47) fun _u S =>
    withV (some x48) fun x7 =>
    K .normal (ee6 x6 x7) S := nr (by kernel_rfl)
@[go_sem] theorem k23_n : k23 b .normal (ee8 x6 x11 x12 x46) S =
  condC x46 (execL (C b) 0 c27 (k29 b) (ee8 x6 x11 x12 x46) S)
    ((k16 b) .normal (ee8 x6 x11 x12 x46) S) := nr (seqN (condE (t := 46) (by kernel_rfl) (enterS (by kernel_rfl)) (execL_skip (by kernel_rfl)) rfl))
def k31 (b : Nat) : KT := seqC (fun e S => execL (C b) 0 c20 (k16 b) e S) (k16 b)
@[go_sem] theorem g32 : execL (C b) 0 c21 K (ee7 x6 x11 x12) S =
  withV (some x12) fun x45 =>
    withV (evBin .neq (tyi Try.prog 29) x45 (.int .i64 0)) fun x46 =>
    K .normal (ee8 x6 x11 x12 x46) S := nr (by kernel_rfl)
@[go_sem] theorem k31_n : k31 b .normal e S = execL (C b) 0 c21 (k23 b) e S := nr (seqN (enterS (by kernel_rfl)))
@[go_sem] theorem g33 : execL (C b) 0 c19 K (ee5 x3 x6 x11) S =
  withV (evLoad (tyi Try.prog 54) S x11) fun x40 =>
    withV (evFieldAddr (tyi Try.prog 54) 0 x3) fun x41 =>
    withV (evLoad (tyi Try.prog 3) S x41) fun x42 =>
    withN (callO (callL Try.prog hints) S 41 [x42]) S fun x43 S =>
    withN (callO (callL Try.prog hints) S 37 [x40, x43]) S fun x44 S =>
    withV (some x44) fun x12 =>
    K .normal (ee7 x6 x11 x12) S := nr (by kernel_rfl)
@[go_sem] theorem k18_n : k18 b .normal (ee5 x3 x6 x11) S =
  execL (C b) 0 c19 (k31 b) (ee5 x3 x6 x11) S := nr (seqN ((enterS (by kernel_rfl)).trans (enterS (by kernel_rfl))))
def k34 (b : Nat) : KT := seqC (fun e S => execL (C b) 0 c8 (k0 b) e S) (k0 b)
@[go_sem] theorem g35 : execL (C b) 0 c9 K (ee4 x1 x3 x5 x6 x34) S =
  withV (evLoad (tyi Try.prog 54) S x3) fun x36 =>
    withV (some x1) fun x37 =>
    withV (evLoad (tyi Try.prog 54) S x5) fun x38 =>
    withN (callO (callL Try.prog hints) S 82 [x36, x37, x38]) S fun x39 S =>
    withN (allocO (tyi Try.prog 54) (List.length S)) S fun x11 S =>
    withS (storeE (tyi Try.prog 54) S x11 x39) fun _u S =>
    K .normal (ee5 x3 x6 x11) S := nr (by kernel_rfl)
@[go_sem] theorem k34_n : k34 b .normal e S = execL (C b) 0 c9 (k18 b) e S := nr (seqN (enterS (by kernel_rfl)))
@[go_sem] theorem k34_ret : k34 b .ret e S = (k0 b) .ret e S := nr (seqC_r _ _ _ _)
def k36 (b : Nat) : KT := seqC (fun e S => execL (C b) 0 c6 (k0 b) e S) (k0 b)
def c37 : Code := at0 c7
def c38 : Code := at1 c7
def c39 : Code := at0 c38
def c40 : Code := at1 c38
def k41 (b : Nat) : KT := seqC (fun e S => execL (C b) 0 c40 (k34 b) e S) (k34 b)
def c42 : Code := atT c40
def c45 : Code := at0 c42
def c46 : Code := at1 c42
def k47 (b : Nat) : KT := seqC (fun e S => execL (C b) 0 c46 (k34 b) e S) (k34 b)
@[go_sem] theorem k47_n : k47 b .normal (ee6 x6 x7) S =
  (k34 b) .ret (ee6 x6 x7) S := nr (seqN (execL_ret (by kernel_rfl)))
@[go_sem] theorem g48 : execL (C b) 0 c45 K (ee4 x1 x3 x5 x6 x34) S =
  withV (buildO (tyi Try.prog 54) []) fun x35 =>
    withS (storeE (tyi Try.prog 54) S x6 x35) fun _u S =>
    withV (some (.int .i64 80)) fun x7 =>
    K .normal (ee6 x6 x7) S := nr (by kernel_rfl)
@[go_sem] theorem k41_n : k41 b .normal (ee4 x1 x3 x5 x6 x34) S =
  condC x34 (execL (C b) 0 c45 (k47 b) (ee4 x1 x3 x5 x6 x34) S)
    ((k34 b) .normal (ee4 x1 x3 x5 x6 x34) S) := nr (seqN (condE (t := 34) (by kernel_rfl) (enterS (by kernel_rfl)) (execL_skip (by kernel_rfl)) rfl))
def k49 (b : Nat) : KT := seqC (fun e S => execL (C b) 0 c38 (k34 b) e S) (k34 b)
@[go_sem] theorem g50 : execL (C b) 0 c39 K (ee3 x1 x3 x5 x6 x8 x10) S =
  withV (some x10) fun x26 =>
    withV (evBin .eql (tyi Try.prog 3) x26 (.int .i64 0)) fun x27 =>
    withV (some x27) fun x28 =>
    withV (gval x28 false (some x10)) fun x29 =>
    withV (gval x28 false (evFieldAddr (tyi Try.prog 54) 0 x8)) fun x30 =>
    withV (gval x28 false (evLoad (tyi Try.prog 3) S x30)) fun x31 =>
    withN (gout x28 false (callO (callL Try.prog hints) S 41 [x31])) S fun x32 S =>
    withV (gval x28 false (evBin .neq (tyi Try.prog 3) x29 x32)) fun x33 =>
    withV (pickO x28 (.bool true) x33) fun x34 =>
    K .normal (ee4 x1 x3 x5 x6 x34) S := nr (by kernel_rfl)
@[go_sem] theorem k49_n : k49 b .normal e S = execL (C b) 0 c39 (k41 b) e S := nr (seqN (enterS (by kernel_rfl)))
@[go_sem] theorem g51 : execL (C b) 0 c37 K (ee2 x1 x3 x5 x6 x8 x9 x20) S =
  withV (evFieldAddr (tyi Try.prog 54) 0 x5) fun x23 =>
    withV (evLoad (tyi Try.prog 3) S x23) fun x24 =>
    withN (callO (callL Try.prog hints) S 41 [x24]) S fun x25 S =>
    withV (some x25) fun x10 =>
    K .normal (ee3 x1 x3 x5 x6 x8 x10) S := nr (by kernel_rfl)
@[go_sem] theorem k36_n : k36 b .normal (ee2 x1 x3 x5 x6 x8 x9 x20) S =
  execL (C b) 0 c37 (k49 b) (ee2 x1 x3 x5 x6 x8 x9 x20) S := nr (seqN ((enterS (by kernel_rfl)).trans (enterS (by kernel_rfl))))
@[go_sem] theorem k36_ret : k36 b .ret e S = (k0 b) .ret e S := nr (seqC_r _ _ _ _)
def k52 (b : Nat) : KT := seqC (fun e S => execL (C b) 0 c4 (k0 b) e S) (k0 b)
def c53 : Code := at0 c5
def c54 : Code := at1 c5
def k55 (b : Nat) : KT := seqC (fun e S => execL (C b) 0 c54 (k36 b) e S) (k36 b)
def c56 : Code := atT c54
def c59 : Code := at0 c56
def c60 : Code := at1 c56
def k61 (b : Nat) : KT := seqC (fun e S => execL (C b) 0 c60 (k36 b) e S) (k36 b)
@[go_sem] theorem k61_n : k61 b .normal (ee6 x6 x7) S =
  (k36 b) .ret (ee6 x6 x7) S := nr (seqN (execL_ret (by kernel_rfl)))
@[go_sem] theorem g62 : execL (C b) 0 c59 K (ee2 x1 x3 x5 x6 x8 x9 x20) S =
  withV (buildO (tyi Try.prog 54) []) fun x21 =>
    withV (some x9) fun x22 =>
    withS (storeE (tyi Try.prog 54) S x6 x21) fun _u S =>
    withV (some x22) fun x7 =>
    K .normal (ee6 x6 x7) S := nr (by kernel_rfl)
@[go_sem] theorem k55_n : k55 b .normal (ee2 x1 x3 x5 x6 x8 x9 x20) S =
  condC x20 (execL (C b) 0 c59 (k61 b) (ee2 x1 x3 x5 x6 x8 x9 x20) S)
    ((k36 b) .normal (ee2 x1 x3 x5 x6 x8 x9 x20) S) := nr (seqN (condE (t := 20) (by kernel_rfl) (enterS (by kernel_rfl)) (execL_skip (by kernel_rfl)) rfl))
@[go_sem] theorem g63 : execL (C b) 0 c53 K (ee1 x1 x3 x5 x6 x8 x9) S =
  withV (some x9) fun x19 =>
    withV (evBin .neq (tyi Try.prog 29) x19 (.int .i64 0)) fun x20 =>
    K .normal (ee2 x1 x3 x5 x6 x8 x9 x20) S := nr (by kernel_rfl)
@[go_sem] theorem k52_n : k52 b .normal (ee1 x1 x3 x5 x6 x8 x9) S =
  execL (C b) 0 c53 (k55 b) (ee1 x1 x3 x5 x6 x8 x9) S := nr (seqN ((enterS (by kernel_rfl)).trans (enterS (by kernel_rfl))))
def k64 (b : Nat) : KT := seqC (fun e S => execL (C b) 0 c2 (k0 b) e S) (k0 b)
@[go_sem] theorem g65 : execL (C b) 0 c3 K (ee0 x1 x3 x5 x6) S =
  withV (evLoad (tyi Try.prog 54) S x3) fun x14 =>
    withV (some x1) fun x15 =>
    withN (callO (callL Try.prog hints) S 53 [x14, x15]) S fun x16 S =>
    withV (some x16) fun x13 =>
    withV (extractO x13 0) fun x17 =>
    withV (extractO x13 1) fun x18 =>
    withN (allocO (tyi Try.prog 54) (List.length S)) S fun x8 S =>
    withS (storeE (tyi Try.prog 54) S x8 x17) fun _u S =>
    withV (some x18) fun x9 =>
    K .normal (ee1 x1 x3 x5 x6 x8 x9) S := nr (by kernel_rfl)
@[go_sem] theorem k64_n : k64 b .normal e S = execL (C b) 0 c3 (k52 b) e S := nr (seqN (enterS (by kernel_rfl)))
@[go_sem] theorem g66 : execL (C b) 0 c1 K [(0, x0), (1, x1), (2, x2)] S =
  withN (boxed S (List.length S) (TI.size (tyi Try.prog 54)) x0) S fun x3 S =>
    withN (boxed S (List.length S) (TI.size (tyi Try.prog 54)) x2) S fun x5 S =>
    withN (allocO (tyi Try.prog 54) (List.length S)) S fun x6 S =>
    withV (some (.int .i64 0)) fun x7 =>
    K .normal (ee0 x1 x3 x5 x6) S := nr (by kernel_rfl)
def E (b : Nat) (x0 x1 x2 : PV) (S : Store) : RT := execL (C b) 0 code (k0 b) [(0, x0), (1, x1), (2, x2)] S
@[go_sem] theorem E_eq : E b x0 x1 x2 S =
  execL (C b) 0 c1 (k64 b) [(0, x0), (1, x1), (2, x2)] S := nr (enterS (by kernel_rfl))
@[go_sem] theorem k0_ret6 : k0 b .ret (ee6 x6 x7) S = withV (evLoad (tyi Try.prog 54) S x6) fun v0 => some ((.tup [v0, x7]), S) := nr ((show k0 b .ret (ee6 x6 x7) S = (evResults Try.prog Try.f55 [(6, x6), (7, x7)] S).map (fun v => (v, S)) from by kernel_rfl).trans ((evRes _ _ _ _).trans (by kernel_rfl)))
theorem call {x0 x1 x2 : PV} {r : PV × Store} {v : PV} (h : E 0 x0 x1 x2 [] = some r) (hv : fzPV r.2 r.1 = some v) : callL Try.prog hints 55 [x0, x1, x2] = some v := callL_of (fn := Try.f55) (c := code) (by kernel_rfl) (by kernel_rfl) (by decide) (by kernel_rfl) (Nat.le_of_ble_eq_true (by kernel_rfl)) h hv
end
end F55
/-! ### isochroneref08.Equal -/
namespace F56
section
variable (b : Nat) (K : KT) (x0 x1 x2 x3 x4 : PV) (e : Env) (S : Store)
noncomputable def hint : Hint := { keep := [], loops := [], regs := [(0, [2, 3]), (1, [4])] }
noncomputable def C (b : Nat) : Ctx := ctxL Try.prog hints b hint
noncomputable def code : Code := Try.f56.body.get rfl
noncomputable def k0 (b : Nat) : KT := endC Try.prog Try.f56
def ee0 (x2 x3 : PV) : Env := [(2, x2), (3, x3)]
def ee1 (x4 : PV) : Env := [(4, x4)]
def c1 : Code := at0 code
def c2 : Code := at1 code
def c3 : Code := at0 c2
def c4 : Code := at1 c2
def k5 (b : Nat) : KT := seqC (fun e S => execL (C b) 0 c4 (k0 b) e S) (k0 b)
@[go_sem] theorem k5_n : k5 b .normal (ee1 x4) S =
  (k0 b) .ret (ee1 x4) S := nr (seqN (execL_ret (by kernel_rfl)))
def k6 (b : Nat) : KT := seqC (fun e S => execL (C b) 0 c2 (k0 b) e S) (k0 b)
@[go_sem] theorem g7 : execL (C b) 0 c3 K (ee0 x2 x3) S =
  withV (evLoad (tyi Try.prog 54) S x2) fun x5 =>
    withV (evLoad (tyi Try.prog 54) S x3) fun x6 =>
    withN (callO (callL Try.prog hints) S 46 [x5, x6]) S fun x7 S =>
    withV (evBin .eql (tyi Try.prog 3) x7 (.int .i64 0)) fun x8 =>
    withV (some x8) fun x4 =>
    K .normal (ee1 x4) S := nr (by kernel_rfl)
@[go_sem] theorem k6_n : k6 b .normal e S = execL (C b) 0 c3 (k5 b) e S := nr (seqN (enterS (by kernel_rfl)))
@[go_sem] theorem g8 : execL (C b) 0 c1 K [(0, x0), (1, x1)] S =
  withN (boxed S (List.length S) (TI.size (tyi Try.prog 54)) x0) S fun x2 S =>
    withN (boxed S (List.length S) (TI.size (tyi Try.prog 54)) x1) S fun x3 S =>
    withV (some (.bool false)) fun x4 =>
    K .normal (ee0 x2 x3) S := nr (by kernel_rfl)
def E (b : Nat) (x0 x1 : PV) (S : Store) : RT := execL (C b) 0 code (k0 b) [(0, x0), (1, x1)] S
@[go_sem] theorem E_eq : E b x0 x1 S =
  execL (C b) 0 c1 (k6 b) [(0, x0), (1, x1)] S := nr (enterS (by kernel_rfl))
@[go_sem] theorem k0_ret1 : k0 b .ret (ee1 x4) S = some (x4, S) := nr (by kernel_rfl)
theorem call {x0 x1 : PV} {r : PV × Store} {v : PV} (h : E 0 x0 x1 [] = some r) (hv : fzPV r.2 r.1 = some v) : callL Try.prog hints 56 [x0, x1] = some v := callL_of (fn := Try.f56) (c := code) (by kernel_rfl) (by kernel_rfl) (by decide) (by kernel_rfl) (Nat.le_of_ble_eq_true (by kernel_rfl)) h hv
end
end F56
/-! ### isochronelaw08.TreePlaces -/
namespace F11
section
variable (b : Nat) (K : KT) (x0 x1 x2 x3 x5 x6 x7 x8 x9 x10 x11 x12 x13 x14 x16 x24 : PV) (e : Env) (S : Store)
noncomputable def hint : Hint := { keep := [], loops := [], regs := [(0, [1, 3, 5]), (1, [1, 3, 5, 16]), (2, [6]), (3, [1, 3, 5, 24]), (4, [6]), (5, [1, 3, 5, 7, 8]), (6, [1, 3, 5, 7, 8, 9, 10]), (7, [1, 3, 5, 7, 8, 9, 10, 11, 12]), (8, [7, 8, 9, 10, 11, 12, 13, 14]), (9, [6])] }
noncomputable def C (b : Nat) : Ctx := ctxL Try.prog hints b hint
noncomputable def code : Code := Try.f11.body.get rfl
noncomputable def k0 (b : Nat) : KT := endC Try.prog Try.f11
def ee0 (x1 x3 x5 : PV) : Env := [(1, x1), (3, x3), (5, x5)]
def ee1 (x1 x3 x5 x7 x8 : PV) : Env := [(1, x1), (3, x3), (5, x5), (7, x7), (8, x8)]
def ee2 (x1 x3 x5 x7 x8 x9 x10 : PV) : Env := [(1, x1), (3, x3), (5, x5), (7, x7), (8, x8), (9, x9), (10, x10)]
def ee3 (x1 x3 x5 x7 x8 x9 x10 x11 x12 : PV) : Env := [(1, x1), (3, x3), (5, x5), (7, x7), (8, x8), (9, x9), (10, x10), (11, x11), (12, x12)]
def ee4 (x1 x3 x5 x16 : PV) : Env := [(1, x1), (3, x3), (5, x5), (16, x16)]
def ee5 (x1 x3 x5 x24 : PV) : Env := [(1, x1), (3, x3), (5, x5), (24, x24)]
def ee6 (x6 : PV) : Env := [(6, x6)]
def ee7 (x7 x8 x9 x10 x11 x12 x13 x14 : PV) : Env := [(7, x7), (8, x8), (9, x9), (10, x10), (11, x11), (12, x12), (13, x13), (14, x14)]
def c1 : Code := at0 code
def c2 : Code := at1 code
def c3 : Code := at0 c2
def c4 : Code := at1 c2
def c5 : Code := at0 c4
def c6 : Code := at1 c4
def c7 : Code := at0 c6
def c8 : Code := at1 c6
def c9 : Code := at0 c8
def c10 : Code := at1 c8
def c11 : Code := at0 c10
def c12 : Code := at1 c10
def c13 : Code := at0 c12
def c14 : Code := at1 c12
def c15 : Code := at0 c14
def c16 : Code := at1 c14
def k17 (b : Nat) : KT := seqC (fun e S => execL (C b) 0 c16 (k0 b) e S) (k0 b)
@[go_sem] theorem k17_n : k17 b .normal (ee6 x6) S =
  (k0 b) .ret (ee6 x6) S := nr (seqN (execL_ret (by kernel_rfl)))
def k18 (b : Nat) : KT := seqC (fun e S => execL (C b) 0 c14 (k0 b) e S) (k0 b)
@[go_sem] theorem g19 : execL (C b) 0 c15 K (ee7 x7 x8 x9 x10 x11 x12 x13 x14) S =
  withV (some x8) fun x51 =>
    withV (some x10) fun x52 =>
    withV (evBin .eql (tyi Try.prog 29) x51 x52) fun x53 =>
    withV (some x53) fun x54 =>
    withV (gval x54 true (evLoad (tyi Try.prog 54) S x7)) fun x55 =>
    withV (gval x54 true (evLoad (tyi Try.prog 54) S x9)) fun x56 =>
    withN (gout x54 true (callO (callL Try.prog hints) S 56 [x55, x56])) S fun x57 S =>
    withV (pickO x54 x57 (.bool false)) fun x58 =>
    withV (some x58) fun x59 =>
    withV (gval x59 true (some x12)) fun x60 =>
    withV (gval x59 true (some x14)) fun x61 =>
    withV (gval x59 true (evBin .eql (tyi Try.prog 29) x60 x61)) fun x62 =>
    withV (pickO x59 x62 (.bool false)) fun x63 =>
    withV (some x63) fun x64 =>
    withV (gval x64 true (evLoad (tyi Try.prog 54) S x11)) fun x65 =>
    withV (gval x64 true (evLoad (tyi Try.prog 54) S x13)) fun x66 =>
    withN (gout x64 true (callO (callL Try.prog hints) S 56 [x65, x66])) S fun x67 S =>
    withV (pickO x64 x67 (.bool false)) fun x68 =>
    withV (some x68) fun x6 =>
    K .normal (ee6 x6) S := nr (by kernel_rfl)
@[go_sem] theorem k18_n : k18 b .normal e S = execL (C b) 0 c15 (k17 b) e S := nr (seqN (enterS (by kernel_rfl)))
def k20 (b : Nat) : KT := seqC (fun e S => execL (C b) 0 c12 (k0 b) e S) (k0 b)
@[go_sem] theorem g21 : execL (C b) 0 c13 K (ee3 x1 x3 x5 x7 x8 x9 x10 x11 x12) S =
  withV (evLoad (tyi Try.prog 54) S x3) fun x45 =>
    withV (some x1) fun x46 =>
    withV (evLoad (tyi Try.prog 54) S x5) fun x47 =>
    withN (callO (callL Try.prog hints) S 55 [x45, x46, x47]) S fun x48 S =>
    withV (some x48) fun x44 =>
    withV (extractO x44 0) fun x49 =>
    withV (extractO x44 1) fun x50 =>
    withN (allocO (tyi Try.prog 54) (List.length S)) S fun x13 S =>
    withS (storeE (tyi Try.prog 54) S x13 x49) fun _u S =>
    withV (some x50) fun x14 =>
    K .normal (ee7 x7 x8 x9 x10 x11 x12 x13 x14) S := nr (by kernel_rfl)
@[go_sem] theorem k20_n : k20 b .normal e S = execL (C b) 0 c13 (k18 b) e S := nr (seqN (enterS (by kernel_rfl)))
def k22 (b : Nat) : KT := seqC (fun e S => execL (C b) 0 c10 (k0 b) e S) (k0 b)
@[go_sem] theorem g23 : execL (C b) 0 c11 K (ee2 x1 x3 x5 x7 x8 x9 x10) S =
  withV (evLoad (tyi Try.prog 54) S x3) fun x38 =>
    withV (some x1) fun x39 =>
    withV (evLoad (tyi Try.prog 54) S x5) fun x40 =>
    withN (callO (callL Try.prog hints) S 54 [x38, x39, x40]) S fun x41 S =>
    withV (some x41) fun x37 =>
    withV (extractO x37 0) fun x42 =>
    withV (extractO x37 1) fun x43 =>
    withN (allocO (tyi Try.prog 54) (List.length S)) S fun x11 S =>
    withS (storeE (tyi Try.prog 54) S x11 x42) fun _u S =>
    withV (some x43) fun x12 =>
    K .normal (ee3 x1 x3 x5 x7 x8 x9 x10 x11 x12) S := nr (by kernel_rfl)
@[go_sem] theorem k22_n : k22 b .normal e S = execL (C b) 0 c11 (k20 b) e S := nr (seqN (enterS (by kernel_rfl)))
def k24 (b : Nat) : KT := seqC (fun e S => execL (C b) 0 c8 (k0 b) e S) (k0 b)
@[go_sem] theorem g25 : execL (C b) 0 c9 K (ee1 x1 x3 x5 x7 x8) S =
  withV (evLoad (tyi Try.prog 54) S x3) fun x32 =>
    withV (some x1) fun x33 =>
    withN (callO (callL Try.prog hints) S 53 [x32, x33]) S fun x34 S =>
    withV (some x34) fun x31 =>
    withV (extractO x31 0) fun x35 =>
    withV (extractO x31 1) fun x36 =>
    withN (allocO (tyi Try.prog 54) (List.length S)) S fun x9 S =>
    withS (storeE (tyi Try.prog 54) S x9 x35) fun _u S =>
    withV (some x36) fun x10 =>
    K .normal (ee2 x1 x3 x5 x7 x8 x9 x10) S := nr (by kernel_rfl)
@[go_sem] theorem k24_n : k24 b .normal e S = execL (C b) 0 c9 (k22 b) e S := nr (seqN (enterS (by kernel_rfl)))
def k26 (b : Nat) : KT := seqC (fun e S => execL (C b) 0 c6 (k0 b) e S) (k0 b)
@[go_sem] theorem g27 : execL (C b) 0 c7 K (ee5 x1 x3 x5 x24) S =
  withV (evLoad (tyi Try.prog 54) S x3) fun x26 =>
    withV (some x1) fun x27 =>
    withN (callO (callL Try.prog hints) S 52 [x26, x27]) S fun x28 S =>
    withV (some x28) fun x25 =>
    withV (extractO x25 0) fun x29 =>
    withV (extractO x25 1) fun x30 =>
    withN (allocO (tyi Try.prog 54) (List.length S)) S fun x7 S =>
    withS (storeE (tyi Try.prog 54) S x7 x29) fun _u S =>
    withV (some x30) fun x8 =>
    K .normal (ee1 x1 x3 x5 x7 x8) S := nr (by kernel_rfl)
@[go_sem] theorem k26_n : k26 b .normal e S = execL (C b) 0 c7 (k24 b) e S := nr (seqN (enterS (by kernel_rfl)))
@[go_sem] theorem k26_ret : k26 b .ret e S = (k0 b) .ret e S := nr (seqC_r _ _ _ _)
def k28 (b : Nat) : KT := seqC (fun e S => execL (C b) 0 c4 (k0 b) e S) (k0 b)
def c29 : Code := at0 c5
def c30 : Code := at1 c5
def k31 (b : Nat) : KT := seqC (fun e S => execL (C b) 0 c30 (k26 b) e S) (k26 b)
def c32 : Code := atT c30
def c35 : Code := at0 c32
def c36 : Code := at1 c32
def k37 (b : Nat) : KT := seqC (fun e S => execL (C b) 0 c36 (k26 b) e S) (k26 b)
@[go_sem] theorem k37_n : k37 b .normal (ee6 x6) S =
  (k26 b) .ret (ee6 x6) S := nr (seqN (execL_ret (by kernel_rfl)))
@[go_sem] theorem g38 : execL (C b) 0 c35 K (ee5 x1 x3 x5 x24) S =
  withV (some (.bool true)) fun x6 =>
    K .normal (ee6 x6) S := nr (by kernel_rfl)
@[go_sem] theorem k31_n : k31 b .normal (ee5 x1 x3 x5 x24) S =
  condC x24 (execL (C b) 0 c35 (k37 b) (ee5 x1 x3 x5 x24) S)
    ((k26 b) .normal (ee5 x1 x3 x5 x24) S) := nr (seqN (condE (t := 24) (by kernel_rfl) (enterS (by kernel_rfl)) (execL_skip (by kernel_rfl)) rfl))
@[go_sem] theorem g39 : execL (C b) 0 c29 K (ee4 x1 x3 x5 x16) S =
  withV (evLoad (tyi Try.prog 54) S x3) fun x17 =>
    withN (callO (callL Try.prog hints) S 35 [x17]) S fun x18 S =>
    withV (evBin .gtr (tyi Try.prog 3) x18 (.int .i64 10000)) fun x19 =>
    withV (some x19) fun x20 =>
    withV (gval x20 false (evLoad (tyi Try.prog 54) S x5)) fun x21 =>
    withN (gout x20 false (callO (callL Try.prog hints) S 35 [x21])) S fun x22 S =>
    withV (gval x20 false (evBin .gtr (tyi Try.prog 3) x22 (.int .i64 10000))) fun x23 =>
    withV (pickO x20 (.bool true) x23) fun x24 =>
    K .normal (ee5 x1 x3 x5 x24) S := nr (by kernel_rfl)
@[go_sem] theorem k28_n : k28 b .normal (ee4 x1 x3 x5 x16) S =
  execL (C b) 0 c29 (k31 b) (ee4 x1 x3 x5 x16) S := nr (seqN ((enterS (by kernel_rfl)).trans (enterS (by kernel_rfl))))
def k40 (b : Nat) : KT := seqC (fun e S => execL (C b) 0 c2 (k0 b) e S) (k0 b)
def c41 : Code := at0 c3
def c42 : Code := at1 c3
def k43 (b : Nat) : KT := seqC (fun e S => execL (C b) 0 c42 (k28 b) e S) (k28 b)
def c44 : Code := atT c42
def c47 : Code := at0 c44
def c48 : Code := at1 c44
def k49 (b : Nat) : KT := seqC (fun e S => execL (C b) 0 c48 (k28 b) e S) (k28 b)
@[go_sem] theorem k43_n : k43 b .normal (ee4 x1 x3 x5 x16) S =
  condC x16 (execL (C b) 0 c47 (k49 b) (ee4 x1 x3 x5 x16) S)
    ((k28 b) .normal (ee4 x1 x3 x5 x16) S) := nr (seqN (condE (t := 16) (by kernel_rfl) (enterS (by kernel_rfl)) (execL_skip (by kernel_rfl)) rfl))
@[go_sem] theorem g51 : execL (C b) 0 c41 K (ee0 x1 x3 x5) S =
  withN (callO (callL Try.prog hints) S 34 []) S fun x15 S =>
    withV (evUn .not x15) fun x16 =>
    K .normal (ee4 x1 x3 x5 x16) S := nr (by kernel_rfl)
@[go_sem] theorem k40_n : k40 b .normal (ee0 x1 x3 x5) S =
  execL (C b) 0 c41 (k43 b) (ee0 x1 x3 x5) S := nr (seqN ((enterS (by kernel_rfl)).trans (enterS (by kernel_rfl))))
@[go_sem] theorem g52 : execL (C b) 0 c1 K [(0, x0), (1, x1), (2, x2)] S =
  withN (boxed S (List.length S) (TI.size (tyi Try.prog 54)) x0) S fun x3 S =>
    withN (boxed S (List.length S) (TI.size (tyi Try.prog 54)) x2) S fun x5 S =>
    withV (some (.bool false)) fun x6 =>
    K .normal (ee0 x1 x3 x5) S := nr (by kernel_rfl)
def E (b : Nat) (x0 x1 x2 : PV) (S : Store) : RT := execL (C b) 0 code (k0 b) [(0, x0), (1, x1), (2, x2)] S
@[go_sem] theorem E_eq : E b x0 x1 x2 S =
  execL (C b) 0 c1 (k40 b) [(0, x0), (1, x1), (2, x2)] S := nr (enterS (by kernel_rfl))
@[go_sem] theorem k0_ret6 : k0 b .ret (ee6 x6) S = some (x6, S) := nr (by kernel_rfl)
theorem call {x0 x1 x2 : PV} {r : PV × Store} {v : PV} (h : E 0 x0 x1 x2 [] = some r) (hv : fzPV r.2 r.1 = some v) : callL Try.prog hints 11 [x0, x1, x2] = some v := callL_of (fn := Try.f11) (c := code) (by kernel_rfl) (by kernel_rfl) (by decide) (by kernel_rfl) (Nat.le_of_ble_eq_true (by kernel_rfl)) h hv
end
end F11
end
end Go.Vs
