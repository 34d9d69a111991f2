/- Printed by a program of mine (stage1.py): the functions 68, 69, 70, 71, 42, 46, 47, piece by piece. -/

import Derived.Test.YtnddhkcciphhkaaME9
set_option linter.unusedVariables false
set_option linter.unusedSimpArgs false
namespace Go.Vs
open Go Go.Proofs
noncomputable section

/-! ### tree.less -/
namespace F68
noncomputable def hint : Hint := { keep := [], loops := [], regs := [(0, [0]), (1, [3]), (2, [2]), (3, [2])] }
noncomputable def C (b : Nat) : Ctx := ctxL Try.prog hints b hint
noncomputable def code : Code := Try.f68.body.get rfl
noncomputable def k0 (b : Nat) : KT := endC Try.prog Try.f68
def ee0 (x0 : PV) : Env := [(0, x0)]
def ee1 (x2 : PV) : Env := [(2, x2)]
def ee2 (x3 : PV) : Env := [(3, x3)]
def c1 : Code := at0 code
def c2 : Code := at1 code
def c3 : Code := at0 c2
def c4 : Code := at1 c2
def c5 : Code := at0 c4
def c6 : Code := at1 c4
def k7 (b : Nat) : KT := seqC (fun e S => execL (C b) 0 c6 (k0 b) e S) (k0 b)
@[go_sem] theorem k7_n (b : Nat) (x2 : PV) (S : Store) : k7 b .normal (ee1 x2) S =
  (k0 b) .ret (ee1 x2) S := nr (seqN (execL_ret (by kernel_rfl)))
def k8 (b : Nat) : KT := seqC (fun e S => execL (C b) 0 c4 (k0 b) e S) (k0 b)
@[go_sem] theorem g9 (b : Nat) (K : KT) (x3 : PV) (S : Store) : execL (C b) 0 c5 K (ee2 x3) S =
  withV (some (.int .i64 1)) fun x2 =>
    K .normal (ee1 x2) S := nr (by kernel_rfl)
@[go_sem] theorem k8_n (b : Nat) (e : Env) (S : Store) : k8 b .normal e S = execL (C b) 0 c5 (k7 b) e S := nr (seqN (enterS (by kernel_rfl)))
@[go_sem] theorem k8_ret (b : Nat) (e : Env) (S : Store) : k8 b .ret e S = (k0 b) .ret e S := nr (seqC_r _ _ _ _)
def k10 (b : Nat) : KT := seqC (fun e S => execL (C b) 0 c2 (k0 b) e S) (k0 b)
def c11 : Code := at0 c3
def c12 : Code := at1 c3
def k13 (b : Nat) : KT := seqC (fun e S => execL (C b) 0 c12 (k8 b) e S) (k8 b)
def c14 : Code := atT c12
def c17 : Code := at0 c14
def c18 : Code := at1 c14
def k19 (b : Nat) : KT := seqC (fun e S => execL (C b) 0 c18 (k8 b) e S) (k8 b)
@[go_sem] theorem k19_n (b : Nat) (x2 : PV) (S : Store) : k19 b .normal (ee1 x2) S =
  (k8 b) .ret (ee1 x2) S := nr (seqN (execL_ret (by kernel_rfl)))
@[go_sem] theorem g20 (b : Nat) (K : KT) (x3 : PV) (S : Store) : execL (C b) 0 c17 K (ee2 x3) S =
  withV (some (.int .i64 (-1))) fun x2 =>
    K .normal (ee1 x2) S := nr (by kernel_rfl)
@[go_sem] theorem k13_n (b : Nat) (x3 : PV) (S : Store) : k13 b .normal (ee2 x3) S =
  condC x3 (execL (C b) 0 c17 (k19 b) (ee2 x3) S)
    ((k8 b) .normal (ee2 x3) S) := nr (seqN (condE (t := 3) (by kernel_rfl) (enterS (by kernel_rfl)) (execL_skip (by kernel_rfl)) rfl))
@[go_sem] theorem g21 (b : Nat) (K : KT) (x0 : PV) (S : Store) : execL (C b) 0 c11 K (ee0 x0) S =
  withV (some x0) fun x3 =>
    K .normal (ee2 x3) S := nr (by kernel_rfl)
@[go_sem] theorem k10_n (b : Nat) (x0 : PV) (S : Store) : k10 b .normal (ee0 x0) S =
  execL (C b) 0 c11 (k13 b) (ee0 x0) S := nr (seqN ((enterS (by kernel_rfl)).trans (enterS (by kernel_rfl))))
@[go_sem] theorem g22 (b : Nat) (K : KT) (x0 : PV) (S : Store) : execL (C b) 0 c1 K (ee0 x0) S =
  withV (some (.int .i64 0)) fun x2 =>
    K .normal (ee0 x0) S := nr (by kernel_rfl)
def E (b : Nat) (x0 : PV) (S : Store) : RT := execL (C b) 0 code (k0 b) (ee0 x0) S
@[go_sem] theorem E_eq (b : Nat) (x0 : PV) (S : Store) : E b x0 S =
  execL (C b) 0 c1 (k10 b) (ee0 x0) S := nr (enterS (by kernel_rfl))
@[go_sem] theorem k0_ret1 (b : Nat) (x2 : PV) (S : Store) : k0 b .ret (ee1 x2) S = some (x2, S) := nr (by kernel_rfl)
theorem call {x0 : PV} {r : PV × Store} {v : PV} (h : E 0 x0 [] = some r) (hv : fzPV r.2 r.1 = some v) : callL Try.prog hints 68 [x0] = some v := callL_of (fn := Try.f68) (c := code) (by kernel_rfl) (by kernel_rfl) (by decide) (by kernel_rfl) (Nat.le_of_ble_eq_true (by kernel_rfl)) h hv
end F68
/-! ### tree.words -/
namespace F69
noncomputable def hint : Hint := { keep := [], loops := [(0, { live := [0, 1, 5], after := [], own := [], fz := [] })], regs := [(0, [0, 1]), (1, [0, 1, 10]), (2, [4]), (3, [0, 1, 5]), (4, [0, 1, 5, 21]), (5, [0, 1, 5]), (6, [0, 1, 5, 32]), (7, [4]), (8, [4])] }
noncomputable def C (b : Nat) : Ctx := ctxL Try.prog hints b hint
noncomputable def code : Code := Try.f69.body.get rfl
noncomputable def k0 (b : Nat) : KT := endC Try.prog Try.f69
def ee0 (x0 x1 : PV) : Env := [(0, x0), (1, x1)]
def ee1 (x0 x1 x5 : PV) : Env := [(0, x0), (1, x1), (5, x5)]
def ee2 (x0 x1 x5 x21 : PV) : Env := [(0, x0), (1, x1), (5, x5), (21, x21)]
def ee3 (x0 x1 x5 x32 : PV) : Env := [(0, x0), (1, x1), (5, x5), (32, x32)]
def ee4 (x0 x1 x10 : PV) : Env := [(0, x0), (1, x1), (10, x10)]
def ee5 (x4 : PV) : Env := [(4, x4)]
def c1 : Code := at0 code
def c2 : Code := at1 code
def c3 : Code := at0 c2
def c4 : Code := at1 c2
def c5 : Code := at0 c4
def c6 : Code := at1 c4
def c7 : Code := at0 c6
def c8 : Code := at1 c6
def k9 (b : Nat) : KT := seqC (fun e S => execL (C b) 0 c8 (k0 b) e S) (k0 b)
@[go_sem] theorem k9_n (b : Nat) (x4 : PV) (S : Store) : k9 b .normal (ee5 x4) S =
  (k0 b) .ret (ee5 x4) S := nr (seqN (execL_ret (by kernel_rfl)))
def k10 (b : Nat) : KT := seqC (fun e S => execL (C b) 0 c6 (k0 b) e S) (k0 b)
@[go_sem] theorem g11 (b : Nat) (K : KT) (x0 x1 x5 x21 : PV) (S : Store) : execL (C b) 0 c7 K (ee2 x0 x1 x5 x21) S =
  withV (some (.int .i64 0)) fun x4 =>
    K .normal (ee5 x4) S := nr (by kernel_rfl)
@[go_sem] theorem k10_n (b : Nat) (e : Env) (S : Store) : k10 b .normal e S = execL (C b) 0 c7 (k9 b) e S := nr (seqN (enterS (by kernel_rfl)))
@[go_sem] theorem k10_ret (b : Nat) (e : Env) (S : Store) : k10 b .ret e S = (k0 b) .ret e S := nr (seqC_r _ _ _ _)
def k12 (b : Nat) : KT := seqC (fun e S => execL (C b) 0 c4 (k0 b) e S) (k0 b)
def c13 : Code := at0 c5
def c14 : Code := at1 c5
def k15 (b : Nat) : KT := seqC (fun e S => execL (C b) 0 c14 (k10 b) e S) (k10 b)
def c16 : Code := atB c14
def k17 (b : Nat) : KT := blockC 0 (k10 b)
@[go_sem] theorem k17_ret (b : Nat) (e : Env) (S : Store) : k17 b .ret e S = (k10 b) .ret e S := nr (blockC_r _ _ _ _)
@[go_sem] theorem k17_exit (b : Nat) (i : Nat) (e : Env) (S : Store) : k17 b (.exit i) e S = if i = 0 then (k10 b) .normal e S else (k10 b) (.exit i) e S := nr (blockC_x _ _ _ _ _)
def c18 : Code := atL c16
def k19 (b n0 : Nat) : KT := afterC 0 n0 [] (k17 b)
def L0g (b n0 : Nat) (e : Env) (S : Store) : RT := loopL (fun K e S => execL (C b) 0 c18 K e S) (normG [0, 1, 5] [] n0) (k19 b n0) e S
def L0 (b n0 : Nat) (x0 x1 x5 : PV) (S : Store) : RT := L0g b n0 (ee1 x0 x1 x5) S
def k20 (b n0 : Nat) : KT := stepC (normG [0, 1, 5] [] n0) (k19 b n0) (L0g b n0)
@[go_sem] theorem k20_n (b n0 : Nat) (x0 x1 x5 : PV) (S : Store) : k20 b n0 .normal (ee1 x0 x1 x5) S = L0 b n0 x0 x1 x5 (gc n0 (ee1 x0 x1 x5) S) := nr (by kernel_rfl)
@[go_sem] theorem k20_ret (b n0 : Nat) (e : Env) (S : Store) : k20 b n0 .ret e S = (k17 b) .ret e S := nr ((show k20 b n0 .ret e S = (k19 b n0) .ret e S from stepC_r _ _ _ _ _).trans (afterC_r _ _ _ _ _ _))
@[go_sem] theorem k20_x1 (b n0 : Nat) (x0 x1 x5 x21 : PV) (S : Store) : k20 b n0 (.exit 0) (ee2 x0 x1 x5 x21) S = (k17 b) (.exit 0) (ee2 .undef .undef .undef .undef) (gc n0 (ee2 .undef .undef .undef .undef) S) := nr ((show k20 b n0 (.exit 0) (ee2 x0 x1 x5 x21) S = (k19 b n0) (.exit 0) (ee2 x0 x1 x5 x21) S from stepC_x _ _ _ _ _ _).trans ((show (k19 b n0) (.exit 0) (ee2 x0 x1 x5 x21) S = _ from afterC_x _ _ _ _ _ _ _).trans (if_pos rfl)))
def c21 : Code := at0 c18
def c22 : Code := at1 c18
def c23 : Code := at0 c22
def c24 : Code := at1 c22
def k25 (b n0 : Nat) : KT := seqC (fun e S => execL (C b) 0 c24 (k20 b n0) e S) (k20 b n0)
@[go_sem] theorem g26 (b : Nat) (K : KT) (x0 x1 x5 x32 : PV) (S : Store) : execL (C b) 0 c24 K (ee3 x0 x1 x5 x32) S =
  withV (some x5) fun x22 =>
    withV (evBin .sub (tyi Try.prog 3) x22 (.int .i64 1)) fun x23 =>
    withV (some x23) fun x5 =>
    K .normal (ee1 x0 x1 x5) S := nr (by kernel_rfl)
@[go_sem] theorem k25_n (b n0 : Nat) (e : Env) (S : Store) : k25 b n0 .normal e S = execL (C b) 0 c24 (k20 b n0) e S := nr (seqN rfl)
@[go_sem] theorem k25_ret (b n0 : Nat) (e : Env) (S : Store) : k25 b n0 .ret e S = (k20 b n0) .ret e S := nr (seqC_r _ _ _ _)
def k27 (b n0 : Nat) : KT := seqC (fun e S => execL (C b) 0 c22 (k20 b n0) e S) (k20 b n0)
def c28 : Code := atB c23
def k29 (b n0 : Nat) : KT := blockC 1 (k25 b n0)
@[go_sem] theorem k29_n (b n0 : Nat) (e : Env) (S : Store) : k29 b n0 .normal e S = (k25 b n0) .normal e S := nr (blockC_n _ _ _ _)
@[go_sem] theorem k29_ret (b n0 : Nat) (e : Env) (S : Store) : k29 b n0 .ret e S = (k25 b n0) .ret e S := nr (blockC_r _ _ _ _)
def c30 : Code := at0 c28
def c31 : Code := at1 c28
def k32 (b n0 : Nat) : KT := seqC (fun e S => execL (C b) 1 c31 (k29 b n0) e S) (k29 b n0)
def c33 : Code := atT c31
def c36 : Code := at0 c33
def c37 : Code := at1 c33
def k38 (b n0 : Nat) : KT := seqC (fun e S => execL (C b) 1 c37 (k29 b n0) e S) (k29 b n0)
@[go_sem] theorem k38_n (b n0 : Nat) (x4 : PV) (S : Store) : k38 b n0 .normal (ee5 x4) S =
  (k29 b n0) .ret (ee5 x4) S := nr (seqN (execL_ret (by kernel_rfl)))
@[go_sem] theorem g39 (b : Nat) (K : KT) (x0 x1 x5 x32 : PV) (S : Store) : execL (C b) 1 c36 K (ee3 x0 x1 x5 x32) S =
  withV (some x0) fun x33 =>
    withV (some x5) fun x34 =>
    withV (indexAddrO Try.prog 49 S x33 x34) fun x35 =>
    withV (evLoad (tyi Try.prog 76) S x35) fun x36 =>
    withV (some x1) fun x37 =>
    withV (some x5) fun x38 =>
    withV (indexAddrO Try.prog 49 S x37 x38) fun x39 =>
    withV (evLoad (tyi Try.prog 76) S x39) fun x40 =>
    withV (evBin .lss (tyi Try.prog 76) x36 x40) fun x41 =>
    withN (callO (callL Try.prog hints) S 68 [x41]) S fun x42 S =>
    withV (some x42) fun x4 =>
    K .normal (ee5 x4) S := nr (by kernel_rfl)
@[go_sem] theorem k32_n (b n0 : Nat) (x0 x1 x5 x32 : PV) (S : Store) : k32 b n0 .normal (ee3 x0 x1 x5 x32) S =
  condC x32 (execL (C b) 1 c36 (k38 b n0) (ee3 x0 x1 x5 x32) S)
    ((k29 b n0) .normal (ee3 x0 x1 x5 x32) S) := nr (seqN (condE (t := 32) (by kernel_rfl) (enterS (by kernel_rfl)) (execL_skip (by kernel_rfl)) rfl))
@[go_sem] theorem g40 (b : Nat) (K : KT) (x0 x1 x5 x21 : PV) (S : Store) : execL (C b) 1 c30 K (ee2 x0 x1 x5 x21) S =
  withV (some x0) fun x24 =>
    withV (some x5) fun x25 =>
    withV (indexAddrO Try.prog 49 S x24 x25) fun x26 =>
    withV (evLoad (tyi Try.prog 76) S x26) fun x27 =>
    withV (some x1) fun x28 =>
    withV (some x5) fun x29 =>
    withV (indexAddrO Try.prog 49 S x28 x29) fun x30 =>
    withV (evLoad (tyi Try.prog 76) S x30) fun x31 =>
    withV (evBin .neq (tyi Try.prog 76) x27 x31) fun x32 =>
    K .normal (ee3 x0 x1 x5 x32) S := nr (by kernel_rfl)
@[go_sem] theorem k27_n (b n0 : Nat) (x0 x1 x5 x21 : PV) (S : Store) : k27 b n0 .normal (ee2 x0 x1 x5 x21) S =
  execL (C b) 1 c30 (k32 b n0) (ee2 x0 x1 x5 x21) S := nr (seqN ((enterS (by kernel_rfl)).trans ((blockE (by kernel_rfl)).trans (enterS (by kernel_rfl)))))
@[go_sem] theorem k27_exit (b n0 : Nat) (i : Nat) (e : Env) (S : Store) : k27 b n0 (.exit i) e S = (k20 b n0) (.exit i) e S := nr (seqC_x _ _ _ _ _)
def c41 : Code := at0 c21
def c42 : Code := at1 c21
def k43 (b n0 : Nat) : KT := seqC (fun e S => execL (C b) 0 c42 (k27 b n0) e S) (k27 b n0)
@[go_sem] theorem k43_n (b n0 : Nat) (x0 x1 x5 x21 : PV) (S : Store) : k43 b n0 .normal (ee2 x0 x1 x5 x21) S =
  condC x21 ((k27 b n0) .normal (ee2 x0 x1 x5 x21) S)
    ((k27 b n0) (.exit 0) (ee2 x0 x1 x5 x21) S) := nr (seqN (condE (t := 21) (by kernel_rfl) (execL_skip (by kernel_rfl)) (execL_exit (by kernel_rfl)) rfl))
@[go_sem] theorem g46 (b : Nat) (K : KT) (x0 x1 x5 : PV) (S : Store) : execL (C b) 0 c41 K (ee1 x0 x1 x5) S =
  withV (some x5) fun x20 =>
    withV (evBin .geq (tyi Try.prog 3) x20 (.int .i64 0)) fun x21 =>
    K .normal (ee2 x0 x1 x5 x21) S := nr (by kernel_rfl)
def B0 (b n0 : Nat) (x0 x1 x5 : PV) (S : Store) : RT := execL (C b) 0 c18 (k20 b n0) (ee1 x0 x1 x5) S
@[go_sem] theorem B0_eq (b n0 : Nat) (x0 x1 x5 : PV) (S : Store) : B0 b n0 x0 x1 x5 S =
  execL (C b) 0 c41 (k43 b n0) (ee1 x0 x1 x5) S := nr ((enterS (by kernel_rfl)).trans (enterS (by kernel_rfl)))
theorem L0_step {b n0 : Nat} {x0 x1 x5 : PV} {S : Store} {z : PV × Store} (h : B0 b n0 x0 x1 x5 S = some z) : L0 b n0 x0 x1 x5 S = some z := loopL_step h
theorem L0_in (b : Nat) (x0 x1 x5 : PV) (S : Store) : execL (C b) 0 c16 (k17 b) (ee1 x0 x1 x5) S = L0 b (List.length S) x0 x1 x5 S := by kernel_rfl
@[go_sem] theorem k15_n (b : Nat) (x0 x1 x5 : PV) (S : Store) : k15 b .normal (ee1 x0 x1 x5) S =
  L0 b (List.length S) x0 x1 x5 S := nr (seqN ((blockE (by kernel_rfl)).trans (L0_in b x0 x1 x5 S)))
@[go_sem] theorem g48 (b : Nat) (K : KT) (x0 x1 x10 : PV) (S : Store) : execL (C b) 0 c13 K (ee4 x0 x1 x10) S =
  withV (some x0) fun x17 =>
    withV (lenO (tyi Try.prog 49) x17) fun x18 =>
    withV (evBin .sub (tyi Try.prog 3) x18 (.int .i64 1)) fun x19 =>
    withV (some x19) fun x5 =>
    K .normal (ee1 x0 x1 x5) S := nr (by kernel_rfl)
@[go_sem] theorem k12_n (b : Nat) (x0 x1 x10 : PV) (S : Store) : k12 b .normal (ee4 x0 x1 x10) S =
  execL (C b) 0 c13 (k15 b) (ee4 x0 x1 x10) S := nr (seqN ((enterS (by kernel_rfl)).trans (enterS (by kernel_rfl))))
@[go_sem] theorem k12_ret (b : Nat) (e : Env) (S : Store) : k12 b .ret e S = (k0 b) .ret e S := nr (seqC_r _ _ _ _)
def k49 (b : Nat) : KT := seqC (fun e S => execL (C b) 0 c2 (k0 b) e S) (k0 b)
def c50 : Code := at0 c3
def c51 : Code := at1 c3
def k52 (b : Nat) : KT := seqC (fun e S => execL (C b) 0 c51 (k12 b) e S) (k12 b)
def c53 : Code := atT c51
def c56 : Code := at0 c53
def c57 : Code := at1 c53
def k58 (b : Nat) : KT := seqC (fun e S => execL (C b) 0 c57 (k12 b) e S) (k12 b)
@[go_sem] theorem k58_n (b : Nat) (x4 : PV) (S : Store) : k58 b .normal (ee5 x4) S =
  (k12 b) .ret (ee5 x4) S := nr (seqN (execL_ret (by kernel_rfl)))
@[go_sem] theorem g59 (b : Nat) (K : KT) (x0 x1 x10 : PV) (S : Store) : execL (C b) 0 c56 K (ee4 x0 x1 x10) S =
  withV (some x0) fun x11 =>
    withV (lenO (tyi Try.prog 49) x11) fun x12 =>
    withV (some x1) fun x13 =>
    withV (lenO (tyi Try.prog 49) x13) fun x14 =>
    withV (evBin .lss (tyi Try.prog 3) x12 x14) fun x15 =>
    withN (callO (callL Try.prog hints) S 68 [x15]) S fun x16 S =>
    withV (some x16) fun x4 =>
    K .normal (ee5 x4) S := nr (by kernel_rfl)
@[go_sem] theorem k52_n (b : Nat) (x0 x1 x10 : PV) (S : Store) : k52 b .normal (ee4 x0 x1 x10) S =
  condC x10 (execL (C b) 0 c56 (k58 b) (ee4 x0 x1 x10) S)
    ((k12 b) .normal (ee4 x0 x1 x10) S) := nr (seqN (condE (t := 10) (by kernel_rfl) (enterS (by kernel_rfl)) (execL_skip (by kernel_rfl)) rfl))
@[go_sem] theorem g60 (b : Nat) (K : KT) (x0 x1 : PV) (S : Store) : execL (C b) 0 c50 K (ee0 x0 x1) S =
  withV (some x0) fun x6 =>
    withV (lenO (tyi Try.prog 49) x6) fun x7 =>
    withV (some x1) fun x8 =>
    withV (lenO (tyi Try.prog 49) x8) fun x9 =>
    withV (evBin .neq (tyi Try.prog 3) x7 x9) fun x10 =>
    K .normal (ee4 x0 x1 x10) S := nr (by kernel_rfl)
@[go_sem] theorem k49_n (b : Nat) (x0 x1 : PV) (S : Store) : k49 b .normal (ee0 x0 x1) S =
  execL (C b) 0 c50 (k52 b) (ee0 x0 x1) S := nr (seqN ((enterS (by kernel_rfl)).trans (enterS (by kernel_rfl))))
@[go_sem] theorem g61 (b : Nat) (K : KT) (x0 x1 : PV) (S : Store) : execL (C b) 0 c1 K (ee0 x0 x1) S =
  withV (some (.int .i64 0)) fun x4 =>
    K .normal (ee0 x0 x1) S := nr (by kernel_rfl)
def E (b : Nat) (x0 x1 : PV) (S : Store) : RT := execL (C b) 0 code (k0 b) (ee0 x0 x1) S
@[go_sem] theorem E_eq (b : Nat) (x0 x1 : PV) (S : Store) : E b x0 x1 S =
  execL (C b) 0 c1 (k49 b) (ee0 x0 x1) S := nr (enterS (by kernel_rfl))
@[go_sem] theorem k0_ret5 (b : Nat) (x4 : PV) (S : Store) : k0 b .ret (ee5 x4) S = some (x4, S) := nr (by kernel_rfl)
theorem call {x0 x1 : PV} {r : PV × Store} {v : PV} (h : E 0 x0 x1 [] = some r) (hv : fzPV r.2 r.1 = some v) : callL Try.prog hints 69 [x0, x1] = some v := callL_of (fn := Try.f69) (c := code) (by kernel_rfl) (by kernel_rfl) (by decide) (by kernel_rfl) (Nat.le_of_ble_eq_true (by kernel_rfl)) h hv
end F69
/-! ### isochroneref08.less -/
namespace F70
end F70
/-! ### isochroneref08.words -/
namespace F71
end F71
/-! ### tree.Compare -/
namespace F42
noncomputable def hint : Hint := { keep := [], loops := [(1, { live := [2, 3, 82, 83], after := [], own := [], fz := [] })], regs := [(0, [2, 3]), (1, [2, 3, 9]), (2, [4]), (3, [2, 3, 21]), (4, [4]), (5, [2, 3, 33]), (6, [4]), (7, [2, 3, 5]), (8, [2, 3, 5, 53]), (9, [4]), (10, [2, 3, 6]), (11, [2, 3, 6, 63]), (12, [4]), (13, [2, 3, 71]), (14, [4]), (15, [2, 3, 82, 83]), (16, [2, 3, 82, 83, 84]), (17, [2, 3, 7, 82, 83]), (18, [2, 3, 8, 82, 83]), (19, [2, 3, 8, 82, 83, 98]), (20, [4]), (21, [2, 3, 82, 83]), (22, [4])] }
noncomputable def C (b : Nat) : Ctx := ctxL Try.prog hints b hint
noncomputable def code : Code := Try.f42.body.get rfl
noncomputable def k0 (b : Nat) : KT := endC Try.prog Try.f42
def ee0 (x2 x3 : PV) : Env := [(2, x2), (3, x3)]
def ee1 (x2 x3 x5 : PV) : Env := [(2, x2), (3, x3), (5, x5)]
def ee2 (x2 x3 x5 x53 : PV) : Env := [(2, x2), (3, x3), (5, x5), (53, x53)]
def ee3 (x2 x3 x6 : PV) : Env := [(2, x2), (3, x3), (6, x6)]
def ee4 (x2 x3 x6 x63 : PV) : Env := [(2, x2), (3, x3), (6, x6), (63, x63)]
def ee5 (x2 x3 x7 x82 x83 : PV) : Env := [(2, x2), (3, x3), (7, x7), (82, x82), (83, x83)]
def ee6 (x2 x3 x8 x82 x83 : PV) : Env := [(2, x2), (3, x3), (8, x8), (82, x82), (83, x83)]
def ee7 (x2 x3 x8 x82 x83 x98 : PV) : Env := [(2, x2), (3, x3), (8, x8), (82, x82), (83, x83), (98, x98)]
def ee8 (x2 x3 x9 : PV) : Env := [(2, x2), (3, x3), (9, x9)]
def ee9 (x2 x3 x21 : PV) : Env := [(2, x2), (3, x3), (21, x21)]
def ee10 (x2 x3 x33 : PV) : Env := [(2, x2), (3, x3), (33, x33)]
def ee11 (x2 x3 x71 : PV) : Env := [(2, x2), (3, x3), (71, x71)]
def ee12 (x2 x3 x82 x83 : PV) : Env := [(2, x2), (3, x3), (82, x82), (83, x83)]
def ee13 (x2 x3 x82 x83 x84 : PV) : Env := [(2, x2), (3, x3), (82, x82), (83, x83), (84, x84)]
def ee14 (x4 : PV) : Env := [(4, x4)]
def c1 : Code := at0 code
def c2 : Code := at1 code
def c3 : Code := at0 c2
def c4 : Code := at1 c2
def c5 : Code := at0 c4
def c6 : Code := at1 c4
def c7 : Code := at0 c6
def c8 : Code := at1 c6
def c9 : Code := at0 c8
def c10 : Code := at1 c8
def c11 : Code := at0 c10
def c12 : Code := at1 c10
def c13 : Code := at0 c12
def c14 : Code := at1 c12
def k15 (b : Nat) : KT := seqC (fun e S => execL (C b) 0 c14 (k0 b) e S) (k0 b)
@[go_sem] theorem k15_n (b : Nat) (x4 : PV) (S : Store) : k15 b .normal (ee14 x4) S =
  (k0 b) .ret (ee14 x4) S := nr (seqN (execL_ret (by kernel_rfl)))
def k16 (b : Nat) : KT := seqC (fun e S => execL (C b) 0 c12 (k0 b) e S) (k0 b)
@[go_sem] theorem g17 (b : Nat) (K : KT) (x2 x3 x82 x83 x84 : PV) (S : Store) : execL (C b) 0 c13 K (ee13 x2 x3 x82 x83 x84) S =
  withV (some (.int .i64 0)) fun x4 =>
    K .normal (ee14 x4) S := nr (by kernel_rfl)
@[go_sem] theorem k16_n (b : Nat) (e : Env) (S : Store) : k16 b .normal e S = execL (C b) 0 c13 (k15 b) e S := nr (seqN (enterS (by kernel_rfl)))
@[go_sem] theorem k16_ret (b : Nat) (e : Env) (S : Store) : k16 b .ret e S = (k0 b) .ret e S := nr (seqC_r _ _ _ _)
def k18 (b : Nat) : KT := seqC (fun e S => execL (C b) 0 c10 (k0 b) e S) (k0 b)
def c19 : Code := at0 c11
def c20 : Code := at1 c11
def k21 (b : Nat) : KT := seqC (fun e S => execL (C b) 0 c20 (k16 b) e S) (k16 b)
def c22 : Code := atB c20
def k23 (b : Nat) : KT := blockC 1 (k16 b)
@[go_sem] theorem k23_ret (b : Nat) (e : Env) (S : Store) : k23 b .ret e S = (k16 b) .ret e S := nr (blockC_r _ _ _ _)
@[go_sem] theorem k23_exit (b : Nat) (i : Nat) (e : Env) (S : Store) : k23 b (.exit i) e S = if i = 1 then (k16 b) .normal e S else (k16 b) (.exit i) e S := nr (blockC_x _ _ _ _ _)
def c24 : Code := atL c22
def k25 (b n1 : Nat) : KT := afterC 1 n1 [] (k23 b)
def L1g (b n1 : Nat) (e : Env) (S : Store) : RT := loopL (fun K e S => execL (C b) 1 c24 K e S) (normG [2, 3, 82, 83] [] n1) (k25 b n1) e S
def L1 (b n1 : Nat) (x2 x3 x82 x83 : PV) (S : Store) : RT := L1g b n1 (ee12 x2 x3 x82 x83) S
def k26 (b n1 : Nat) : KT := stepC (normG [2, 3, 82, 83] [] n1) (k25 b n1) (L1g b n1)
@[go_sem] theorem k26_n (b n1 : Nat) (x2 x3 x82 x83 : PV) (S : Store) : k26 b n1 .normal (ee12 x2 x3 x82 x83) S = L1 b n1 x2 x3 x82 x83 (gc n1 (ee12 x2 x3 x82 x83) S) := nr (by kernel_rfl)
@[go_sem] theorem k26_ret (b n1 : Nat) (e : Env) (S : Store) : k26 b n1 .ret e S = (k23 b) .ret e S := nr ((show k26 b n1 .ret e S = (k25 b n1) .ret e S from stepC_r _ _ _ _ _).trans (afterC_r _ _ _ _ _ _))
@[go_sem] theorem k26_x1 (b n1 : Nat) (x2 x3 x82 x83 x84 : PV) (S : Store) : k26 b n1 (.exit 1) (ee13 x2 x3 x82 x83 x84) S = (k23 b) (.exit 1) (ee13 .undef .undef .undef .undef .undef) (gc n1 (ee13 .undef .undef .undef .undef .undef) S) := nr ((show k26 b n1 (.exit 1) (ee13 x2 x3 x82 x83 x84) S = (k25 b n1) (.exit 1) (ee13 x2 x3 x82 x83 x84) S from stepC_x _ _ _ _ _ _).trans ((show (k25 b n1) (.exit 1) (ee13 x2 x3 x82 x83 x84) S = _ from afterC_x _ _ _ _ _ _ _).trans (if_pos rfl)))
def c27 : Code := at0 c24
def c28 : Code := at1 c24
def c30 : Code := at1 c28
def c31 : Code := at0 c30
def c32 : Code := at1 c30
def k33 (b n1 : Nat) : KT := seqC (fun e S => execL (C b) 1 c32 (k26 b n1) e S) (k26 b n1)
@[go_sem] theorem g34 (b : Nat) (K : KT) (x2 x3 x8 x82 x83 x98 : PV) (S : Store) : execL (C b) 1 c32 K (ee7 x2 x3 x8 x82 x83 x98) S =
  withV (evBin .add (tyi Try.prog 3) x83 (.int .i64 1)) fun x100 =>
    withV (some x100) fun x83 =>
    K .normal (ee12 x2 x3 x82 x83) S := nr (by kernel_rfl)
@[go_sem] theorem k33_n (b n1 : Nat) (e : Env) (S : Store) : k33 b n1 .normal e S = execL (C b) 1 c32 (k26 b n1) e S := nr (seqN rfl)
@[go_sem] theorem k33_ret (b n1 : Nat) (e : Env) (S : Store) : k33 b n1 .ret e S = (k26 b n1) .ret e S := nr (seqC_r _ _ _ _)
def k35 (b n1 : Nat) : KT := seqC (fun e S => execL (C b) 1 c30 (k26 b n1) e S) (k26 b n1)
def c36 : Code := atB c31
def k37 (b n1 : Nat) : KT := blockC 2 (k33 b n1)
@[go_sem] theorem k37_n (b n1 : Nat) (e : Env) (S : Store) : k37 b n1 .normal e S = (k33 b n1) .normal e S := nr (blockC_n _ _ _ _)
@[go_sem] theorem k37_ret (b n1 : Nat) (e : Env) (S : Store) : k37 b n1 .ret e S = (k33 b n1) .ret e S := nr (blockC_r _ _ _ _)
def c38 : Code := at0 c36
def c39 : Code := at1 c36
def c40 : Code := at0 c39
def c41 : Code := at1 c39
def c42 : Code := at0 c41
def c43 : Code := at1 c41
def k44 (b n1 : Nat) : KT := seqC (fun e S => execL (C b) 2 c43 (k37 b n1) e S) (k37 b n1)
def c45 : Code := atT c43
def c48 : Code := at0 c45
def c49 : Code := at1 c45
def k50 (b n1 : Nat) : KT := seqC (fun e S => execL (C b) 2 c49 (k37 b n1) e S) (k37 b n1)
@[go_sem] theorem k50_n (b n1 : Nat) (x4 : PV) (S : Store) : k50 b n1 .normal (ee14 x4) S =
  (k37 b n1) .ret (ee14 x4) S := nr (seqN (execL_ret (by kernel_rfl)))
@[go_sem] theorem g51 (b : Nat) (K : KT) (x2 x3 x8 x82 x83 x98 : PV) (S : Store) : execL (C b) 2 c48 K (ee7 x2 x3 x8 x82 x83 x98) S =
  withV (some x8) fun x99 =>
    withV (some x99) fun x4 =>
    K .normal (ee14 x4) S := nr (by kernel_rfl)
@[go_sem] theorem k44_n (b n1 : Nat) (x2 x3 x8 x82 x83 x98 : PV) (S : Store) : k44 b n1 .normal (ee7 x2 x3 x8 x82 x83 x98) S =
  condC x98 (execL (C b) 2 c48 (k50 b n1) (ee7 x2 x3 x8 x82 x83 x98) S)
    ((k37 b n1) .normal (ee7 x2 x3 x8 x82 x83 x98) S) := nr (seqN (condE (t := 98) (by kernel_rfl) (enterS (by kernel_rfl)) (execL_skip (by kernel_rfl)) rfl))
def k52 (b n1 : Nat) : KT := seqC (fun e S => execL (C b) 2 c41 (k37 b n1) e S) (k37 b n1)
@[go_sem] theorem g53 (b : Nat) (K : KT) (x2 x3 x8 x82 x83 : PV) (S : Store) : execL (C b) 2 c42 K (ee6 x2 x3 x8 x82 x83) S =
  withV (some x8) fun x97 =>
    withV (evBin .neq (tyi Try.prog 3) x97 (.int .i64 0)) fun x98 =>
    K .normal (ee7 x2 x3 x8 x82 x83 x98) S := nr (by kernel_rfl)
@[go_sem] theorem k52_n (b n1 : Nat) (e : Env) (S : Store) : k52 b n1 .normal e S = execL (C b) 2 c42 (k44 b n1) e S := nr (seqN (enterS (by kernel_rfl)))
def k54 (b n1 : Nat) : KT := seqC (fun e S => execL (C b) 2 c39 (k37 b n1) e S) (k37 b n1)
@[go_sem] theorem g55 (b : Nat) (K : KT) (x2 x3 x7 x82 x83 : PV) (S : Store) : execL (C b) 2 c40 K (ee5 x2 x3 x7 x82 x83) S =
  withV (evFieldAddr (tyi Try.prog 54) 3 x2) fun x86 =>
    withV (evLoad (tyi Try.prog 52) S x86) fun x87 =>
    withV (some x7) fun x88 =>
    withV (indexAddrO Try.prog 52 S x87 x88) fun x89 =>
    withV (evLoad (tyi Try.prog 54) S x89) fun x90 =>
    withV (evFieldAddr (tyi Try.prog 54) 3 x3) fun x91 =>
    withV (evLoad (tyi Try.prog 52) S x91) fun x92 =>
    withV (some x7) fun x93 =>
    withV (indexAddrO Try.prog 52 S x92 x93) fun x94 =>
    withV (evLoad (tyi Try.prog 54) S x94) fun x95 =>
    withN (callO (callL Try.prog hints) S 42 [x90, x95]) S fun x96 S =>
    withV (some x96) fun x8 =>
    K .normal (ee6 x2 x3 x8 x82 x83) S := nr (by kernel_rfl)
@[go_sem] theorem k54_n (b n1 : Nat) (e : Env) (S : Store) : k54 b n1 .normal e S = execL (C b) 2 c40 (k52 b n1) e S := nr (seqN (enterS (by kernel_rfl)))
@[go_sem] theorem g56 (b : Nat) (K : KT) (x2 x3 x82 x83 x84 : PV) (S : Store) : execL (C b) 2 c38 K (ee13 x2 x3 x82 x83 x84) S =
  withV (some x83) fun x85 =>
    withV (some x85) fun x7 =>
    K .normal (ee5 x2 x3 x7 x82 x83) S := nr (by kernel_rfl)
@[go_sem] theorem k35_n (b n1 : Nat) (x2 x3 x82 x83 x84 : PV) (S : Store) : k35 b n1 .normal (ee13 x2 x3 x82 x83 x84) S =
  execL (C b) 2 c38 (k54 b n1) (ee13 x2 x3 x82 x83 x84) S := nr (seqN ((enterS (by kernel_rfl)).trans ((blockE (by kernel_rfl)).trans (enterS (by kernel_rfl)))))
@[go_sem] theorem k35_exit (b n1 : Nat) (i : Nat) (e : Env) (S : Store) : k35 b n1 (.exit i) e S = (k26 b n1) (.exit i) e S := nr (seqC_x _ _ _ _ _)
def k57 (b n1 : Nat) : KT := seqC (fun e S => execL (C b) 1 c28 (k26 b n1) e S) (k26 b n1)
@[go_sem] theorem k57_n (b n1 : Nat) (x2 x3 x82 x83 x84 : PV) (S : Store) : k57 b n1 .normal (ee13 x2 x3 x82 x83 x84) S =
  condC x84 ((k35 b n1) .normal (ee13 x2 x3 x82 x83 x84) S)
    ((k35 b n1) (.exit 1) (ee13 x2 x3 x82 x83 x84) S) := nr (seqN ((enterS (by kernel_rfl)).trans (condE (t := 84) (by kernel_rfl) (execL_skip (by kernel_rfl)) (execL_exit (by kernel_rfl)) rfl)))
@[go_sem] theorem g60 (b : Nat) (K : KT) (x2 x3 x82 x83 : PV) (S : Store) : execL (C b) 1 c27 K (ee12 x2 x3 x82 x83) S =
  withV (evBin .lss (tyi Try.prog 3) x83 x82) fun x84 =>
    K .normal (ee13 x2 x3 x82 x83 x84) S := nr (by kernel_rfl)
def B1 (b n1 : Nat) (x2 x3 x82 x83 : PV) (S : Store) : RT := execL (C b) 1 c24 (k26 b n1) (ee12 x2 x3 x82 x83) S
@[go_sem] theorem B1_eq (b n1 : Nat) (x2 x3 x82 x83 : PV) (S : Store) : B1 b n1 x2 x3 x82 x83 S =
  execL (C b) 1 c27 (k57 b n1) (ee12 x2 x3 x82 x83) S := nr (enterS (by kernel_rfl))
theorem L1_step {b n1 : Nat} {x2 x3 x82 x83 : PV} {S : Store} {z : PV × Store} (h : B1 b n1 x2 x3 x82 x83 S = some z) : L1 b n1 x2 x3 x82 x83 S = some z := loopL_step h
theorem L1_in (b : Nat) (x2 x3 x82 x83 : PV) (S : Store) : execL (C b) 1 c22 (k23 b) (ee12 x2 x3 x82 x83) S = L1 b (List.length S) x2 x3 x82 x83 S := by kernel_rfl
@[go_sem] theorem k21_n (b : Nat) (x2 x3 x82 x83 : PV) (S : Store) : k21 b .normal (ee12 x2 x3 x82 x83) S =
  L1 b (List.length S) x2 x3 x82 x83 S := nr (seqN ((blockE (by kernel_rfl)).trans (L1_in b x2 x3 x82 x83 S)))
@[go_sem] theorem g62 (b : Nat) (K : KT) (x2 x3 x71 : PV) (S : Store) : execL (C b) 0 c19 K (ee11 x2 x3 x71) S =
  withV (evFieldAddr (tyi Try.prog 54) 3 x2) fun x80 =>
    withV (evLoad (tyi Try.prog 52) S x80) fun x81 =>
    withV (lenO (tyi Try.prog 52) x81) fun x82 =>
    withV (some (.int .i64 0)) fun x83 =>
    K .normal (ee12 x2 x3 x82 x83) S := nr (by kernel_rfl)
@[go_sem] theorem k18_n (b : Nat) (x2 x3 x71 : PV) (S : Store) : k18 b .normal (ee11 x2 x3 x71) S =
  execL (C b) 0 c19 (k21 b) (ee11 x2 x3 x71) S := nr (seqN ((enterS (by kernel_rfl)).trans (enterS (by kernel_rfl))))
@[go_sem] theorem k18_ret (b : Nat) (e : Env) (S : Store) : k18 b .ret e S = (k0 b) .ret e S := nr (seqC_r _ _ _ _)
def k63 (b : Nat) : KT := seqC (fun e S => execL (C b) 0 c8 (k0 b) e S) (k0 b)
def c64 : Code := at0 c9
def c65 : Code := at1 c9
def k66 (b : Nat) : KT := seqC (fun e S => execL (C b) 0 c65 (k18 b) e S) (k18 b)
def c67 : Code := atT c65
def c70 : Code := at0 c67
def c71 : Code := at1 c67
def k72 (b : Nat) : KT := seqC (fun e S => execL (C b) 0 c71 (k18 b) e S) (k18 b)
@[go_sem] theorem k72_n (b : Nat) (x4 : PV) (S : Store) : k72 b .normal (ee14 x4) S =
  (k18 b) .ret (ee14 x4) S := nr (seqN (execL_ret (by kernel_rfl)))
@[go_sem] theorem g73 (b : Nat) (K : KT) (x2 x3 x71 : PV) (S : Store) : execL (C b) 0 c70 K (ee11 x2 x3 x71) S =
  withV (evFieldAddr (tyi Try.prog 54) 3 x2) fun x72 =>
    withV (evLoad (tyi Try.prog 52) S x72) fun x73 =>
    withV (lenO (tyi Try.prog 52) x73) fun x74 =>
    withV (evFieldAddr (tyi Try.prog 54) 3 x3) fun x75 =>
    withV (evLoad (tyi Try.prog 52) S x75) fun x76 =>
    withV (lenO (tyi Try.prog 52) x76) fun x77 =>
    withV (evBin .lss (tyi Try.prog 3) x74 x77) fun x78 =>
    withN (callO (callL Try.prog hints) S 68 [x78]) S fun x79 S =>
    withV (some x79) fun x4 =>
    K .normal (ee14 x4) S := nr (by kernel_rfl)
@[go_sem] theorem k66_n (b : Nat) (x2 x3 x71 : PV) (S : Store) : k66 b .normal (ee11 x2 x3 x71) S =
  condC x71 (execL (C b) 0 c70 (k72 b) (ee11 x2 x3 x71) S)
    ((k18 b) .normal (ee11 x2 x3 x71) S) := nr (seqN (condE (t := 71) (by kernel_rfl) (enterS (by kernel_rfl)) (execL_skip (by kernel_rfl)) rfl))
@[go_sem] theorem g74 (b : Nat) (K : KT) (x2 x3 x6 x63 : PV) (S : Store) : execL (C b) 0 c64 K (ee4 x2 x3 x6 x63) S =
  withV (evFieldAddr (tyi Try.prog 54) 3 x2) fun x65 =>
    withV (evLoad (tyi Try.prog 52) S x65) fun x66 =>
    withV (lenO (tyi Try.prog 52) x66) fun x67 =>
    withV (evFieldAddr (tyi Try.prog 54) 3 x3) fun x68 =>
    withV (evLoad (tyi Try.prog 52) S x68) fun x69 =>
    withV (lenO (tyi Try.prog 52) x69) fun x70 =>
    withV (evBin .neq (tyi Try.prog 3) x67 x70) fun x71 =>
    K .normal (ee11 x2 x3 x71) S := nr (by kernel_rfl)
@[go_sem] theorem k63_n (b : Nat) (x2 x3 x6 x63 : PV) (S : Store) : k63 b .normal (ee4 x2 x3 x6 x63) S =
  execL (C b) 0 c64 (k66 b) (ee4 x2 x3 x6 x63) S := nr (seqN ((enterS (by kernel_rfl)).trans (enterS (by kernel_rfl))))
@[go_sem] theorem k63_ret (b : Nat) (e : Env) (S : Store) : k63 b .ret e S = (k0 b) .ret e S := nr (seqC_r _ _ _ _)
def k75 (b : Nat) : KT := seqC (fun e S => execL (C b) 0 c6 (k0 b) e S) (k0 b)
def c76 : Code := at0 c7
def c77 : Code := at1 c7
def c78 : Code := at0 c77
def c79 : Code := at1 c77
def k80 (b : Nat) : KT := seqC (fun e S => execL (C b) 0 c79 (k63 b) e S) (k63 b)
def c81 : Code := atT c79
def c84 : Code := at0 c81
def c85 : Code := at1 c81
def k86 (b : Nat) : KT := seqC (fun e S => execL (C b) 0 c85 (k63 b) e S) (k63 b)
@[go_sem] theorem k86_n (b : Nat) (x4 : PV) (S : Store) : k86 b .normal (ee14 x4) S =
  (k63 b) .ret (ee14 x4) S := nr (seqN (execL_ret (by kernel_rfl)))
@[go_sem] theorem g87 (b : Nat) (K : KT) (x2 x3 x6 x63 : PV) (S : Store) : execL (C b) 0 c84 K (ee4 x2 x3 x6 x63) S =
  withV (some x6) fun x64 =>
    withV (some x64) fun x4 =>
    K .normal (ee14 x4) S := nr (by kernel_rfl)
@[go_sem] theorem k80_n (b : Nat) (x2 x3 x6 x63 : PV) (S : Store) : k80 b .normal (ee4 x2 x3 x6 x63) S =
  condC x63 (execL (C b) 0 c84 (k86 b) (ee4 x2 x3 x6 x63) S)
    ((k63 b) .normal (ee4 x2 x3 x6 x63) S) := nr (seqN (condE (t := 63) (by kernel_rfl) (enterS (by kernel_rfl)) (execL_skip (by kernel_rfl)) rfl))
def k88 (b : Nat) : KT := seqC (fun e S => execL (C b) 0 c77 (k63 b) e S) (k63 b)
@[go_sem] theorem g89 (b : Nat) (K : KT) (x2 x3 x6 : PV) (S : Store) : execL (C b) 0 c78 K (ee3 x2 x3 x6) S =
  withV (some x6) fun x62 =>
    withV (evBin .neq (tyi Try.prog 3) x62 (.int .i64 0)) fun x63 =>
    K .normal (ee4 x2 x3 x6 x63) S := nr (by kernel_rfl)
@[go_sem] theorem k88_n (b : Nat) (e : Env) (S : Store) : k88 b .normal e S = execL (C b) 0 c78 (k80 b) e S := nr (seqN (enterS (by kernel_rfl)))
@[go_sem] theorem g90 (b : Nat) (K : KT) (x2 x3 x5 x53 : PV) (S : Store) : execL (C b) 0 c76 K (ee2 x2 x3 x5 x53) S =
  withV (evFieldAddr (tyi Try.prog 54) 2 x2) fun x55 =>
    withV (evFieldAddr (tyi Try.prog 51) 2 x55) fun x56 =>
    withV (evLoad (tyi Try.prog 49) S x56) fun x57 =>
    withV (evFieldAddr (tyi Try.prog 54) 2 x3) fun x58 =>
    withV (evFieldAddr (tyi Try.prog 51) 2 x58) fun x59 =>
    withV (evLoad (tyi Try.prog 49) S x59) fun x60 =>
    withN (callO (callL Try.prog hints) S 69 [x57, x60]) S fun x61 S =>
    withV (some x61) fun x6 =>
    K .normal (ee3 x2 x3 x6) S := nr (by kernel_rfl)
@[go_sem] theorem k75_n (b : Nat) (x2 x3 x5 x53 : PV) (S : Store) : k75 b .normal (ee2 x2 x3 x5 x53) S =
  execL (C b) 0 c76 (k88 b) (ee2 x2 x3 x5 x53) S := nr (seqN ((enterS (by kernel_rfl)).trans (enterS (by kernel_rfl))))
@[go_sem] theorem k75_ret (b : Nat) (e : Env) (S : Store) : k75 b .ret e S = (k0 b) .ret e S := nr (seqC_r _ _ _ _)
def k91 (b : Nat) : KT := seqC (fun e S => execL (C b) 0 c4 (k0 b) e S) (k0 b)
def c92 : Code := at0 c5
def c93 : Code := at1 c5
def c94 : Code := at0 c93
def c95 : Code := at1 c93
def k96 (b : Nat) : KT := seqC (fun e S => execL (C b) 0 c95 (k75 b) e S) (k75 b)
def c97 : Code := atT c95
def c100 : Code := at0 c97
def c101 : Code := at1 c97
def k102 (b : Nat) : KT := seqC (fun e S => execL (C b) 0 c101 (k75 b) e S) (k75 b)
@[go_sem] theorem k102_n (b : Nat) (x4 : PV) (S : Store) : k102 b .normal (ee14 x4) S =
  (k75 b) .ret (ee14 x4) S := nr (seqN (execL_ret (by kernel_rfl)))
@[go_sem] theorem g103 (b : Nat) (K : KT) (x2 x3 x5 x53 : PV) (S : Store) : execL (C b) 0 c100 K (ee2 x2 x3 x5 x53) S =
  withV (some x5) fun x54 =>
    withV (some x54) fun x4 =>
    K .normal (ee14 x4) S := nr (by kernel_rfl)
@[go_sem] theorem k96_n (b : Nat) (x2 x3 x5 x53 : PV) (S : Store) : k96 b .normal (ee2 x2 x3 x5 x53) S =
  condC x53 (execL (C b) 0 c100 (k102 b) (ee2 x2 x3 x5 x53) S)
    ((k75 b) .normal (ee2 x2 x3 x5 x53) S) := nr (seqN (condE (t := 53) (by kernel_rfl) (enterS (by kernel_rfl)) (execL_skip (by kernel_rfl)) rfl))
def k104 (b : Nat) : KT := seqC (fun e S => execL (C b) 0 c93 (k75 b) e S) (k75 b)
@[go_sem] theorem g105 (b : Nat) (K : KT) (x2 x3 x5 : PV) (S : Store) : execL (C b) 0 c94 K (ee1 x2 x3 x5) S =
  withV (some x5) fun x52 =>
    withV (evBin .neq (tyi Try.prog 3) x52 (.int .i64 0)) fun x53 =>
    K .normal (ee2 x2 x3 x5 x53) S := nr (by kernel_rfl)
@[go_sem] theorem k104_n (b : Nat) (e : Env) (S : Store) : k104 b .normal e S = execL (C b) 0 c94 (k96 b) e S := nr (seqN (enterS (by kernel_rfl)))
@[go_sem] theorem g106 (b : Nat) (K : KT) (x2 x3 x33 : PV) (S : Store) : execL (C b) 0 c92 K (ee10 x2 x3 x33) S =
  withV (evFieldAddr (tyi Try.prog 54) 2 x2) fun x45 =>
    withV (evFieldAddr (tyi Try.prog 51) 1 x45) fun x46 =>
    withV (evLoad (tyi Try.prog 49) S x46) fun x47 =>
    withV (evFieldAddr (tyi Try.prog 54) 2 x3) fun x48 =>
    withV (evFieldAddr (tyi Try.prog 51) 1 x48) fun x49 =>
    withV (evLoad (tyi Try.prog 49) S x49) fun x50 =>
    withN (callO (callL Try.prog hints) S 69 [x47, x50]) S fun x51 S =>
    withV (some x51) fun x5 =>
    K .normal (ee1 x2 x3 x5) S := nr (by kernel_rfl)
@[go_sem] theorem k91_n (b : Nat) (x2 x3 x33 : PV) (S : Store) : k91 b .normal (ee10 x2 x3 x33) S =
  execL (C b) 0 c92 (k104 b) (ee10 x2 x3 x33) S := nr (seqN ((enterS (by kernel_rfl)).trans (enterS (by kernel_rfl))))
@[go_sem] theorem k91_ret (b : Nat) (e : Env) (S : Store) : k91 b .ret e S = (k0 b) .ret e S := nr (seqC_r _ _ _ _)
def k107 (b : Nat) : KT := seqC (fun e S => execL (C b) 0 c2 (k0 b) e S) (k0 b)
def c108 : Code := atB c3
def k109 (b : Nat) : KT := blockC 0 (k91 b)
@[go_sem] theorem k109_n (b : Nat) (e : Env) (S : Store) : k109 b .normal e S = (k91 b) .normal e S := nr (blockC_n _ _ _ _)
@[go_sem] theorem k109_ret (b : Nat) (e : Env) (S : Store) : k109 b .ret e S = (k91 b) .ret e S := nr (blockC_r _ _ _ _)
def c110 : Code := at0 c108
def c111 : Code := at1 c108
def k112 (b : Nat) : KT := seqC (fun e S => execL (C b) 0 c111 (k109 b) e S) (k109 b)
def c113 : Code := atT c111
def c114 : Code := atF c111
def c116 : Code := at0 c113
def c117 : Code := at1 c113
def k118 (b : Nat) : KT := seqC (fun e S => execL (C b) 0 c117 (k109 b) e S) (k109 b)
@[go_sem] theorem k118_n (b : Nat) (x4 : PV) (S : Store) : k118 b .normal (ee14 x4) S =
  (k109 b) .ret (ee14 x4) S := nr (seqN (execL_ret (by kernel_rfl)))
@[go_sem] theorem g119 (b : Nat) (K : KT) (x2 x3 x9 : PV) (S : Store) : execL (C b) 0 c116 K (ee8 x2 x3 x9) S =
  withV (evFieldAddr (tyi Try.prog 54) 0 x2) fun x15 =>
    withV (evLoad (tyi Try.prog 3) S x15) fun x16 =>
    withV (evFieldAddr (tyi Try.prog 54) 0 x3) fun x17 =>
    withV (evLoad (tyi Try.prog 3) S x17) fun x18 =>
    withV (evBin .lss (tyi Try.prog 3) x16 x18) fun x19 =>
    withN (callO (callL Try.prog hints) S 68 [x19]) S fun x20 S =>
    withV (some x20) fun x4 =>
    K .normal (ee14 x4) S := nr (by kernel_rfl)
def c121 : Code := at0 c114
def c122 : Code := at1 c114
def k123 (b : Nat) : KT := seqC (fun e S => execL (C b) 0 c122 (k109 b) e S) (k109 b)
def c124 : Code := atT c122
def c125 : Code := atF c122
def c127 : Code := at0 c124
def c128 : Code := at1 c124
def k129 (b : Nat) : KT := seqC (fun e S => execL (C b) 0 c128 (k109 b) e S) (k109 b)
@[go_sem] theorem k129_n (b : Nat) (x4 : PV) (S : Store) : k129 b .normal (ee14 x4) S =
  (k109 b) .ret (ee14 x4) S := nr (seqN (execL_ret (by kernel_rfl)))
@[go_sem] theorem g130 (b : Nat) (K : KT) (x2 x3 x21 : PV) (S : Store) : execL (C b) 0 c127 K (ee9 x2 x3 x21) S =
  withV (evFieldAddr (tyi Try.prog 54) 1 x2) fun x27 =>
    withV (evLoad (tyi Try.prog 9) S x27) fun x28 =>
    withV (evFieldAddr (tyi Try.prog 54) 1 x3) fun x29 =>
    withV (evLoad (tyi Try.prog 9) S x29) fun x30 =>
    withV (evBin .lss (tyi Try.prog 9) x28 x30) fun x31 =>
    withN (callO (callL Try.prog hints) S 68 [x31]) S fun x32 S =>
    withV (some x32) fun x4 =>
    K .normal (ee14 x4) S := nr (by kernel_rfl)
def c132 : Code := at0 c125
def c133 : Code := at1 c125
def k134 (b : Nat) : KT := seqC (fun e S => execL (C b) 0 c133 (k109 b) e S) (k109 b)
def c135 : Code := atT c133
def c138 : Code := at0 c135
def c139 : Code := at1 c135
def k140 (b : Nat) : KT := seqC (fun e S => execL (C b) 0 c139 (k109 b) e S) (k109 b)
@[go_sem] theorem k140_n (b : Nat) (x4 : PV) (S : Store) : k140 b .normal (ee14 x4) S =
  (k109 b) .ret (ee14 x4) S := nr (seqN (execL_ret (by kernel_rfl)))
@[go_sem] theorem g141 (b : Nat) (K : KT) (x2 x3 x33 : PV) (S : Store) : execL (C b) 0 c138 K (ee10 x2 x3 x33) S =
  withV (evFieldAddr (tyi Try.prog 54) 2 x3) fun x41 =>
    withV (evFieldAddr (tyi Try.prog 51) 0 x41) fun x42 =>
    withV (evLoad (tyi Try.prog 4) S x42) fun x43 =>
    withN (callO (callL Try.prog hints) S 68 [x43]) S fun x44 S =>
    withV (some x44) fun x4 =>
    K .normal (ee14 x4) S := nr (by kernel_rfl)
@[go_sem] theorem k134_n (b : Nat) (x2 x3 x33 : PV) (S : Store) : k134 b .normal (ee10 x2 x3 x33) S =
  condC x33 (execL (C b) 0 c138 (k140 b) (ee10 x2 x3 x33) S)
    ((k109 b) .normal (ee10 x2 x3 x33) S) := nr (seqN (condE (t := 33) (by kernel_rfl) (enterS (by kernel_rfl)) (execL_skip (by kernel_rfl)) rfl))
@[go_sem] theorem g142 (b : Nat) (K : KT) (x2 x3 x21 : PV) (S : Store) : execL (C b) 0 c132 K (ee9 x2 x3 x21) S =
  withV (evFieldAddr (tyi Try.prog 54) 2 x2) fun x34 =>
    withV (evFieldAddr (tyi Try.prog 51) 0 x34) fun x35 =>
    withV (evLoad (tyi Try.prog 4) S x35) fun x36 =>
    withV (evFieldAddr (tyi Try.prog 54) 2 x3) fun x37 =>
    withV (evFieldAddr (tyi Try.prog 51) 0 x37) fun x38 =>
    withV (evLoad (tyi Try.prog 4) S x38) fun x39 =>
    withV (evBin .neq (tyi Try.prog 4) x36 x39) fun x40 =>
    withV (some x40) fun x33 =>
    K .normal (ee10 x2 x3 x33) S := nr (by kernel_rfl)
@[go_sem] theorem k123_n (b : Nat) (x2 x3 x21 : PV) (S : Store) : k123 b .normal (ee9 x2 x3 x21) S =
  condC x21 (execL (C b) 0 c127 (k129 b) (ee9 x2 x3 x21) S)
    (execL (C b) 0 c132 (k134 b) (ee9 x2 x3 x21) S) := nr (seqN (condE (t := 21) (by kernel_rfl) (enterS (by kernel_rfl)) (enterS (by kernel_rfl)) rfl))
@[go_sem] theorem g143 (b : Nat) (K : KT) (x2 x3 x9 : PV) (S : Store) : execL (C b) 0 c121 K (ee8 x2 x3 x9) S =
  withV (evFieldAddr (tyi Try.prog 54) 1 x2) fun x22 =>
    withV (evLoad (tyi Try.prog 9) S x22) fun x23 =>
    withV (evFieldAddr (tyi Try.prog 54) 1 x3) fun x24 =>
    withV (evLoad (tyi Try.prog 9) S x24) fun x25 =>
    withV (evBin .neq (tyi Try.prog 9) x23 x25) fun x26 =>
    withV (some x26) fun x21 =>
    K .normal (ee9 x2 x3 x21) S := nr (by kernel_rfl)
@[go_sem] theorem k112_n (b : Nat) (x2 x3 x9 : PV) (S : Store) : k112 b .normal (ee8 x2 x3 x9) S =
  condC x9 (execL (C b) 0 c116 (k118 b) (ee8 x2 x3 x9) S)
    (execL (C b) 0 c121 (k123 b) (ee8 x2 x3 x9) S) := nr (seqN (condE (t := 9) (by kernel_rfl) (enterS (by kernel_rfl)) (enterS (by kernel_rfl)) rfl))
@[go_sem] theorem g144 (b : Nat) (K : KT) (x2 x3 : PV) (S : Store) : execL (C b) 0 c110 K (ee0 x2 x3) S =
  withV (evFieldAddr (tyi Try.prog 54) 0 x2) fun x10 =>
    withV (evLoad (tyi Try.prog 3) S x10) fun x11 =>
    withV (evFieldAddr (tyi Try.prog 54) 0 x3) fun x12 =>
    withV (evLoad (tyi Try.prog 3) S x12) fun x13 =>
    withV (evBin .neq (tyi Try.prog 3) x11 x13) fun x14 =>
    withV (some x14) fun x9 =>
    K .normal (ee8 x2 x3 x9) S := nr (by kernel_rfl)
@[go_sem] theorem k107_n (b : Nat) (x2 x3 : PV) (S : Store) : k107 b .normal (ee0 x2 x3) S =
  execL (C b) 0 c110 (k112 b) (ee0 x2 x3) S := nr (seqN ((enterS (by kernel_rfl)).trans ((blockE (by kernel_rfl)).trans (enterS (by kernel_rfl)))))
@[go_sem] theorem g145 (b : Nat) (K : KT) (x0 x1 : PV) (S : Store) : execL (C b) 0 c1 K [(0, x0), (1, x1)] S =
  withN (boxed S (List.length S) (TI.size (tyi Try.prog 54)) x0) S fun x2 S =>
    withN (boxed S (List.length S) (TI.size (tyi Try.prog 54)) x1) S fun x3 S =>
    withV (some (.int .i64 0)) fun x4 =>
    K .normal (ee0 x2 x3) S := nr (by kernel_rfl)
def E (b : Nat) (x0 x1 : PV) (S : Store) : RT := execL (C b) 0 code (k0 b) [(0, x0), (1, x1)] S
@[go_sem] theorem E_eq (b : Nat) (x0 x1 : PV) (S : Store) : E b x0 x1 S =
  execL (C b) 0 c1 (k107 b) [(0, x0), (1, x1)] S := nr (enterS (by kernel_rfl))
@[go_sem] theorem gc_ee12 (n : Nat) (x2 x3 x82 x83 : PV) (S : Store) : gc n (ee12 x2 x3 x82 x83) S = gc n [(2, x2), (3, x3), (82, x82), (83, x83)] S := nr (rfl)
@[go_sem] theorem gc_ee13 (n : Nat) (x2 x3 x82 x83 x84 : PV) (S : Store) : gc n (ee13 x2 x3 x82 x83 x84) S = gc n [(2, x2), (3, x3), (82, x82), (83, x83), (84, x84)] S := nr (rfl)
@[go_sem] theorem k0_ret14 (b : Nat) (x4 : PV) (S : Store) : k0 b .ret (ee14 x4) S = some (x4, S) := nr (by kernel_rfl)
theorem call {x0 x1 : PV} {r : PV × Store} {v : PV} (h : E 0 x0 x1 [] = some r) (hv : fzPV r.2 r.1 = some v) : callL Try.prog hints 42 [x0, x1] = some v := callL_of (fn := Try.f42) (c := code) (by kernel_rfl) (by kernel_rfl) (by decide) (by kernel_rfl) (Nat.le_of_ble_eq_true (by kernel_rfl)) h hv
end F42
/-! ### isochroneref08.Compare -/
namespace F46
end F46
/-! ### tree.Equal -/
namespace F47
noncomputable def hint : Hint := { keep := [], loops := [], regs := [(0, [2, 3]), (1, [4])] }
noncomputable def C (b : Nat) : Ctx := ctxL Try.prog hints b hint
noncomputable def code : Code := Try.f47.body.get rfl
noncomputable def k0 (b : Nat) : KT := endC Try.prog Try.f47
def ee0 (x2 x3 : PV) : Env := [(2, x2), (3, x3)]
def ee1 (x4 : PV) : Env := [(4, x4)]
def c1 : Code := at0 code
def c2 : Code := at1 code
def c3 : Code := at0 c2
def c4 : Code := at1 c2
def k5 (b : Nat) : KT := seqC (fun e S => execL (C b) 0 c4 (k0 b) e S) (k0 b)
@[go_sem] theorem k5_n (b : Nat) (x4 : PV) (S : Store) : k5 b .normal (ee1 x4) S =
  (k0 b) .ret (ee1 x4) S := nr (seqN (execL_ret (by kernel_rfl)))
def k6 (b : Nat) : KT := seqC (fun e S => execL (C b) 0 c2 (k0 b) e S) (k0 b)
@[go_sem] theorem g7 (b : Nat) (K : KT) (x2 x3 : PV) (S : Store) : execL (C b) 0 c3 K (ee0 x2 x3) S =
  withV (evLoad (tyi Try.prog 54) S x2) fun x5 =>
    withV (evLoad (tyi Try.prog 54) S x3) fun x6 =>
    withN (callO (callL Try.prog hints) S 42 [x5, x6]) S fun x7 S =>
    withV (evBin .eql (tyi Try.prog 3) x7 (.int .i64 0)) fun x8 =>
    withV (some x8) fun x4 =>
    K .normal (ee1 x4) S := nr (by kernel_rfl)
@[go_sem] theorem k6_n (b : Nat) (e : Env) (S : Store) : k6 b .normal e S = execL (C b) 0 c3 (k5 b) e S := nr (seqN (enterS (by kernel_rfl)))
@[go_sem] theorem g8 (b : Nat) (K : KT) (x0 x1 : PV) (S : Store) : execL (C b) 0 c1 K [(0, x0), (1, x1)] S =
  withN (boxed S (List.length S) (TI.size (tyi Try.prog 54)) x0) S fun x2 S =>
    withN (boxed S (List.length S) (TI.size (tyi Try.prog 54)) x1) S fun x3 S =>
    withV (some (.bool false)) fun x4 =>
    K .normal (ee0 x2 x3) S := nr (by kernel_rfl)
def E (b : Nat) (x0 x1 : PV) (S : Store) : RT := execL (C b) 0 code (k0 b) [(0, x0), (1, x1)] S
@[go_sem] theorem E_eq (b : Nat) (x0 x1 : PV) (S : Store) : E b x0 x1 S =
  execL (C b) 0 c1 (k6 b) [(0, x0), (1, x1)] S := nr (enterS (by kernel_rfl))
@[go_sem] theorem k0_ret1 (b : Nat) (x4 : PV) (S : Store) : k0 b .ret (ee1 x4) S = some (x4, S) := nr (by kernel_rfl)
theorem call {x0 x1 : PV} {r : PV × Store} {v : PV} (h : E 0 x0 x1 [] = some r) (hv : fzPV r.2 r.1 = some v) : callL Try.prog hints 47 [x0, x1] = some v := callL_of (fn := Try.f47) (c := code) (by kernel_rfl) (by kernel_rfl) (by decide) (by kernel_rfl) (Nat.le_of_ble_eq_true (by kernel_rfl)) h hv
end F47
end
end Go.Vs
