/- Printed by a program of mine (stage1.py): the functions 68, 69, 70, 71, 42, 46, 47, piece by piece. -/

import Derived.Test.YtnddhkcciphhkaaMQ9
set_option linter.unusedVariables false
set_option linter.unusedSimpArgs false
namespace Go.Vs
open Go Go.Proofs
noncomputable section

/-! ### tree.less -/
namespace F68
section
variable (b : Nat) (K : KT) (x0 x2 x3 : PV) (e : Env) (S : Store)
noncomputable def hint : Hint := { keep := [], loops := [], regs := [(0, [0]), (1, [3]), (2, [2]), (3, [2])] }
noncomputable def C (b : Nat) : Ctx := ctxL Try.prog hints b hint
noncomputable def code : Code := Try.f68.body.get rfl
noncomputable def k0 (b : Nat) : KT := endC Try.prog Try.f68
def ee0 (x0 : PV) : Env := [(0, x0)]
def ee1 (x2 : PV) : Env := [(2, x2)]
def ee2 (x3 : PV) : Env := [(3, x3)]
def c1 : Code := at0 code
def c2 : Code := at1 code
def c3 : Code := at0 c2
def c4 : Code := at1 c2
def c5 : Code := at0 c4
def c6 : Code := at1 c4
def k7 (b : Nat) : KT := seqC (fun e S => execL (C b) 0 c6 (k0 b) e S) (k0 b)
@[go_sem] theorem k7_n : k7 b .normal (ee1 x2) S =
  (k0 b) .ret (ee1 x2) S := nr (seqN (execL_ret (by kernel_rfl)))
def k8 (b : Nat) : KT := seqC (fun e S => execL (C b) 0 c4 (k0 b) e S) (k0 b)
@[go_sem] theorem g9 : execL (C b) 0 c5 K (ee2 x3) S =
  withV (some (.int .i64 1)) fun x2 =>
    K .normal (ee1 x2) S := nr (by kernel_rfl)
@[go_sem] theorem k8_n : k8 b .normal e S = execL (C b) 0 c5 (k7 b) e S := nr (seqN (enterS (by kernel_rfl)))
@[go_sem] theorem k8_ret : k8 b .ret e S = (k0 b) .ret e S := nr (seqC_r _ _ _ _)
def k10 (b : Nat) : KT := seqC (fun e S => execL (C b) 0 c2 (k0 b) e S) (k0 b)
def c11 : Code := at0 c3
def c12 : Code := at1 c3
def k13 (b : Nat) : KT := seqC (fun e S => execL (C b) 0 c12 (k8 b) e S) (k8 b)
def c14 : Code := atT c12
def c17 : Code := at0 c14
def c18 : Code := at1 c14
def k19 (b : Nat) : KT := seqC (fun e S => execL (C b) 0 c18 (k8 b) e S) (k8 b)
@[go_sem] theorem k19_n : k19 b .normal (ee1 x2) S =
  (k8 b) .ret (ee1 x2) S := nr (seqN (execL_ret (by kernel_rfl)))
@[go_sem] theorem g20 : execL (C b) 0 c17 K (ee2 x3) S =
  withV (some (.int .i64 (-1))) fun x2 =>
    K .normal (ee1 x2) S := nr (by kernel_rfl)
@[go_sem] theorem k13_n : k13 b .normal (ee2 x3) S =
  condC x3 (execL (C b) 0 c17 (k19 b) (ee2 x3) S)
    ((k8 b) .normal (ee2 x3) S) := nr (seqN (condE (t := 3) (by kernel_rfl) (enterS (by kernel_rfl)) (execL_skip (by kernel_rfl)) rfl))
@[go_sem] theorem g21 : execL (C b) 0 c11 K (ee0 x0) S =
  withV (some x0) fun x3 =>
    K .normal (ee2 x3) S := nr (by kernel_rfl)
@[go_sem] theorem k10_n : k10 b .normal (ee0 x0) S =
  execL (C b) 0 c11 (k13 b) (ee0 x0) S := nr (seqN ((enterS (by kernel_rfl)).trans (enterS (by kernel_rfl))))
@[go_sem] theorem g22 : execL (C b) 0 c1 K (ee0 x0) S =
  withV (some (.int .i64 0)) fun x2 =>
    K .normal (ee0 x0) S := nr (by kernel_rfl)
def E (b : Nat) (x0 : PV) (S : Store) : RT := execL (C b) 0 code (k0 b) (ee0 x0) S
@[go_sem] theorem E_eq : E b x0 S =
  execL (C b) 0 c1 (k10 b) (ee0 x0) S := nr (enterS (by kernel_rfl))
@[go_sem] theorem k0_ret1 : k0 b .ret (ee1 x2) S = some (x2, S) := nr (by kernel_rfl)
theorem call {x0 : PV} {r : PV × Store} {v : PV} (h : E 0 x0 [] = some r) (hv : fzPV r.2 r.1 = some v) : callL Try.prog hints 68 [x0] = some v := callL_of (fn := Try.f68) (c := code) (by kernel_rfl) (by kernel_rfl) (by decide) (by kernel_rfl) (Nat.le_of_ble_eq_true (by kernel_rfl)) h hv
end
end F68
/-! ### tree.words -/
namespace F69
section
variable (b i n n0 : Nat) (K : KT) (x0 x1 x4 x5 x10 x21 x32 : PV) (e : Env) (S : Store)
noncomputable def hint : Hint := { keep := [], loops := [(0, { live := [0, 1, 5], after := [], own := [], fz := [] })], regs := [(0, [0, 1]), (1, [0, 1, 10]), (2, [4]), (3, [0, 1, 5]), (4, [0, 1, 5, 21]), (5, [0, 1, 5]), (6, [0, 1, 5, 32]), (7, [4]), (8, [4])] }
noncomputable def C (b : Nat) : Ctx := ctxL Try.prog hints b hint
noncomputable def code : Code := Try.f69.body.get rfl
noncomputable def k0 (b : Nat) : KT := endC Try.prog Try.f69
def ee0 (x0 x1 : PV) : Env := [(0, x0), (1, x1)]
def ee1 (x0 x1 x5 : PV) : Env := [(0, x0), (1, x1), (5, x5)]
def ee2 (x0 x1 x5 x21 : PV) : Env := [(0, x0), (1, x1), (5, x5), (21, x21)]
def ee3 (x0 x1 x5 x32 : PV) : Env := [(0, x0), (1, x1), (5, x5), (32, x32)]
def ee4 (x0 x1 x10 : PV) : Env := [(0, x0), (1, x1), (10, x10)]
def ee5 (x4 : PV) : Env := [(4, x4)]
def c1 : Code := at0 code
def c2 : Code := at1 code
def c3 : Code := at0 c2
def c4 : Code := at1 c2
def c5 : Code := at0 c4
def c6 : Code := at1 c4
def c7 : Code := at0 c6
def c8 : Code := at1 c6
def k9 (b : Nat) : KT := seqC (fun e S => execL (C b) 0 c8 (k0 b) e S) (k0 b)
@[go_sem] theorem k9_n : k9 b .normal (ee5 x4) S =
  (k0 b) .ret (ee5 x4) S := nr (seqN (execL_ret (by kernel_rfl)))
def k10 (b : Nat) : KT := seqC (fun e S => execL (C b) 0 c6 (k0 b) e S) (k0 b)
@[go_sem] theorem g11 : execL (C b) 0 c7 K (ee2 x0 x1 x5 x21) S =
  withV (some (.int .i64 0)) fun x4 =>
    K .normal (ee5 x4) S := nr (by kernel_rfl)
@[go_sem] theorem k10_n : k10 b .normal e S = execL (C b) 0 c7 (k9 b) e S := nr (seqN (enterS (by kernel_rfl)))
@[go_sem] theorem k10_ret : k10 b .ret e S = (k0 b) .ret e S := nr (seqC_r _ _ _ _)
def k12 (b : Nat) : KT := seqC (fun e S => execL (C b) 0 c4 (k0 b) e S) (k0 b)
def c13 : Code := at0 c5
def c14 : Code := at1 c5
def k15 (b : Nat) : KT := seqC (fun e S => execL (C b) 0 c14 (k10 b) e S) (k10 b)
def c16 : Code := atB c14
def k17 (b : Nat) : KT := blockC 0 (k10 b)
@[go_sem] theorem k17_ret : k17 b .ret e S = (k10 b) .ret e S := nr (blockC_r _ _ _ _)
@[go_sem] theorem k17_exit : k17 b (.exit i) e S = if i = 0 then (k10 b) .normal e S else (k10 b) (.exit i) e S := nr (blockC_x _ _ _ _ _)
def c18 : Code := atL c16
def k19 (b n0 : Nat) : KT := afterC 0 n0 [] (k17 b)
def L0g (b n0 : Nat) (e : Env) (S : Store) : RT := loopL (fun K e S => execL (C b) 0 c18 K e S) (normG [0, 1, 5] [] n0) (k19 b n0) e S
def L0 (b n0 : Nat) (x0 x1 x5 : PV) (S : Store) : RT := L0g b n0 (ee1 x0 x1 x5) S
def k20 (b n0 : Nat) : KT := stepC (normG [0, 1, 5] [] n0) (k19 b n0) (L0g b n0)
@[go_sem] theorem k20_n : k20 b n0 .normal (ee1 x0 x1 x5) S = L0 b n0 x0 x1 x5 (gc n0 (ee1 x0 x1 x5) S) := nr (by kernel_rfl)
@[go_sem] theorem k20_ret : k20 b n0 .ret e S = (k17 b) .ret e S := nr ((show k20 b n0 .ret e S = (k19 b n0) .ret e S from stepC_r _ _ _ _ _).trans (afterC_r _ _ _ _ _ _))
@[go_sem] theorem k20_x1 : k20 b n0 (.exit 0) (ee2 x0 x1 x5 x21) S = (k17 b) (.exit 0) (ee2 .undef .undef .undef .undef) (gc n0 (ee2 .undef .undef .undef .undef) S) := nr ((show k20 b n0 (.exit 0) (ee2 x0 x1 x5 x21) S = (k19 b n0) (.exit 0) (ee2 x0 x1 x5 x21) S from stepC_x _ _ _ _ _ _).trans ((show (k19 b n0) (.exit 0) (ee2 x0 x1 x5 x21) S = _ from afterC_x _ _ _ _ _ _ _).trans (if_pos rfl)))
def c21 : Code := at0 c18
def c22 : Code := at1 c18
def c23 : Code := at0 c22
def c24 : Code := at1 c22
def k25 (b n0 : Nat) : KT := seqC (fun e S => execL (C b) 0 c24 (k20 b n0) e S) (k20 b n0)
@[go_sem] theorem g26 : execL (C b) 0 c24 K (ee3 x0 x1 x5 x32) S =
  withV (some x5) fun x22 =>
    withV (evBin .sub (tyi Try.prog 3) x22 (.int .i64 1)) fun x23 =>
    withV (some x23) fun x5 =>
    K .normal (ee1 x0 x1 x5) S := nr (by kernel_rfl)
@[go_sem] theorem k25_n : k25 b n0 .normal e S = execL (C b) 0 c24 (k20 b n0) e S := nr (seqN rfl)
@[go_sem] theorem k25_ret : k25 b n0 .ret e S = (k20 b n0) .ret e S := nr (seqC_r _ _ _ _)
def k27 (b n0 : Nat) : KT := seqC (fun e S => execL (C b) 0 c22 (k20 b n0) e S) (k20 b n0)
def c28 : Code := atB c23
def k29 (b n0 : Nat) : KT := blockC 1 (k25 b n0)
@[go_sem] theorem k29_n : k29 b n0 .normal e S = (k25 b n0) .normal e S := nr (blockC_n _ _ _ _)
@[go_sem] theorem k29_ret : k29 b n0 .ret e S = (k25 b n0) .ret e S := nr (blockC_r _ _ _ _)
def c30 : Code := at0 c28
def c31 : Code := at1 c28
def k32 (b n0 : Nat) : KT := seqC (fun e S => execL (C b) 1 c31 (k29 b n0) e S) (k29 b n0)
def c33 : Code := atT c31
def c36 : Code := at0 c33
def c37 : Code := at1 c33
def k38 (b n0 : Nat) : KT := seqC (fun e S => execL (C b) 1 c37 (k29 b n0) e S) (k29 b n0)
@[go_sem] theorem k38_n : k38 b n0 .normal (ee5 x4) S =
  (k29 b n0) .ret (ee5 x4) S := nr (seqN (execL_ret (by kernel_rfl)))
@[go_sem] theorem g39 : execL (C b) 1 c36 K (ee3 x0 x1 x5 x32) S =
  withV (some x0) fun x33 =>
    withV (some x5) fun x34 =>
    withV (indexAddrO Try.prog 49 S x33 x34) fun x35 =>
    withV (evLoad (tyi Try.prog 76) S x35) fun x36 =>
    withV (some x1) fun x37 =>
    withV (some x5) fun x38 =>
    withV (indexAddrO Try.prog 49 S x37 x38) fun x39 =>
    withV (evLoad (tyi Try.prog 76) S x39) fun x40 =>
    withV (evBin .lss (tyi Try.prog 76) x36 x40) fun x41 =>
    withN (callO (callL Try.prog hints) S 68 [x41]) S fun x42 S =>
    withV (some x42) fun x4 =>
    K .normal (ee5 x4) S := nr (by kernel_rfl)
@[go_sem] theorem k32_n : k32 b n0 .normal (ee3 x0 x1 x5 x32) S =
  condC x32 (execL (C b) 1 c36 (k38 b n0) (ee3 x0 x1 x5 x32) S)
    ((k29 b n0) .normal (ee3 x0 x1 x5 x32) S) := nr (seqN (condE (t := 32) (by kernel_rfl) (enterS (by kernel_rfl)) (execL_skip (by kernel_rfl)) rfl))
@[go_sem] theorem g40 : execL (C b) 1 c30 K (ee2 x0 x1 x5 x21) S =
  withV (some x0) fun x24 =>
    withV (some x5) fun x25 =>
    withV (indexAddrO Try.prog 49 S x24 x25) fun x26 =>
    withV (evLoad (tyi Try.prog 76) S x26) fun x27 =>
    withV (some x1) fun x28 =>
    withV (some x5) fun x29 =>
    withV (indexAddrO Try.prog 49 S x28 x29) fun x30 =>
    withV (evLoad (tyi Try.prog 76) S x30) fun x31 =>
    withV (evBin .neq (tyi Try.prog 76) x27 x31) fun x32 =>
    K .normal (ee3 x0 x1 x5 x32) S := nr (by kernel_rfl)
@[go_sem] theorem k27_n : k27 b n0 .normal (ee2 x0 x1 x5 x21) S =
  execL (C b) 1 c30 (k32 b n0) (ee2 x0 x1 x5 x21) S := nr (seqN ((enterS (by kernel_rfl)).trans ((blockE (by kernel_rfl)).trans (enterS (by kernel_rfl)))))
@[go_sem] theorem k27_exit : k27 b n0 (.exit i) e S = (k20 b n0) (.exit i) e S := nr (seqC_x _ _ _ _ _)
def c41 : Code := at0 c21
def c42 : Code := at1 c21
def k43 (b n0 : Nat) : KT := seqC (fun e S => execL (C b) 0 c42 (k27 b n0) e S) (k27 b n0)
@[go_sem] theorem k43_n : k43 b n0 .normal (ee2 x0 x1 x5 x21) S =
  condC x21 ((k27 b n0) .normal (ee2 x0 x1 x5 x21) S)
    ((k27 b n0) (.exit 0) (ee2 x0 x1 x5 x21) S) := nr (seqN (condE (t := 21) (by kernel_rfl) (execL_skip (by kernel_rfl)) (execL_exit (by kernel_rfl)) rfl))
@[go_sem] theorem g46 : execL (C b) 0 c41 K (ee1 x0 x1 x5) S =
  withV (some x5) fun x20 =>
    withV (evBin .geq (tyi Try.prog 3) x20 (.int .i64 0)) fun x21 =>
    K .normal (ee2 x0 x1 x5 x21) S := nr (by kernel_rfl)
def B0 (b n0 : Nat) (x0 x1 x5 : PV) (S : Store) : RT := execL (C b) 0 c18 (k20 b n0) (ee1 x0 x1 x5) S
@[go_sem] theorem B0_eq : B0 b n0 x0 x1 x5 S =
  execL (C b) 0 c41 (k43 b n0) (ee1 x0 x1 x5) S := nr ((enterS (by kernel_rfl)).trans (enterS (by kernel_rfl)))
theorem L0_step {b n0 : Nat} {x0 x1 x5 : PV} {S : Store} {z : PV × Store} (h : B0 b n0 x0 x1 x5 S = some z) : L0 b n0 x0 x1 x5 S = some z := loopL_step h
theorem L0_in (b : Nat) (x0 x1 x5 : PV) (S : Store) : execL (C b) 0 c16 (k17 b) (ee1 x0 x1 x5) S = L0 b (List.length S) x0 x1 x5 S := by kernel_rfl
@[go_sem] theorem k15_n : k15 b .normal (ee1 x0 x1 x5) S =
  L0 b (List.length S) x0 x1 x5 S := nr (seqN ((blockE (by kernel_rfl)).trans (L0_in b x0 x1 x5 S)))
@[go_sem] theorem g48 : execL (C b) 0 c13 K (ee4 x0 x1 x10) S =
  withV (some x0) fun x17 =>
    withV (lenO (tyi Try.prog 49) x17) fun x18 =>
    withV (evBin .sub (tyi Try.prog 3) x18 (.int .i64 1)) fun x19 =>
    withV (some x19) fun x5 =>
    K .normal (ee1 x0 x1 x5) S := nr (by kernel_rfl)
@[go_sem] theorem k12_n : k12 b .normal (ee4 x0 x1 x10) S =
  execL (C b) 0 c13 (k15 b) (ee4 x0 x1 x10) S := nr (seqN ((enterS (by kernel_rfl)).trans (enterS (by kernel_rfl))))
@[go_sem] theorem k12_ret : k12 b .ret e S = (k0 b) .ret e S := nr (seqC_r _ _ _ _)
def k49 (b : Nat) : KT := seqC (fun e S => execL (C b) 0 c2 (k0 b) e S) (k0 b)
def c50 : Code := at0 c3
def c51 : Code := at1 c3
def k52 (b : Nat) : KT := seqC (fun e S => execL (C b) 0 c51 (k12 b) e S) (k12 b)
def c53 : Code := atT c51
def c56 : Code := at0 c53
def c57 : Code := at1 c53
def k58 (b : Nat) : KT := seqC (fun e S => execL (C b) 0 c57 (k12 b) e S) (k12 b)
@[go_sem] theorem k58_n : k58 b .normal (ee5 x4) S =
  (k12 b) .ret (ee5 x4) S := nr (seqN (execL_ret (by kernel_rfl)))
@[go_sem] theorem g59 : execL (C b) 0 c56 K (ee4 x0 x1 x10) S =
  withV (some x0) fun x11 =>
    withV (lenO (tyi Try.prog 49) x11) fun x12 =>
    withV (some x1) fun x13 =>
    withV (lenO (tyi Try.prog 49) x13) fun x14 =>
    withV (evBin .lss (tyi Try.prog 3) x12 x14) fun x15 =>
    withN (callO (callL Try.prog hints) S 68 [x15]) S fun x16 S =>
    withV (some x16) fun x4 =>
    K .normal (ee5 x4) S := nr (by kernel_rfl)
@[go_sem] theorem k52_n : k52 b .normal (ee4 x0 x1 x10) S =
  condC x10 (execL (C b) 0 c56 (k58 b) (ee4 x0 x1 x10) S)
    ((k12 b) .normal (ee4 x0 x1 x10) S) := nr (seqN (condE (t := 10) (by kernel_rfl) (enterS (by kernel_rfl)) (execL_skip (by kernel_rfl)) rfl))
@[go_sem] theorem g60 : execL (C b) 0 c50 K (ee0 x0 x1) S =
  withV (some x0) fun x6 =>
    withV (lenO (tyi Try.prog 49) x6) fun x7 =>
    withV (some x1) fun x8 =>
    withV (lenO (tyi Try.prog 49) x8) fun x9 =>
    withV (evBin .neq (tyi Try.prog 3) x7 x9) fun x10 =>
    K .normal (ee4 x0 x1 x10) S := nr (by kernel_rfl)
@[go_sem] theorem k49_n : k49 b .normal (ee0 x0 x1) S =
  execL (C b) 0 c50 (k52 b) (ee0 x0 x1) S := nr (seqN ((enterS (by kernel_rfl)).trans (enterS (by kernel_rfl))))
@[go_sem] theorem g61 : execL (C b) 0 c1 K (ee0 x0 x1) S =
  withV (some (.int .i64 0)) fun x4 =>
    K .normal (ee0 x0 x1) S := nr (by kernel_rfl)
def E (b : Nat) (x0 x1 : PV) (S : Store) : RT := execL (C b) 0 code (k0 b) (ee0 x0 x1) S
@[go_sem] theorem E_eq : E b x0 x1 S =
  execL (C b) 0 c1 (k49 b) (ee0 x0 x1) S := nr (enterS (by kernel_rfl))
@[go_sem] theorem k0_ret5 : k0 b .ret (ee5 x4) S = some (x4, S) := nr (by kernel_rfl)
theorem call {x0 x1 : PV} {r : PV × Store} {v : PV} (h : E 0 x0 x1 [] = some r) (hv : fzPV r.2 r.1 = some v) : callL Try.prog hints 69 [x0, x1] = some v := callL_of (fn := Try.f69) (c := code) (by kernel_rfl) (by kernel_rfl) (by decide) (by kernel_rfl) (Nat.le_of_ble_eq_true (by kernel_rfl)) h hv
end
end F69
/-! ### isochroneref08.less -/
namespace F70
section
variable (b : Nat) (K : KT) (x0 x1 x4 x7 x10 : PV) (e : Env) (S : Store)
noncomputable def hint : Hint := { keep := [], loops := [], regs := [(0, [0, 1]), (1, [0, 1, 7]), (2, [4]), (3, [10]), (4, [4]), (5, [4])] }
noncomputable def C (b : Nat) : Ctx := ctxL Try.prog hints b hint
noncomputable def code : Code := Try.f70.body.get rfl
noncomputable def k0 (b : Nat) : KT := endC Try.prog Try.f70
def ee0 (x0 x1 : PV) : Env := [(0, x0), (1, x1)]
def ee1 (x0 x1 x7 : PV) : Env := [(0, x0), (1, x1), (7, x7)]
def ee2 (x4 : PV) : Env := [(4, x4)]
def ee3 (x10 : PV) : Env := [(10, x10)]
def c1 : Code := at0 code
def c2 : Code := at1 code
def c3 : Code := at0 c2
def c4 : Code := at1 c2
def c5 : Code := at0 c4
def c6 : Code := at1 c4
def c7 : Code := at0 c6
def c8 : Code := at1 c6
def k9 (b : Nat) : KT := seqC (fun e S => execL (C b) 0 c8 (k0 b) e S) (k0 b)
@[go_sem] theorem k9_n : k9 b .normal (ee2 x4) S =
  (k0 b) .ret (ee2 x4) S := nr (seqN (execL_ret (by kernel_rfl)))
def k10 (b : Nat) : KT := seqC (fun e S => execL (C b) 0 c6 (k0 b) e S) (k0 b)
@[go_sem] theorem g11 : execL (C b) 0 c7 K (ee3 x10) S =
  withV (some (.int .i64 0)) fun x4 =>
    K .normal (ee2 x4) S := nr (by kernel_rfl)
@[go_sem] theorem k10_n : k10 b .normal e S = execL (C b) 0 c7 (k9 b) e S := nr (seqN (enterS (by kernel_rfl)))
@[go_sem] theorem k10_ret : k10 b .ret e S = (k0 b) .ret e S := nr (seqC_r _ _ _ _)
def k12 (b : Nat) : KT := seqC (fun e S => execL (C b) 0 c4 (k0 b) e S) (k0 b)
def c13 : Code := at0 c5
def c14 : Code := at1 c5
def k15 (b : Nat) : KT := seqC (fun e S => execL (C b) 0 c14 (k10 b) e S) (k10 b)
def c16 : Code := atT c14
def c19 : Code := at0 c16
def c20 : Code := at1 c16
def k21 (b : Nat) : KT := seqC (fun e S => execL (C b) 0 c20 (k10 b) e S) (k10 b)
@[go_sem] theorem k21_n : k21 b .normal (ee2 x4) S =
  (k10 b) .ret (ee2 x4) S := nr (seqN (execL_ret (by kernel_rfl)))
@[go_sem] theorem g22 : execL (C b) 0 c19 K (ee3 x10) S =
  withV (some (.int .i64 1)) fun x4 =>
    K .normal (ee2 x4) S := nr (by kernel_rfl)
@[go_sem] theorem k15_n : k15 b .normal (ee3 x10) S =
  condC x10 (execL (C b) 0 c19 (k21 b) (ee3 x10) S)
    ((k10 b) .normal (ee3 x10) S) := nr (seqN (condE (t := 10) (by kernel_rfl) (enterS (by kernel_rfl)) (execL_skip (by kernel_rfl)) rfl))
@[go_sem] theorem g23 : execL (C b) 0 c13 K (ee1 x0 x1 x7) S =
  withV (some x0) fun x8 =>
    withV (some x1) fun x9 =>
    withV (evBin .gtr (tyi Try.prog 3) x8 x9) fun x10 =>
    K .normal (ee3 x10) S := nr (by kernel_rfl)
@[go_sem] theorem k12_n : k12 b .normal (ee1 x0 x1 x7) S =
  execL (C b) 0 c13 (k15 b) (ee1 x0 x1 x7) S := nr (seqN ((enterS (by kernel_rfl)).trans (enterS (by kernel_rfl))))
@[go_sem] theorem k12_ret : k12 b .ret e S = (k0 b) .ret e S := nr (seqC_r _ _ _ _)
def k24 (b : Nat) : KT := seqC (fun e S => execL (C b) 0 c2 (k0 b) e S) (k0 b)
def c25 : Code := at0 c3
def c26 : Code := at1 c3
def k27 (b : Nat) : KT := seqC (fun e S => execL (C b) 0 c26 (k12 b) e S) (k12 b)
def c28 : Code := atT c26
def c31 : Code := at0 c28
def c32 : Code := at1 c28
def k33 (b : Nat) : KT := seqC (fun e S => execL (C b) 0 c32 (k12 b) e S) (k12 b)
@[go_sem] theorem k33_n : k33 b .normal (ee2 x4) S =
  (k12 b) .ret (ee2 x4) S := nr (seqN (execL_ret (by kernel_rfl)))
@[go_sem] theorem g34 : execL (C b) 0 c31 K (ee1 x0 x1 x7) S =
  withV (some (.int .i64 (-1))) fun x4 =>
    K .normal (ee2 x4) S := nr (by kernel_rfl)
@[go_sem] theorem k27_n : k27 b .normal (ee1 x0 x1 x7) S =
  condC x7 (execL (C b) 0 c31 (k33 b) (ee1 x0 x1 x7) S)
    ((k12 b) .normal (ee1 x0 x1 x7) S) := nr (seqN (condE (t := 7) (by kernel_rfl) (enterS (by kernel_rfl)) (execL_skip (by kernel_rfl)) rfl))
@[go_sem] theorem g35 : execL (C b) 0 c25 K (ee0 x0 x1) S =
  withV (some x0) fun x5 =>
    withV (some x1) fun x6 =>
    withV (evBin .lss (tyi Try.prog 3) x5 x6) fun x7 =>
    K .normal (ee1 x0 x1 x7) S := nr (by kernel_rfl)
@[go_sem] theorem k24_n : k24 b .normal (ee0 x0 x1) S =
  execL (C b) 0 c25 (k27 b) (ee0 x0 x1) S := nr (seqN ((enterS (by kernel_rfl)).trans (enterS (by kernel_rfl))))
@[go_sem] theorem g36 : execL (C b) 0 c1 K (ee0 x0 x1) S =
  withV (some (.int .i64 0)) fun x4 =>
    K .normal (ee0 x0 x1) S := nr (by kernel_rfl)
def E (b : Nat) (x0 x1 : PV) (S : Store) : RT := execL (C b) 0 code (k0 b) (ee0 x0 x1) S
@[go_sem] theorem E_eq : E b x0 x1 S =
  execL (C b) 0 c1 (k24 b) (ee0 x0 x1) S := nr (enterS (by kernel_rfl))
@[go_sem] theorem k0_ret2 : k0 b .ret (ee2 x4) S = some (x4, S) := nr (by kernel_rfl)
theorem call {x0 x1 : PV} {r : PV × Store} {v : PV} (h : E 0 x0 x1 [] = some r) (hv : fzPV r.2 r.1 = some v) : callL Try.prog hints 70 [x0, x1] = some v := callL_of (fn := Try.f70) (c := code) (by kernel_rfl) (by kernel_rfl) (by decide) (by kernel_rfl) (Nat.le_of_ble_eq_true (by kernel_rfl)) h hv
end
end F70
/-! ### isochroneref08.words -/
namespace F71
section
variable (b i n n0 : Nat) (K : KT) (x0 x1 x4 x5 x10 x15 x20 x31 x40 : PV) (e : Env) (S : Store)
noncomputable def hint : Hint := { keep := [], loops := [(0, { live := [0, 1, 5], after := [], own := [], fz := [] })], regs := [(0, [0, 1]), (1, [0, 1, 10]), (2, [15]), (3, [4]), (4, [4]), (5, [0, 1, 5]), (6, [0, 1, 5, 20]), (7, [0, 1, 5]), (8, [0, 1, 5, 31]), (9, [40]), (10, [4]), (11, [4]), (12, [4])] }
noncomputable def C (b : Nat) : Ctx := ctxL Try.prog hints b hint
noncomputable def code : Code := Try.f71.body.get rfl
noncomputable def k0 (b : Nat) : KT := endC Try.prog Try.f71
def ee0 (x0 x1 : PV) : Env := [(0, x0), (1, x1)]
def ee1 (x0 x1 x5 : PV) : Env := [(0, x0), (1, x1), (5, x5)]
def ee2 (x0 x1 x5 x20 : PV) : Env := [(0, x0), (1, x1), (5, x5), (20, x20)]
def ee3 (x0 x1 x5 x31 : PV) : Env := [(0, x0), (1, x1), (5, x5), (31, x31)]
def ee4 (x0 x1 x10 : PV) : Env := [(0, x0), (1, x1), (10, x10)]
def ee5 (x4 : PV) : Env := [(4, x4)]
def ee6 (x15 : PV) : Env := [(15, x15)]
def ee7 (x40 : PV) : Env := [(40, x40)]
def c1 : Code := at0 code
def c2 : Code := at1 code
def c3 : Code := at0 c2
def c4 : Code := at1 c2
def c5 : Code := at0 c4
def c6 : Code := at1 c4
def c7 : Code := at0 c6
def c8 : Code := at1 c6
def k9 (b : Nat) : KT := seqC (fun e S => execL (C b) 0 c8 (k0 b) e S) (k0 b)
@[go_sem] theorem k9_n : k9 b .normal (ee5 x4) S =
  (k0 b) .ret (ee5 x4) S := nr (seqN (execL_ret (by kernel_rfl)))
def k10 (b : Nat) : KT := seqC (fun e S => execL (C b) 0 c6 (k0 b) e S) (k0 b)
@[go_sem] theorem g11 : execL (C b) 0 c7 K (ee2 x0 x1 x5 x20) S =
  withV (some (.int .i64 0)) fun x4 =>
    K .normal (ee5 x4) S := nr (by kernel_rfl)
@[go_sem] theorem k10_n : k10 b .normal e S = execL (C b) 0 c7 (k9 b) e S := nr (seqN (enterS (by kernel_rfl)))
@[go_sem] theorem k10_ret : k10 b .ret e S = (k0 b) .ret e S := nr (seqC_r _ _ _ _)
def k12 (b : Nat) : KT := seqC (fun e S => execL (C b) 0 c4 (k0 b) e S) (k0 b)
def c13 : Code := at0 c5
def c14 : Code := at1 c5
def k15 (b : Nat) : KT := seqC (fun e S => execL (C b) 0 c14 (k10 b) e S) (k10 b)
def c16 : Code := atB c14
def k17 (b : Nat) : KT := blockC 0 (k10 b)
@[go_sem] theorem k17_ret : k17 b .ret e S = (k10 b) .ret e S := nr (blockC_r _ _ _ _)
@[go_sem] theorem k17_exit : k17 b (.exit i) e S = if i = 0 then (k10 b) .normal e S else (k10 b) (.exit i) e S := nr (blockC_x _ _ _ _ _)
def c18 : Code := atL c16
def k19 (b n0 : Nat) : KT := afterC 0 n0 [] (k17 b)
def L0g (b n0 : Nat) (e : Env) (S : Store) : RT := loopL (fun K e S => execL (C b) 0 c18 K e S) (normG [0, 1, 5] [] n0) (k19 b n0) e S
def L0 (b n0 : Nat) (x0 x1 x5 : PV) (S : Store) : RT := L0g b n0 (ee1 x0 x1 x5) S
def k20 (b n0 : Nat) : KT := stepC (normG [0, 1, 5] [] n0) (k19 b n0) (L0g b n0)
@[go_sem] theorem k20_n : k20 b n0 .normal (ee1 x0 x1 x5) S = L0 b n0 x0 x1 x5 (gc n0 (ee1 x0 x1 x5) S) := nr (by kernel_rfl)
@[go_sem] theorem k20_ret : k20 b n0 .ret e S = (k17 b) .ret e S := nr ((show k20 b n0 .ret e S = (k19 b n0) .ret e S from stepC_r _ _ _ _ _).trans (afterC_r _ _ _ _ _ _))
@[go_sem] theorem k20_x1 : k20 b n0 (.exit 0) (ee2 x0 x1 x5 x20) S = (k17 b) (.exit 0) (ee2 .undef .undef .undef .undef) (gc n0 (ee2 .undef .undef .undef .undef) S) := nr ((show k20 b n0 (.exit 0) (ee2 x0 x1 x5 x20) S = (k19 b n0) (.exit 0) (ee2 x0 x1 x5 x20) S from stepC_x _ _ _ _ _ _).trans ((show (k19 b n0) (.exit 0) (ee2 x0 x1 x5 x20) S = _ from afterC_x _ _ _ _ _ _ _).trans (if_pos rfl)))
def c21 : Code := at0 c18
def c22 : Code := at1 c18
def c23 : Code := at0 c22
def c24 : Code := at1 c22
def k25 (b n0 : Nat) : KT := seqC (fun e S => execL (C b) 0 c24 (k20 b n0) e S) (k20 b n0)
@[go_sem] theorem g26 : execL (C b) 0 c24 K (ee3 x0 x1 x5 x31) S =
  withV (some x5) fun x21 =>
    withV (evBin .sub (tyi Try.prog 3) x21 (.int .i64 1)) fun x22 =>
    withV (some x22) fun x5 =>
    K .normal (ee1 x0 x1 x5) S := nr (by kernel_rfl)
@[go_sem] theorem k25_n : k25 b n0 .normal e S = execL (C b) 0 c24 (k20 b n0) e S := nr (seqN rfl)
@[go_sem] theorem k25_ret : k25 b n0 .ret e S = (k20 b n0) .ret e S := nr (seqC_r _ _ _ _)
def k27 (b n0 : Nat) : KT := seqC (fun e S => execL (C b) 0 c22 (k20 b n0) e S) (k20 b n0)
def c28 : Code := atB c23
def k29 (b n0 : Nat) : KT := blockC 1 (k25 b n0)
@[go_sem] theorem k29_n : k29 b n0 .normal e S = (k25 b n0) .normal e S := nr (blockC_n _ _ _ _)
@[go_sem] theorem k29_ret : k29 b n0 .ret e S = (k25 b n0) .ret e S := nr (blockC_r _ _ _ _)
def c30 : Code := at0 c28
def c31 : Code := at1 c28
def k32 (b n0 : Nat) : KT := seqC (fun e S => execL (C b) 1 c31 (k29 b n0) e S) (k29 b n0)
def c33 : Code := atT c31
def c36 : Code := at0 c33
def c37 : Code := at1 c33
def c38 : Code := at0 c37
def c39 : Code := at1 c37
def k40 (b n0 : Nat) : KT := seqC (fun e S => execL (C b) 1 c39 (k29 b n0) e S) (k29 b n0)
@[go_sem] theorem k40_n : k40 b n0 .normal (ee5 x4) S =
  (k29 b n0) .ret (ee5 x4) S := nr (seqN (execL_ret (by kernel_rfl)))
def k41 (b n0 : Nat) : KT := seqC (fun e S => execL (C b) 1 c37 (k29 b n0) e S) (k29 b n0)
@[go_sem] theorem g42 : execL (C b) 1 c38 K (ee7 x40) S =
  withV (some (.int .i64 1)) fun x4 =>
    K .normal (ee5 x4) S := nr (by kernel_rfl)
@[go_sem] theorem k41_n : k41 b n0 .normal e S = execL (C b) 1 c38 (k40 b n0) e S := nr (seqN (enterS (by kernel_rfl)))
@[go_sem] theorem k41_ret : k41 b n0 .ret e S = (k29 b n0) .ret e S := nr (seqC_r _ _ _ _)
def c43 : Code := at0 c36
def c44 : Code := at1 c36
def k45 (b n0 : Nat) : KT := seqC (fun e S => execL (C b) 1 c44 (k41 b n0) e S) (k41 b n0)
def c46 : Code := atT c44
def c49 : Code := at0 c46
def c50 : Code := at1 c46
def k51 (b n0 : Nat) : KT := seqC (fun e S => execL (C b) 1 c50 (k41 b n0) e S) (k41 b n0)
@[go_sem] theorem k51_n : k51 b n0 .normal (ee5 x4) S =
  (k41 b n0) .ret (ee5 x4) S := nr (seqN (execL_ret (by kernel_rfl)))
@[go_sem] theorem g52 : execL (C b) 1 c49 K (ee7 x40) S =
  withV (some (.int .i64 (-1))) fun x4 =>
    K .normal (ee5 x4) S := nr (by kernel_rfl)
@[go_sem] theorem k45_n : k45 b n0 .normal (ee7 x40) S =
  condC x40 (execL (C b) 1 c49 (k51 b n0) (ee7 x40) S)
    ((k41 b n0) .normal (ee7 x40) S) := nr (seqN (condE (t := 40) (by kernel_rfl) (enterS (by kernel_rfl)) (execL_skip (by kernel_rfl)) rfl))
@[go_sem] theorem g53 : execL (C b) 1 c43 K (ee3 x0 x1 x5 x31) S =
  withV (some x0) fun x32 =>
    withV (some x5) fun x33 =>
    withV (indexAddrO Try.prog 49 S x32 x33) fun x34 =>
    withV (evLoad (tyi Try.prog 76) S x34) fun x35 =>
    withV (some x1) fun x36 =>
    withV (some x5) fun x37 =>
    withV (indexAddrO Try.prog 49 S x36 x37) fun x38 =>
    withV (evLoad (tyi Try.prog 76) S x38) fun x39 =>
    withV (evBin .lss (tyi Try.prog 76) x35 x39) fun x40 =>
    K .normal (ee7 x40) S := nr (by kernel_rfl)
@[go_sem] theorem k32_n : k32 b n0 .normal (ee3 x0 x1 x5 x31) S =
  condC x31 (execL (C b) 1 c43 (k45 b n0) (ee3 x0 x1 x5 x31) S)
    ((k29 b n0) .normal (ee3 x0 x1 x5 x31) S) := nr (seqN (condE (t := 31) (by kernel_rfl) ((enterS (by kernel_rfl)).trans (enterS (by kernel_rfl))) (execL_skip (by kernel_rfl)) rfl))
@[go_sem] theorem g54 : execL (C b) 1 c30 K (ee2 x0 x1 x5 x20) S =
  withV (some x0) fun x23 =>
    withV (some x5) fun x24 =>
    withV (indexAddrO Try.prog 49 S x23 x24) fun x25 =>
    withV (evLoad (tyi Try.prog 76) S x25) fun x26 =>
    withV (some x1) fun x27 =>
    withV (some x5) fun x28 =>
    withV (indexAddrO Try.prog 49 S x27 x28) fun x29 =>
    withV (evLoad (tyi Try.prog 76) S x29) fun x30 =>
    withV (evBin .neq (tyi Try.prog 76) x26 x30) fun x31 =>
    K .normal (ee3 x0 x1 x5 x31) S := nr (by kernel_rfl)
@[go_sem] theorem k27_n : k27 b n0 .normal (ee2 x0 x1 x5 x20) S =
  execL (C b) 1 c30 (k32 b n0) (ee2 x0 x1 x5 x20) S := nr (seqN ((enterS (by kernel_rfl)).trans ((blockE (by kernel_rfl)).trans (enterS (by kernel_rfl)))))
@[go_sem] theorem k27_exit : k27 b n0 (.exit i) e S = (k20 b n0) (.exit i) e S := nr (seqC_x _ _ _ _ _)
def c55 : Code := at0 c21
def c56 : Code := at1 c21
def k57 (b n0 : Nat) : KT := seqC (fun e S => execL (C b) 0 c56 (k27 b n0) e S) (k27 b n0)
@[go_sem] theorem k57_n : k57 b n0 .normal (ee2 x0 x1 x5 x20) S =
  condC x20 ((k27 b n0) .normal (ee2 x0 x1 x5 x20) S)
    ((k27 b n0) (.exit 0) (ee2 x0 x1 x5 x20) S) := nr (seqN (condE (t := 20) (by kernel_rfl) (execL_skip (by kernel_rfl)) (execL_exit (by kernel_rfl)) rfl))
@[go_sem] theorem g60 : execL (C b) 0 c55 K (ee1 x0 x1 x5) S =
  withV (some x5) fun x19 =>
    withV (evBin .geq (tyi Try.prog 3) x19 (.int .i64 0)) fun x20 =>
    K .normal (ee2 x0 x1 x5 x20) S := nr (by kernel_rfl)
def B0 (b n0 : Nat) (x0 x1 x5 : PV) (S : Store) : RT := execL (C b) 0 c18 (k20 b n0) (ee1 x0 x1 x5) S
@[go_sem] theorem B0_eq : B0 b n0 x0 x1 x5 S =
  execL (C b) 0 c55 (k57 b n0) (ee1 x0 x1 x5) S := nr ((enterS (by kernel_rfl)).trans (enterS (by kernel_rfl)))
theorem L0_step {b n0 : Nat} {x0 x1 x5 : PV} {S : Store} {z : PV × Store} (h : B0 b n0 x0 x1 x5 S = some z) : L0 b n0 x0 x1 x5 S = some z := loopL_step h
theorem L0_in (b : Nat) (x0 x1 x5 : PV) (S : Store) : execL (C b) 0 c16 (k17 b) (ee1 x0 x1 x5) S = L0 b (List.length S) x0 x1 x5 S := by kernel_rfl
@[go_sem] theorem k15_n : k15 b .normal (ee1 x0 x1 x5) S =
  L0 b (List.length S) x0 x1 x5 S := nr (seqN ((blockE (by kernel_rfl)).trans (L0_in b x0 x1 x5 S)))
@[go_sem] theorem g62 : execL (C b) 0 c13 K (ee4 x0 x1 x10) S =
  withV (some x0) fun x16 =>
    withV (lenO (tyi Try.prog 49) x16) fun x17 =>
    withV (evBin .sub (tyi Try.prog 3) x17 (.int .i64 1)) fun x18 =>
    withV (some x18) fun x5 =>
    K .normal (ee1 x0 x1 x5) S := nr (by kernel_rfl)
@[go_sem] theorem k12_n : k12 b .normal (ee4 x0 x1 x10) S =
  execL (C b) 0 c13 (k15 b) (ee4 x0 x1 x10) S := nr (seqN ((enterS (by kernel_rfl)).trans (enterS (by kernel_rfl))))
@[go_sem] theorem k12_ret : k12 b .ret e S = (k0 b) .ret e S := nr (seqC_r _ _ _ _)
def k63 (b : Nat) : KT := seqC (fun e S => execL (C b) 0 c2 (k0 b) e S) (k0 b)
def c64 : Code := at0 c3
def c65 : Code := at1 c3
def k66 (b : Nat) : KT := seqC (fun e S => execL (C b) 0 c65 (k12 b) e S) (k12 b)
def c67 : Code := atT c65
def c70 : Code := at0 c67
def c71 : Code := at1 c67
def c72 : Code := at0 c71
def c73 : Code := at1 c71
def k74 (b : Nat) : KT := seqC (fun e S => execL (C b) 0 c73 (k12 b) e S) (k12 b)
@[go_sem] theorem k74_n : k74 b .normal (ee5 x4) S =
  (k12 b) .ret (ee5 x4) S := nr (seqN (execL_ret (by kernel_rfl)))
def k75 (b : Nat) : KT := seqC (fun e S => execL (C b) 0 c71 (k12 b) e S) (k12 b)
@[go_sem] theorem g76 : execL (C b) 0 c72 K (ee6 x15) S =
  withV (some (.int .i64 1)) fun x4 =>
    K .normal (ee5 x4) S := nr (by kernel_rfl)
@[go_sem] theorem k75_n : k75 b .normal e S = execL (C b) 0 c72 (k74 b) e S := nr (seqN (enterS (by kernel_rfl)))
@[go_sem] theorem k75_ret : k75 b .ret e S = (k12 b) .ret e S := nr (seqC_r _ _ _ _)
def c77 : Code := at0 c70
def c78 : Code := at1 c70
def k79 (b : Nat) : KT := seqC (fun e S => execL (C b) 0 c78 (k75 b) e S) (k75 b)
def c80 : Code := atT c78
def c83 : Code := at0 c80
def c84 : Code := at1 c80
def k85 (b : Nat) : KT := seqC (fun e S => execL (C b) 0 c84 (k75 b) e S) (k75 b)
@[go_sem] theorem k85_n : k85 b .normal (ee5 x4) S =
  (k75 b) .ret (ee5 x4) S := nr (seqN (execL_ret (by kernel_rfl)))
@[go_sem] theorem g86 : execL (C b) 0 c83 K (ee6 x15) S =
  withV (some (.int .i64 (-1))) fun x4 =>
    K .normal (ee5 x4) S := nr (by kernel_rfl)
@[go_sem] theorem k79_n : k79 b .normal (ee6 x15) S =
  condC x15 (execL (C b) 0 c83 (k85 b) (ee6 x15) S)
    ((k75 b) .normal (ee6 x15) S) := nr (seqN (condE (t := 15) (by kernel_rfl) (enterS (by kernel_rfl)) (execL_skip (by kernel_rfl)) rfl))
@[go_sem] theorem g87 : execL (C b) 0 c77 K (ee4 x0 x1 x10) S =
  withV (some x0) fun x11 =>
    withV (lenO (tyi Try.prog 49) x11) fun x12 =>
    withV (some x1) fun x13 =>
    withV (lenO (tyi Try.prog 49) x13) fun x14 =>
    withV (evBin .lss (tyi Try.prog 3) x12 x14) fun x15 =>
    K .normal (ee6 x15) S := nr (by kernel_rfl)
@[go_sem] theorem k66_n : k66 b .normal (ee4 x0 x1 x10) S =
  condC x10 (execL (C b) 0 c77 (k79 b) (ee4 x0 x1 x10) S)
    ((k12 b) .normal (ee4 x0 x1 x10) S) := nr (seqN (condE (t := 10) (by kernel_rfl) ((enterS (by kernel_rfl)).trans (enterS (by kernel_rfl))) (execL_skip (by kernel_rfl)) rfl))
@[go_sem] theorem g88 : execL (C b) 0 c64 K (ee0 x0 x1) S =
  withV (some x0) fun x6 =>
    withV (lenO (tyi Try.prog 49) x6) fun x7 =>
    withV (some x1) fun x8 =>
    withV (lenO (tyi Try.prog 49) x8) fun x9 =>
    withV (evBin .neq (tyi Try.prog 3) x7 x9) fun x10 =>
    K .normal (ee4 x0 x1 x10) S := nr (by kernel_rfl)
@[go_sem] theorem k63_n : k63 b .normal (ee0 x0 x1) S =
  execL (C b) 0 c64 (k66 b) (ee0 x0 x1) S := nr (seqN ((enterS (by kernel_rfl)).trans (enterS (by kernel_rfl))))
@[go_sem] theorem g89 : execL (C b) 0 c1 K (ee0 x0 x1) S =
  withV (some (.int .i64 0)) fun x4 =>
    K .normal (ee0 x0 x1) S := nr (by kernel_rfl)
def E (b : Nat) (x0 x1 : PV) (S : Store) : RT := execL (C b) 0 code (k0 b) (ee0 x0 x1) S
@[go_sem] theorem E_eq : E b x0 x1 S =
  execL (C b) 0 c1 (k63 b) (ee0 x0 x1) S := nr (enterS (by kernel_rfl))
@[go_sem] theorem k0_ret5 : k0 b .ret (ee5 x4) S = some (x4, S) := nr (by kernel_rfl)
theorem call {x0 x1 : PV} {r : PV × Store} {v : PV} (h : E 0 x0 x1 [] = some r) (hv : fzPV r.2 r.1 = some v) : callL Try.prog hints 71 [x0, x1] = some v := callL_of (fn := Try.f71) (c := code) (by kernel_rfl) (by kernel_rfl) (by decide) (by kernel_rfl) (Nat.le_of_ble_eq_true (by kernel_rfl)) h hv
end
end F71
/-! ### tree.Compare -/
namespace F42
section
variable (b i n n1 : Nat) (K : KT) (x0 x1 x2 x3 x4 x5 x6 x7 x8 x9 x21 x33 x53 x63 x71 x82 x83 x84 x98 : PV) (e : Env) (S : Store)
noncomputable def hint : Hint := { keep := [], loops := [(1, { live := [2, 3, 82, 83], after := [], own := [], fz := [] })], regs := [(0, [2, 3]), (1, [2, 3, 9]), (2, [4]), (3, [2, 3, 21]), (4, [4]), (5, [2, 3, 33]), (6, [4]), (7, [2, 3, 5]), (8, [2, 3, 5, 53]), (9, [4]), (10, [2, 3, 6]), (11, [2, 3, 6, 63]), (12, [4]), (13, [2, 3, 71]), (14, [4]), (15, [2, 3, 82, 83]), (16, [2, 3, 82, 83, 84]), (17, [2, 3, 7, 82, 83]), (18, [2, 3, 8, 82, 83]), (19, [2, 3, 8, 82, 83, 98]), (20, [4]), (21, [2, 3, 82, 83]), (22, [4])] }
noncomputable def C (b : Nat) : Ctx := ctxL Try.prog hints b hint
noncomputable def code : Code := Try.f42.body.get rfl
noncomputable def k0 (b : Nat) : KT := endC Try.prog Try.f42
def ee0 (x2 x3 : PV) : Env := [(2, x2), (3, x3)]
def ee1 (x2 x3 x5 : PV) : Env := [(2, x2), (3, x3), (5, x5)]
def ee2 (x2 x3 x5 x53 : PV) : Env := [(2, x2), (3, x3), (5, x5), (53, x53)]
def ee3 (x2 x3 x6 : PV) : Env := [(2, x2), (3, x3), (6, x6)]
def ee4 (x2 x3 x6 x63 : PV) : Env := [(2, x2), (3, x3), (6, x6), (63, x63)]
def ee5 (x2 x3 x7 x82 x83 : PV) : Env := [(2, x2), (3, x3), (7, x7), (82, x82), (83, x83)]
def ee6 (x2 x3 x8 x82 x83 : PV) : Env := [(2, x2), (3, x3), (8, x8), (82, x82), (83, x83)]
def ee7 (x2 x3 x8 x82 x83 x98 : PV) : Env := [(2, x2), (3, x3), (8, x8), (82, x82), (83, x83), (98, x98)]
def ee8 (x2 x3 x9 : PV) : Env := [(2, x2), (3, x3), (9, x9)]
def ee9 (x2 x3 x21 : PV) : Env := [(2, x2), (3, x3), (21, x21)]
def ee10 (x2 x3 x33 : PV) : Env := [(2, x2), (3, x3), (33, x33)]
def ee11 (x2 x3 x71 : PV) : Env := [(2, x2), (3, x3), (71, x71)]
def ee12 (x2 x3 x82 x83 : PV) : Env := [(2, x2), (3, x3), (82, x82), (83, x83)]
def ee13 (x2 x3 x82 x83 x84 : PV) : Env := [(2, x2), (3, x3), (82, x82), (83, x83), (84, x84)]
def ee14 (x4 : PV) : Env := [(4, x4)]
def c1 : Code := at0 code
def c2 : Code := at1 code
def c3 : Code := at0 c2
def c4 : Code := at1 c2
def c5 : Code := at0 c4
def c6 : Code := at1 c4
def c7 : Code := at0 c6
def c8 : Code := at1 c6
def c9 : Code := at0 c8
def c10 : Code := at1 c8
def c11 : Code := at0 c10
def c12 : Code := at1 c10
def c13 : Code := at0 c12
def c14 : Code := at1 c12
def k15 (b : Nat) : KT := seqC (fun e S => execL (C b) 0 c14 (k0 b) e S) (k0 b)
@[go_sem] theorem k15_n : k15 b .normal (ee14 x4) S =
  (k0 b) .ret (ee14 x4) S := nr (seqN (execL_ret (by kernel_rfl)))
def k16 (b : Nat) : KT := seqC (fun e S => execL (C b) 0 c12 (k0 b) e S) (k0 b)
@[go_sem] theorem g17 : execL (C b) 0 c13 K (ee13 x2 x3 x82 x83 x84) S =
  withV (some (.int .i64 0)) fun x4 =>
    K .normal (ee14 x4) S := nr (by kernel_rfl)
@[go_sem] theorem k16_n : k16 b .normal e S = execL (C b) 0 c13 (k15 b) e S := nr (seqN (enterS (by kernel_rfl)))
@[go_sem] theorem k16_ret : k16 b .ret e S = (k0 b) .ret e S := nr (seqC_r _ _ _ _)
def k18 (b : Nat) : KT := seqC (fun e S => execL (C b) 0 c10 (k0 b) e S) (k0 b)
def c19 : Code := at0 c11
def c20 : Code := at1 c11
def k21 (b : Nat) : KT := seqC (fun e S => execL (C b) 0 c20 (k16 b) e S) (k16 b)
def c22 : Code := atB c20
def k23 (b : Nat) : KT := blockC 1 (k16 b)
@[go_sem] theorem k23_ret : k23 b .ret e S = (k16 b) .ret e S := nr (blockC_r _ _ _ _)
@[go_sem] theorem k23_exit : k23 b (.exit i) e S = if i = 1 then (k16 b) .normal e S else (k16 b) (.exit i) e S := nr (blockC_x _ _ _ _ _)
def c24 : Code := atL c22
def k25 (b n1 : Nat) : KT := afterC 1 n1 [] (k23 b)
def L1g (b n1 : Nat) (e : Env) (S : Store) : RT := loopL (fun K e S => execL (C b) 1 c24 K e S) (normG [2, 3, 82, 83] [] n1) (k25 b n1) e S
def L1 (b n1 : Nat) (x2 x3 x82 x83 : PV) (S : Store) : RT := L1g b n1 (ee12 x2 x3 x82 x83) S
def k26 (b n1 : Nat) : KT := stepC (normG [2, 3, 82, 83] [] n1) (k25 b n1) (L1g b n1)
@[go_sem] theorem k26_n : k26 b n1 .normal (ee12 x2 x3 x82 x83) S = L1 b n1 x2 x3 x82 x83 (gc n1 (ee12 x2 x3 x82 x83) S) := nr (by kernel_rfl)
@[go_sem] theorem k26_ret : k26 b n1 .ret e S = (k23 b) .ret e S := nr ((show k26 b n1 .ret e S = (k25 b n1) .ret e S from stepC_r _ _ _ _ _).trans (afterC_r _ _ _ _ _ _))
@[go_sem] theorem k26_x1 : k26 b n1 (.exit 1) (ee13 x2 x3 x82 x83 x84) S = (k23 b) (.exit 1) (ee13 .undef .undef .undef .undef .undef) (gc n1 (ee13 .undef .undef .undef .undef .undef) S) := nr ((show k26 b n1 (.exit 1) (ee13 x2 x3 x82 x83 x84) S = (k25 b n1) (.exit 1) (ee13 x2 x3 x82 x83 x84) S from stepC_x _ _ _ _ _ _).trans ((show (k25 b n1) (.exit 1) (ee13 x2 x3 x82 x83 x84) S = _ from afterC_x _ _ _ _ _ _ _).trans (if_pos rfl)))
def c27 : Code := at0 c24
def c28 : Code := at1 c24
def c30 : Code := at1 c28
def c31 : Code := at0 c30
def c32 : Code := at1 c30
def k33 (b n1 : Nat) : KT := seqC (fun e S => execL (C b) 1 c32 (k26 b n1) e S) (k26 b n1)
@[go_sem] theorem g34 : execL (C b) 1 c32 K (ee7 x2 x3 x8 x82 x83 x98) S =
  withV (evBin .add (tyi Try.prog 3) x83 (.int .i64 1)) fun x100 =>
    withV (some x100) fun x83 =>
    K .normal (ee12 x2 x3 x82 x83) S := nr (by kernel_rfl)
@[go_sem] theorem k33_n : k33 b n1 .normal e S = execL (C b) 1 c32 (k26 b n1) e S := nr (seqN rfl)
@[go_sem] theorem k33_ret : k33 b n1 .ret e S = (k26 b n1) .ret e S := nr (seqC_r _ _ _ _)
def k35 (b n1 : Nat) : KT := seqC (fun e S => execL (C b) 1 c30 (k26 b n1) e S) (k26 b n1)
def c36 : Code := atB c31
def k37 (b n1 : Nat) : KT := blockC 2 (k33 b n1)
@[go_sem] theorem k37_n : k37 b n1 .normal e S = (k33 b n1) .normal e S := nr (blockC_n _ _ _ _)
@[go_sem] theorem k37_ret : k37 b n1 .ret e S = (k33 b n1) .ret e S := nr (blockC_r _ _ _ _)
def c38 : Code := at0 c36
def c39 : Code := at1 c36
def c40 : Code := at0 c39
def c41 : Code := at1 c39
def c42 : Code := at0 c41
def c43 : Code := at1 c41
def k44 (b n1 : Nat) : KT := seqC (fun e S => execL (C b) 2 c43 (k37 b n1) e S) (k37 b n1)
def c45 : Code := atT c43
def c48 : Code := at0 c45
def c49 : Code := at1 c45
def k50 (b n1 : Nat) : KT := seqC (fun e S => execL (C b) 2 c49 (k37 b n1) e S) (k37 b n1)
@[go_sem] theorem k50_n : k50 b n1 .normal (ee14 x4) S =
  (k37 b n1) .ret (ee14 x4) S := nr (seqN (execL_ret (by kernel_rfl)))
@[go_sem] theorem g51 : execL (C b) 2 c48 K (ee7 x2 x3 x8 x82 x83 x98) S =
  withV (some x8) fun x99 =>
    withV (some x99) fun x4 =>
    K .normal (ee14 x4) S := nr (by kernel_rfl)
@[go_sem] theorem k44_n : k44 b n1 .normal (ee7 x2 x3 x8 x82 x83 x98) S =
  condC x98 (execL (C b) 2 c48 (k50 b n1) (ee7 x2 x3 x8 x82 x83 x98) S)
    ((k37 b n1) .normal (ee7 x2 x3 x8 x82 x83 x98) S) := nr (seqN (condE (t := 98) (by kernel_rfl) (enterS (by kernel_rfl)) (execL_skip (by kernel_rfl)) rfl))
def k52 (b n1 : Nat) : KT := seqC (fun e S => execL (C b) 2 c41 (k37 b n1) e S) (k37 b n1)
@[go_sem] theorem g53 : execL (C b) 2 c42 K (ee6 x2 x3 x8 x82 x83) S =
  withV (some x8) fun x97 =>
    withV (evBin .neq (tyi Try.prog 3) x97 (.int .i64 0)) fun x98 =>
    K .normal (ee7 x2 x3 x8 x82 x83 x98) S := nr (by kernel_rfl)
@[go_sem] theorem k52_n : k52 b n1 .normal e S = execL (C b) 2 c42 (k44 b n1) e S := nr (seqN (enterS (by kernel_rfl)))
def k54 (b n1 : Nat) : KT := seqC (fun e S => execL (C b) 2 c39 (k37 b n1) e S) (k37 b n1)
@[go_sem] theorem g55 : execL (C b) 2 c40 K (ee5 x2 x3 x7 x82 x83) S =
  withV (evFieldAddr (tyi Try.prog 54) 3 x2) fun x86 =>
    withV (evLoad (tyi Try.prog 52) S x86) fun x87 =>
    withV (some x7) fun x88 =>
    withV (indexAddrO Try.prog 52 S x87 x88) fun x89 =>
    withV (evLoad (tyi Try.prog 54) S x89) fun x90 =>
    withV (evFieldAddr (tyi Try.prog 54) 3 x3) fun x91 =>
    withV (evLoad (tyi Try.prog 52) S x91) fun x92 =>
    withV (some x7) fun x93 =>
    withV (indexAddrO Try.prog 52 S x92 x93) fun x94 =>
    withV (evLoad (tyi Try.prog 54) S x94) fun x95 =>
    withN (callO (callL Try.prog hints) S 42 [x90, x95]) S fun x96 S =>
    withV (some x96) fun x8 =>
    K .normal (ee6 x2 x3 x8 x82 x83) S := nr (by kernel_rfl)
@[go_sem] theorem k54_n : k54 b n1 .normal e S = execL (C b) 2 c40 (k52 b n1) e S := nr (seqN (enterS (by kernel_rfl)))
@[go_sem] theorem g56 : execL (C b) 2 c38 K (ee13 x2 x3 x82 x83 x84) S =
  withV (some x83) fun x85 =>
    withV (some x85) fun x7 =>
    K .normal (ee5 x2 x3 x7 x82 x83) S := nr (by kernel_rfl)
@[go_sem] theorem k35_n : k35 b n1 .normal (ee13 x2 x3 x82 x83 x84) S =
  execL (C b) 2 c38 (k54 b n1) (ee13 x2 x3 x82 x83 x84) S := nr (seqN ((enterS (by kernel_rfl)).trans ((blockE (by kernel_rfl)).trans (enterS (by kernel_rfl)))))
@[go_sem] theorem k35_exit : k35 b n1 (.exit i) e S = (k26 b n1) (.exit i) e S := nr (seqC_x _ _ _ _ _)
def k57 (b n1 : Nat) : KT := seqC (fun e S => execL (C b) 1 c28 (k26 b n1) e S) (k26 b n1)
@[go_sem] theorem k57_n : k57 b n1 .normal (ee13 x2 x3 x82 x83 x84) S =
  condC x84 ((k35 b n1) .normal (ee13 x2 x3 x82 x83 x84) S)
    ((k35 b n1) (.exit 1) (ee13 x2 x3 x82 x83 x84) S) := nr (seqN ((enterS (by kernel_rfl)).trans (condE (t := 84) (by kernel_rfl) (execL_skip (by kernel_rfl)) (execL_exit (by kernel_rfl)) rfl)))
@[go_sem] theorem g60 : execL (C b) 1 c27 K (ee12 x2 x3 x82 x83) S =
  withV (evBin .lss (tyi Try.prog 3) x83 x82) fun x84 =>
    K .normal (ee13 x2 x3 x82 x83 x84) S := nr (by kernel_rfl)
def B1 (b n1 : Nat) (x2 x3 x82 x83 : PV) (S : Store) : RT := execL (C b) 1 c24 (k26 b n1) (ee12 x2 x3 x82 x83) S
@[go_sem] theorem B1_eq : B1 b n1 x2 x3 x82 x83 S =
  execL (C b) 1 c27 (k57 b n1) (ee12 x2 x3 x82 x83) S := nr (enterS (by kernel_rfl))
theorem L1_step {b n1 : Nat} {x2 x3 x82 x83 : PV} {S : Store} {z : PV × Store} (h : B1 b n1 x2 x3 x82 x83 S = some z) : L1 b n1 x2 x3 x82 x83 S = some z := loopL_step h
theorem L1_in (b : Nat) (x2 x3 x82 x83 : PV) (S : Store) : execL (C b) 1 c22 (k23 b) (ee12 x2 x3 x82 x83) S = L1 b (List.length S) x2 x3 x82 x83 S := by kernel_rfl
@[go_sem] theorem k21_n : k21 b .normal (ee12 x2 x3 x82 x83) S =
  L1 b (List.length S) x2 x3 x82 x83 S := nr (seqN ((blockE (by kernel_rfl)).trans (L1_in b x2 x3 x82 x83 S)))
@[go_sem] theorem g62 : execL (C b) 0 c19 K (ee11 x2 x3 x71) S =
  withV (evFieldAddr (tyi Try.prog 54) 3 x2) fun x80 =>
    withV (evLoad (tyi Try.prog 52) S x80) fun x81 =>
    withV (lenO (tyi Try.prog 52) x81) fun x82 =>
    withV (some (.int .i64 0)) fun x83 =>
    K .normal (ee12 x2 x3 x82 x83) S := nr (by kernel_rfl)
@[go_sem] theorem k18_n : k18 b .normal (ee11 x2 x3 x71) S =
  execL (C b) 0 c19 (k21 b) (ee11 x2 x3 x71) S := nr (seqN ((enterS (by kernel_rfl)).trans (enterS (by kernel_rfl))))
@[go_sem] theorem k18_ret : k18 b .ret e S = (k0 b) .ret e S := nr (seqC_r _ _ _ _)
def k63 (b : Nat) : KT := seqC (fun e S => execL (C b) 0 c8 (k0 b) e S) (k0 b)
def c64 : Code := at0 c9
def c65 : Code := at1 c9
def k66 (b : Nat) : KT := seqC (fun e S => execL (C b) 0 c65 (k18 b) e S) (k18 b)
def c67 : Code := atT c65
def c70 : Code := at0 c67
def c71 : Code := at1 c67
def k72 (b : Nat) : KT := seqC (fun e S => execL (C b) 0 c71 (k18 b) e S) (k18 b)
@[go_sem] theorem k72_n : k72 b .normal (ee14 x4) S =
  (k18 b) .ret (ee14 x4) S := nr (seqN (execL_ret (by kernel_rfl)))
@[go_sem] theorem g73 : execL (C b) 0 c70 K (ee11 x2 x3 x71) S =
  withV (evFieldAddr (tyi Try.prog 54) 3 x2) fun x72 =>
    withV (evLoad (tyi Try.prog 52) S x72) fun x73 =>
    withV (lenO (tyi Try.prog 52) x73) fun x74 =>
    withV (evFieldAddr (tyi Try.prog 54) 3 x3) fun x75 =>
    withV (evLoad (tyi Try.prog 52) S x75) fun x76 =>
    withV (lenO (tyi Try.prog 52) x76) fun x77 =>
    withV (evBin .lss (tyi Try.prog 3) x74 x77) fun x78 =>
    withN (callO (callL Try.prog hints) S 68 [x78]) S fun x79 S =>
    withV (some x79) fun x4 =>
    K .normal (ee14 x4) S := nr (by kernel_rfl)
@[go_sem] theorem k66_n : k66 b .normal (ee11 x2 x3 x71) S =
  condC x71 (execL (C b) 0 c70 (k72 b) (ee11 x2 x3 x71) S)
    ((k18 b) .normal (ee11 x2 x3 x71) S) := nr (seqN (condE (t := 71) (by kernel_rfl) (enterS (by kernel_rfl)) (execL_skip (by kernel_rfl)) rfl))
@[go_sem] theorem g74 : execL (C b) 0 c64 K (ee4 x2 x3 x6 x63) S =
  withV (evFieldAddr (tyi Try.prog 54) 3 x2) fun x65 =>
    withV (evLoad (tyi Try.prog 52) S x65) fun x66 =>
    withV (lenO (tyi Try.prog 52) x66) fun x67 =>
    withV (evFieldAddr (tyi Try.prog 54) 3 x3) fun x68 =>
    withV (evLoad (tyi Try.prog 52) S x68) fun x69 =>
    withV (lenO (tyi Try.prog 52) x69) fun x70 =>
    withV (evBin .neq (tyi Try.prog 3) x67 x70) fun x71 =>
    K .normal (ee11 x2 x3 x71) S := nr (by kernel_rfl)
@[go_sem] theorem k63_n : k63 b .normal (ee4 x2 x3 x6 x63) S =
  execL (C b) 0 c64 (k66 b) (ee4 x2 x3 x6 x63) S := nr (seqN ((enterS (by kernel_rfl)).trans (enterS (by kernel_rfl))))
@[go_sem] theorem k63_ret : k63 b .ret e S = (k0 b) .ret e S := nr (seqC_r _ _ _ _)
def k75 (b : Nat) : KT := seqC (fun e S => execL (C b) 0 c6 (k0 b) e S) (k0 b)
def c76 : Code := at0 c7
def c77 : Code := at1 c7
def c78 : Code := at0 c77
def c79 : Code := at1 c77
def k80 (b : Nat) : KT := seqC (fun e S => execL (C b) 0 c79 (k63 b) e S) (k63 b)
def c81 : Code := atT c79
def c84 : Code := at0 c81
def c85 : Code := at1 c81
def k86 (b : Nat) : KT := seqC (fun e S => execL (C b) 0 c85 (k63 b) e S) (k63 b)
@[go_sem] theorem k86_n : k86 b .normal (ee14 x4) S =
  (k63 b) .ret (ee14 x4) S := nr (seqN (execL_ret (by kernel_rfl)))
@[go_sem] theorem g87 : execL (C b) 0 c84 K (ee4 x2 x3 x6 x63) S =
  withV (some x6) fun x64 =>
    withV (some x64) fun x4 =>
    K .normal (ee14 x4) S := nr (by kernel_rfl)
@[go_sem] theorem k80_n : k80 b .normal (ee4 x2 x3 x6 x63) S =
  condC x63 (execL (C b) 0 c84 (k86 b) (ee4 x2 x3 x6 x63) S)
    ((k63 b) .normal (ee4 x2 x3 x6 x63) S) := nr (seqN (condE (t := 63) (by kernel_rfl) (enterS (by kernel_rfl)) (execL_skip (by kernel_rfl)) rfl))
def k88 (b : Nat) : KT := seqC (fun e S => execL (C b) 0 c77 (k63 b) e S) (k63 b)
@[go_sem] theorem g89 : execL (C b) 0 c78 K (ee3 x2 x3 x6) S =
  withV (some x6) fun x62 =>
    withV (evBin .neq (tyi Try.prog 3) x62 (.int .i64 0)) fun x63 =>
    K .normal (ee4 x2 x3 x6 x63) S := nr (by kernel_rfl)
@[go_sem] theorem k88_n : k88 b .normal e S = execL (C b) 0 c78 (k80 b) e S := nr (seqN (enterS (by kernel_rfl)))
@[go_sem] theorem g90 : execL (C b) 0 c76 K (ee2 x2 x3 x5 x53) S =
  withV (evFieldAddr (tyi Try.prog 54) 2 x2) fun x55 =>
    withV (evFieldAddr (tyi Try.prog 51) 2 x55) fun x56 =>
    withV (evLoad (tyi Try.prog 49) S x56) fun x57 =>
    withV (evFieldAddr (tyi Try.prog 54) 2 x3) fun x58 =>
    withV (evFieldAddr (tyi Try.prog 51) 2 x58) fun x59 =>
    withV (evLoad (tyi Try.prog 49) S x59) fun x60 =>
    withN (callO (callL Try.prog hints) S 69 [x57, x60]) S fun x61 S =>
    withV (some x61) fun x6 =>
    K .normal (ee3 x2 x3 x6) S := nr (by kernel_rfl)
@[go_sem] theorem k75_n : k75 b .normal (ee2 x2 x3 x5 x53) S =
  execL (C b) 0 c76 (k88 b) (ee2 x2 x3 x5 x53) S := nr (seqN ((enterS (by kernel_rfl)).trans (enterS (by kernel_rfl))))
@[go_sem] theorem k75_ret : k75 b .ret e S = (k0 b) .ret e S := nr (seqC_r _ _ _ _)
def k91 (b : Nat) : KT := seqC (fun e S => execL (C b) 0 c4 (k0 b) e S) (k0 b)
def c92 : Code := at0 c5
def c93 : Code := at1 c5
def c94 : Code := at0 c93
def c95 : Code := at1 c93
def k96 (b : Nat) : KT := seqC (fun e S => execL (C b) 0 c95 (k75 b) e S) (k75 b)
def c97 : Code := atT c95
def c100 : Code := at0 c97
def c101 : Code := at1 c97
def k102 (b : Nat) : KT := seqC (fun e S => execL (C b) 0 c101 (k75 b) e S) (k75 b)
@[go_sem] theorem k102_n : k102 b .normal (ee14 x4) S =
  (k75 b) .ret (ee14 x4) S := nr (seqN (execL_ret (by kernel_rfl)))
@[go_sem] theorem g103 : execL (C b) 0 c100 K (ee2 x2 x3 x5 x53) S =
  withV (some x5) fun x54 =>
    withV (some x54) fun x4 =>
    K .normal (ee14 x4) S := nr (by kernel_rfl)
@[go_sem] theorem k96_n : k96 b .normal (ee2 x2 x3 x5 x53) S =
  condC x53 (execL (C b) 0 c100 (k102 b) (ee2 x2 x3 x5 x53) S)
    ((k75 b) .normal (ee2 x2 x3 x5 x53) S) := nr (seqN (condE (t := 53) (by kernel_rfl) (enterS (by kernel_rfl)) (execL_skip (by kernel_rfl)) rfl))
def k104 (b : Nat) : KT := seqC (fun e S => execL (C b) 0 c93 (k75 b) e S) (k75 b)
@[go_sem] theorem g105 : execL (C b) 0 c94 K (ee1 x2 x3 x5) S =
  withV (some x5) fun x52 =>
    withV (evBin .neq (tyi Try.prog 3) x52 (.int .i64 0)) fun x53 =>
    K .normal (ee2 x2 x3 x5 x53) S := nr (by kernel_rfl)
@[go_sem] theorem k104_n : k104 b .normal e S = execL (C b) 0 c94 (k96 b) e S := nr (seqN (enterS (by kernel_rfl)))
@[go_sem] theorem g106 : execL (C b) 0 c92 K (ee10 x2 x3 x33) S =
  withV (evFieldAddr (tyi Try.prog 54) 2 x2) fun x45 =>
    withV (evFieldAddr (tyi Try.prog 51) 1 x45) fun x46 =>
    withV (evLoad (tyi Try.prog 49) S x46) fun x47 =>
    withV (evFieldAddr (tyi Try.prog 54) 2 x3) fun x48 =>
    withV (evFieldAddr (tyi Try.prog 51) 1 x48) fun x49 =>
    withV (evLoad (tyi Try.prog 49) S x49) fun x50 =>
    withN (callO (callL Try.prog hints) S 69 [x47, x50]) S fun x51 S =>
    withV (some x51) fun x5 =>
    K .normal (ee1 x2 x3 x5) S := nr (by kernel_rfl)
@[go_sem] theorem k91_n : k91 b .normal (ee10 x2 x3 x33) S =
  execL (C b) 0 c92 (k104 b) (ee10 x2 x3 x33) S := nr (seqN ((enterS (by kernel_rfl)).trans (enterS (by kernel_rfl))))
@[go_sem] theorem k91_ret : k91 b .ret e S = (k0 b) .ret e S := nr (seqC_r _ _ _ _)
def k107 (b : Nat) : KT := seqC (fun e S => execL (C b) 0 c2 (k0 b) e S) (k0 b)
def c108 : Code := atB c3
def k109 (b : Nat) : KT := blockC 0 (k91 b)
@[go_sem] theorem k109_n : k109 b .normal e S = (k91 b) .normal e S := nr (blockC_n _ _ _ _)
@[go_sem] theorem k109_ret : k109 b .ret e S = (k91 b) .ret e S := nr (blockC_r _ _ _ _)
def c110 : Code := at0 c108
def c111 : Code := at1 c108
def k112 (b : Nat) : KT := seqC (fun e S => execL (C b) 0 c111 (k109 b) e S) (k109 b)
def c113 : Code := atT c111
def c114 : Code := atF c111
def c116 : Code := at0 c113
def c117 : Code := at1 c113
def k118 (b : Nat) : KT := seqC (fun e S => execL (C b) 0 c117 (k109 b) e S) (k109 b)
@[go_sem] theorem k118_n : k118 b .normal (ee14 x4) S =
  (k109 b) .ret (ee14 x4) S := nr (seqN (execL_ret (by kernel_rfl)))
@[go_sem] theorem g119 : execL (C b) 0 c116 K (ee8 x2 x3 x9) S =
  withV (evFieldAddr (tyi Try.prog 54) 0 x2) fun x15 =>
    withV (evLoad (tyi Try.prog 3) S x15) fun x16 =>
    withV (evFieldAddr (tyi Try.prog 54) 0 x3) fun x17 =>
    withV (evLoad (tyi Try.prog 3) S x17) fun x18 =>
    withV (evBin .lss (tyi Try.prog 3) x16 x18) fun x19 =>
    withN (callO (callL Try.prog hints) S 68 [x19]) S fun x20 S =>
    withV (some x20) fun x4 =>
    K .normal (ee14 x4) S := nr (by kernel_rfl)
def c121 : Code := at0 c114
def c122 : Code := at1 c114
def k123 (b : Nat) : KT := seqC (fun e S => execL (C b) 0 c122 (k109 b) e S) (k109 b)
def c124 : Code := atT c122
def c125 : Code := atF c122
def c127 : Code := at0 c124
def c128 : Code := at1 c124
def k129 (b : Nat) : KT := seqC (fun e S => execL (C b) 0 c128 (k109 b) e S) (k109 b)
@[go_sem] theorem k129_n : k129 b .normal (ee14 x4) S =
  (k109 b) .ret (ee14 x4) S := nr (seqN (execL_ret (by kernel_rfl)))
@[go_sem] theorem g130 : execL (C b) 0 c127 K (ee9 x2 x3 x21) S =
  withV (evFieldAddr (tyi Try.prog 54) 1 x2) fun x27 =>
    withV (evLoad (tyi Try.prog 9) S x27) fun x28 =>
    withV (evFieldAddr (tyi Try.prog 54) 1 x3) fun x29 =>
    withV (evLoad (tyi Try.prog 9) S x29) fun x30 =>
    withV (evBin .lss (tyi Try.prog 9) x28 x30) fun x31 =>
    withN (callO (callL Try.prog hints) S 68 [x31]) S fun x32 S =>
    withV (some x32) fun x4 =>
    K .normal (ee14 x4) S := nr (by kernel_rfl)
def c132 : Code := at0 c125
def c133 : Code := at1 c125
def k134 (b : Nat) : KT := seqC (fun e S => execL (C b) 0 c133 (k109 b) e S) (k109 b)
def c135 : Code := atT c133
def c138 : Code := at0 c135
def c139 : Code := at1 c135
def k140 (b : Nat) : KT := seqC (fun e S => execL (C b) 0 c139 (k109 b) e S) (k109 b)
@[go_sem] theorem k140_n : k140 b .normal (ee14 x4) S =
  (k109 b) .ret (ee14 x4) S := nr (seqN (execL_ret (by kernel_rfl)))
@[go_sem] theorem g141 : execL (C b) 0 c138 K (ee10 x2 x3 x33) S =
  withV (evFieldAddr (tyi Try.prog 54) 2 x3) fun x41 =>
    withV (evFieldAddr (tyi Try.prog 51) 0 x41) fun x42 =>
    withV (evLoad (tyi Try.prog 4) S x42) fun x43 =>
    withN (callO (callL Try.prog hints) S 68 [x43]) S fun x44 S =>
    withV (some x44) fun x4 =>
    K .normal (ee14 x4) S := nr (by kernel_rfl)
@[go_sem] theorem k134_n : k134 b .normal (ee10 x2 x3 x33) S =
  condC x33 (execL (C b) 0 c138 (k140 b) (ee10 x2 x3 x33) S)
    ((k109 b) .normal (ee10 x2 x3 x33) S) := nr (seqN (condE (t := 33) (by kernel_rfl) (enterS (by kernel_rfl)) (execL_skip (by kernel_rfl)) rfl))
@[go_sem] theorem g142 : execL (C b) 0 c132 K (ee9 x2 x3 x21) S =
  withV (evFieldAddr (tyi Try.prog 54) 2 x2) fun x34 =>
    withV (evFieldAddr (tyi Try.prog 51) 0 x34) fun x35 =>
    withV (evLoad (tyi Try.prog 4) S x35) fun x36 =>
    withV (evFieldAddr (tyi Try.prog 54) 2 x3) fun x37 =>
    withV (evFieldAddr (tyi Try.prog 51) 0 x37) fun x38 =>
    withV (evLoad (tyi Try.prog 4) S x38) fun x39 =>
    withV (evBin .neq (tyi Try.prog 4) x36 x39) fun x40 =>
    withV (some x40) fun x33 =>
    K .normal (ee10 x2 x3 x33) S := nr (by kernel_rfl)
@[go_sem] theorem k123_n : k123 b .normal (ee9 x2 x3 x21) S =
  condC x21 (execL (C b) 0 c127 (k129 b) (ee9 x2 x3 x21) S)
    (execL (C b) 0 c132 (k134 b) (ee9 x2 x3 x21) S) := nr (seqN (condE (t := 21) (by kernel_rfl) (enterS (by kernel_rfl)) (enterS (by kernel_rfl)) rfl))
@[go_sem] theorem g143 : execL (C b) 0 c121 K (ee8 x2 x3 x9) S =
  withV (evFieldAddr (tyi Try.prog 54) 1 x2) fun x22 =>
    withV (evLoad (tyi Try.prog 9) S x22) fun x23 =>
    withV (evFieldAddr (tyi Try.prog 54) 1 x3) fun x24 =>
    withV (evLoad (tyi Try.prog 9) S x24) fun x25 =>
    withV (evBin .neq (tyi Try.prog 9) x23 x25) fun x26 =>
    withV (some x26) fun x21 =>
    K .normal (ee9 x2 x3 x21) S := nr (by kernel_rfl)
@[go_sem] theorem k112_n : k112 b .normal (ee8 x2 x3 x9) S =
  condC x9 (execL (C b) 0 c116 (k118 b) (ee8 x2 x3 x9) S)
    (execL (C b) 0 c121 (k123 b) (ee8 x2 x3 x9) S) := nr (seqN (condE (t := 9) (by kernel_rfl) (enterS (by kernel_rfl)) (enterS (by kernel_rfl)) rfl))
@[go_sem] theorem g144 : execL (C b) 0 c110 K (ee0 x2 x3) S =
  withV (evFieldAddr (tyi Try.prog 54) 0 x2) fun x10 =>
    withV (evLoad (tyi Try.prog 3) S x10) fun x11 =>
    withV (evFieldAddr (tyi Try.prog 54) 0 x3) fun x12 =>
    withV (evLoad (tyi Try.prog 3) S x12) fun x13 =>
    withV (evBin .neq (tyi Try.prog 3) x11 x13) fun x14 =>
    withV (some x14) fun x9 =>
    K .normal (ee8 x2 x3 x9) S := nr (by kernel_rfl)
@[go_sem] theorem k107_n : k107 b .normal (ee0 x2 x3) S =
  execL (C b) 0 c110 (k112 b) (ee0 x2 x3) S := nr (seqN ((enterS (by kernel_rfl)).trans ((blockE (by kernel_rfl)).trans (enterS (by kernel_rfl)))))
@[go_sem] theorem g145 : execL (C b) 0 c1 K [(0, x0), (1, x1)] S =
  withN (boxed S (List.length S) (TI.size (tyi Try.prog 54)) x0) S fun x2 S =>
    withN (boxed S (List.length S) (TI.size (tyi Try.prog 54)) x1) S fun x3 S =>
    withV (some (.int .i64 0)) fun x4 =>
    K .normal (ee0 x2 x3) S := nr (by kernel_rfl)
def E (b : Nat) (x0 x1 : PV) (S : Store) : RT := execL (C b) 0 code (k0 b) [(0, x0), (1, x1)] S
@[go_sem] theorem E_eq : E b x0 x1 S =
  execL (C b) 0 c1 (k107 b) [(0, x0), (1, x1)] S := nr (enterS (by kernel_rfl))
@[go_sem] theorem gc_ee12 : gc n (ee12 x2 x3 x82 x83) S = gc n [(2, x2), (3, x3), (82, x82), (83, x83)] S := nr (rfl)
@[go_sem] theorem gc_ee13 : gc n (ee13 x2 x3 x82 x83 x84) S = gc n [(2, x2), (3, x3), (82, x82), (83, x83), (84, x84)] S := nr (rfl)
@[go_sem] theorem k0_ret14 : k0 b .ret (ee14 x4) S = some (x4, S) := nr (by kernel_rfl)
theorem call {x0 x1 : PV} {r : PV × Store} {v : PV} (h : E 0 x0 x1 [] = some r) (hv : fzPV r.2 r.1 = some v) : callL Try.prog hints 42 [x0, x1] = some v := callL_of (fn := Try.f42) (c := code) (by kernel_rfl) (by kernel_rfl) (by decide) (by kernel_rfl) (Nat.le_of_ble_eq_true (by kernel_rfl)) h hv
end
end F42
/-! ### isochroneref08.Compare -/
namespace F46
section
variable (b i n n0 : Nat) (K : KT) (x0 x1 x2 x3 x4 x5 x6 x7 x8 x9 x10 x17 x23 x28 x35 x38 x47 x57 x67 x73 x88 : PV) (e : Env) (S : Store)
noncomputable def hint : Hint := { keep := [], loops := [(0, { live := [2, 3, 9], after := [], own := [], fz := [] })], regs := [(0, [2, 3]), (1, [2, 3, 5]), (2, [2, 3, 5, 17]), (3, [4]), (4, [2, 3, 23]), (5, [28]), (6, [4]), (7, [4]), (8, [2, 3, 35]), (9, [38]), (10, [4]), (11, [4]), (12, [2, 3, 6]), (13, [2, 3, 6, 47]), (14, [4]), (15, [2, 3, 7]), (16, [2, 3, 7, 57]), (17, [4]), (18, [2, 3, 8]), (19, [2, 3, 8, 67]), (20, [4]), (21, [2, 3, 9]), (22, [2, 3, 9, 73]), (23, [2, 3, 9]), (24, [2, 3, 9, 10]), (25, [2, 3, 9, 10, 88]), (26, [4]), (27, [4])] }
noncomputable def C (b : Nat) : Ctx := ctxL Try.prog hints b hint
noncomputable def code : Code := Try.f46.body.get rfl
noncomputable def k0 (b : Nat) : KT := endC Try.prog Try.f46
def ee0 (x2 x3 : PV) : Env := [(2, x2), (3, x3)]
def ee1 (x2 x3 x5 : PV) : Env := [(2, x2), (3, x3), (5, x5)]
def ee2 (x2 x3 x5 x17 : PV) : Env := [(2, x2), (3, x3), (5, x5), (17, x17)]
def ee3 (x2 x3 x6 : PV) : Env := [(2, x2), (3, x3), (6, x6)]
def ee4 (x2 x3 x6 x47 : PV) : Env := [(2, x2), (3, x3), (6, x6), (47, x47)]
def ee5 (x2 x3 x7 : PV) : Env := [(2, x2), (3, x3), (7, x7)]
def ee6 (x2 x3 x7 x57 : PV) : Env := [(2, x2), (3, x3), (7, x7), (57, x57)]
def ee7 (x2 x3 x8 : PV) : Env := [(2, x2), (3, x3), (8, x8)]
def ee8 (x2 x3 x8 x67 : PV) : Env := [(2, x2), (3, x3), (8, x8), (67, x67)]
def ee9 (x2 x3 x9 : PV) : Env := [(2, x2), (3, x3), (9, x9)]
def ee10 (x2 x3 x9 x10 : PV) : Env := [(2, x2), (3, x3), (9, x9), (10, x10)]
def ee11 (x2 x3 x9 x10 x88 : PV) : Env := [(2, x2), (3, x3), (9, x9), (10, x10), (88, x88)]
def ee12 (x2 x3 x9 x73 : PV) : Env := [(2, x2), (3, x3), (9, x9), (73, x73)]
def ee13 (x2 x3 x23 : PV) : Env := [(2, x2), (3, x3), (23, x23)]
def ee14 (x2 x3 x35 : PV) : Env := [(2, x2), (3, x3), (35, x35)]
def ee15 (x4 : PV) : Env := [(4, x4)]
def ee16 (x28 : PV) : Env := [(28, x28)]
def ee17 (x38 : PV) : Env := [(38, x38)]
def c1 : Code := at0 code
def c2 : Code := at1 code
def c3 : Code := at0 c2
def c4 : Code := at1 c2
def c5 : Code := at0 c4
def c6 : Code := at1 c4
def c7 : Code := at0 c6
def c8 : Code := at1 c6
def c9 : Code := at0 c8
def c10 : Code := at1 c8
def c11 : Code := at0 c10
def c12 : Code := at1 c10
def c13 : Code := at0 c12
def c14 : Code := at1 c12
def c15 : Code := at0 c14
def c16 : Code := at1 c14
def c17 : Code := at0 c16
def c18 : Code := at1 c16
def k19 (b : Nat) : KT := seqC (fun e S => execL (C b) 0 c18 (k0 b) e S) (k0 b)
@[go_sem] theorem k19_n : k19 b .normal (ee15 x4) S =
  (k0 b) .ret (ee15 x4) S := nr (seqN (execL_ret (by kernel_rfl)))
def k20 (b : Nat) : KT := seqC (fun e S => execL (C b) 0 c16 (k0 b) e S) (k0 b)
@[go_sem] theorem g21 : execL (C b) 0 c17 K (ee12 x2 x3 x9 x73) S =
  withV (some (.int .i64 0)) fun x4 =>
    K .normal (ee15 x4) S := nr (by kernel_rfl)
@[go_sem] theorem k20_n : k20 b .normal e S = execL (C b) 0 c17 (k19 b) e S := nr (seqN (enterS (by kernel_rfl)))
@[go_sem] theorem k20_ret : k20 b .ret e S = (k0 b) .ret e S := nr (seqC_r _ _ _ _)
def k22 (b : Nat) : KT := seqC (fun e S => execL (C b) 0 c14 (k0 b) e S) (k0 b)
def c23 : Code := at0 c15
def c24 : Code := at1 c15
def k25 (b : Nat) : KT := seqC (fun e S => execL (C b) 0 c24 (k20 b) e S) (k20 b)
def c26 : Code := atB c24
def k27 (b : Nat) : KT := blockC 0 (k20 b)
@[go_sem] theorem k27_ret : k27 b .ret e S = (k20 b) .ret e S := nr (blockC_r _ _ _ _)
@[go_sem] theorem k27_exit : k27 b (.exit i) e S = if i = 0 then (k20 b) .normal e S else (k20 b) (.exit i) e S := nr (blockC_x _ _ _ _ _)
def c28 : Code := atL c26
def k29 (b n0 : Nat) : KT := afterC 0 n0 [] (k27 b)
def L0g (b n0 : Nat) (e : Env) (S : Store) : RT := loopL (fun K e S => execL (C b) 0 c28 K e S) (normG [2, 3, 9] [] n0) (k29 b n0) e S
def L0 (b n0 : Nat) (x2 x3 x9 : PV) (S : Store) : RT := L0g b n0 (ee9 x2 x3 x9) S
def k30 (b n0 : Nat) : KT := stepC (normG [2, 3, 9] [] n0) (k29 b n0) (L0g b n0)
@[go_sem] theorem k30_n : k30 b n0 .normal (ee9 x2 x3 x9) S = L0 b n0 x2 x3 x9 (gc n0 (ee9 x2 x3 x9) S) := nr (by kernel_rfl)
@[go_sem] theorem k30_ret : k30 b n0 .ret e S = (k27 b) .ret e S := nr ((show k30 b n0 .ret e S = (k29 b n0) .ret e S from stepC_r _ _ _ _ _).trans (afterC_r _ _ _ _ _ _))
@[go_sem] theorem k30_x1 : k30 b n0 (.exit 0) (ee12 x2 x3 x9 x73) S = (k27 b) (.exit 0) (ee12 .undef .undef .undef .undef) (gc n0 (ee12 .undef .undef .undef .undef) S) := nr ((show k30 b n0 (.exit 0) (ee12 x2 x3 x9 x73) S = (k29 b n0) (.exit 0) (ee12 x2 x3 x9 x73) S from stepC_x _ _ _ _ _ _).trans ((show (k29 b n0) (.exit 0) (ee12 x2 x3 x9 x73) S = _ from afterC_x _ _ _ _ _ _ _).trans (if_pos rfl)))
def c31 : Code := at0 c28
def c32 : Code := at1 c28
def c33 : Code := at0 c32
def c34 : Code := at1 c32
def k35 (b n0 : Nat) : KT := seqC (fun e S => execL (C b) 0 c34 (k30 b n0) e S) (k30 b n0)
@[go_sem] theorem g36 : execL (C b) 0 c34 K (ee11 x2 x3 x9 x10 x88) S =
  withV (some x9) fun x74 =>
    withV (evBin .add (tyi Try.prog 3) x74 (.int .i64 1)) fun x75 =>
    withV (some x75) fun x9 =>
    K .normal (ee9 x2 x3 x9) S := nr (by kernel_rfl)
@[go_sem] theorem k35_n : k35 b n0 .normal e S = execL (C b) 0 c34 (k30 b n0) e S := nr (seqN rfl)
@[go_sem] theorem k35_ret : k35 b n0 .ret e S = (k30 b n0) .ret e S := nr (seqC_r _ _ _ _)
def k37 (b n0 : Nat) : KT := seqC (fun e S => execL (C b) 0 c32 (k30 b n0) e S) (k30 b n0)
def c38 : Code := atB c33
def k39 (b n0 : Nat) : KT := blockC 1 (k35 b n0)
@[go_sem] theorem k39_n : k39 b n0 .normal e S = (k35 b n0) .normal e S := nr (blockC_n _ _ _ _)
@[go_sem] theorem k39_ret : k39 b n0 .ret e S = (k35 b n0) .ret e S := nr (blockC_r _ _ _ _)
def c40 : Code := at0 c38
def c41 : Code := at1 c38
def c42 : Code := at0 c41
def c43 : Code := at1 c41
def k44 (b n0 : Nat) : KT := seqC (fun e S => execL (C b) 1 c43 (k39 b n0) e S) (k39 b n0)
def c45 : Code := atT c43
def c48 : Code := at0 c45
def c49 : Code := at1 c45
def k50 (b n0 : Nat) : KT := seqC (fun e S => execL (C b) 1 c49 (k39 b n0) e S) (k39 b n0)
@[go_sem] theorem k50_n : k50 b n0 .normal (ee15 x4) S =
  (k39 b n0) .ret (ee15 x4) S := nr (seqN (execL_ret (by kernel_rfl)))
@[go_sem] theorem g51 : execL (C b) 1 c48 K (ee11 x2 x3 x9 x10 x88) S =
  withV (some x10) fun x89 =>
    withV (some x89) fun x4 =>
    K .normal (ee15 x4) S := nr (by kernel_rfl)
@[go_sem] theorem k44_n : k44 b n0 .normal (ee11 x2 x3 x9 x10 x88) S =
  condC x88 (execL (C b) 1 c48 (k50 b n0) (ee11 x2 x3 x9 x10 x88) S)
    ((k39 b n0) .normal (ee11 x2 x3 x9 x10 x88) S) := nr (seqN (condE (t := 88) (by kernel_rfl) (enterS (by kernel_rfl)) (execL_skip (by kernel_rfl)) rfl))
def k52 (b n0 : Nat) : KT := seqC (fun e S => execL (C b) 1 c41 (k39 b n0) e S) (k39 b n0)
@[go_sem] theorem g53 : execL (C b) 1 c42 K (ee10 x2 x3 x9 x10) S =
  withV (some x10) fun x87 =>
    withV (evBin .neq (tyi Try.prog 3) x87 (.int .i64 0)) fun x88 =>
    K .normal (ee11 x2 x3 x9 x10 x88) S := nr (by kernel_rfl)
@[go_sem] theorem k52_n : k52 b n0 .normal e S = execL (C b) 1 c42 (k44 b n0) e S := nr (seqN (enterS (by kernel_rfl)))
@[go_sem] theorem g54 : execL (C b) 1 c40 K (ee12 x2 x3 x9 x73) S =
  withV (evFieldAddr (tyi Try.prog 54) 3 x2) fun x76 =>
    withV (evLoad (tyi Try.prog 52) S x76) fun x77 =>
    withV (some x9) fun x78 =>
    withV (indexAddrO Try.prog 52 S x77 x78) fun x79 =>
    withV (evLoad (tyi Try.prog 54) S x79) fun x80 =>
    withV (evFieldAddr (tyi Try.prog 54) 3 x3) fun x81 =>
    withV (evLoad (tyi Try.prog 52) S x81) fun x82 =>
    withV (some x9) fun x83 =>
    withV (indexAddrO Try.prog 52 S x82 x83) fun x84 =>
    withV (evLoad (tyi Try.prog 54) S x84) fun x85 =>
    withN (callO (callL Try.prog hints) S 46 [x80, x85]) S fun x86 S =>
    withV (some x86) fun x10 =>
    K .normal (ee10 x2 x3 x9 x10) S := nr (by kernel_rfl)
@[go_sem] theorem k37_n : k37 b n0 .normal (ee12 x2 x3 x9 x73) S =
  execL (C b) 1 c40 (k52 b n0) (ee12 x2 x3 x9 x73) S := nr (seqN ((enterS (by kernel_rfl)).trans ((blockE (by kernel_rfl)).trans (enterS (by kernel_rfl)))))
@[go_sem] theorem k37_exit : k37 b n0 (.exit i) e S = (k30 b n0) (.exit i) e S := nr (seqC_x _ _ _ _ _)
def c55 : Code := at0 c31
def c56 : Code := at1 c31
def k57 (b n0 : Nat) : KT := seqC (fun e S => execL (C b) 0 c56 (k37 b n0) e S) (k37 b n0)
@[go_sem] theorem k57_n : k57 b n0 .normal (ee12 x2 x3 x9 x73) S =
  condC x73 ((k37 b n0) .normal (ee12 x2 x3 x9 x73) S)
    ((k37 b n0) (.exit 0) (ee12 x2 x3 x9 x73) S) := nr (seqN (condE (t := 73) (by kernel_rfl) (execL_skip (by kernel_rfl)) (execL_exit (by kernel_rfl)) rfl))
@[go_sem] theorem g60 : execL (C b) 0 c55 K (ee9 x2 x3 x9) S =
  withV (some x9) fun x69 =>
    withV (evFieldAddr (tyi Try.prog 54) 3 x2) fun x70 =>
    withV (evLoad (tyi Try.prog 52) S x70) fun x71 =>
    withV (lenO (tyi Try.prog 52) x71) fun x72 =>
    withV (evBin .lss (tyi Try.prog 3) x69 x72) fun x73 =>
    K .normal (ee12 x2 x3 x9 x73) S := nr (by kernel_rfl)
def B0 (b n0 : Nat) (x2 x3 x9 : PV) (S : Store) : RT := execL (C b) 0 c28 (k30 b n0) (ee9 x2 x3 x9) S
@[go_sem] theorem B0_eq : B0 b n0 x2 x3 x9 S =
  execL (C b) 0 c55 (k57 b n0) (ee9 x2 x3 x9) S := nr ((enterS (by kernel_rfl)).trans (enterS (by kernel_rfl)))
theorem L0_step {b n0 : Nat} {x2 x3 x9 : PV} {S : Store} {z : PV × Store} (h : B0 b n0 x2 x3 x9 S = some z) : L0 b n0 x2 x3 x9 S = some z := loopL_step h
theorem L0_in (b : Nat) (x2 x3 x9 : PV) (S : Store) : execL (C b) 0 c26 (k27 b) (ee9 x2 x3 x9) S = L0 b (List.length S) x2 x3 x9 S := by kernel_rfl
@[go_sem] theorem k25_n : k25 b .normal (ee9 x2 x3 x9) S =
  L0 b (List.length S) x2 x3 x9 S := nr (seqN ((blockE (by kernel_rfl)).trans (L0_in b x2 x3 x9 S)))
@[go_sem] theorem g62 : execL (C b) 0 c23 K (ee8 x2 x3 x8 x67) S =
  withV (some (.int .i64 0)) fun x9 =>
    K .normal (ee9 x2 x3 x9) S := nr (by kernel_rfl)
@[go_sem] theorem k22_n : k22 b .normal (ee8 x2 x3 x8 x67) S =
  execL (C b) 0 c23 (k25 b) (ee8 x2 x3 x8 x67) S := nr (seqN ((enterS (by kernel_rfl)).trans (enterS (by kernel_rfl))))
@[go_sem] theorem k22_ret : k22 b .ret e S = (k0 b) .ret e S := nr (seqC_r _ _ _ _)
def k63 (b : Nat) : KT := seqC (fun e S => execL (C b) 0 c12 (k0 b) e S) (k0 b)
def c64 : Code := at0 c13
def c65 : Code := at1 c13
def c66 : Code := at0 c65
def c67 : Code := at1 c65
def k68 (b : Nat) : KT := seqC (fun e S => execL (C b) 0 c67 (k22 b) e S) (k22 b)
def c69 : Code := atT c67
def c72 : Code := at0 c69
def c73 : Code := at1 c69
def k74 (b : Nat) : KT := seqC (fun e S => execL (C b) 0 c73 (k22 b) e S) (k22 b)
@[go_sem] theorem k74_n : k74 b .normal (ee15 x4) S =
  (k22 b) .ret (ee15 x4) S := nr (seqN (execL_ret (by kernel_rfl)))
@[go_sem] theorem g75 : execL (C b) 0 c72 K (ee8 x2 x3 x8 x67) S =
  withV (some x8) fun x68 =>
    withV (some x68) fun x4 =>
    K .normal (ee15 x4) S := nr (by kernel_rfl)
@[go_sem] theorem k68_n : k68 b .normal (ee8 x2 x3 x8 x67) S =
  condC x67 (execL (C b) 0 c72 (k74 b) (ee8 x2 x3 x8 x67) S)
    ((k22 b) .normal (ee8 x2 x3 x8 x67) S) := nr (seqN (condE (t := 67) (by kernel_rfl) (enterS (by kernel_rfl)) (execL_skip (by kernel_rfl)) rfl))
def k76 (b : Nat) : KT := seqC (fun e S => execL (C b) 0 c65 (k22 b) e S) (k22 b)
@[go_sem] theorem g77 : execL (C b) 0 c66 K (ee7 x2 x3 x8) S =
  withV (some x8) fun x66 =>
    withV (evBin .neq (tyi Try.prog 3) x66 (.int .i64 0)) fun x67 =>
    K .normal (ee8 x2 x3 x8 x67) S := nr (by kernel_rfl)
@[go_sem] theorem k76_n : k76 b .normal e S = execL (C b) 0 c66 (k68 b) e S := nr (seqN (enterS (by kernel_rfl)))
@[go_sem] theorem g78 : execL (C b) 0 c64 K (ee6 x2 x3 x7 x57) S =
  withV (evFieldAddr (tyi Try.prog 54) 3 x2) fun x59 =>
    withV (evLoad (tyi Try.prog 52) S x59) fun x60 =>
    withV (lenO (tyi Try.prog 52) x60) fun x61 =>
    withV (evFieldAddr (tyi Try.prog 54) 3 x3) fun x62 =>
    withV (evLoad (tyi Try.prog 52) S x62) fun x63 =>
    withV (lenO (tyi Try.prog 52) x63) fun x64 =>
    withN (callO (callL Try.prog hints) S 70 [x61, x64]) S fun x65 S =>
    withV (some x65) fun x8 =>
    K .normal (ee7 x2 x3 x8) S := nr (by kernel_rfl)
@[go_sem] theorem k63_n : k63 b .normal (ee6 x2 x3 x7 x57) S =
  execL (C b) 0 c64 (k76 b) (ee6 x2 x3 x7 x57) S := nr (seqN ((enterS (by kernel_rfl)).trans (enterS (by kernel_rfl))))
@[go_sem] theorem k63_ret : k63 b .ret e S = (k0 b) .ret e S := nr (seqC_r _ _ _ _)
def k79 (b : Nat) : KT := seqC (fun e S => execL (C b) 0 c10 (k0 b) e S) (k0 b)
def c80 : Code := at0 c11
def c81 : Code := at1 c11
def c82 : Code := at0 c81
def c83 : Code := at1 c81
def k84 (b : Nat) : KT := seqC (fun e S => execL (C b) 0 c83 (k63 b) e S) (k63 b)
def c85 : Code := atT c83
def c88 : Code := at0 c85
def c89 : Code := at1 c85
def k90 (b : Nat) : KT := seqC (fun e S => execL (C b) 0 c89 (k63 b) e S) (k63 b)
@[go_sem] theorem k90_n : k90 b .normal (ee15 x4) S =
  (k63 b) .ret (ee15 x4) S := nr (seqN (execL_ret (by kernel_rfl)))
@[go_sem] theorem g91 : execL (C b) 0 c88 K (ee6 x2 x3 x7 x57) S =
  withV (some x7) fun x58 =>
    withV (some x58) fun x4 =>
    K .normal (ee15 x4) S := nr (by kernel_rfl)
@[go_sem] theorem k84_n : k84 b .normal (ee6 x2 x3 x7 x57) S =
  condC x57 (execL (C b) 0 c88 (k90 b) (ee6 x2 x3 x7 x57) S)
    ((k63 b) .normal (ee6 x2 x3 x7 x57) S) := nr (seqN (condE (t := 57) (by kernel_rfl) (enterS (by kernel_rfl)) (execL_skip (by kernel_rfl)) rfl))
def k92 (b : Nat) : KT := seqC (fun e S => execL (C b) 0 c81 (k63 b) e S) (k63 b)
@[go_sem] theorem g93 : execL (C b) 0 c82 K (ee5 x2 x3 x7) S =
  withV (some x7) fun x56 =>
    withV (evBin .neq (tyi Try.prog 3) x56 (.int .i64 0)) fun x57 =>
    K .normal (ee6 x2 x3 x7 x57) S := nr (by kernel_rfl)
@[go_sem] theorem k92_n : k92 b .normal e S = execL (C b) 0 c82 (k84 b) e S := nr (seqN (enterS (by kernel_rfl)))
@[go_sem] theorem g94 : execL (C b) 0 c80 K (ee4 x2 x3 x6 x47) S =
  withV (evFieldAddr (tyi Try.prog 54) 2 x2) fun x49 =>
    withV (evFieldAddr (tyi Try.prog 51) 2 x49) fun x50 =>
    withV (evLoad (tyi Try.prog 49) S x50) fun x51 =>
    withV (evFieldAddr (tyi Try.prog 54) 2 x3) fun x52 =>
    withV (evFieldAddr (tyi Try.prog 51) 2 x52) fun x53 =>
    withV (evLoad (tyi Try.prog 49) S x53) fun x54 =>
    withN (callO (callL Try.prog hints) S 71 [x51, x54]) S fun x55 S =>
    withV (some x55) fun x7 =>
    K .normal (ee5 x2 x3 x7) S := nr (by kernel_rfl)
@[go_sem] theorem k79_n : k79 b .normal (ee4 x2 x3 x6 x47) S =
  execL (C b) 0 c80 (k92 b) (ee4 x2 x3 x6 x47) S := nr (seqN ((enterS (by kernel_rfl)).trans (enterS (by kernel_rfl))))
@[go_sem] theorem k79_ret : k79 b .ret e S = (k0 b) .ret e S := nr (seqC_r _ _ _ _)
def k95 (b : Nat) : KT := seqC (fun e S => execL (C b) 0 c8 (k0 b) e S) (k0 b)
def c96 : Code := at0 c9
def c97 : Code := at1 c9
def c98 : Code := at0 c97
def c99 : Code := at1 c97
def k100 (b : Nat) : KT := seqC (fun e S => execL (C b) 0 c99 (k79 b) e S) (k79 b)
def c101 : Code := atT c99
def c104 : Code := at0 c101
def c105 : Code := at1 c101
def k106 (b : Nat) : KT := seqC (fun e S => execL (C b) 0 c105 (k79 b) e S) (k79 b)
@[go_sem] theorem k106_n : k106 b .normal (ee15 x4) S =
  (k79 b) .ret (ee15 x4) S := nr (seqN (execL_ret (by kernel_rfl)))
@[go_sem] theorem g107 : execL (C b) 0 c104 K (ee4 x2 x3 x6 x47) S =
  withV (some x6) fun x48 =>
    withV (some x48) fun x4 =>
    K .normal (ee15 x4) S := nr (by kernel_rfl)
@[go_sem] theorem k100_n : k100 b .normal (ee4 x2 x3 x6 x47) S =
  condC x47 (execL (C b) 0 c104 (k106 b) (ee4 x2 x3 x6 x47) S)
    ((k79 b) .normal (ee4 x2 x3 x6 x47) S) := nr (seqN (condE (t := 47) (by kernel_rfl) (enterS (by kernel_rfl)) (execL_skip (by kernel_rfl)) rfl))
def k108 (b : Nat) : KT := seqC (fun e S => execL (C b) 0 c97 (k79 b) e S) (k79 b)
@[go_sem] theorem g109 : execL (C b) 0 c98 K (ee3 x2 x3 x6) S =
  withV (some x6) fun x46 =>
    withV (evBin .neq (tyi Try.prog 3) x46 (.int .i64 0)) fun x47 =>
    K .normal (ee4 x2 x3 x6 x47) S := nr (by kernel_rfl)
@[go_sem] theorem k108_n : k108 b .normal e S = execL (C b) 0 c98 (k100 b) e S := nr (seqN (enterS (by kernel_rfl)))
@[go_sem] theorem g110 : execL (C b) 0 c96 K (ee14 x2 x3 x35) S =
  withV (evFieldAddr (tyi Try.prog 54) 2 x2) fun x39 =>
    withV (evFieldAddr (tyi Try.prog 51) 1 x39) fun x40 =>
    withV (evLoad (tyi Try.prog 49) S x40) fun x41 =>
    withV (evFieldAddr (tyi Try.prog 54) 2 x3) fun x42 =>
    withV (evFieldAddr (tyi Try.prog 51) 1 x42) fun x43 =>
    withV (evLoad (tyi Try.prog 49) S x43) fun x44 =>
    withN (callO (callL Try.prog hints) S 71 [x41, x44]) S fun x45 S =>
    withV (some x45) fun x6 =>
    K .normal (ee3 x2 x3 x6) S := nr (by kernel_rfl)
@[go_sem] theorem k95_n : k95 b .normal (ee14 x2 x3 x35) S =
  execL (C b) 0 c96 (k108 b) (ee14 x2 x3 x35) S := nr (seqN ((enterS (by kernel_rfl)).trans (enterS (by kernel_rfl))))
@[go_sem] theorem k95_ret : k95 b .ret e S = (k0 b) .ret e S := nr (seqC_r _ _ _ _)
def k111 (b : Nat) : KT := seqC (fun e S => execL (C b) 0 c6 (k0 b) e S) (k0 b)
def c112 : Code := at0 c7
def c113 : Code := at1 c7
def k114 (b : Nat) : KT := seqC (fun e S => execL (C b) 0 c113 (k95 b) e S) (k95 b)
def c115 : Code := atT c113
def c118 : Code := at0 c115
def c119 : Code := at1 c115
def c120 : Code := at0 c119
def c121 : Code := at1 c119
def k122 (b : Nat) : KT := seqC (fun e S => execL (C b) 0 c121 (k95 b) e S) (k95 b)
@[go_sem] theorem k122_n : k122 b .normal (ee15 x4) S =
  (k95 b) .ret (ee15 x4) S := nr (seqN (execL_ret (by kernel_rfl)))
def k123 (b : Nat) : KT := seqC (fun e S => execL (C b) 0 c119 (k95 b) e S) (k95 b)
@[go_sem] theorem g124 : execL (C b) 0 c120 K (ee17 x38) S =
  withV (some (.int .i64 1)) fun x4 =>
    K .normal (ee15 x4) S := nr (by kernel_rfl)
@[go_sem] theorem k123_n : k123 b .normal e S = execL (C b) 0 c120 (k122 b) e S := nr (seqN (enterS (by kernel_rfl)))
@[go_sem] theorem k123_ret : k123 b .ret e S = (k95 b) .ret e S := nr (seqC_r _ _ _ _)
def c125 : Code := at0 c118
def c126 : Code := at1 c118
def k127 (b : Nat) : KT := seqC (fun e S => execL (C b) 0 c126 (k123 b) e S) (k123 b)
def c128 : Code := atT c126
def c131 : Code := at0 c128
def c132 : Code := at1 c128
def k133 (b : Nat) : KT := seqC (fun e S => execL (C b) 0 c132 (k123 b) e S) (k123 b)
@[go_sem] theorem k133_n : k133 b .normal (ee15 x4) S =
  (k123 b) .ret (ee15 x4) S := nr (seqN (execL_ret (by kernel_rfl)))
@[go_sem] theorem g134 : execL (C b) 0 c131 K (ee17 x38) S =
  withV (some (.int .i64 (-1))) fun x4 =>
    K .normal (ee15 x4) S := nr (by kernel_rfl)
@[go_sem] theorem k127_n : k127 b .normal (ee17 x38) S =
  condC x38 (execL (C b) 0 c131 (k133 b) (ee17 x38) S)
    ((k123 b) .normal (ee17 x38) S) := nr (seqN (condE (t := 38) (by kernel_rfl) (enterS (by kernel_rfl)) (execL_skip (by kernel_rfl)) rfl))
@[go_sem] theorem g135 : execL (C b) 0 c125 K (ee14 x2 x3 x35) S =
  withV (evFieldAddr (tyi Try.prog 54) 2 x3) fun x36 =>
    withV (evFieldAddr (tyi Try.prog 51) 0 x36) fun x37 =>
    withV (evLoad (tyi Try.prog 4) S x37) fun x38 =>
    K .normal (ee17 x38) S := nr (by kernel_rfl)
@[go_sem] theorem k114_n : k114 b .normal (ee14 x2 x3 x35) S =
  condC x35 (execL (C b) 0 c125 (k127 b) (ee14 x2 x3 x35) S)
    ((k95 b) .normal (ee14 x2 x3 x35) S) := nr (seqN (condE (t := 35) (by kernel_rfl) ((enterS (by kernel_rfl)).trans (enterS (by kernel_rfl))) (execL_skip (by kernel_rfl)) rfl))
@[go_sem] theorem g136 : execL (C b) 0 c112 K (ee13 x2 x3 x23) S =
  withV (evFieldAddr (tyi Try.prog 54) 2 x2) fun x29 =>
    withV (evFieldAddr (tyi Try.prog 51) 0 x29) fun x30 =>
    withV (evLoad (tyi Try.prog 4) S x30) fun x31 =>
    withV (evFieldAddr (tyi Try.prog 54) 2 x3) fun x32 =>
    withV (evFieldAddr (tyi Try.prog 51) 0 x32) fun x33 =>
    withV (evLoad (tyi Try.prog 4) S x33) fun x34 =>
    withV (evBin .neq (tyi Try.prog 4) x31 x34) fun x35 =>
    K .normal (ee14 x2 x3 x35) S := nr (by kernel_rfl)
@[go_sem] theorem k111_n : k111 b .normal (ee13 x2 x3 x23) S =
  execL (C b) 0 c112 (k114 b) (ee13 x2 x3 x23) S := nr (seqN ((enterS (by kernel_rfl)).trans (enterS (by kernel_rfl))))
@[go_sem] theorem k111_ret : k111 b .ret e S = (k0 b) .ret e S := nr (seqC_r _ _ _ _)
def k137 (b : Nat) : KT := seqC (fun e S => execL (C b) 0 c4 (k0 b) e S) (k0 b)
def c138 : Code := at0 c5
def c139 : Code := at1 c5
def k140 (b : Nat) : KT := seqC (fun e S => execL (C b) 0 c139 (k111 b) e S) (k111 b)
def c141 : Code := atT c139
def c144 : Code := at0 c141
def c145 : Code := at1 c141
def c146 : Code := at0 c145
def c147 : Code := at1 c145
def k148 (b : Nat) : KT := seqC (fun e S => execL (C b) 0 c147 (k111 b) e S) (k111 b)
@[go_sem] theorem k148_n : k148 b .normal (ee15 x4) S =
  (k111 b) .ret (ee15 x4) S := nr (seqN (execL_ret (by kernel_rfl)))
def k149 (b : Nat) : KT := seqC (fun e S => execL (C b) 0 c145 (k111 b) e S) (k111 b)
@[go_sem] theorem g150 : execL (C b) 0 c146 K (ee16 x28) S =
  withV (some (.int .i64 1)) fun x4 =>
    K .normal (ee15 x4) S := nr (by kernel_rfl)
@[go_sem] theorem k149_n : k149 b .normal e S = execL (C b) 0 c146 (k148 b) e S := nr (seqN (enterS (by kernel_rfl)))
@[go_sem] theorem k149_ret : k149 b .ret e S = (k111 b) .ret e S := nr (seqC_r _ _ _ _)
def c151 : Code := at0 c144
def c152 : Code := at1 c144
def k153 (b : Nat) : KT := seqC (fun e S => execL (C b) 0 c152 (k149 b) e S) (k149 b)
def c154 : Code := atT c152
def c157 : Code := at0 c154
def c158 : Code := at1 c154
def k159 (b : Nat) : KT := seqC (fun e S => execL (C b) 0 c158 (k149 b) e S) (k149 b)
@[go_sem] theorem k159_n : k159 b .normal (ee15 x4) S =
  (k149 b) .ret (ee15 x4) S := nr (seqN (execL_ret (by kernel_rfl)))
@[go_sem] theorem g160 : execL (C b) 0 c157 K (ee16 x28) S =
  withV (some (.int .i64 (-1))) fun x4 =>
    K .normal (ee15 x4) S := nr (by kernel_rfl)
@[go_sem] theorem k153_n : k153 b .normal (ee16 x28) S =
  condC x28 (execL (C b) 0 c157 (k159 b) (ee16 x28) S)
    ((k149 b) .normal (ee16 x28) S) := nr (seqN (condE (t := 28) (by kernel_rfl) (enterS (by kernel_rfl)) (execL_skip (by kernel_rfl)) rfl))
@[go_sem] theorem g161 : execL (C b) 0 c151 K (ee13 x2 x3 x23) S =
  withV (evFieldAddr (tyi Try.prog 54) 1 x2) fun x24 =>
    withV (evLoad (tyi Try.prog 9) S x24) fun x25 =>
    withV (evFieldAddr (tyi Try.prog 54) 1 x3) fun x26 =>
    withV (evLoad (tyi Try.prog 9) S x26) fun x27 =>
    withV (evBin .lss (tyi Try.prog 9) x25 x27) fun x28 =>
    K .normal (ee16 x28) S := nr (by kernel_rfl)
@[go_sem] theorem k140_n : k140 b .normal (ee13 x2 x3 x23) S =
  condC x23 (execL (C b) 0 c151 (k153 b) (ee13 x2 x3 x23) S)
    ((k111 b) .normal (ee13 x2 x3 x23) S) := nr (seqN (condE (t := 23) (by kernel_rfl) ((enterS (by kernel_rfl)).trans (enterS (by kernel_rfl))) (execL_skip (by kernel_rfl)) rfl))
@[go_sem] theorem g162 : execL (C b) 0 c138 K (ee2 x2 x3 x5 x17) S =
  withV (evFieldAddr (tyi Try.prog 54) 1 x2) fun x19 =>
    withV (evLoad (tyi Try.prog 9) S x19) fun x20 =>
    withV (evFieldAddr (tyi Try.prog 54) 1 x3) fun x21 =>
    withV (evLoad (tyi Try.prog 9) S x21) fun x22 =>
    withV (evBin .neq (tyi Try.prog 9) x20 x22) fun x23 =>
    K .normal (ee13 x2 x3 x23) S := nr (by kernel_rfl)
@[go_sem] theorem k137_n : k137 b .normal (ee2 x2 x3 x5 x17) S =
  execL (C b) 0 c138 (k140 b) (ee2 x2 x3 x5 x17) S := nr (seqN ((enterS (by kernel_rfl)).trans (enterS (by kernel_rfl))))
@[go_sem] theorem k137_ret : k137 b .ret e S = (k0 b) .ret e S := nr (seqC_r _ _ _ _)
def k163 (b : Nat) : KT := seqC (fun e S => execL (C b) 0 c2 (k0 b) e S) (k0 b)
def c164 : Code := at0 c3
def c165 : Code := at1 c3
def c166 : Code := at0 c165
def c167 : Code := at1 c165
def k168 (b : Nat) : KT := seqC (fun e S => execL (C b) 0 c167 (k137 b) e S) (k137 b)
def c169 : Code := atT c167
def c172 : Code := at0 c169
def c173 : Code := at1 c169
def k174 (b : Nat) : KT := seqC (fun e S => execL (C b) 0 c173 (k137 b) e S) (k137 b)
@[go_sem] theorem k174_n : k174 b .normal (ee15 x4) S =
  (k137 b) .ret (ee15 x4) S := nr (seqN (execL_ret (by kernel_rfl)))
@[go_sem] theorem g175 : execL (C b) 0 c172 K (ee2 x2 x3 x5 x17) S =
  withV (some x5) fun x18 =>
    withV (some x18) fun x4 =>
    K .normal (ee15 x4) S := nr (by kernel_rfl)
@[go_sem] theorem k168_n : k168 b .normal (ee2 x2 x3 x5 x17) S =
  condC x17 (execL (C b) 0 c172 (k174 b) (ee2 x2 x3 x5 x17) S)
    ((k137 b) .normal (ee2 x2 x3 x5 x17) S) := nr (seqN (condE (t := 17) (by kernel_rfl) (enterS (by kernel_rfl)) (execL_skip (by kernel_rfl)) rfl))
def k176 (b : Nat) : KT := seqC (fun e S => execL (C b) 0 c165 (k137 b) e S) (k137 b)
@[go_sem] theorem g177 : execL (C b) 0 c166 K (ee1 x2 x3 x5) S =
  withV (some x5) fun x16 =>
    withV (evBin .neq (tyi Try.prog 3) x16 (.int .i64 0)) fun x17 =>
    K .normal (ee2 x2 x3 x5 x17) S := nr (by kernel_rfl)
@[go_sem] theorem k176_n : k176 b .normal e S = execL (C b) 0 c166 (k168 b) e S := nr (seqN (enterS (by kernel_rfl)))
@[go_sem] theorem g178 : execL (C b) 0 c164 K (ee0 x2 x3) S =
  withV (evFieldAddr (tyi Try.prog 54) 0 x2) fun x11 =>
    withV (evLoad (tyi Try.prog 3) S x11) fun x12 =>
    withV (evFieldAddr (tyi Try.prog 54) 0 x3) fun x13 =>
    withV (evLoad (tyi Try.prog 3) S x13) fun x14 =>
    withN (callO (callL Try.prog hints) S 70 [x12, x14]) S fun x15 S =>
    withV (some x15) fun x5 =>
    K .normal (ee1 x2 x3 x5) S := nr (by kernel_rfl)
@[go_sem] theorem k163_n : k163 b .normal (ee0 x2 x3) S =
  execL (C b) 0 c164 (k176 b) (ee0 x2 x3) S := nr (seqN ((enterS (by kernel_rfl)).trans (enterS (by kernel_rfl))))
@[go_sem] theorem g179 : execL (C b) 0 c1 K [(0, x0), (1, x1)] S =
  withN (boxed S (List.length S) (TI.size (tyi Try.prog 54)) x0) S fun x2 S =>
    withN (boxed S (List.length S) (TI.size (tyi Try.prog 54)) x1) S fun x3 S =>
    withV (some (.int .i64 0)) fun x4 =>
    K .normal (ee0 x2 x3) S := nr (by kernel_rfl)
def E (b : Nat) (x0 x1 : PV) (S : Store) : RT := execL (C b) 0 code (k0 b) [(0, x0), (1, x1)] S
@[go_sem] theorem E_eq : E b x0 x1 S =
  execL (C b) 0 c1 (k163 b) [(0, x0), (1, x1)] S := nr (enterS (by kernel_rfl))
@[go_sem] theorem gc_ee9 : gc n (ee9 x2 x3 x9) S = gc n [(2, x2), (3, x3), (9, x9)] S := nr (rfl)
@[go_sem] theorem gc_ee12 : gc n (ee12 x2 x3 x9 x73) S = gc n [(2, x2), (3, x3), (9, x9), (73, x73)] S := nr (rfl)
@[go_sem] theorem k0_ret15 : k0 b .ret (ee15 x4) S = some (x4, S) := nr (by kernel_rfl)
theorem call {x0 x1 : PV} {r : PV × Store} {v : PV} (h : E 0 x0 x1 [] = some r) (hv : fzPV r.2 r.1 = some v) : callL Try.prog hints 46 [x0, x1] = some v := callL_of (fn := Try.f46) (c := code) (by kernel_rfl) (by kernel_rfl) (by decide) (by kernel_rfl) (Nat.le_of_ble_eq_true (by kernel_rfl)) h hv
end
end F46
/-! ### tree.Equal -/
namespace F47
section
variable (b : Nat) (K : KT) (x0 x1 x2 x3 x4 : PV) (e : Env) (S : Store)
noncomputable def hint : Hint := { keep := [], loops := [], regs := [(0, [2, 3]), (1, [4])] }
noncomputable def C (b : Nat) : Ctx := ctxL Try.prog hints b hint
noncomputable def code : Code := Try.f47.body.get rfl
noncomputable def k0 (b : Nat) : KT := endC Try.prog Try.f47
def ee0 (x2 x3 : PV) : Env := [(2, x2), (3, x3)]
def ee1 (x4 : PV) : Env := [(4, x4)]
def c1 : Code := at0 code
def c2 : Code := at1 code
def c3 : Code := at0 c2
def c4 : Code := at1 c2
def k5 (b : Nat) : KT := seqC (fun e S => execL (C b) 0 c4 (k0 b) e S) (k0 b)
@[go_sem] theorem k5_n : k5 b .normal (ee1 x4) S =
  (k0 b) .ret (ee1 x4) S := nr (seqN (execL_ret (by kernel_rfl)))
def k6 (b : Nat) : KT := seqC (fun e S => execL (C b) 0 c2 (k0 b) e S) (k0 b)
@[go_sem] theorem g7 : execL (C b) 0 c3 K (ee0 x2 x3) S =
  withV (evLoad (tyi Try.prog 54) S x2) fun x5 =>
    withV (evLoad (tyi Try.prog 54) S x3) fun x6 =>
    withN (callO (callL Try.prog hints) S 42 [x5, x6]) S fun x7 S =>
    withV (evBin .eql (tyi Try.prog 3) x7 (.int .i64 0)) fun x8 =>
    withV (some x8) fun x4 =>
    K .normal (ee1 x4) S := nr (by kernel_rfl)
@[go_sem] theorem k6_n : k6 b .normal e S = execL (C b) 0 c3 (k5 b) e S := nr (seqN (enterS (by kernel_rfl)))
@[go_sem] theorem g8 : execL (C b) 0 c1 K [(0, x0), (1, x1)] S =
  withN (boxed S (List.length S) (TI.size (tyi Try.prog 54)) x0) S fun x2 S =>
    withN (boxed S (List.length S) (TI.size (tyi Try.prog 54)) x1) S fun x3 S =>
    withV (some (.bool false)) fun x4 =>
    K .normal (ee0 x2 x3) S := nr (by kernel_rfl)
def E (b : Nat) (x0 x1 : PV) (S : Store) : RT := execL (C b) 0 code (k0 b) [(0, x0), (1, x1)] S
@[go_sem] theorem E_eq : E b x0 x1 S =
  execL (C b) 0 c1 (k6 b) [(0, x0), (1, x1)] S := nr (enterS (by kernel_rfl))
@[go_sem] theorem k0_ret1 : k0 b .ret (ee1 x4) S = some (x4, S) := nr (by kernel_rfl)
theorem call {x0 x1 : PV} {r : PV × Store} {v : PV} (h : E 0 x0 x1 [] = some r) (hv : fzPV r.2 r.1 = some v) : callL Try.prog hints 47 [x0, x1] = some v := callL_of (fn := Try.f47) (c := code) (by kernel_rfl) (by kernel_rfl) (by decide) (by kernel_rfl) (Nat.le_of_ble_eq_true (by kernel_rfl)) h hv
end
end F47
end
end Go.Vs
