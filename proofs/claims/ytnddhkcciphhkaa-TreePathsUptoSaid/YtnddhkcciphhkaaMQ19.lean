/- Printed by a program of mine (stage1.py): the functions 87, 88, 90, 91, 92, 95, piece by piece. -/

import Derived.Test.YtnddhkcciphhkaaMQ9
set_option linter.unusedVariables false
set_option linter.unusedSimpArgs false
namespace Go.Vs
open Go Go.Proofs
noncomputable section

/-! ### isochroneref08.named -/
namespace F87
section
variable (b : Nat) (K : KT) (x0 x2 x3 x4 : PV) (e : Env) (S : Store)
noncomputable def hint : Hint := { keep := [], loops := [], regs := [(0, [0]), (1, [3]), (2, [3, 4]), (3, [3, 4]), (4, [3, 4]), (5, [3, 4]), (6, [3, 4]), (7, [3, 4]), (8, [3, 4]), (9, [3, 4]), (10, [3, 4]), (11, [3, 4]), (12, [3, 4]), (13, [3, 4]), (14, [3, 4]), (15, [3, 4]), (16, [3, 4]), (17, [2]), (18, [2])] }
noncomputable def C (b : Nat) : Ctx := ctxL Try.prog hints b hint
noncomputable def code : Code := Try.f87.body.get rfl
noncomputable def k0 (b : Nat) : KT := endC Try.prog Try.f87
def ee0 (x0 : PV) : Env := [(0, x0)]
def ee1 (x2 : PV) : Env := [(2, x2)]
def ee2 (x3 : PV) : Env := [(3, x3)]
def ee3 (x3 x4 : PV) : Env := [(3, x3), (4, x4)]
def c1 : Code := at0 code
def c2 : Code := at1 code
def c3 : Code := at0 c2
def c4 : Code := at1 c2
def c5 : Code := at0 c4
def c6 : Code := at1 c4
def k7 (b : Nat) : KT := seqC (fun e S => execL (C b) 0 c6 (k0 b) e S) (k0 b)
@[go_sem] theorem k7_n : k7 b .normal (ee1 x2) S =
  (k0 b) .ret (ee1 x2) S := nr (seqN (execL_ret (by kernel_rfl)))
def k8 (b : Nat) : KT := seqC (fun e S => execL (C b) 0 c4 (k0 b) e S) (k0 b)
@[go_sem] theorem g9 : execL (C b) 0 c5 K (ee3 x3 x4) S =
  withV (some (.bool false)) fun x2 =>
    K .normal (ee1 x2) S := nr (by kernel_rfl)
@[go_sem] theorem k8_n : k8 b .normal e S = execL (C b) 0 c5 (k7 b) e S := nr (seqN (enterS (by kernel_rfl)))
@[go_sem] theorem k8_ret : k8 b .ret e S = (k0 b) .ret e S := nr (seqC_r _ _ _ _)
def k10 (b : Nat) : KT := seqC (fun e S => execL (C b) 0 c2 (k0 b) e S) (k0 b)
def c11 : Code := at0 c3
def c12 : Code := at1 c3
def k13 (b : Nat) : KT := seqC (fun e S => execL (C b) 0 c12 (k8 b) e S) (k8 b)
def c14 : Code := atB c12
def k15 (b : Nat) : KT := blockC 0 (k8 b)
@[go_sem] theorem k15_n : k15 b .normal e S = (k8 b) .normal e S := nr (blockC_n _ _ _ _)
@[go_sem] theorem k15_ret : k15 b .ret e S = (k8 b) .ret e S := nr (blockC_r _ _ _ _)
def c16 : Code := at0 c14
def c17 : Code := at1 c14
def k18 (b : Nat) : KT := seqC (fun e S => execL (C b) 0 c17 (k15 b) e S) (k15 b)
def c19 : Code := atT c17
def c22 : Code := at0 c19
def c23 : Code := at1 c19
def k24 (b : Nat) : KT := seqC (fun e S => execL (C b) 0 c23 (k15 b) e S) (k15 b)
@[go_sem] theorem k24_n : k24 b .normal (ee1 x2) S =
  (k15 b) .ret (ee1 x2) S := nr (seqN (execL_ret (by kernel_rfl)))
@[go_sem] theorem g25 : execL (C b) 0 c22 K (ee3 x3 x4) S =
  withV (some (.bool true)) fun x2 =>
    K .normal (ee1 x2) S := nr (by kernel_rfl)
@[go_sem] theorem k18_n : k18 b .normal (ee3 x3 x4) S =
  condC x4 (execL (C b) 0 c22 (k24 b) (ee3 x3 x4) S)
    ((k15 b) .normal (ee3 x3 x4) S) := nr (seqN (condE (t := 4) (by kernel_rfl) (enterS (by kernel_rfl)) (execL_skip (by kernel_rfl)) rfl))
def c26 : Code := at0 c16
def c27 : Code := at1 c16
def k28 (b : Nat) : KT := seqC (fun e S => execL (C b) 0 c27 (k18 b) e S) (k18 b)
def c30 : Code := atF c27
def c32 : Code := at0 c30
def c33 : Code := at1 c30
def k34 (b : Nat) : KT := seqC (fun e S => execL (C b) 0 c33 (k18 b) e S) (k18 b)
def c36 : Code := atF c33
def c38 : Code := at0 c36
def c39 : Code := at1 c36
def k40 (b : Nat) : KT := seqC (fun e S => execL (C b) 0 c39 (k18 b) e S) (k18 b)
def c42 : Code := atF c39
def c44 : Code := at0 c42
def c45 : Code := at1 c42
def k46 (b : Nat) : KT := seqC (fun e S => execL (C b) 0 c45 (k18 b) e S) (k18 b)
def c48 : Code := atF c45
def c50 : Code := at0 c48
def c51 : Code := at1 c48
def k52 (b : Nat) : KT := seqC (fun e S => execL (C b) 0 c51 (k18 b) e S) (k18 b)
def c54 : Code := atF c51
def c56 : Code := at0 c54
def c57 : Code := at1 c54
def k58 (b : Nat) : KT := seqC (fun e S => execL (C b) 0 c57 (k18 b) e S) (k18 b)
def c60 : Code := atF c57
def c62 : Code := at0 c60
def c63 : Code := at1 c60
def k64 (b : Nat) : KT := seqC (fun e S => execL (C b) 0 c63 (k18 b) e S) (k18 b)
def c66 : Code := atF c63
def c68 : Code := at0 c66
def c69 : Code := at1 c66
def k70 (b : Nat) : KT := seqC (fun e S => execL (C b) 0 c69 (k18 b) e S) (k18 b)
def c72 : Code := atF c69
def c74 : Code := at0 c72
def c75 : Code := at1 c72
def k76 (b : Nat) : KT := seqC (fun e S => execL (C b) 0 c75 (k18 b) e S) (k18 b)
def c78 : Code := atF c75
def c80 : Code := at0 c78
def c81 : Code := at1 c78
def k82 (b : Nat) : KT := seqC (fun e S => execL (C b) 0 c81 (k18 b) e S) (k18 b)
def c84 : Code := atF c81
def c86 : Code := at0 c84
def c87 : Code := at1 c84
def k88 (b : Nat) : KT := seqC (fun e S => execL (C b) 0 c87 (k18 b) e S) (k18 b)
def c90 : Code := atF c87
def c92 : Code := at0 c90
def c93 : Code := at1 c90
def k94 (b : Nat) : KT := seqC (fun e S => execL (C b) 0 c93 (k18 b) e S) (k18 b)
def c96 : Code := atF c93
def c98 : Code := at0 c96
def c99 : Code := at1 c96
def k100 (b : Nat) : KT := seqC (fun e S => execL (C b) 0 c99 (k18 b) e S) (k18 b)
def c102 : Code := atF c99
def c104 : Code := at0 c102
def c105 : Code := at1 c102
def k106 (b : Nat) : KT := seqC (fun e S => execL (C b) 0 c105 (k18 b) e S) (k18 b)
def c108 : Code := atF c105
@[go_sem] theorem g110 : execL (C b) 0 c108 K (ee3 x3 x4) S =
  withV (evBin .eql (tyi Try.prog 3) x3 (.int .i64 62)) fun x19 =>
    withV (some x19) fun x4 =>
    K .normal (ee3 x3 x4) S := nr (by kernel_rfl)
@[go_sem] theorem k106_n : k106 b .normal (ee3 x3 x4) S =
  condC x4 ((k18 b) .normal (ee3 x3 x4) S)
    (execL (C b) 0 c108 (k18 b) (ee3 x3 x4) S) := nr (seqN (condE (t := 4) (by kernel_rfl) (execL_skip (by kernel_rfl)) (rfl) rfl))
@[go_sem] theorem g111 : execL (C b) 0 c104 K (ee3 x3 x4) S =
  withV (evBin .eql (tyi Try.prog 3) x3 (.int .i64 61)) fun x18 =>
    withV (some x18) fun x4 =>
    K .normal (ee3 x3 x4) S := nr (by kernel_rfl)
@[go_sem] theorem k100_n : k100 b .normal (ee3 x3 x4) S =
  condC x4 ((k18 b) .normal (ee3 x3 x4) S)
    (execL (C b) 0 c104 (k106 b) (ee3 x3 x4) S) := nr (seqN (condE (t := 4) (by kernel_rfl) (execL_skip (by kernel_rfl)) (enterS (by kernel_rfl)) rfl))
@[go_sem] theorem g112 : execL (C b) 0 c98 K (ee3 x3 x4) S =
  withV (evBin .eql (tyi Try.prog 3) x3 (.int .i64 56)) fun x17 =>
    withV (some x17) fun x4 =>
    K .normal (ee3 x3 x4) S := nr (by kernel_rfl)
@[go_sem] theorem k94_n : k94 b .normal (ee3 x3 x4) S =
  condC x4 ((k18 b) .normal (ee3 x3 x4) S)
    (execL (C b) 0 c98 (k100 b) (ee3 x3 x4) S) := nr (seqN (condE (t := 4) (by kernel_rfl) (execL_skip (by kernel_rfl)) (enterS (by kernel_rfl)) rfl))
@[go_sem] theorem g113 : execL (C b) 0 c92 K (ee3 x3 x4) S =
  withV (evBin .eql (tyi Try.prog 3) x3 (.int .i64 55)) fun x16 =>
    withV (some x16) fun x4 =>
    K .normal (ee3 x3 x4) S := nr (by kernel_rfl)
@[go_sem] theorem k88_n : k88 b .normal (ee3 x3 x4) S =
  condC x4 ((k18 b) .normal (ee3 x3 x4) S)
    (execL (C b) 0 c92 (k94 b) (ee3 x3 x4) S) := nr (seqN (condE (t := 4) (by kernel_rfl) (execL_skip (by kernel_rfl)) (enterS (by kernel_rfl)) rfl))
@[go_sem] theorem g114 : execL (C b) 0 c86 K (ee3 x3 x4) S =
  withV (evBin .eql (tyi Try.prog 3) x3 (.int .i64 52)) fun x15 =>
    withV (some x15) fun x4 =>
    K .normal (ee3 x3 x4) S := nr (by kernel_rfl)
@[go_sem] theorem k82_n : k82 b .normal (ee3 x3 x4) S =
  condC x4 ((k18 b) .normal (ee3 x3 x4) S)
    (execL (C b) 0 c86 (k88 b) (ee3 x3 x4) S) := nr (seqN (condE (t := 4) (by kernel_rfl) (execL_skip (by kernel_rfl)) (enterS (by kernel_rfl)) rfl))
@[go_sem] theorem g115 : execL (C b) 0 c80 K (ee3 x3 x4) S =
  withV (evBin .eql (tyi Try.prog 3) x3 (.int .i64 51)) fun x14 =>
    withV (some x14) fun x4 =>
    K .normal (ee3 x3 x4) S := nr (by kernel_rfl)
@[go_sem] theorem k76_n : k76 b .normal (ee3 x3 x4) S =
  condC x4 ((k18 b) .normal (ee3 x3 x4) S)
    (execL (C b) 0 c80 (k82 b) (ee3 x3 x4) S) := nr (seqN (condE (t := 4) (by kernel_rfl) (execL_skip (by kernel_rfl)) (enterS (by kernel_rfl)) rfl))
@[go_sem] theorem g116 : execL (C b) 0 c74 K (ee3 x3 x4) S =
  withV (evBin .eql (tyi Try.prog 3) x3 (.int .i64 50)) fun x13 =>
    withV (some x13) fun x4 =>
    K .normal (ee3 x3 x4) S := nr (by kernel_rfl)
@[go_sem] theorem k70_n : k70 b .normal (ee3 x3 x4) S =
  condC x4 ((k18 b) .normal (ee3 x3 x4) S)
    (execL (C b) 0 c74 (k76 b) (ee3 x3 x4) S) := nr (seqN (condE (t := 4) (by kernel_rfl) (execL_skip (by kernel_rfl)) (enterS (by kernel_rfl)) rfl))
@[go_sem] theorem g117 : execL (C b) 0 c68 K (ee3 x3 x4) S =
  withV (evBin .eql (tyi Try.prog 3) x3 (.int .i64 38)) fun x12 =>
    withV (some x12) fun x4 =>
    K .normal (ee3 x3 x4) S := nr (by kernel_rfl)
@[go_sem] theorem k64_n : k64 b .normal (ee3 x3 x4) S =
  condC x4 ((k18 b) .normal (ee3 x3 x4) S)
    (execL (C b) 0 c68 (k70 b) (ee3 x3 x4) S) := nr (seqN (condE (t := 4) (by kernel_rfl) (execL_skip (by kernel_rfl)) (enterS (by kernel_rfl)) rfl))
@[go_sem] theorem g118 : execL (C b) 0 c62 K (ee3 x3 x4) S =
  withV (evBin .eql (tyi Try.prog 3) x3 (.int .i64 37)) fun x11 =>
    withV (some x11) fun x4 =>
    K .normal (ee3 x3 x4) S := nr (by kernel_rfl)
@[go_sem] theorem k58_n : k58 b .normal (ee3 x3 x4) S =
  condC x4 ((k18 b) .normal (ee3 x3 x4) S)
    (execL (C b) 0 c62 (k64 b) (ee3 x3 x4) S) := nr (seqN (condE (t := 4) (by kernel_rfl) (execL_skip (by kernel_rfl)) (enterS (by kernel_rfl)) rfl))
@[go_sem] theorem g119 : execL (C b) 0 c56 K (ee3 x3 x4) S =
  withV (evBin .eql (tyi Try.prog 3) x3 (.int .i64 34)) fun x10 =>
    withV (some x10) fun x4 =>
    K .normal (ee3 x3 x4) S := nr (by kernel_rfl)
@[go_sem] theorem k52_n : k52 b .normal (ee3 x3 x4) S =
  condC x4 ((k18 b) .normal (ee3 x3 x4) S)
    (execL (C b) 0 c56 (k58 b) (ee3 x3 x4) S) := nr (seqN (condE (t := 4) (by kernel_rfl) (execL_skip (by kernel_rfl)) (enterS (by kernel_rfl)) rfl))
@[go_sem] theorem g120 : execL (C b) 0 c50 K (ee3 x3 x4) S =
  withV (evBin .eql (tyi Try.prog 3) x3 (.int .i64 33)) fun x9 =>
    withV (some x9) fun x4 =>
    K .normal (ee3 x3 x4) S := nr (by kernel_rfl)
@[go_sem] theorem k46_n : k46 b .normal (ee3 x3 x4) S =
  condC x4 ((k18 b) .normal (ee3 x3 x4) S)
    (execL (C b) 0 c50 (k52 b) (ee3 x3 x4) S) := nr (seqN (condE (t := 4) (by kernel_rfl) (execL_skip (by kernel_rfl)) (enterS (by kernel_rfl)) rfl))
@[go_sem] theorem g121 : execL (C b) 0 c44 K (ee3 x3 x4) S =
  withV (evBin .eql (tyi Try.prog 3) x3 (.int .i64 11)) fun x8 =>
    withV (some x8) fun x4 =>
    K .normal (ee3 x3 x4) S := nr (by kernel_rfl)
@[go_sem] theorem k40_n : k40 b .normal (ee3 x3 x4) S =
  condC x4 ((k18 b) .normal (ee3 x3 x4) S)
    (execL (C b) 0 c44 (k46 b) (ee3 x3 x4) S) := nr (seqN (condE (t := 4) (by kernel_rfl) (execL_skip (by kernel_rfl)) (enterS (by kernel_rfl)) rfl))
@[go_sem] theorem g122 : execL (C b) 0 c38 K (ee3 x3 x4) S =
  withV (evBin .eql (tyi Try.prog 3) x3 (.int .i64 10)) fun x7 =>
    withV (some x7) fun x4 =>
    K .normal (ee3 x3 x4) S := nr (by kernel_rfl)
@[go_sem] theorem k34_n : k34 b .normal (ee3 x3 x4) S =
  condC x4 ((k18 b) .normal (ee3 x3 x4) S)
    (execL (C b) 0 c38 (k40 b) (ee3 x3 x4) S) := nr (seqN (condE (t := 4) (by kernel_rfl) (execL_skip (by kernel_rfl)) (enterS (by kernel_rfl)) rfl))
@[go_sem] theorem g123 : execL (C b) 0 c32 K (ee3 x3 x4) S =
  withV (evBin .eql (tyi Try.prog 3) x3 (.int .i64 3)) fun x6 =>
    withV (some x6) fun x4 =>
    K .normal (ee3 x3 x4) S := nr (by kernel_rfl)
@[go_sem] theorem k28_n : k28 b .normal (ee3 x3 x4) S =
  condC x4 ((k18 b) .normal (ee3 x3 x4) S)
    (execL (C b) 0 c32 (k34 b) (ee3 x3 x4) S) := nr (seqN (condE (t := 4) (by kernel_rfl) (execL_skip (by kernel_rfl)) (enterS (by kernel_rfl)) rfl))
@[go_sem] theorem g124 : execL (C b) 0 c26 K (ee2 x3) S =
  withV (evBin .eql (tyi Try.prog 3) x3 (.int .i64 2)) fun x5 =>
    withV (some x5) fun x4 =>
    K .normal (ee3 x3 x4) S := nr (by kernel_rfl)
@[go_sem] theorem k13_n : k13 b .normal (ee2 x3) S =
  execL (C b) 0 c26 (k28 b) (ee2 x3) S := nr (seqN ((blockE (by kernel_rfl)).trans ((enterS (by kernel_rfl)).trans (enterS (by kernel_rfl)))))
@[go_sem] theorem g125 : execL (C b) 0 c11 K (ee0 x0) S =
  withV (some x0) fun x3 =>
    K .normal (ee2 x3) S := nr (by kernel_rfl)
@[go_sem] theorem k10_n : k10 b .normal (ee0 x0) S =
  execL (C b) 0 c11 (k13 b) (ee0 x0) S := nr (seqN ((enterS (by kernel_rfl)).trans (enterS (by kernel_rfl))))
@[go_sem] theorem g126 : execL (C b) 0 c1 K (ee0 x0) S =
  withV (some (.bool false)) fun x2 =>
    K .normal (ee0 x0) S := nr (by kernel_rfl)
def E (b : Nat) (x0 : PV) (S : Store) : RT := execL (C b) 0 code (k0 b) (ee0 x0) S
@[go_sem] theorem E_eq : E b x0 S =
  execL (C b) 0 c1 (k10 b) (ee0 x0) S := nr (enterS (by kernel_rfl))
@[go_sem] theorem k0_ret1 : k0 b .ret (ee1 x2) S = some (x2, S) := nr (by kernel_rfl)
theorem call {x0 : PV} {r : PV × Store} {v : PV} (h : E 0 x0 [] = some r) (hv : fzPV r.2 r.1 = some v) : callL Try.prog hints 87 [x0] = some v := callL_of (fn := Try.f87) (c := code) (by kernel_rfl) (by kernel_rfl) (by decide) (by kernel_rfl) (Nat.le_of_ble_eq_true (by kernel_rfl)) h hv
end
end F87
/-! ### isochroneref08.natural -/
namespace F88
section
variable (b : Nat) (K : KT) (x0 x1 x2 x23 : PV) (e : Env) (S : Store)
noncomputable def hint : Hint := { keep := [], loops := [], regs := [(0, [1]), (1, [1, 23]), (2, [2]), (3, [2])] }
noncomputable def C (b : Nat) : Ctx := ctxL Try.prog hints b hint
noncomputable def code : Code := Try.f88.body.get rfl
noncomputable def k0 (b : Nat) : KT := endC Try.prog Try.f88
def ee0 (x1 : PV) : Env := [(1, x1)]
def ee1 (x1 x23 : PV) : Env := [(1, x1), (23, x23)]
def ee2 (x2 : PV) : Env := [(2, x2)]
def c1 : Code := at0 code
def c2 : Code := at1 code
def c3 : Code := at0 c2
def c4 : Code := at1 c2
def c5 : Code := at0 c4
def c6 : Code := at1 c4
def k7 (b : Nat) : KT := seqC (fun e S => execL (C b) 0 c6 (k0 b) e S) (k0 b)
@[go_sem] theorem k7_n : k7 b .normal (ee2 x2) S =
  (k0 b) .ret (ee2 x2) S := nr (seqN (execL_ret (by kernel_rfl)))
def k8 (b : Nat) : KT := seqC (fun e S => execL (C b) 0 c4 (k0 b) e S) (k0 b)
@[go_sem] theorem g9 : execL (C b) 0 c5 K (ee1 x1 x23) S =
  withV (evFieldAddr (tyi Try.prog 51) 1 x1) fun x24 =>
    withV (evLoad (tyi Try.prog 49) S x24) fun x25 =>
    withV (lenO (tyi Try.prog 49) x25) fun x26 =>
    withV (evBin .eql (tyi Try.prog 3) x26 (.int .i64 0)) fun x27 =>
    withV (some x27) fun x28 =>
    withV (gval x28 false (evFieldAddr (tyi Try.prog 51) 1 x1)) fun x29 =>
    withV (gval x28 false (evLoad (tyi Try.prog 49) S x29)) fun x30 =>
    withV (gval x28 false (evFieldAddr (tyi Try.prog 51) 1 x1)) fun x31 =>
    withV (gval x28 false (evLoad (tyi Try.prog 49) S x31)) fun x32 =>
    withV (gval x28 false (lenO (tyi Try.prog 49) x32)) fun x33 =>
    withV (gval x28 false (evBin .sub (tyi Try.prog 3) x33 (.int .i64 1))) fun x34 =>
    withV (gval x28 false (indexAddrO Try.prog 49 S x30 x34)) fun x35 =>
    withV (gval x28 false (evLoad (tyi Try.prog 76) S x35)) fun x36 =>
    withV (gval x28 false (evBin .neq (tyi Try.prog 76) x36 (.int .u32 0))) fun x37 =>
    withV (pickO x28 (.bool true) x37) fun x38 =>
    withV (some x38) fun x2 =>
    K .normal (ee2 x2) S := nr (by kernel_rfl)
@[go_sem] theorem k8_n : k8 b .normal e S = execL (C b) 0 c5 (k7 b) e S := nr (seqN (enterS (by kernel_rfl)))
@[go_sem] theorem k8_ret : k8 b .ret e S = (k0 b) .ret e S := nr (seqC_r _ _ _ _)
def k10 (b : Nat) : KT := seqC (fun e S => execL (C b) 0 c2 (k0 b) e S) (k0 b)
def c11 : Code := at0 c3
def c12 : Code := at1 c3
def k13 (b : Nat) : KT := seqC (fun e S => execL (C b) 0 c12 (k8 b) e S) (k8 b)
def c14 : Code := atT c12
def c17 : Code := at0 c14
def c18 : Code := at1 c14
def k19 (b : Nat) : KT := seqC (fun e S => execL (C b) 0 c18 (k8 b) e S) (k8 b)
@[go_sem] theorem k19_n : k19 b .normal (ee2 x2) S =
  (k8 b) .ret (ee2 x2) S := nr (seqN (execL_ret (by kernel_rfl)))
@[go_sem] theorem g20 : execL (C b) 0 c17 K (ee1 x1 x23) S =
  withV (some (.bool false)) fun x2 =>
    K .normal (ee2 x2) S := nr (by kernel_rfl)
@[go_sem] theorem k13_n : k13 b .normal (ee1 x1 x23) S =
  condC x23 (execL (C b) 0 c17 (k19 b) (ee1 x1 x23) S)
    ((k8 b) .normal (ee1 x1 x23) S) := nr (seqN (condE (t := 23) (by kernel_rfl) (enterS (by kernel_rfl)) (execL_skip (by kernel_rfl)) rfl))
@[go_sem] theorem g21 : execL (C b) 0 c11 K (ee0 x1) S =
  withV (evFieldAddr (tyi Try.prog 51) 0 x1) fun x3 =>
    withV (evLoad (tyi Try.prog 4) S x3) fun x4 =>
    withV (some x4) fun x5 =>
    withV (gval x5 false (evFieldAddr (tyi Try.prog 51) 2 x1)) fun x6 =>
    withV (gval x5 false (evLoad (tyi Try.prog 49) S x6)) fun x7 =>
    withV (gval x5 false (lenO (tyi Try.prog 49) x7)) fun x8 =>
    withV (gval x5 false (evBin .neq (tyi Try.prog 3) x8 (.int .i64 1))) fun x9 =>
    withV (pickO x5 (.bool true) x9) fun x10 =>
    withV (some x10) fun x11 =>
    withV (gval x11 false (evFieldAddr (tyi Try.prog 51) 2 x1)) fun x12 =>
    withV (gval x11 false (evLoad (tyi Try.prog 49) S x12)) fun x13 =>
    withV (gval x11 false (indexAddrO Try.prog 49 S x13 (.int .i64 0))) fun x14 =>
    withV (gval x11 false (evLoad (tyi Try.prog 76) S x14)) fun x15 =>
    withV (gval x11 false (evBin .neq (tyi Try.prog 76) x15 (.int .u32 1))) fun x16 =>
    withV (pickO x11 (.bool true) x16) fun x17 =>
    withV (some x17) fun x18 =>
    withV (gval x18 false (evFieldAddr (tyi Try.prog 51) 1 x1)) fun x19 =>
    withV (gval x18 false (evLoad (tyi Try.prog 49) S x19)) fun x20 =>
    withV (gval x18 false (lenO (tyi Try.prog 49) x20)) fun x21 =>
    withV (gval x18 false (evBin .gtr (tyi Try.prog 3) x21 (.int .i64 20))) fun x22 =>
    withV (pickO x18 (.bool true) x22) fun x23 =>
    K .normal (ee1 x1 x23) S := nr (by kernel_rfl)
@[go_sem] theorem k10_n : k10 b .normal (ee0 x1) S =
  execL (C b) 0 c11 (k13 b) (ee0 x1) S := nr (seqN ((enterS (by kernel_rfl)).trans (enterS (by kernel_rfl))))
@[go_sem] theorem g22 : execL (C b) 0 c1 K [(0, x0)] S =
  withN (boxed S (List.length S) (TI.size (tyi Try.prog 51)) x0) S fun x1 S =>
    withV (some (.bool false)) fun x2 =>
    K .normal (ee0 x1) S := nr (by kernel_rfl)
def E (b : Nat) (x0 : PV) (S : Store) : RT := execL (C b) 0 code (k0 b) [(0, x0)] S
@[go_sem] theorem E_eq : E b x0 S =
  execL (C b) 0 c1 (k10 b) [(0, x0)] S := nr (enterS (by kernel_rfl))
@[go_sem] theorem k0_ret2 : k0 b .ret (ee2 x2) S = some (x2, S) := nr (by kernel_rfl)
theorem call {x0 : PV} {r : PV × Store} {v : PV} (h : E 0 x0 [] = some r) (hv : fzPV r.2 r.1 = some v) : callL Try.prog hints 88 [x0] = some v := callL_of (fn := Try.f88) (c := code) (by kernel_rfl) (by kernel_rfl) (by decide) (by kernel_rfl) (Nat.le_of_ble_eq_true (by kernel_rfl)) h hv
end
end F88
/-! ### isochroneref08.kids -/
namespace F90
section
variable (b : Nat) (K : KT) (x0 x2 x3 x4 x10 x22 x28 x33 x36 x39 : PV) (e : Env) (S : Store)
noncomputable def hint : Hint := { keep := [], loops := [], regs := [(0, [0]), (1, [3]), (2, [3, 4]), (3, [3, 4]), (4, [3, 4]), (5, [3, 4]), (6, [3, 4]), (7, [2]), (8, [3, 10]), (9, [3, 10]), (10, [3, 10]), (11, [3, 10]), (12, [3, 10]), (13, [3, 10]), (14, [3, 10]), (15, [3, 10]), (16, [3, 10]), (17, [3, 10]), (18, [3, 10]), (19, [2]), (20, [3, 22]), (21, [3, 22]), (22, [3, 22]), (23, [3, 22]), (24, [3, 22]), (25, [2]), (26, [3, 28]), (27, [3, 28]), (28, [3, 28]), (29, [3, 28]), (30, [2]), (31, [3, 33]), (32, [3, 33]), (33, [2]), (34, [3, 36]), (35, [3, 36]), (36, [2]), (37, [3, 39]), (38, [3, 39]), (39, [2]), (40, [2])] }
noncomputable def C (b : Nat) : Ctx := ctxL Try.prog hints b hint
noncomputable def code : Code := Try.f90.body.get rfl
noncomputable def k0 (b : Nat) : KT := endC Try.prog Try.f90
def ee0 (x0 : PV) : Env := [(0, x0)]
def ee1 (x2 : PV) : Env := [(2, x2)]
def ee2 (x3 : PV) : Env := [(3, x3)]
def ee3 (x3 x4 : PV) : Env := [(3, x3), (4, x4)]
def ee4 (x3 x10 : PV) : Env := [(3, x3), (10, x10)]
def ee5 (x3 x22 : PV) : Env := [(3, x3), (22, x22)]
def ee6 (x3 x28 : PV) : Env := [(3, x3), (28, x28)]
def ee7 (x3 x33 : PV) : Env := [(3, x3), (33, x33)]
def ee8 (x3 x36 : PV) : Env := [(3, x3), (36, x36)]
def ee9 (x3 x39 : PV) : Env := [(3, x3), (39, x39)]
def c1 : Code := at0 code
def c2 : Code := at1 code
def c3 : Code := at0 c2
def c4 : Code := at1 c2
def c5 : Code := at0 c4
def c6 : Code := at1 c4
def k7 (b : Nat) : KT := seqC (fun e S => execL (C b) 0 c6 (k0 b) e S) (k0 b)
@[go_sem] theorem k7_n : k7 b .normal (ee1 x2) S =
  (k0 b) .ret (ee1 x2) S := nr (seqN (execL_ret (by kernel_rfl)))
def k8 (b : Nat) : KT := seqC (fun e S => execL (C b) 0 c4 (k0 b) e S) (k0 b)
@[go_sem] theorem g9 : execL (C b) 0 c5 K (ee9 x3 x39) S =
  withV (some (.str ⟨#[]⟩)) fun x2 =>
    K .normal (ee1 x2) S := nr (by kernel_rfl)
@[go_sem] theorem k8_n : k8 b .normal e S = execL (C b) 0 c5 (k7 b) e S := nr (seqN (enterS (by kernel_rfl)))
@[go_sem] theorem k8_ret : k8 b .ret e S = (k0 b) .ret e S := nr (seqC_r _ _ _ _)
def k10 (b : Nat) : KT := seqC (fun e S => execL (C b) 0 c2 (k0 b) e S) (k0 b)
def c11 : Code := at0 c3
def c12 : Code := at1 c3
def k13 (b : Nat) : KT := seqC (fun e S => execL (C b) 0 c12 (k8 b) e S) (k8 b)
def c14 : Code := atB c12
def k15 (b : Nat) : KT := blockC 0 (k8 b)
@[go_sem] theorem k15_n : k15 b .normal e S = (k8 b) .normal e S := nr (blockC_n _ _ _ _)
@[go_sem] theorem k15_ret : k15 b .ret e S = (k8 b) .ret e S := nr (blockC_r _ _ _ _)
def c16 : Code := at0 c14
def c17 : Code := at1 c14
def k18 (b : Nat) : KT := seqC (fun e S => execL (C b) 0 c17 (k15 b) e S) (k15 b)
def c19 : Code := atT c17
def c20 : Code := atF c17
def c22 : Code := at0 c19
def c23 : Code := at1 c19
def k24 (b : Nat) : KT := seqC (fun e S => execL (C b) 0 c23 (k15 b) e S) (k15 b)
@[go_sem] theorem k24_n : k24 b .normal (ee1 x2) S =
  (k15 b) .ret (ee1 x2) S := nr (seqN (execL_ret (by kernel_rfl)))
@[go_sem] theorem g25 : execL (C b) 0 c22 K (ee3 x3 x4) S =
  withV (some (.str ⟨#[49]⟩)) fun x2 =>
    K .normal (ee1 x2) S := nr (by kernel_rfl)
def c27 : Code := at0 c20
def c28 : Code := at1 c20
def k29 (b : Nat) : KT := seqC (fun e S => execL (C b) 0 c28 (k15 b) e S) (k15 b)
def c30 : Code := atT c28
def c31 : Code := atF c28
def c33 : Code := at0 c30
def c34 : Code := at1 c30
def k35 (b : Nat) : KT := seqC (fun e S => execL (C b) 0 c34 (k15 b) e S) (k15 b)
@[go_sem] theorem k35_n : k35 b .normal (ee1 x2) S =
  (k15 b) .ret (ee1 x2) S := nr (seqN (execL_ret (by kernel_rfl)))
@[go_sem] theorem g36 : execL (C b) 0 c33 K (ee4 x3 x10) S =
  withV (some (.str ⟨#[49, 49]⟩)) fun x2 =>
    K .normal (ee1 x2) S := nr (by kernel_rfl)
def c38 : Code := at0 c31
def c39 : Code := at1 c31
def k40 (b : Nat) : KT := seqC (fun e S => execL (C b) 0 c39 (k15 b) e S) (k15 b)
def c41 : Code := atT c39
def c42 : Code := atF c39
def c44 : Code := at0 c41
def c45 : Code := at1 c41
def k46 (b : Nat) : KT := seqC (fun e S => execL (C b) 0 c45 (k15 b) e S) (k15 b)
@[go_sem] theorem k46_n : k46 b .normal (ee1 x2) S =
  (k15 b) .ret (ee1 x2) S := nr (seqN (execL_ret (by kernel_rfl)))
@[go_sem] theorem g47 : execL (C b) 0 c44 K (ee5 x3 x22) S =
  withV (some (.str ⟨#[50]⟩)) fun x2 =>
    K .normal (ee1 x2) S := nr (by kernel_rfl)
def c49 : Code := at0 c42
def c50 : Code := at1 c42
def k51 (b : Nat) : KT := seqC (fun e S => execL (C b) 0 c50 (k15 b) e S) (k15 b)
def c52 : Code := atT c50
def c53 : Code := atF c50
def c55 : Code := at0 c52
def c56 : Code := at1 c52
def k57 (b : Nat) : KT := seqC (fun e S => execL (C b) 0 c56 (k15 b) e S) (k15 b)
@[go_sem] theorem k57_n : k57 b .normal (ee1 x2) S =
  (k15 b) .ret (ee1 x2) S := nr (seqN (execL_ret (by kernel_rfl)))
@[go_sem] theorem g58 : execL (C b) 0 c55 K (ee6 x3 x28) S =
  withV (some (.str ⟨#[50, 50]⟩)) fun x2 =>
    K .normal (ee1 x2) S := nr (by kernel_rfl)
def c60 : Code := at0 c53
def c61 : Code := at1 c53
def k62 (b : Nat) : KT := seqC (fun e S => execL (C b) 0 c61 (k15 b) e S) (k15 b)
def c63 : Code := atT c61
def c64 : Code := atF c61
def c66 : Code := at0 c63
def c67 : Code := at1 c63
def k68 (b : Nat) : KT := seqC (fun e S => execL (C b) 0 c67 (k15 b) e S) (k15 b)
@[go_sem] theorem k68_n : k68 b .normal (ee1 x2) S =
  (k15 b) .ret (ee1 x2) S := nr (seqN (execL_ret (by kernel_rfl)))
@[go_sem] theorem g69 : execL (C b) 0 c66 K (ee7 x3 x33) S =
  withV (some (.str ⟨#[51, 50]⟩)) fun x2 =>
    K .normal (ee1 x2) S := nr (by kernel_rfl)
def c71 : Code := at0 c64
def c72 : Code := at1 c64
def k73 (b : Nat) : KT := seqC (fun e S => execL (C b) 0 c72 (k15 b) e S) (k15 b)
def c74 : Code := atT c72
def c75 : Code := atF c72
def c77 : Code := at0 c74
def c78 : Code := at1 c74
def k79 (b : Nat) : KT := seqC (fun e S => execL (C b) 0 c78 (k15 b) e S) (k15 b)
@[go_sem] theorem k79_n : k79 b .normal (ee1 x2) S =
  (k15 b) .ret (ee1 x2) S := nr (seqN (execL_ret (by kernel_rfl)))
@[go_sem] theorem g80 : execL (C b) 0 c77 K (ee8 x3 x36) S =
  withV (some (.str ⟨#[51, 51]⟩)) fun x2 =>
    K .normal (ee1 x2) S := nr (by kernel_rfl)
def c82 : Code := at0 c75
def c83 : Code := at1 c75
def k84 (b : Nat) : KT := seqC (fun e S => execL (C b) 0 c83 (k15 b) e S) (k15 b)
def c85 : Code := atT c83
def c88 : Code := at0 c85
def c89 : Code := at1 c85
def k90 (b : Nat) : KT := seqC (fun e S => execL (C b) 0 c89 (k15 b) e S) (k15 b)
@[go_sem] theorem k90_n : k90 b .normal (ee1 x2) S =
  (k15 b) .ret (ee1 x2) S := nr (seqN (execL_ret (by kernel_rfl)))
@[go_sem] theorem g91 : execL (C b) 0 c88 K (ee9 x3 x39) S =
  withV (some (.str ⟨#[51]⟩)) fun x2 =>
    K .normal (ee1 x2) S := nr (by kernel_rfl)
@[go_sem] theorem k84_n : k84 b .normal (ee9 x3 x39) S =
  condC x39 (execL (C b) 0 c88 (k90 b) (ee9 x3 x39) S)
    ((k15 b) .normal (ee9 x3 x39) S) := nr (seqN (condE (t := 39) (by kernel_rfl) (enterS (by kernel_rfl)) (execL_skip (by kernel_rfl)) rfl))
def c92 : Code := at0 c82
def c93 : Code := at1 c82
def k94 (b : Nat) : KT := seqC (fun e S => execL (C b) 0 c93 (k84 b) e S) (k84 b)
def c96 : Code := atF c93
@[go_sem] theorem g98 : execL (C b) 0 c96 K (ee9 x3 x39) S =
  withV (evBin .eql (tyi Try.prog 3) x3 (.int .i64 60)) fun x41 =>
    withV (some x41) fun x39 =>
    K .normal (ee9 x3 x39) S := nr (by kernel_rfl)
@[go_sem] theorem k94_n : k94 b .normal (ee9 x3 x39) S =
  condC x39 ((k84 b) .normal (ee9 x3 x39) S)
    (execL (C b) 0 c96 (k84 b) (ee9 x3 x39) S) := nr (seqN (condE (t := 39) (by kernel_rfl) (execL_skip (by kernel_rfl)) (rfl) rfl))
@[go_sem] theorem g99 : execL (C b) 0 c92 K (ee8 x3 x36) S =
  withV (evBin .eql (tyi Try.prog 3) x3 (.int .i64 59)) fun x40 =>
    withV (some x40) fun x39 =>
    K .normal (ee9 x3 x39) S := nr (by kernel_rfl)
@[go_sem] theorem k73_n : k73 b .normal (ee8 x3 x36) S =
  condC x36 (execL (C b) 0 c77 (k79 b) (ee8 x3 x36) S)
    (execL (C b) 0 c92 (k94 b) (ee8 x3 x36) S) := nr (seqN (condE (t := 36) (by kernel_rfl) (enterS (by kernel_rfl)) ((enterS (by kernel_rfl)).trans (enterS (by kernel_rfl))) rfl))
def c100 : Code := at0 c71
def c101 : Code := at1 c71
def k102 (b : Nat) : KT := seqC (fun e S => execL (C b) 0 c101 (k73 b) e S) (k73 b)
def c104 : Code := atF c101
@[go_sem] theorem g106 : execL (C b) 0 c104 K (ee8 x3 x36) S =
  withV (evBin .eql (tyi Try.prog 3) x3 (.int .i64 58)) fun x38 =>
    withV (some x38) fun x36 =>
    K .normal (ee8 x3 x36) S := nr (by kernel_rfl)
@[go_sem] theorem k102_n : k102 b .normal (ee8 x3 x36) S =
  condC x36 ((k73 b) .normal (ee8 x3 x36) S)
    (execL (C b) 0 c104 (k73 b) (ee8 x3 x36) S) := nr (seqN (condE (t := 36) (by kernel_rfl) (execL_skip (by kernel_rfl)) (rfl) rfl))
@[go_sem] theorem g107 : execL (C b) 0 c100 K (ee7 x3 x33) S =
  withV (evBin .eql (tyi Try.prog 3) x3 (.int .i64 57)) fun x37 =>
    withV (some x37) fun x36 =>
    K .normal (ee8 x3 x36) S := nr (by kernel_rfl)
@[go_sem] theorem k62_n : k62 b .normal (ee7 x3 x33) S =
  condC x33 (execL (C b) 0 c66 (k68 b) (ee7 x3 x33) S)
    (execL (C b) 0 c100 (k102 b) (ee7 x3 x33) S) := nr (seqN (condE (t := 33) (by kernel_rfl) (enterS (by kernel_rfl)) ((enterS (by kernel_rfl)).trans (enterS (by kernel_rfl))) rfl))
def c108 : Code := at0 c60
def c109 : Code := at1 c60
def k110 (b : Nat) : KT := seqC (fun e S => execL (C b) 0 c109 (k62 b) e S) (k62 b)
def c112 : Code := atF c109
@[go_sem] theorem g114 : execL (C b) 0 c112 K (ee7 x3 x33) S =
  withV (evBin .eql (tyi Try.prog 3) x3 (.int .i64 36)) fun x35 =>
    withV (some x35) fun x33 =>
    K .normal (ee7 x3 x33) S := nr (by kernel_rfl)
@[go_sem] theorem k110_n : k110 b .normal (ee7 x3 x33) S =
  condC x33 ((k62 b) .normal (ee7 x3 x33) S)
    (execL (C b) 0 c112 (k62 b) (ee7 x3 x33) S) := nr (seqN (condE (t := 33) (by kernel_rfl) (execL_skip (by kernel_rfl)) (rfl) rfl))
@[go_sem] theorem g115 : execL (C b) 0 c108 K (ee6 x3 x28) S =
  withV (evBin .eql (tyi Try.prog 3) x3 (.int .i64 35)) fun x34 =>
    withV (some x34) fun x33 =>
    K .normal (ee7 x3 x33) S := nr (by kernel_rfl)
@[go_sem] theorem k51_n : k51 b .normal (ee6 x3 x28) S =
  condC x28 (execL (C b) 0 c55 (k57 b) (ee6 x3 x28) S)
    (execL (C b) 0 c108 (k110 b) (ee6 x3 x28) S) := nr (seqN (condE (t := 28) (by kernel_rfl) (enterS (by kernel_rfl)) ((enterS (by kernel_rfl)).trans (enterS (by kernel_rfl))) rfl))
def c116 : Code := at0 c49
def c117 : Code := at1 c49
def k118 (b : Nat) : KT := seqC (fun e S => execL (C b) 0 c117 (k51 b) e S) (k51 b)
def c120 : Code := atF c117
def c122 : Code := at0 c120
def c123 : Code := at1 c120
def k124 (b : Nat) : KT := seqC (fun e S => execL (C b) 0 c123 (k51 b) e S) (k51 b)
def c126 : Code := atF c123
def c128 : Code := at0 c126
def c129 : Code := at1 c126
def k130 (b : Nat) : KT := seqC (fun e S => execL (C b) 0 c129 (k51 b) e S) (k51 b)
def c132 : Code := atF c129
@[go_sem] theorem g134 : execL (C b) 0 c132 K (ee6 x3 x28) S =
  withV (evBin .eql (tyi Try.prog 3) x3 (.int .i64 32)) fun x32 =>
    withV (some x32) fun x28 =>
    K .normal (ee6 x3 x28) S := nr (by kernel_rfl)
@[go_sem] theorem k130_n : k130 b .normal (ee6 x3 x28) S =
  condC x28 ((k51 b) .normal (ee6 x3 x28) S)
    (execL (C b) 0 c132 (k51 b) (ee6 x3 x28) S) := nr (seqN (condE (t := 28) (by kernel_rfl) (execL_skip (by kernel_rfl)) (rfl) rfl))
@[go_sem] theorem g135 : execL (C b) 0 c128 K (ee6 x3 x28) S =
  withV (evBin .eql (tyi Try.prog 3) x3 (.int .i64 31)) fun x31 =>
    withV (some x31) fun x28 =>
    K .normal (ee6 x3 x28) S := nr (by kernel_rfl)
@[go_sem] theorem k124_n : k124 b .normal (ee6 x3 x28) S =
  condC x28 ((k51 b) .normal (ee6 x3 x28) S)
    (execL (C b) 0 c128 (k130 b) (ee6 x3 x28) S) := nr (seqN (condE (t := 28) (by kernel_rfl) (execL_skip (by kernel_rfl)) (enterS (by kernel_rfl)) rfl))
@[go_sem] theorem g136 : execL (C b) 0 c122 K (ee6 x3 x28) S =
  withV (evBin .eql (tyi Try.prog 3) x3 (.int .i64 30)) fun x30 =>
    withV (some x30) fun x28 =>
    K .normal (ee6 x3 x28) S := nr (by kernel_rfl)
@[go_sem] theorem k118_n : k118 b .normal (ee6 x3 x28) S =
  condC x28 ((k51 b) .normal (ee6 x3 x28) S)
    (execL (C b) 0 c122 (k124 b) (ee6 x3 x28) S) := nr (seqN (condE (t := 28) (by kernel_rfl) (execL_skip (by kernel_rfl)) (enterS (by kernel_rfl)) rfl))
@[go_sem] theorem g137 : execL (C b) 0 c116 K (ee5 x3 x22) S =
  withV (evBin .eql (tyi Try.prog 3) x3 (.int .i64 29)) fun x29 =>
    withV (some x29) fun x28 =>
    K .normal (ee6 x3 x28) S := nr (by kernel_rfl)
@[go_sem] theorem k40_n : k40 b .normal (ee5 x3 x22) S =
  condC x22 (execL (C b) 0 c44 (k46 b) (ee5 x3 x22) S)
    (execL (C b) 0 c116 (k118 b) (ee5 x3 x22) S) := nr (seqN (condE (t := 22) (by kernel_rfl) (enterS (by kernel_rfl)) ((enterS (by kernel_rfl)).trans (enterS (by kernel_rfl))) rfl))
def c138 : Code := at0 c38
def c139 : Code := at1 c38
def k140 (b : Nat) : KT := seqC (fun e S => execL (C b) 0 c139 (k40 b) e S) (k40 b)
def c142 : Code := atF c139
def c144 : Code := at0 c142
def c145 : Code := at1 c142
def k146 (b : Nat) : KT := seqC (fun e S => execL (C b) 0 c145 (k40 b) e S) (k40 b)
def c148 : Code := atF c145
def c150 : Code := at0 c148
def c151 : Code := at1 c148
def k152 (b : Nat) : KT := seqC (fun e S => execL (C b) 0 c151 (k40 b) e S) (k40 b)
def c154 : Code := atF c151
def c156 : Code := at0 c154
def c157 : Code := at1 c154
def k158 (b : Nat) : KT := seqC (fun e S => execL (C b) 0 c157 (k40 b) e S) (k40 b)
def c160 : Code := atF c157
@[go_sem] theorem g162 : execL (C b) 0 c160 K (ee5 x3 x22) S =
  withV (evBin .eql (tyi Try.prog 3) x3 (.int .i64 53)) fun x27 =>
    withV (some x27) fun x22 =>
    K .normal (ee5 x3 x22) S := nr (by kernel_rfl)
@[go_sem] theorem k158_n : k158 b .normal (ee5 x3 x22) S =
  condC x22 ((k40 b) .normal (ee5 x3 x22) S)
    (execL (C b) 0 c160 (k40 b) (ee5 x3 x22) S) := nr (seqN (condE (t := 22) (by kernel_rfl) (execL_skip (by kernel_rfl)) (rfl) rfl))
@[go_sem] theorem g163 : execL (C b) 0 c156 K (ee5 x3 x22) S =
  withV (evBin .eql (tyi Try.prog 3) x3 (.int .i64 39)) fun x26 =>
    withV (some x26) fun x22 =>
    K .normal (ee5 x3 x22) S := nr (by kernel_rfl)
@[go_sem] theorem k152_n : k152 b .normal (ee5 x3 x22) S =
  condC x22 ((k40 b) .normal (ee5 x3 x22) S)
    (execL (C b) 0 c156 (k158 b) (ee5 x3 x22) S) := nr (seqN (condE (t := 22) (by kernel_rfl) (execL_skip (by kernel_rfl)) (enterS (by kernel_rfl)) rfl))
@[go_sem] theorem g164 : execL (C b) 0 c150 K (ee5 x3 x22) S =
  withV (evBin .eql (tyi Try.prog 3) x3 (.int .i64 34)) fun x25 =>
    withV (some x25) fun x22 =>
    K .normal (ee5 x3 x22) S := nr (by kernel_rfl)
@[go_sem] theorem k146_n : k146 b .normal (ee5 x3 x22) S =
  condC x22 ((k40 b) .normal (ee5 x3 x22) S)
    (execL (C b) 0 c150 (k152 b) (ee5 x3 x22) S) := nr (seqN (condE (t := 22) (by kernel_rfl) (execL_skip (by kernel_rfl)) (enterS (by kernel_rfl)) rfl))
@[go_sem] theorem g165 : execL (C b) 0 c144 K (ee5 x3 x22) S =
  withV (evBin .eql (tyi Try.prog 3) x3 (.int .i64 33)) fun x24 =>
    withV (some x24) fun x22 =>
    K .normal (ee5 x3 x22) S := nr (by kernel_rfl)
@[go_sem] theorem k140_n : k140 b .normal (ee5 x3 x22) S =
  condC x22 ((k40 b) .normal (ee5 x3 x22) S)
    (execL (C b) 0 c144 (k146 b) (ee5 x3 x22) S) := nr (seqN (condE (t := 22) (by kernel_rfl) (execL_skip (by kernel_rfl)) (enterS (by kernel_rfl)) rfl))
@[go_sem] theorem g166 : execL (C b) 0 c138 K (ee4 x3 x10) S =
  withV (evBin .eql (tyi Try.prog 3) x3 (.int .i64 28)) fun x23 =>
    withV (some x23) fun x22 =>
    K .normal (ee5 x3 x22) S := nr (by kernel_rfl)
@[go_sem] theorem k29_n : k29 b .normal (ee4 x3 x10) S =
  condC x10 (execL (C b) 0 c33 (k35 b) (ee4 x3 x10) S)
    (execL (C b) 0 c138 (k140 b) (ee4 x3 x10) S) := nr (seqN (condE (t := 10) (by kernel_rfl) (enterS (by kernel_rfl)) ((enterS (by kernel_rfl)).trans (enterS (by kernel_rfl))) rfl))
def c167 : Code := at0 c27
def c168 : Code := at1 c27
def k169 (b : Nat) : KT := seqC (fun e S => execL (C b) 0 c168 (k29 b) e S) (k29 b)
def c171 : Code := atF c168
def c173 : Code := at0 c171
def c174 : Code := at1 c171
def k175 (b : Nat) : KT := seqC (fun e S => execL (C b) 0 c174 (k29 b) e S) (k29 b)
def c177 : Code := atF c174
def c179 : Code := at0 c177
def c180 : Code := at1 c177
def k181 (b : Nat) : KT := seqC (fun e S => execL (C b) 0 c180 (k29 b) e S) (k29 b)
def c183 : Code := atF c180
def c185 : Code := at0 c183
def c186 : Code := at1 c183
def k187 (b : Nat) : KT := seqC (fun e S => execL (C b) 0 c186 (k29 b) e S) (k29 b)
def c189 : Code := atF c186
def c191 : Code := at0 c189
def c192 : Code := at1 c189
def k193 (b : Nat) : KT := seqC (fun e S => execL (C b) 0 c192 (k29 b) e S) (k29 b)
def c195 : Code := atF c192
def c197 : Code := at0 c195
def c198 : Code := at1 c195
def k199 (b : Nat) : KT := seqC (fun e S => execL (C b) 0 c198 (k29 b) e S) (k29 b)
def c201 : Code := atF c198
def c203 : Code := at0 c201
def c204 : Code := at1 c201
def k205 (b : Nat) : KT := seqC (fun e S => execL (C b) 0 c204 (k29 b) e S) (k29 b)
def c207 : Code := atF c204
def c209 : Code := at0 c207
def c210 : Code := at1 c207
def k211 (b : Nat) : KT := seqC (fun e S => execL (C b) 0 c210 (k29 b) e S) (k29 b)
def c213 : Code := atF c210
def c215 : Code := at0 c213
def c216 : Code := at1 c213
def k217 (b : Nat) : KT := seqC (fun e S => execL (C b) 0 c216 (k29 b) e S) (k29 b)
def c219 : Code := atF c216
def c221 : Code := at0 c219
def c222 : Code := at1 c219
def k223 (b : Nat) : KT := seqC (fun e S => execL (C b) 0 c222 (k29 b) e S) (k29 b)
def c225 : Code := atF c222
@[go_sem] theorem g227 : execL (C b) 0 c225 K (ee4 x3 x10) S =
  withV (evBin .eql (tyi Try.prog 3) x3 (.int .i64 27)) fun x21 =>
    withV (some x21) fun x10 =>
    K .normal (ee4 x3 x10) S := nr (by kernel_rfl)
@[go_sem] theorem k223_n : k223 b .normal (ee4 x3 x10) S =
  condC x10 ((k29 b) .normal (ee4 x3 x10) S)
    (execL (C b) 0 c225 (k29 b) (ee4 x3 x10) S) := nr (seqN (condE (t := 10) (by kernel_rfl) (execL_skip (by kernel_rfl)) (rfl) rfl))
@[go_sem] theorem g228 : execL (C b) 0 c221 K (ee4 x3 x10) S =
  withV (evBin .eql (tyi Try.prog 3) x3 (.int .i64 26)) fun x20 =>
    withV (some x20) fun x10 =>
    K .normal (ee4 x3 x10) S := nr (by kernel_rfl)
@[go_sem] theorem k217_n : k217 b .normal (ee4 x3 x10) S =
  condC x10 ((k29 b) .normal (ee4 x3 x10) S)
    (execL (C b) 0 c221 (k223 b) (ee4 x3 x10) S) := nr (seqN (condE (t := 10) (by kernel_rfl) (execL_skip (by kernel_rfl)) (enterS (by kernel_rfl)) rfl))
@[go_sem] theorem g229 : execL (C b) 0 c215 K (ee4 x3 x10) S =
  withV (evBin .eql (tyi Try.prog 3) x3 (.int .i64 25)) fun x19 =>
    withV (some x19) fun x10 =>
    K .normal (ee4 x3 x10) S := nr (by kernel_rfl)
@[go_sem] theorem k211_n : k211 b .normal (ee4 x3 x10) S =
  condC x10 ((k29 b) .normal (ee4 x3 x10) S)
    (execL (C b) 0 c215 (k217 b) (ee4 x3 x10) S) := nr (seqN (condE (t := 10) (by kernel_rfl) (execL_skip (by kernel_rfl)) (enterS (by kernel_rfl)) rfl))
@[go_sem] theorem g230 : execL (C b) 0 c209 K (ee4 x3 x10) S =
  withV (evBin .eql (tyi Try.prog 3) x3 (.int .i64 24)) fun x18 =>
    withV (some x18) fun x10 =>
    K .normal (ee4 x3 x10) S := nr (by kernel_rfl)
@[go_sem] theorem k205_n : k205 b .normal (ee4 x3 x10) S =
  condC x10 ((k29 b) .normal (ee4 x3 x10) S)
    (execL (C b) 0 c209 (k211 b) (ee4 x3 x10) S) := nr (seqN (condE (t := 10) (by kernel_rfl) (execL_skip (by kernel_rfl)) (enterS (by kernel_rfl)) rfl))
@[go_sem] theorem g231 : execL (C b) 0 c203 K (ee4 x3 x10) S =
  withV (evBin .eql (tyi Try.prog 3) x3 (.int .i64 23)) fun x17 =>
    withV (some x17) fun x10 =>
    K .normal (ee4 x3 x10) S := nr (by kernel_rfl)
@[go_sem] theorem k199_n : k199 b .normal (ee4 x3 x10) S =
  condC x10 ((k29 b) .normal (ee4 x3 x10) S)
    (execL (C b) 0 c203 (k205 b) (ee4 x3 x10) S) := nr (seqN (condE (t := 10) (by kernel_rfl) (execL_skip (by kernel_rfl)) (enterS (by kernel_rfl)) rfl))
@[go_sem] theorem g232 : execL (C b) 0 c197 K (ee4 x3 x10) S =
  withV (evBin .eql (tyi Try.prog 3) x3 (.int .i64 22)) fun x16 =>
    withV (some x16) fun x10 =>
    K .normal (ee4 x3 x10) S := nr (by kernel_rfl)
@[go_sem] theorem k193_n : k193 b .normal (ee4 x3 x10) S =
  condC x10 ((k29 b) .normal (ee4 x3 x10) S)
    (execL (C b) 0 c197 (k199 b) (ee4 x3 x10) S) := nr (seqN (condE (t := 10) (by kernel_rfl) (execL_skip (by kernel_rfl)) (enterS (by kernel_rfl)) rfl))
@[go_sem] theorem g233 : execL (C b) 0 c191 K (ee4 x3 x10) S =
  withV (evBin .eql (tyi Try.prog 3) x3 (.int .i64 9)) fun x15 =>
    withV (some x15) fun x10 =>
    K .normal (ee4 x3 x10) S := nr (by kernel_rfl)
@[go_sem] theorem k187_n : k187 b .normal (ee4 x3 x10) S =
  condC x10 ((k29 b) .normal (ee4 x3 x10) S)
    (execL (C b) 0 c191 (k193 b) (ee4 x3 x10) S) := nr (seqN (condE (t := 10) (by kernel_rfl) (execL_skip (by kernel_rfl)) (enterS (by kernel_rfl)) rfl))
@[go_sem] theorem g234 : execL (C b) 0 c185 K (ee4 x3 x10) S =
  withV (evBin .eql (tyi Try.prog 3) x3 (.int .i64 8)) fun x14 =>
    withV (some x14) fun x10 =>
    K .normal (ee4 x3 x10) S := nr (by kernel_rfl)
@[go_sem] theorem k181_n : k181 b .normal (ee4 x3 x10) S =
  condC x10 ((k29 b) .normal (ee4 x3 x10) S)
    (execL (C b) 0 c185 (k187 b) (ee4 x3 x10) S) := nr (seqN (condE (t := 10) (by kernel_rfl) (execL_skip (by kernel_rfl)) (enterS (by kernel_rfl)) rfl))
@[go_sem] theorem g235 : execL (C b) 0 c179 K (ee4 x3 x10) S =
  withV (evBin .eql (tyi Try.prog 3) x3 (.int .i64 7)) fun x13 =>
    withV (some x13) fun x10 =>
    K .normal (ee4 x3 x10) S := nr (by kernel_rfl)
@[go_sem] theorem k175_n : k175 b .normal (ee4 x3 x10) S =
  condC x10 ((k29 b) .normal (ee4 x3 x10) S)
    (execL (C b) 0 c179 (k181 b) (ee4 x3 x10) S) := nr (seqN (condE (t := 10) (by kernel_rfl) (execL_skip (by kernel_rfl)) (enterS (by kernel_rfl)) rfl))
@[go_sem] theorem g236 : execL (C b) 0 c173 K (ee4 x3 x10) S =
  withV (evBin .eql (tyi Try.prog 3) x3 (.int .i64 6)) fun x12 =>
    withV (some x12) fun x10 =>
    K .normal (ee4 x3 x10) S := nr (by kernel_rfl)
@[go_sem] theorem k169_n : k169 b .normal (ee4 x3 x10) S =
  condC x10 ((k29 b) .normal (ee4 x3 x10) S)
    (execL (C b) 0 c173 (k175 b) (ee4 x3 x10) S) := nr (seqN (condE (t := 10) (by kernel_rfl) (execL_skip (by kernel_rfl)) (enterS (by kernel_rfl)) rfl))
@[go_sem] theorem g237 : execL (C b) 0 c167 K (ee3 x3 x4) S =
  withV (evBin .eql (tyi Try.prog 3) x3 (.int .i64 5)) fun x11 =>
    withV (some x11) fun x10 =>
    K .normal (ee4 x3 x10) S := nr (by kernel_rfl)
@[go_sem] theorem k18_n : k18 b .normal (ee3 x3 x4) S =
  condC x4 (execL (C b) 0 c22 (k24 b) (ee3 x3 x4) S)
    (execL (C b) 0 c167 (k169 b) (ee3 x3 x4) S) := nr (seqN (condE (t := 4) (by kernel_rfl) (enterS (by kernel_rfl)) ((enterS (by kernel_rfl)).trans (enterS (by kernel_rfl))) rfl))
def c238 : Code := at0 c16
def c239 : Code := at1 c16
def k240 (b : Nat) : KT := seqC (fun e S => execL (C b) 0 c239 (k18 b) e S) (k18 b)
def c242 : Code := atF c239
def c244 : Code := at0 c242
def c245 : Code := at1 c242
def k246 (b : Nat) : KT := seqC (fun e S => execL (C b) 0 c245 (k18 b) e S) (k18 b)
def c248 : Code := atF c245
def c250 : Code := at0 c248
def c251 : Code := at1 c248
def k252 (b : Nat) : KT := seqC (fun e S => execL (C b) 0 c251 (k18 b) e S) (k18 b)
def c254 : Code := atF c251
def c256 : Code := at0 c254
def c257 : Code := at1 c254
def k258 (b : Nat) : KT := seqC (fun e S => execL (C b) 0 c257 (k18 b) e S) (k18 b)
def c260 : Code := atF c257
@[go_sem] theorem g262 : execL (C b) 0 c260 K (ee3 x3 x4) S =
  withV (evBin .eql (tyi Try.prog 3) x3 (.int .i64 55)) fun x9 =>
    withV (some x9) fun x4 =>
    K .normal (ee3 x3 x4) S := nr (by kernel_rfl)
@[go_sem] theorem k258_n : k258 b .normal (ee3 x3 x4) S =
  condC x4 ((k18 b) .normal (ee3 x3 x4) S)
    (execL (C b) 0 c260 (k18 b) (ee3 x3 x4) S) := nr (seqN (condE (t := 4) (by kernel_rfl) (execL_skip (by kernel_rfl)) (rfl) rfl))
@[go_sem] theorem g263 : execL (C b) 0 c256 K (ee3 x3 x4) S =
  withV (evBin .eql (tyi Try.prog 3) x3 (.int .i64 51)) fun x8 =>
    withV (some x8) fun x4 =>
    K .normal (ee3 x3 x4) S := nr (by kernel_rfl)
@[go_sem] theorem k252_n : k252 b .normal (ee3 x3 x4) S =
  condC x4 ((k18 b) .normal (ee3 x3 x4) S)
    (execL (C b) 0 c256 (k258 b) (ee3 x3 x4) S) := nr (seqN (condE (t := 4) (by kernel_rfl) (execL_skip (by kernel_rfl)) (enterS (by kernel_rfl)) rfl))
@[go_sem] theorem g264 : execL (C b) 0 c250 K (ee3 x3 x4) S =
  withV (evBin .eql (tyi Try.prog 3) x3 (.int .i64 50)) fun x7 =>
    withV (some x7) fun x4 =>
    K .normal (ee3 x3 x4) S := nr (by kernel_rfl)
@[go_sem] theorem k246_n : k246 b .normal (ee3 x3 x4) S =
  condC x4 ((k18 b) .normal (ee3 x3 x4) S)
    (execL (C b) 0 c250 (k252 b) (ee3 x3 x4) S) := nr (seqN (condE (t := 4) (by kernel_rfl) (execL_skip (by kernel_rfl)) (enterS (by kernel_rfl)) rfl))
@[go_sem] theorem g265 : execL (C b) 0 c244 K (ee3 x3 x4) S =
  withV (evBin .eql (tyi Try.prog 3) x3 (.int .i64 12)) fun x6 =>
    withV (some x6) fun x4 =>
    K .normal (ee3 x3 x4) S := nr (by kernel_rfl)
@[go_sem] theorem k240_n : k240 b .normal (ee3 x3 x4) S =
  condC x4 ((k18 b) .normal (ee3 x3 x4) S)
    (execL (C b) 0 c244 (k246 b) (ee3 x3 x4) S) := nr (seqN (condE (t := 4) (by kernel_rfl) (execL_skip (by kernel_rfl)) (enterS (by kernel_rfl)) rfl))
@[go_sem] theorem g266 : execL (C b) 0 c238 K (ee2 x3) S =
  withV (evBin .eql (tyi Try.prog 3) x3 (.int .i64 4)) fun x5 =>
    withV (some x5) fun x4 =>
    K .normal (ee3 x3 x4) S := nr (by kernel_rfl)
@[go_sem] theorem k13_n : k13 b .normal (ee2 x3) S =
  execL (C b) 0 c238 (k240 b) (ee2 x3) S := nr (seqN ((blockE (by kernel_rfl)).trans ((enterS (by kernel_rfl)).trans (enterS (by kernel_rfl)))))
@[go_sem] theorem g267 : execL (C b) 0 c11 K (ee0 x0) S =
  withV (some x0) fun x3 =>
    K .normal (ee2 x3) S := nr (by kernel_rfl)
@[go_sem] theorem k10_n : k10 b .normal (ee0 x0) S =
  execL (C b) 0 c11 (k13 b) (ee0 x0) S := nr (seqN ((enterS (by kernel_rfl)).trans (enterS (by kernel_rfl))))
@[go_sem] theorem g268 : execL (C b) 0 c1 K (ee0 x0) S =
  withV (some (.str ⟨#[]⟩)) fun x2 =>
    K .normal (ee0 x0) S := nr (by kernel_rfl)
def E (b : Nat) (x0 : PV) (S : Store) : RT := execL (C b) 0 code (k0 b) (ee0 x0) S
@[go_sem] theorem E_eq : E b x0 S =
  execL (C b) 0 c1 (k10 b) (ee0 x0) S := nr (enterS (by kernel_rfl))
@[go_sem] theorem k0_ret1 : k0 b .ret (ee1 x2) S = some (x2, S) := nr (by kernel_rfl)
theorem call {x0 : PV} {r : PV × Store} {v : PV} (h : E 0 x0 [] = some r) (hv : fzPV r.2 r.1 = some v) : callL Try.prog hints 90 [x0] = some v := callL_of (fn := Try.f90) (c := code) (by kernel_rfl) (by kernel_rfl) (by decide) (by kernel_rfl) (Nat.le_of_ble_eq_true (by kernel_rfl)) h hv
end
end F90
/-! ### isochroneref08.Natural -/
namespace F91
section
variable (b : Nat) (K : KT) (x0 x1 x2 x4 x8 x21 : PV) (e : Env) (S : Store)
noncomputable def hint : Hint := { keep := [], loops := [], regs := [(0, [1, 2]), (1, [1, 2, 8]), (2, [4]), (3, [2, 21]), (4, [4]), (5, [4])] }
noncomputable def C (b : Nat) : Ctx := ctxL Try.prog hints b hint
noncomputable def code : Code := Try.f91.body.get rfl
noncomputable def k0 (b : Nat) : KT := endC Try.prog Try.f91
def ee0 (x1 x2 : PV) : Env := [(1, x1), (2, x2)]
def ee1 (x1 x2 x8 : PV) : Env := [(1, x1), (2, x2), (8, x8)]
def ee2 (x2 x21 : PV) : Env := [(2, x2), (21, x21)]
def ee3 (x4 : PV) : Env := [(4, x4)]
def c1 : Code := at0 code
def c2 : Code := at1 code
def c3 : Code := at0 c2
def c4 : Code := at1 c2
def c5 : Code := at0 c4
def c6 : Code := at1 c4
def c7 : Code := at0 c6
def c8 : Code := at1 c6
def k9 (b : Nat) : KT := seqC (fun e S => execL (C b) 0 c8 (k0 b) e S) (k0 b)
@[go_sem] theorem k9_n : k9 b .normal (ee3 x4) S =
  (k0 b) .ret (ee3 x4) S := nr (seqN (execL_ret (by kernel_rfl)))
def k10 (b : Nat) : KT := seqC (fun e S => execL (C b) 0 c6 (k0 b) e S) (k0 b)
@[go_sem] theorem g11 : execL (C b) 0 c7 K (ee2 x2 x21) S =
  withV (evFieldAddr (tyi Try.prog 51) 1 x2) fun x22 =>
    withV (evLoad (tyi Try.prog 49) S x22) fun x23 =>
    withV (indexAddrO Try.prog 49 S x23 (.int .i64 0)) fun x24 =>
    withV (evLoad (tyi Try.prog 76) S x24) fun x25 =>
    withV (convertO Try.prog 76 3 x25) fun x26 =>
    withV (some x26) fun x4 =>
    K .normal (ee3 x4) S := nr (by kernel_rfl)
@[go_sem] theorem k10_n : k10 b .normal e S = execL (C b) 0 c7 (k9 b) e S := nr (seqN (enterS (by kernel_rfl)))
@[go_sem] theorem k10_ret : k10 b .ret e S = (k0 b) .ret e S := nr (seqC_r _ _ _ _)
def k12 (b : Nat) : KT := seqC (fun e S => execL (C b) 0 c4 (k0 b) e S) (k0 b)
def c13 : Code := at0 c5
def c14 : Code := at1 c5
def k15 (b : Nat) : KT := seqC (fun e S => execL (C b) 0 c14 (k10 b) e S) (k10 b)
def c16 : Code := atT c14
def c19 : Code := at0 c16
def c20 : Code := at1 c16
def k21 (b : Nat) : KT := seqC (fun e S => execL (C b) 0 c20 (k10 b) e S) (k10 b)
@[go_sem] theorem k21_n : k21 b .normal (ee3 x4) S =
  (k10 b) .ret (ee3 x4) S := nr (seqN (execL_ret (by kernel_rfl)))
@[go_sem] theorem g22 : execL (C b) 0 c19 K (ee2 x2 x21) S =
  withV (some (.int .i64 (-1))) fun x4 =>
    K .normal (ee3 x4) S := nr (by kernel_rfl)
@[go_sem] theorem k15_n : k15 b .normal (ee2 x2 x21) S =
  condC x21 (execL (C b) 0 c19 (k21 b) (ee2 x2 x21) S)
    ((k10 b) .normal (ee2 x2 x21) S) := nr (seqN (condE (t := 21) (by kernel_rfl) (enterS (by kernel_rfl)) (execL_skip (by kernel_rfl)) rfl))
@[go_sem] theorem g23 : execL (C b) 0 c13 K (ee1 x1 x2 x8) S =
  withV (evFieldAddr (tyi Try.prog 51) 1 x2) fun x9 =>
    withV (evLoad (tyi Try.prog 49) S x9) fun x10 =>
    withV (lenO (tyi Try.prog 49) x10) fun x11 =>
    withV (evBin .gtr (tyi Try.prog 3) x11 (.int .i64 1)) fun x12 =>
    withV (some x12) fun x13 =>
    withV (gval x13 false (evFieldAddr (tyi Try.prog 51) 1 x2)) fun x14 =>
    withV (gval x13 false (evLoad (tyi Try.prog 49) S x14)) fun x15 =>
    withV (gval x13 false (indexAddrO Try.prog 49 S x15 (.int .i64 0))) fun x16 =>
    withV (gval x13 false (evLoad (tyi Try.prog 76) S x16)) fun x17 =>
    withV (gval x13 false (convertO Try.prog 76 2 x17)) fun x18 =>
    withV (gval x13 false (some x1)) fun x19 =>
    withV (gval x13 false (evBin .gtr (tyi Try.prog 2) x18 x19)) fun x20 =>
    withV (pickO x13 (.bool true) x20) fun x21 =>
    K .normal (ee2 x2 x21) S := nr (by kernel_rfl)
@[go_sem] theorem k12_n : k12 b .normal (ee1 x1 x2 x8) S =
  execL (C b) 0 c13 (k15 b) (ee1 x1 x2 x8) S := nr (seqN ((enterS (by kernel_rfl)).trans (enterS (by kernel_rfl))))
@[go_sem] theorem k12_ret : k12 b .ret e S = (k0 b) .ret e S := nr (seqC_r _ _ _ _)
def k24 (b : Nat) : KT := seqC (fun e S => execL (C b) 0 c2 (k0 b) e S) (k0 b)
def c25 : Code := at0 c3
def c26 : Code := at1 c3
def k27 (b : Nat) : KT := seqC (fun e S => execL (C b) 0 c26 (k12 b) e S) (k12 b)
def c28 : Code := atT c26
def c31 : Code := at0 c28
def c32 : Code := at1 c28
def k33 (b : Nat) : KT := seqC (fun e S => execL (C b) 0 c32 (k12 b) e S) (k12 b)
@[go_sem] theorem k33_n : k33 b .normal (ee3 x4) S =
  (k12 b) .ret (ee3 x4) S := nr (seqN (execL_ret (by kernel_rfl)))
@[go_sem] theorem g34 : execL (C b) 0 c31 K (ee1 x1 x2 x8) S =
  withV (some (.int .i64 0)) fun x4 =>
    K .normal (ee3 x4) S := nr (by kernel_rfl)
@[go_sem] theorem k27_n : k27 b .normal (ee1 x1 x2 x8) S =
  condC x8 (execL (C b) 0 c31 (k33 b) (ee1 x1 x2 x8) S)
    ((k12 b) .normal (ee1 x1 x2 x8) S) := nr (seqN (condE (t := 8) (by kernel_rfl) (enterS (by kernel_rfl)) (execL_skip (by kernel_rfl)) rfl))
@[go_sem] theorem g35 : execL (C b) 0 c25 K (ee0 x1 x2) S =
  withV (evFieldAddr (tyi Try.prog 51) 1 x2) fun x5 =>
    withV (evLoad (tyi Try.prog 49) S x5) fun x6 =>
    withV (lenO (tyi Try.prog 49) x6) fun x7 =>
    withV (evBin .eql (tyi Try.prog 3) x7 (.int .i64 0)) fun x8 =>
    K .normal (ee1 x1 x2 x8) S := nr (by kernel_rfl)
@[go_sem] theorem k24_n : k24 b .normal (ee0 x1 x2) S =
  execL (C b) 0 c25 (k27 b) (ee0 x1 x2) S := nr (seqN ((enterS (by kernel_rfl)).trans (enterS (by kernel_rfl))))
@[go_sem] theorem g36 : execL (C b) 0 c1 K [(0, x0), (1, x1)] S =
  withN (boxed S (List.length S) (TI.size (tyi Try.prog 51)) x0) S fun x2 S =>
    withV (some (.int .i64 0)) fun x4 =>
    K .normal (ee0 x1 x2) S := nr (by kernel_rfl)
def E (b : Nat) (x0 x1 : PV) (S : Store) : RT := execL (C b) 0 code (k0 b) [(0, x0), (1, x1)] S
@[go_sem] theorem E_eq : E b x0 x1 S =
  execL (C b) 0 c1 (k24 b) [(0, x0), (1, x1)] S := nr (enterS (by kernel_rfl))
@[go_sem] theorem k0_ret3 : k0 b .ret (ee3 x4) S = some (x4, S) := nr (by kernel_rfl)
theorem call {x0 x1 : PV} {r : PV × Store} {v : PV} (h : E 0 x0 x1 [] = some r) (hv : fzPV r.2 r.1 = some v) : callL Try.prog hints 91 [x0, x1] = some v := callL_of (fn := Try.f91) (c := code) (by kernel_rfl) (by kernel_rfl) (by decide) (by kernel_rfl) (Nat.le_of_ble_eq_true (by kernel_rfl)) h hv
end
end F91
/-! ### isochroneref08.differential -/
namespace F92
section
variable (b i n n1 : Nat) (K : KT) (x0 x1 x2 x3 x4 x33 x46 x55 : PV) (e : Env) (S : Store)
noncomputable def hint : Hint := { keep := [], loops := [(1, { live := [1, 3], after := [], own := [], fz := [] })], regs := [(0, [1]), (1, [1, 4]), (2, [2]), (3, [1, 33]), (4, [1, 3]), (5, [1, 3, 46]), (6, [1, 3]), (7, [1, 3, 55]), (8, [2]), (9, [2]), (10, [2])] }
noncomputable def C (b : Nat) : Ctx := ctxL Try.prog hints b hint
noncomputable def code : Code := Try.f92.body.get rfl
noncomputable def k0 (b : Nat) : KT := endC Try.prog Try.f92
def ee0 (x1 : PV) : Env := [(1, x1)]
def ee1 (x1 x3 : PV) : Env := [(1, x1), (3, x3)]
def ee2 (x1 x3 x46 : PV) : Env := [(1, x1), (3, x3), (46, x46)]
def ee3 (x1 x3 x55 : PV) : Env := [(1, x1), (3, x3), (55, x55)]
def ee4 (x1 x4 : PV) : Env := [(1, x1), (4, x4)]
def ee5 (x1 x33 : PV) : Env := [(1, x1), (33, x33)]
def ee6 (x2 : PV) : Env := [(2, x2)]
def c1 : Code := at0 code
def c2 : Code := at1 code
def c3 : Code := at0 c2
def c4 : Code := at1 c2
def c5 : Code := at0 c4
def c6 : Code := at1 c4
def k7 (b : Nat) : KT := seqC (fun e S => execL (C b) 0 c6 (k0 b) e S) (k0 b)
@[go_sem] theorem k7_n : k7 b .normal (ee6 x2) S =
  (k0 b) .ret (ee6 x2) S := nr (seqN (execL_ret (by kernel_rfl)))
def k8 (b : Nat) : KT := seqC (fun e S => execL (C b) 0 c4 (k0 b) e S) (k0 b)
@[go_sem] theorem g9 : execL (C b) 0 c5 K (ee5 x1 x33) S =
  withV (some (.bool false)) fun x2 =>
    K .normal (ee6 x2) S := nr (by kernel_rfl)
@[go_sem] theorem k8_n : k8 b .normal e S = execL (C b) 0 c5 (k7 b) e S := nr (seqN (enterS (by kernel_rfl)))
@[go_sem] theorem k8_ret : k8 b .ret e S = (k0 b) .ret e S := nr (seqC_r _ _ _ _)
def k10 (b : Nat) : KT := seqC (fun e S => execL (C b) 0 c2 (k0 b) e S) (k0 b)
def c11 : Code := atB c3
def k12 (b : Nat) : KT := blockC 0 (k8 b)
@[go_sem] theorem k12_n : k12 b .normal e S = (k8 b) .normal e S := nr (blockC_n _ _ _ _)
@[go_sem] theorem k12_ret : k12 b .ret e S = (k8 b) .ret e S := nr (blockC_r _ _ _ _)
def c13 : Code := at0 c11
def c14 : Code := at1 c11
def k15 (b : Nat) : KT := seqC (fun e S => execL (C b) 0 c14 (k12 b) e S) (k12 b)
def c16 : Code := atT c14
def c17 : Code := atF c14
def c19 : Code := at0 c16
def c20 : Code := at1 c16
def k21 (b : Nat) : KT := seqC (fun e S => execL (C b) 0 c20 (k12 b) e S) (k12 b)
@[go_sem] theorem k21_n : k21 b .normal (ee6 x2) S =
  (k12 b) .ret (ee6 x2) S := nr (seqN (execL_ret (by kernel_rfl)))
@[go_sem] theorem g22 : execL (C b) 0 c19 K (ee4 x1 x4) S =
  withV (some (.bool true)) fun x2 =>
    K .normal (ee6 x2) S := nr (by kernel_rfl)
def c24 : Code := at0 c17
def c25 : Code := at1 c17
def k26 (b : Nat) : KT := seqC (fun e S => execL (C b) 0 c25 (k12 b) e S) (k12 b)
def c27 : Code := atT c25
def c30 : Code := at0 c27
def c31 : Code := at1 c27
def c32 : Code := at0 c31
def c33 : Code := at1 c31
def k34 (b : Nat) : KT := seqC (fun e S => execL (C b) 0 c33 (k12 b) e S) (k12 b)
@[go_sem] theorem k34_n : k34 b .normal (ee6 x2) S =
  (k12 b) .ret (ee6 x2) S := nr (seqN (execL_ret (by kernel_rfl)))
def k35 (b : Nat) : KT := seqC (fun e S => execL (C b) 0 c31 (k12 b) e S) (k12 b)
@[go_sem] theorem g36 : execL (C b) 0 c32 K (ee2 x1 x3 x46) S =
  withV (some (.bool true)) fun x2 =>
    K .normal (ee6 x2) S := nr (by kernel_rfl)
@[go_sem] theorem k35_n : k35 b .normal e S = execL (C b) 0 c32 (k34 b) e S := nr (seqN (enterS (by kernel_rfl)))
@[go_sem] theorem k35_ret : k35 b .ret e S = (k12 b) .ret e S := nr (seqC_r _ _ _ _)
def c37 : Code := at0 c30
def c38 : Code := at1 c30
def k39 (b : Nat) : KT := seqC (fun e S => execL (C b) 0 c38 (k35 b) e S) (k35 b)
def c40 : Code := atB c38
def k41 (b : Nat) : KT := blockC 1 (k35 b)
@[go_sem] theorem k41_ret : k41 b .ret e S = (k35 b) .ret e S := nr (blockC_r _ _ _ _)
@[go_sem] theorem k41_exit : k41 b (.exit i) e S = if i = 1 then (k35 b) .normal e S else (k35 b) (.exit i) e S := nr (blockC_x _ _ _ _ _)
def c42 : Code := atL c40
def k43 (b n1 : Nat) : KT := afterC 1 n1 [] (k41 b)
def L1g (b n1 : Nat) (e : Env) (S : Store) : RT := loopL (fun K e S => execL (C b) 1 c42 K e S) (normG [1, 3] [] n1) (k43 b n1) e S
def L1 (b n1 : Nat) (x1 x3 : PV) (S : Store) : RT := L1g b n1 (ee1 x1 x3) S
def k44 (b n1 : Nat) : KT := stepC (normG [1, 3] [] n1) (k43 b n1) (L1g b n1)
@[go_sem] theorem k44_n : k44 b n1 .normal (ee1 x1 x3) S = L1 b n1 x1 x3 (gc n1 (ee1 x1 x3) S) := nr (by kernel_rfl)
@[go_sem] theorem k44_ret : k44 b n1 .ret e S = (k41 b) .ret e S := nr ((show k44 b n1 .ret e S = (k43 b n1) .ret e S from stepC_r _ _ _ _ _).trans (afterC_r _ _ _ _ _ _))
@[go_sem] theorem k44_x1 : k44 b n1 (.exit 1) (ee2 x1 x3 x46) S = (k41 b) (.exit 1) (ee2 .undef .undef .undef) (gc n1 (ee2 .undef .undef .undef) S) := nr ((show k44 b n1 (.exit 1) (ee2 x1 x3 x46) S = (k43 b n1) (.exit 1) (ee2 x1 x3 x46) S from stepC_x _ _ _ _ _ _).trans ((show (k43 b n1) (.exit 1) (ee2 x1 x3 x46) S = _ from afterC_x _ _ _ _ _ _ _).trans (if_pos rfl)))
def c45 : Code := at0 c42
def c46 : Code := at1 c42
def c47 : Code := at0 c46
def c48 : Code := at1 c46
def k49 (b n1 : Nat) : KT := seqC (fun e S => execL (C b) 1 c48 (k44 b n1) e S) (k44 b n1)
@[go_sem] theorem g50 : execL (C b) 1 c48 K (ee3 x1 x3 x55) S =
  withV (some x3) fun x47 =>
    withV (evBin .add (tyi Try.prog 3) x47 (.int .i64 1)) fun x48 =>
    withV (some x48) fun x3 =>
    K .normal (ee1 x1 x3) S := nr (by kernel_rfl)
@[go_sem] theorem k49_n : k49 b n1 .normal e S = execL (C b) 1 c48 (k44 b n1) e S := nr (seqN rfl)
@[go_sem] theorem k49_ret : k49 b n1 .ret e S = (k44 b n1) .ret e S := nr (seqC_r _ _ _ _)
def k51 (b n1 : Nat) : KT := seqC (fun e S => execL (C b) 1 c46 (k44 b n1) e S) (k44 b n1)
def c52 : Code := atB c47
def k53 (b n1 : Nat) : KT := blockC 2 (k49 b n1)
@[go_sem] theorem k53_n : k53 b n1 .normal e S = (k49 b n1) .normal e S := nr (blockC_n _ _ _ _)
@[go_sem] theorem k53_ret : k53 b n1 .ret e S = (k49 b n1) .ret e S := nr (blockC_r _ _ _ _)
def c54 : Code := at0 c52
def c55 : Code := at1 c52
def k56 (b n1 : Nat) : KT := seqC (fun e S => execL (C b) 2 c55 (k53 b n1) e S) (k53 b n1)
def c57 : Code := atT c55
def c60 : Code := at0 c57
def c61 : Code := at1 c57
def k62 (b n1 : Nat) : KT := seqC (fun e S => execL (C b) 2 c61 (k53 b n1) e S) (k53 b n1)
@[go_sem] theorem k62_n : k62 b n1 .normal (ee6 x2) S =
  (k53 b n1) .ret (ee6 x2) S := nr (seqN (execL_ret (by kernel_rfl)))
@[go_sem] theorem g63 : execL (C b) 2 c60 K (ee3 x1 x3 x55) S =
  withV (some (.bool false)) fun x2 =>
    K .normal (ee6 x2) S := nr (by kernel_rfl)
@[go_sem] theorem k56_n : k56 b n1 .normal (ee3 x1 x3 x55) S =
  condC x55 (execL (C b) 2 c60 (k62 b n1) (ee3 x1 x3 x55) S)
    ((k53 b n1) .normal (ee3 x1 x3 x55) S) := nr (seqN (condE (t := 55) (by kernel_rfl) (enterS (by kernel_rfl)) (execL_skip (by kernel_rfl)) rfl))
@[go_sem] theorem g64 : execL (C b) 2 c54 K (ee2 x1 x3 x46) S =
  withV (evFieldAddr (tyi Try.prog 54) 3 x1) fun x49 =>
    withV (evLoad (tyi Try.prog 52) S x49) fun x50 =>
    withV (some x3) fun x51 =>
    withV (indexAddrO Try.prog 52 S x50 x51) fun x52 =>
    withV (evLoad (tyi Try.prog 54) S x52) fun x53 =>
    withN (callO (callL Try.prog hints) S 92 [x53]) S fun x54 S =>
    withV (evUn .not x54) fun x55 =>
    K .normal (ee3 x1 x3 x55) S := nr (by kernel_rfl)
@[go_sem] theorem k51_n : k51 b n1 .normal (ee2 x1 x3 x46) S =
  execL (C b) 2 c54 (k56 b n1) (ee2 x1 x3 x46) S := nr (seqN ((enterS (by kernel_rfl)).trans ((blockE (by kernel_rfl)).trans (enterS (by kernel_rfl)))))
@[go_sem] theorem k51_exit : k51 b n1 (.exit i) e S = (k44 b n1) (.exit i) e S := nr (seqC_x _ _ _ _ _)
def c65 : Code := at0 c45
def c66 : Code := at1 c45
def k67 (b n1 : Nat) : KT := seqC (fun e S => execL (C b) 1 c66 (k51 b n1) e S) (k51 b n1)
@[go_sem] theorem k67_n : k67 b n1 .normal (ee2 x1 x3 x46) S =
  condC x46 ((k51 b n1) .normal (ee2 x1 x3 x46) S)
    ((k51 b n1) (.exit 1) (ee2 x1 x3 x46) S) := nr (seqN (condE (t := 46) (by kernel_rfl) (execL_skip (by kernel_rfl)) (execL_exit (by kernel_rfl)) rfl))
@[go_sem] theorem g70 : execL (C b) 1 c65 K (ee1 x1 x3) S =
  withV (some x3) fun x42 =>
    withV (evFieldAddr (tyi Try.prog 54) 3 x1) fun x43 =>
    withV (evLoad (tyi Try.prog 52) S x43) fun x44 =>
    withV (lenO (tyi Try.prog 52) x44) fun x45 =>
    withV (evBin .lss (tyi Try.prog 3) x42 x45) fun x46 =>
    K .normal (ee2 x1 x3 x46) S := nr (by kernel_rfl)
def B1 (b n1 : Nat) (x1 x3 : PV) (S : Store) : RT := execL (C b) 1 c42 (k44 b n1) (ee1 x1 x3) S
@[go_sem] theorem B1_eq : B1 b n1 x1 x3 S =
  execL (C b) 1 c65 (k67 b n1) (ee1 x1 x3) S := nr ((enterS (by kernel_rfl)).trans (enterS (by kernel_rfl)))
theorem L1_step {b n1 : Nat} {x1 x3 : PV} {S : Store} {z : PV × Store} (h : B1 b n1 x1 x3 S = some z) : L1 b n1 x1 x3 S = some z := loopL_step h
theorem L1_in (b : Nat) (x1 x3 : PV) (S : Store) : execL (C b) 1 c40 (k41 b) (ee1 x1 x3) S = L1 b (List.length S) x1 x3 S := by kernel_rfl
@[go_sem] theorem k39_n : k39 b .normal (ee1 x1 x3) S =
  L1 b (List.length S) x1 x3 S := nr (seqN ((blockE (by kernel_rfl)).trans (L1_in b x1 x3 S)))
@[go_sem] theorem g72 : execL (C b) 0 c37 K (ee5 x1 x33) S =
  withV (some (.int .i64 0)) fun x3 =>
    K .normal (ee1 x1 x3) S := nr (by kernel_rfl)
@[go_sem] theorem k26_n : k26 b .normal (ee5 x1 x33) S =
  condC x33 (execL (C b) 0 c37 (k39 b) (ee5 x1 x33) S)
    ((k12 b) .normal (ee5 x1 x33) S) := nr (seqN (condE (t := 33) (by kernel_rfl) ((enterS (by kernel_rfl)).trans (enterS (by kernel_rfl))) (execL_skip (by kernel_rfl)) rfl))
@[go_sem] theorem g73 : execL (C b) 0 c24 K (ee4 x1 x4) S =
  withV (evFieldAddr (tyi Try.prog 54) 0 x1) fun x34 =>
    withV (evLoad (tyi Try.prog 3) S x34) fun x35 =>
    withV (evBin .eql (tyi Try.prog 3) x35 (.int .i64 29)) fun x36 =>
    withV (some x36) fun x37 =>
    withV (gval x37 false (evFieldAddr (tyi Try.prog 54) 0 x1)) fun x38 =>
    withV (gval x37 false (evLoad (tyi Try.prog 3) S x38)) fun x39 =>
    withV (gval x37 false (evBin .eql (tyi Try.prog 3) x39 (.int .i64 30))) fun x40 =>
    withV (pickO x37 (.bool true) x40) fun x41 =>
    withV (some x41) fun x33 =>
    K .normal (ee5 x1 x33) S := nr (by kernel_rfl)
@[go_sem] theorem k15_n : k15 b .normal (ee4 x1 x4) S =
  condC x4 (execL (C b) 0 c19 (k21 b) (ee4 x1 x4) S)
    (execL (C b) 0 c24 (k26 b) (ee4 x1 x4) S) := nr (seqN (condE (t := 4) (by kernel_rfl) (enterS (by kernel_rfl)) (enterS (by kernel_rfl)) rfl))
@[go_sem] theorem g74 : execL (C b) 0 c13 K (ee0 x1) S =
  withV (evFieldAddr (tyi Try.prog 54) 0 x1) fun x5 =>
    withV (evLoad (tyi Try.prog 3) S x5) fun x6 =>
    withV (evBin .eql (tyi Try.prog 3) x6 (.int .i64 20)) fun x7 =>
    withV (some x7) fun x8 =>
    withV (gval x8 false (evFieldAddr (tyi Try.prog 54) 0 x1)) fun x9 =>
    withV (gval x8 false (evLoad (tyi Try.prog 3) S x9)) fun x10 =>
    withV (gval x8 false (evBin .eql (tyi Try.prog 3) x10 (.int .i64 21))) fun x11 =>
    withV (pickO x8 (.bool true) x11) fun x12 =>
    withV (some x12) fun x13 =>
    withV (gval x13 false (evFieldAddr (tyi Try.prog 54) 0 x1)) fun x14 =>
    withV (gval x13 false (evLoad (tyi Try.prog 3) S x14)) fun x15 =>
    withV (gval x13 false (evBin .geq (tyi Try.prog 3) x15 (.int .i64 22))) fun x16 =>
    withV (gval x13 false (some x16)) fun x17 =>
    withV (gval x17 true (evFieldAddr (tyi Try.prog 54) 0 x1)) fun x18 =>
    withV (gval x17 true (evLoad (tyi Try.prog 3) S x18)) fun x19 =>
    withV (gval x17 true (evBin .leq (tyi Try.prog 3) x19 (.int .i64 27))) fun x20 =>
    withV (gval x13 false (pickO x17 x20 (.bool false))) fun x21 =>
    withV (pickO x13 (.bool true) x21) fun x22 =>
    withV (some x22) fun x23 =>
    withV (gval x23 false (evFieldAddr (tyi Try.prog 54) 0 x1)) fun x24 =>
    withV (gval x23 false (evLoad (tyi Try.prog 3) S x24)) fun x25 =>
    withV (gval x23 false (evBin .eql (tyi Try.prog 3) x25 (.int .i64 37))) fun x26 =>
    withV (pickO x23 (.bool true) x26) fun x27 =>
    withV (some x27) fun x28 =>
    withV (gval x28 false (evFieldAddr (tyi Try.prog 54) 0 x1)) fun x29 =>
    withV (gval x28 false (evLoad (tyi Try.prog 3) S x29)) fun x30 =>
    withV (gval x28 false (evBin .eql (tyi Try.prog 3) x30 (.int .i64 38))) fun x31 =>
    withV (pickO x28 (.bool true) x31) fun x32 =>
    withV (some x32) fun x4 =>
    K .normal (ee4 x1 x4) S := nr (by kernel_rfl)
@[go_sem] theorem k10_n : k10 b .normal (ee0 x1) S =
  execL (C b) 0 c13 (k15 b) (ee0 x1) S := nr (seqN ((enterS (by kernel_rfl)).trans ((blockE (by kernel_rfl)).trans (enterS (by kernel_rfl)))))
@[go_sem] theorem g75 : execL (C b) 0 c1 K [(0, x0)] S =
  withN (boxed S (List.length S) (TI.size (tyi Try.prog 54)) x0) S fun x1 S =>
    withV (some (.bool false)) fun x2 =>
    K .normal (ee0 x1) S := nr (by kernel_rfl)
def E (b : Nat) (x0 : PV) (S : Store) : RT := execL (C b) 0 code (k0 b) [(0, x0)] S
@[go_sem] theorem E_eq : E b x0 S =
  execL (C b) 0 c1 (k10 b) [(0, x0)] S := nr (enterS (by kernel_rfl))
@[go_sem] theorem gc_ee1 : gc n (ee1 x1 x3) S = gc n [(1, x1), (3, x3)] S := nr (rfl)
@[go_sem] theorem gc_ee2 : gc n (ee2 x1 x3 x46) S = gc n [(1, x1), (3, x3), (46, x46)] S := nr (rfl)
@[go_sem] theorem k0_ret6 : k0 b .ret (ee6 x2) S = some (x2, S) := nr (by kernel_rfl)
theorem call {x0 : PV} {r : PV × Store} {v : PV} (h : E 0 x0 [] = some r) (hv : fzPV r.2 r.1 = some v) : callL Try.prog hints 92 [x0] = some v := callL_of (fn := Try.f92) (c := code) (by kernel_rfl) (by kernel_rfl) (by decide) (by kernel_rfl) (Nat.le_of_ble_eq_true (by kernel_rfl)) h hv
end
end F92
/-! ### isochroneref08.primed -/
namespace F95
section
variable (b i n n0 : Nat) (K : KT) (x0 x1 x2 x3 x16 x21 x29 : PV) (e : Env) (S : Store)
noncomputable def hint : Hint := { keep := [], loops := [(0, { live := [1, 3], after := [], own := [], fz := [] })], regs := [(0, [1]), (1, [1, 16]), (2, [2]), (3, [1, 3]), (4, [1, 3, 21]), (5, [1, 3]), (6, [1, 3, 29]), (7, [2]), (8, [2])] }
noncomputable def C (b : Nat) : Ctx := ctxL Try.prog hints b hint
noncomputable def code : Code := Try.f95.body.get rfl
noncomputable def k0 (b : Nat) : KT := endC Try.prog Try.f95
def ee0 (x1 : PV) : Env := [(1, x1)]
def ee1 (x1 x3 : PV) : Env := [(1, x1), (3, x3)]
def ee2 (x1 x3 x21 : PV) : Env := [(1, x1), (3, x3), (21, x21)]
def ee3 (x1 x3 x29 : PV) : Env := [(1, x1), (3, x3), (29, x29)]
def ee4 (x1 x16 : PV) : Env := [(1, x1), (16, x16)]
def ee5 (x2 : PV) : Env := [(2, x2)]
def c1 : Code := at0 code
def c2 : Code := at1 code
def c3 : Code := at0 c2
def c4 : Code := at1 c2
def c5 : Code := at0 c4
def c6 : Code := at1 c4
def c7 : Code := at0 c6
def c8 : Code := at1 c6
def k9 (b : Nat) : KT := seqC (fun e S => execL (C b) 0 c8 (k0 b) e S) (k0 b)
@[go_sem] theorem k9_n : k9 b .normal (ee5 x2) S =
  (k0 b) .ret (ee5 x2) S := nr (seqN (execL_ret (by kernel_rfl)))
def k10 (b : Nat) : KT := seqC (fun e S => execL (C b) 0 c6 (k0 b) e S) (k0 b)
@[go_sem] theorem g11 : execL (C b) 0 c7 K (ee2 x1 x3 x21) S =
  withV (some (.bool false)) fun x2 =>
    K .normal (ee5 x2) S := nr (by kernel_rfl)
@[go_sem] theorem k10_n : k10 b .normal e S = execL (C b) 0 c7 (k9 b) e S := nr (seqN (enterS (by kernel_rfl)))
@[go_sem] theorem k10_ret : k10 b .ret e S = (k0 b) .ret e S := nr (seqC_r _ _ _ _)
def k12 (b : Nat) : KT := seqC (fun e S => execL (C b) 0 c4 (k0 b) e S) (k0 b)
def c13 : Code := at0 c5
def c14 : Code := at1 c5
def k15 (b : Nat) : KT := seqC (fun e S => execL (C b) 0 c14 (k10 b) e S) (k10 b)
def c16 : Code := atB c14
def k17 (b : Nat) : KT := blockC 0 (k10 b)
@[go_sem] theorem k17_ret : k17 b .ret e S = (k10 b) .ret e S := nr (blockC_r _ _ _ _)
@[go_sem] theorem k17_exit : k17 b (.exit i) e S = if i = 0 then (k10 b) .normal e S else (k10 b) (.exit i) e S := nr (blockC_x _ _ _ _ _)
def c18 : Code := atL c16
def k19 (b n0 : Nat) : KT := afterC 0 n0 [] (k17 b)
def L0g (b n0 : Nat) (e : Env) (S : Store) : RT := loopL (fun K e S => execL (C b) 0 c18 K e S) (normG [1, 3] [] n0) (k19 b n0) e S
def L0 (b n0 : Nat) (x1 x3 : PV) (S : Store) : RT := L0g b n0 (ee1 x1 x3) S
def k20 (b n0 : Nat) : KT := stepC (normG [1, 3] [] n0) (k19 b n0) (L0g b n0)
@[go_sem] theorem k20_n : k20 b n0 .normal (ee1 x1 x3) S = L0 b n0 x1 x3 (gc n0 (ee1 x1 x3) S) := nr (by kernel_rfl)
@[go_sem] theorem k20_ret : k20 b n0 .ret e S = (k17 b) .ret e S := nr ((show k20 b n0 .ret e S = (k19 b n0) .ret e S from stepC_r _ _ _ _ _).trans (afterC_r _ _ _ _ _ _))
@[go_sem] theorem k20_x1 : k20 b n0 (.exit 0) (ee2 x1 x3 x21) S = (k17 b) (.exit 0) (ee2 .undef .undef .undef) (gc n0 (ee2 .undef .undef .undef) S) := nr ((show k20 b n0 (.exit 0) (ee2 x1 x3 x21) S = (k19 b n0) (.exit 0) (ee2 x1 x3 x21) S from stepC_x _ _ _ _ _ _).trans ((show (k19 b n0) (.exit 0) (ee2 x1 x3 x21) S = _ from afterC_x _ _ _ _ _ _ _).trans (if_pos rfl)))
def c21 : Code := at0 c18
def c22 : Code := at1 c18
def c23 : Code := at0 c22
def c24 : Code := at1 c22
def k25 (b n0 : Nat) : KT := seqC (fun e S => execL (C b) 0 c24 (k20 b n0) e S) (k20 b n0)
@[go_sem] theorem g26 : execL (C b) 0 c24 K (ee3 x1 x3 x29) S =
  withV (some x3) fun x22 =>
    withV (evBin .add (tyi Try.prog 3) x22 (.int .i64 1)) fun x23 =>
    withV (some x23) fun x3 =>
    K .normal (ee1 x1 x3) S := nr (by kernel_rfl)
@[go_sem] theorem k25_n : k25 b n0 .normal e S = execL (C b) 0 c24 (k20 b n0) e S := nr (seqN rfl)
@[go_sem] theorem k25_ret : k25 b n0 .ret e S = (k20 b n0) .ret e S := nr (seqC_r _ _ _ _)
def k27 (b n0 : Nat) : KT := seqC (fun e S => execL (C b) 0 c22 (k20 b n0) e S) (k20 b n0)
def c28 : Code := atB c23
def k29 (b n0 : Nat) : KT := blockC 1 (k25 b n0)
@[go_sem] theorem k29_n : k29 b n0 .normal e S = (k25 b n0) .normal e S := nr (blockC_n _ _ _ _)
@[go_sem] theorem k29_ret : k29 b n0 .ret e S = (k25 b n0) .ret e S := nr (blockC_r _ _ _ _)
def c30 : Code := at0 c28
def c31 : Code := at1 c28
def k32 (b n0 : Nat) : KT := seqC (fun e S => execL (C b) 1 c31 (k29 b n0) e S) (k29 b n0)
def c33 : Code := atT c31
def c36 : Code := at0 c33
def c37 : Code := at1 c33
def k38 (b n0 : Nat) : KT := seqC (fun e S => execL (C b) 1 c37 (k29 b n0) e S) (k29 b n0)
@[go_sem] theorem k38_n : k38 b n0 .normal (ee5 x2) S =
  (k29 b n0) .ret (ee5 x2) S := nr (seqN (execL_ret (by kernel_rfl)))
@[go_sem] theorem g39 : execL (C b) 1 c36 K (ee3 x1 x3 x29) S =
  withV (some (.bool true)) fun x2 =>
    K .normal (ee5 x2) S := nr (by kernel_rfl)
@[go_sem] theorem k32_n : k32 b n0 .normal (ee3 x1 x3 x29) S =
  condC x29 (execL (C b) 1 c36 (k38 b n0) (ee3 x1 x3 x29) S)
    ((k29 b n0) .normal (ee3 x1 x3 x29) S) := nr (seqN (condE (t := 29) (by kernel_rfl) (enterS (by kernel_rfl)) (execL_skip (by kernel_rfl)) rfl))
@[go_sem] theorem g40 : execL (C b) 1 c30 K (ee2 x1 x3 x21) S =
  withV (evFieldAddr (tyi Try.prog 54) 3 x1) fun x24 =>
    withV (evLoad (tyi Try.prog 52) S x24) fun x25 =>
    withV (some x3) fun x26 =>
    withV (indexAddrO Try.prog 52 S x25 x26) fun x27 =>
    withV (evLoad (tyi Try.prog 54) S x27) fun x28 =>
    withN (callO (callL Try.prog hints) S 95 [x28]) S fun x29 S =>
    K .normal (ee3 x1 x3 x29) S := nr (by kernel_rfl)
@[go_sem] theorem k27_n : k27 b n0 .normal (ee2 x1 x3 x21) S =
  execL (C b) 1 c30 (k32 b n0) (ee2 x1 x3 x21) S := nr (seqN ((enterS (by kernel_rfl)).trans ((blockE (by kernel_rfl)).trans (enterS (by kernel_rfl)))))
@[go_sem] theorem k27_exit : k27 b n0 (.exit i) e S = (k20 b n0) (.exit i) e S := nr (seqC_x _ _ _ _ _)
def c41 : Code := at0 c21
def c42 : Code := at1 c21
def k43 (b n0 : Nat) : KT := seqC (fun e S => execL (C b) 0 c42 (k27 b n0) e S) (k27 b n0)
@[go_sem] theorem k43_n : k43 b n0 .normal (ee2 x1 x3 x21) S =
  condC x21 ((k27 b n0) .normal (ee2 x1 x3 x21) S)
    ((k27 b n0) (.exit 0) (ee2 x1 x3 x21) S) := nr (seqN (condE (t := 21) (by kernel_rfl) (execL_skip (by kernel_rfl)) (execL_exit (by kernel_rfl)) rfl))
@[go_sem] theorem g46 : execL (C b) 0 c41 K (ee1 x1 x3) S =
  withV (some x3) fun x17 =>
    withV (evFieldAddr (tyi Try.prog 54) 3 x1) fun x18 =>
    withV (evLoad (tyi Try.prog 52) S x18) fun x19 =>
    withV (lenO (tyi Try.prog 52) x19) fun x20 =>
    withV (evBin .lss (tyi Try.prog 3) x17 x20) fun x21 =>
    K .normal (ee2 x1 x3 x21) S := nr (by kernel_rfl)
def B0 (b n0 : Nat) (x1 x3 : PV) (S : Store) : RT := execL (C b) 0 c18 (k20 b n0) (ee1 x1 x3) S
@[go_sem] theorem B0_eq : B0 b n0 x1 x3 S =
  execL (C b) 0 c41 (k43 b n0) (ee1 x1 x3) S := nr ((enterS (by kernel_rfl)).trans (enterS (by kernel_rfl)))
theorem L0_step {b n0 : Nat} {x1 x3 : PV} {S : Store} {z : PV × Store} (h : B0 b n0 x1 x3 S = some z) : L0 b n0 x1 x3 S = some z := loopL_step h
theorem L0_in (b : Nat) (x1 x3 : PV) (S : Store) : execL (C b) 0 c16 (k17 b) (ee1 x1 x3) S = L0 b (List.length S) x1 x3 S := by kernel_rfl
@[go_sem] theorem k15_n : k15 b .normal (ee1 x1 x3) S =
  L0 b (List.length S) x1 x3 S := nr (seqN ((blockE (by kernel_rfl)).trans (L0_in b x1 x3 S)))
@[go_sem] theorem g48 : execL (C b) 0 c13 K (ee4 x1 x16) S =
  withV (some (.int .i64 0)) fun x3 =>
    K .normal (ee1 x1 x3) S := nr (by kernel_rfl)
@[go_sem] theorem k12_n : k12 b .normal (ee4 x1 x16) S =
  execL (C b) 0 c13 (k15 b) (ee4 x1 x16) S := nr (seqN ((enterS (by kernel_rfl)).trans (enterS (by kernel_rfl))))
@[go_sem] theorem k12_ret : k12 b .ret e S = (k0 b) .ret e S := nr (seqC_r _ _ _ _)
def k49 (b : Nat) : KT := seqC (fun e S => execL (C b) 0 c2 (k0 b) e S) (k0 b)
def c50 : Code := at0 c3
def c51 : Code := at1 c3
def k52 (b : Nat) : KT := seqC (fun e S => execL (C b) 0 c51 (k12 b) e S) (k12 b)
def c53 : Code := atT c51
def c56 : Code := at0 c53
def c57 : Code := at1 c53
def k58 (b : Nat) : KT := seqC (fun e S => execL (C b) 0 c57 (k12 b) e S) (k12 b)
@[go_sem] theorem k58_n : k58 b .normal (ee5 x2) S =
  (k12 b) .ret (ee5 x2) S := nr (seqN (execL_ret (by kernel_rfl)))
@[go_sem] theorem g59 : execL (C b) 0 c56 K (ee4 x1 x16) S =
  withV (some (.bool true)) fun x2 =>
    K .normal (ee5 x2) S := nr (by kernel_rfl)
@[go_sem] theorem k52_n : k52 b .normal (ee4 x1 x16) S =
  condC x16 (execL (C b) 0 c56 (k58 b) (ee4 x1 x16) S)
    ((k12 b) .normal (ee4 x1 x16) S) := nr (seqN (condE (t := 16) (by kernel_rfl) (enterS (by kernel_rfl)) (execL_skip (by kernel_rfl)) rfl))
@[go_sem] theorem g60 : execL (C b) 0 c50 K (ee0 x1) S =
  withV (evFieldAddr (tyi Try.prog 54) 0 x1) fun x4 =>
    withV (evLoad (tyi Try.prog 3) S x4) fun x5 =>
    withV (evBin .eql (tyi Try.prog 3) x5 (.int .i64 3)) fun x6 =>
    withV (some x6) fun x7 =>
    withV (gval x7 false (evFieldAddr (tyi Try.prog 54) 0 x1)) fun x8 =>
    withV (gval x7 false (evLoad (tyi Try.prog 3) S x8)) fun x9 =>
    withV (gval x7 false (evBin .eql (tyi Try.prog 3) x9 (.int .i64 12))) fun x10 =>
    withV (pickO x7 (.bool true) x10) fun x11 =>
    withV (some x11) fun x12 =>
    withV (gval x12 false (evFieldAddr (tyi Try.prog 54) 0 x1)) fun x13 =>
    withV (gval x12 false (evLoad (tyi Try.prog 3) S x13)) fun x14 =>
    withV (gval x12 false (evBin .eql (tyi Try.prog 3) x14 (.int .i64 39))) fun x15 =>
    withV (pickO x12 (.bool true) x15) fun x16 =>
    K .normal (ee4 x1 x16) S := nr (by kernel_rfl)
@[go_sem] theorem k49_n : k49 b .normal (ee0 x1) S =
  execL (C b) 0 c50 (k52 b) (ee0 x1) S := nr (seqN ((enterS (by kernel_rfl)).trans (enterS (by kernel_rfl))))
@[go_sem] theorem g61 : execL (C b) 0 c1 K [(0, x0)] S =
  withN (boxed S (List.length S) (TI.size (tyi Try.prog 54)) x0) S fun x1 S =>
    withV (some (.bool false)) fun x2 =>
    K .normal (ee0 x1) S := nr (by kernel_rfl)
def E (b : Nat) (x0 : PV) (S : Store) : RT := execL (C b) 0 code (k0 b) [(0, x0)] S
@[go_sem] theorem E_eq : E b x0 S =
  execL (C b) 0 c1 (k49 b) [(0, x0)] S := nr (enterS (by kernel_rfl))
@[go_sem] theorem gc_ee1 : gc n (ee1 x1 x3) S = gc n [(1, x1), (3, x3)] S := nr (rfl)
@[go_sem] theorem gc_ee2 : gc n (ee2 x1 x3 x21) S = gc n [(1, x1), (3, x3), (21, x21)] S := nr (rfl)
@[go_sem] theorem k0_ret5 : k0 b .ret (ee5 x2) S = some (x2, S) := nr (by kernel_rfl)
theorem call {x0 : PV} {r : PV × Store} {v : PV} (h : E 0 x0 [] = some r) (hv : fzPV r.2 r.1 = some v) : callL Try.prog hints 95 [x0] = some v := callL_of (fn := Try.f95) (c := code) (by kernel_rfl) (by kernel_rfl) (by decide) (by kernel_rfl) (Nat.le_of_ble_eq_true (by kernel_rfl)) h hv
end
end F95
end
end Go.Vs
