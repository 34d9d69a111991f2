/- Printed by a program of mine (stage1.py): the functions 66, 67, 38, 39, 40, 41, piece by piece. -/

import Derived.Test.YtnddhkcciphhkaaMQ9
set_option linter.unusedVariables false
set_option linter.unusedSimpArgs false
namespace Go.Vs
open Go Go.Proofs
noncomputable section

/-! ### tree.letter -/
namespace F66
section
variable (b : Nat) (K : KT) (x0 x2 : PV) (e : Env) (S : Store)
noncomputable def hint : Hint := { keep := [], loops := [], regs := [(0, [0]), (1, [2])] }
noncomputable def C (b : Nat) : Ctx := ctxL Try.prog hints b hint
noncomputable def code : Code := Try.f66.body.get rfl
noncomputable def k0 (b : Nat) : KT := endC Try.prog Try.f66
def ee0 (x0 : PV) : Env := [(0, x0)]
def ee1 (x2 : PV) : Env := [(2, x2)]
def c1 : Code := at0 code
def c2 : Code := at1 code
def c3 : Code := at0 c2
def c4 : Code := at1 c2
def k5 (b : Nat) : KT := seqC (fun e S => execL (C b) 0 c4 (k0 b) e S) (k0 b)
@[go_sem] theorem k5_n : k5 b .normal (ee1 x2) S =
  (k0 b) .ret (ee1 x2) S := nr (seqN (execL_ret (by kernel_rfl)))
def k6 (b : Nat) : KT := seqC (fun e S => execL (C b) 0 c2 (k0 b) e S) (k0 b)
@[go_sem] theorem g7 : execL (C b) 0 c3 K (ee0 x0) S =
  withV (some x0) fun x3 =>
    withV (evBin .geq (tyi Try.prog 5) x3 (.int .u8 97)) fun x4 =>
    withV (some x4) fun x5 =>
    withV (gval x5 true (some x0)) fun x6 =>
    withV (gval x5 true (evBin .leq (tyi Try.prog 5) x6 (.int .u8 122))) fun x7 =>
    withV (pickO x5 x7 (.bool false)) fun x8 =>
    withV (some x8) fun x9 =>
    withV (gval x9 false (some x0)) fun x10 =>
    withV (gval x9 false (evBin .geq (tyi Try.prog 5) x10 (.int .u8 65))) fun x11 =>
    withV (gval x9 false (some x11)) fun x12 =>
    withV (gval x12 true (some x0)) fun x13 =>
    withV (gval x12 true (evBin .leq (tyi Try.prog 5) x13 (.int .u8 90))) fun x14 =>
    withV (gval x9 false (pickO x12 x14 (.bool false))) fun x15 =>
    withV (pickO x9 (.bool true) x15) fun x16 =>
    withV (some x16) fun x2 =>
    K .normal (ee1 x2) S := nr (by kernel_rfl)
@[go_sem] theorem k6_n : k6 b .normal e S = execL (C b) 0 c3 (k5 b) e S := nr (seqN (enterS (by kernel_rfl)))
@[go_sem] theorem g8 : execL (C b) 0 c1 K (ee0 x0) S =
  withV (some (.bool false)) fun x2 =>
    K .normal (ee0 x0) S := nr (by kernel_rfl)
def E (b : Nat) (x0 : PV) (S : Store) : RT := execL (C b) 0 code (k0 b) (ee0 x0) S
@[go_sem] theorem E_eq : E b x0 S =
  execL (C b) 0 c1 (k6 b) (ee0 x0) S := nr (enterS (by kernel_rfl))
@[go_sem] theorem k0_ret1 : k0 b .ret (ee1 x2) S = some (x2, S) := nr (by kernel_rfl)
theorem call {x0 : PV} {r : PV × Store} {v : PV} (h : E 0 x0 [] = some r) (hv : fzPV r.2 r.1 = some v) : callL Try.prog hints 66 [x0] = some v := callL_of (fn := Try.f66) (c := code) (by kernel_rfl) (by kernel_rfl) (by decide) (by kernel_rfl) (Nat.le_of_ble_eq_true (by kernel_rfl)) h hv
end
end F66
/-! ### isochroneref08.letter -/
namespace F67
section
variable (b : Nat) (K : KT) (x0 x2 : PV) (e : Env) (S : Store)
noncomputable def hint : Hint := { keep := [], loops := [], regs := [(0, [0]), (1, [2])] }
noncomputable def C (b : Nat) : Ctx := ctxL Try.prog hints b hint
noncomputable def code : Code := Try.f67.body.get rfl
noncomputable def k0 (b : Nat) : KT := endC Try.prog Try.f67
def ee0 (x0 : PV) : Env := [(0, x0)]
def ee1 (x2 : PV) : Env := [(2, x2)]
def c1 : Code := at0 code
def c2 : Code := at1 code
def c3 : Code := at0 c2
def c4 : Code := at1 c2
def k5 (b : Nat) : KT := seqC (fun e S => execL (C b) 0 c4 (k0 b) e S) (k0 b)
@[go_sem] theorem k5_n : k5 b .normal (ee1 x2) S =
  (k0 b) .ret (ee1 x2) S := nr (seqN (execL_ret (by kernel_rfl)))
def k6 (b : Nat) : KT := seqC (fun e S => execL (C b) 0 c2 (k0 b) e S) (k0 b)
@[go_sem] theorem g7 : execL (C b) 0 c3 K (ee0 x0) S =
  withV (some x0) fun x3 =>
    withV (evBin .geq (tyi Try.prog 5) x3 (.int .u8 97)) fun x4 =>
    withV (some x4) fun x5 =>
    withV (gval x5 true (some x0)) fun x6 =>
    withV (gval x5 true (evBin .leq (tyi Try.prog 5) x6 (.int .u8 122))) fun x7 =>
    withV (pickO x5 x7 (.bool false)) fun x8 =>
    withV (some x8) fun x9 =>
    withV (gval x9 false (some x0)) fun x10 =>
    withV (gval x9 false (evBin .geq (tyi Try.prog 5) x10 (.int .u8 65))) fun x11 =>
    withV (gval x9 false (some x11)) fun x12 =>
    withV (gval x12 true (some x0)) fun x13 =>
    withV (gval x12 true (evBin .leq (tyi Try.prog 5) x13 (.int .u8 90))) fun x14 =>
    withV (gval x9 false (pickO x12 x14 (.bool false))) fun x15 =>
    withV (pickO x9 (.bool true) x15) fun x16 =>
    withV (some x16) fun x2 =>
    K .normal (ee1 x2) S := nr (by kernel_rfl)
@[go_sem] theorem k6_n : k6 b .normal e S = execL (C b) 0 c3 (k5 b) e S := nr (seqN (enterS (by kernel_rfl)))
@[go_sem] theorem g8 : execL (C b) 0 c1 K (ee0 x0) S =
  withV (some (.bool false)) fun x2 =>
    K .normal (ee0 x0) S := nr (by kernel_rfl)
def E (b : Nat) (x0 : PV) (S : Store) : RT := execL (C b) 0 code (k0 b) (ee0 x0) S
@[go_sem] theorem E_eq : E b x0 S =
  execL (C b) 0 c1 (k6 b) (ee0 x0) S := nr (enterS (by kernel_rfl))
@[go_sem] theorem k0_ret1 : k0 b .ret (ee1 x2) S = some (x2, S) := nr (by kernel_rfl)
theorem call {x0 : PV} {r : PV × Store} {v : PV} (h : E 0 x0 [] = some r) (hv : fzPV r.2 r.1 = some v) : callL Try.prog hints 67 [x0] = some v := callL_of (fn := Try.f67) (c := code) (by kernel_rfl) (by kernel_rfl) (by decide) (by kernel_rfl) (Nat.le_of_ble_eq_true (by kernel_rfl)) h hv
end
end F67
/-! ### tree.Name -/
namespace F38
section
variable (b i n n0 : Nat) (K : KT) (x0 x2 x3 x17 x21 x40 x41 x42 : PV) (e : Env) (S : Store)
noncomputable def hint : Hint := { keep := [], loops := [(0, { live := [0, 3], after := [0], own := [], fz := [] })], regs := [(0, [0]), (1, [0, 17]), (2, [2]), (3, [0, 3]), (4, [0, 3, 21]), (5, [0, 3]), (6, [0, 3, 40]), (7, [2]), (8, [41]), (9, [41, 42]), (10, [41, 42]), (11, [41, 42]), (12, [41, 42]), (13, [2]), (14, [2])] }
noncomputable def C (b : Nat) : Ctx := ctxL Try.prog hints b hint
noncomputable def code : Code := Try.f38.body.get rfl
noncomputable def k0 (b : Nat) : KT := endC Try.prog Try.f38
def ee0 (x0 : PV) : Env := [(0, x0)]
def ee1 (x0 x3 : PV) : Env := [(0, x0), (3, x3)]
def ee2 (x0 x3 x21 : PV) : Env := [(0, x0), (3, x3), (21, x21)]
def ee3 (x0 x3 x40 : PV) : Env := [(0, x0), (3, x3), (40, x40)]
def ee4 (x0 x17 : PV) : Env := [(0, x0), (17, x17)]
def ee5 (x2 : PV) : Env := [(2, x2)]
def ee6 (x41 : PV) : Env := [(41, x41)]
def ee7 (x41 x42 : PV) : Env := [(41, x41), (42, x42)]
def c1 : Code := at0 code
def c2 : Code := at1 code
def c3 : Code := at0 c2
def c4 : Code := at1 c2
def c5 : Code := at0 c4
def c6 : Code := at1 c4
def c7 : Code := at0 c6
def c8 : Code := at1 c6
def c9 : Code := at0 c8
def c10 : Code := at1 c8
def k11 (b : Nat) : KT := seqC (fun e S => execL (C b) 0 c10 (k0 b) e S) (k0 b)
@[go_sem] theorem k11_n : k11 b .normal (ee5 x2) S =
  (k0 b) .ret (ee5 x2) S := nr (seqN (execL_ret (by kernel_rfl)))
def k12 (b : Nat) : KT := seqC (fun e S => execL (C b) 0 c8 (k0 b) e S) (k0 b)
@[go_sem] theorem g13 : execL (C b) 0 c9 K (ee7 x41 x42) S =
  withV (some (.bool true)) fun x2 =>
    K .normal (ee5 x2) S := nr (by kernel_rfl)
@[go_sem] theorem k12_n : k12 b .normal e S = execL (C b) 0 c9 (k11 b) e S := nr (seqN (enterS (by kernel_rfl)))
@[go_sem] theorem k12_ret : k12 b .ret e S = (k0 b) .ret e S := nr (seqC_r _ _ _ _)
def k14 (b : Nat) : KT := seqC (fun e S => execL (C b) 0 c6 (k0 b) e S) (k0 b)
def c15 : Code := at0 c7
def c16 : Code := at1 c7
def k17 (b : Nat) : KT := seqC (fun e S => execL (C b) 0 c16 (k12 b) e S) (k12 b)
def c18 : Code := atB c16
def k19 (b : Nat) : KT := blockC 2 (k12 b)
@[go_sem] theorem k19_n : k19 b .normal e S = (k12 b) .normal e S := nr (blockC_n _ _ _ _)
@[go_sem] theorem k19_ret : k19 b .ret e S = (k12 b) .ret e S := nr (blockC_r _ _ _ _)
def c20 : Code := at0 c18
def c21 : Code := at1 c18
def k22 (b : Nat) : KT := seqC (fun e S => execL (C b) 2 c21 (k19 b) e S) (k19 b)
def c23 : Code := atT c21
def c26 : Code := at0 c23
def c27 : Code := at1 c23
def k28 (b : Nat) : KT := seqC (fun e S => execL (C b) 2 c27 (k19 b) e S) (k19 b)
@[go_sem] theorem k28_n : k28 b .normal (ee5 x2) S =
  (k19 b) .ret (ee5 x2) S := nr (seqN (execL_ret (by kernel_rfl)))
@[go_sem] theorem g29 : execL (C b) 2 c26 K (ee7 x41 x42) S =
  withV (some (.bool false)) fun x2 =>
    K .normal (ee5 x2) S := nr (by kernel_rfl)
@[go_sem] theorem k22_n : k22 b .normal (ee7 x41 x42) S =
  condC x42 (execL (C b) 2 c26 (k28 b) (ee7 x41 x42) S)
    ((k19 b) .normal (ee7 x41 x42) S) := nr (seqN (condE (t := 42) (by kernel_rfl) (enterS (by kernel_rfl)) (execL_skip (by kernel_rfl)) rfl))
def c30 : Code := at0 c20
def c31 : Code := at1 c20
def k32 (b : Nat) : KT := seqC (fun e S => execL (C b) 2 c31 (k22 b) e S) (k22 b)
def c34 : Code := atF c31
def c36 : Code := at0 c34
def c37 : Code := at1 c34
def k38 (b : Nat) : KT := seqC (fun e S => execL (C b) 2 c37 (k22 b) e S) (k22 b)
def c40 : Code := atF c37
def c42 : Code := at0 c40
def c43 : Code := at1 c40
def k44 (b : Nat) : KT := seqC (fun e S => execL (C b) 2 c43 (k22 b) e S) (k22 b)
def c46 : Code := atF c43
@[go_sem] theorem g48 : execL (C b) 2 c46 K (ee7 x41 x42) S =
  withV (evBin .eql (tyi Try.prog 9) x41 (.str ⟨#[101, 120, 105, 115, 116, 115]⟩)) fun x46 =>
    withV (some x46) fun x42 =>
    K .normal (ee7 x41 x42) S := nr (by kernel_rfl)
@[go_sem] theorem k44_n : k44 b .normal (ee7 x41 x42) S =
  condC x42 ((k22 b) .normal (ee7 x41 x42) S)
    (execL (C b) 2 c46 (k22 b) (ee7 x41 x42) S) := nr (seqN (condE (t := 42) (by kernel_rfl) (execL_skip (by kernel_rfl)) (rfl) rfl))
@[go_sem] theorem g49 : execL (C b) 2 c42 K (ee7 x41 x42) S =
  withV (evBin .eql (tyi Try.prog 9) x41 (.str ⟨#[102, 111, 114, 97, 108, 108]⟩)) fun x45 =>
    withV (some x45) fun x42 =>
    K .normal (ee7 x41 x42) S := nr (by kernel_rfl)
@[go_sem] theorem k38_n : k38 b .normal (ee7 x41 x42) S =
  condC x42 ((k22 b) .normal (ee7 x41 x42) S)
    (execL (C b) 2 c42 (k44 b) (ee7 x41 x42) S) := nr (seqN (condE (t := 42) (by kernel_rfl) (execL_skip (by kernel_rfl)) (enterS (by kernel_rfl)) rfl))
@[go_sem] theorem g50 : execL (C b) 2 c36 K (ee7 x41 x42) S =
  withV (evBin .eql (tyi Try.prog 9) x41 (.str ⟨#[102, 97, 108, 115, 101]⟩)) fun x44 =>
    withV (some x44) fun x42 =>
    K .normal (ee7 x41 x42) S := nr (by kernel_rfl)
@[go_sem] theorem k32_n : k32 b .normal (ee7 x41 x42) S =
  condC x42 ((k22 b) .normal (ee7 x41 x42) S)
    (execL (C b) 2 c36 (k38 b) (ee7 x41 x42) S) := nr (seqN (condE (t := 42) (by kernel_rfl) (execL_skip (by kernel_rfl)) (enterS (by kernel_rfl)) rfl))
@[go_sem] theorem g51 : execL (C b) 2 c30 K (ee6 x41) S =
  withV (evBin .eql (tyi Try.prog 9) x41 (.str ⟨#[116, 114, 117, 101]⟩)) fun x43 =>
    withV (some x43) fun x42 =>
    K .normal (ee7 x41 x42) S := nr (by kernel_rfl)
@[go_sem] theorem k17_n : k17 b .normal (ee6 x41) S =
  execL (C b) 2 c30 (k32 b) (ee6 x41) S := nr (seqN ((blockE (by kernel_rfl)).trans ((enterS (by kernel_rfl)).trans (enterS (by kernel_rfl)))))
@[go_sem] theorem g52 : execL (C b) 0 c15 K (ee2 x0 x3 x21) S =
  withV (some x0) fun x41 =>
    K .normal (ee6 x41) S := nr (by kernel_rfl)
@[go_sem] theorem k14_n : k14 b .normal (ee2 x0 x3 x21) S =
  execL (C b) 0 c15 (k17 b) (ee2 x0 x3 x21) S := nr (seqN ((enterS (by kernel_rfl)).trans (enterS (by kernel_rfl))))
@[go_sem] theorem k14_ret : k14 b .ret e S = (k0 b) .ret e S := nr (seqC_r _ _ _ _)
def k53 (b : Nat) : KT := seqC (fun e S => execL (C b) 0 c4 (k0 b) e S) (k0 b)
def c54 : Code := at0 c5
def c55 : Code := at1 c5
def k56 (b : Nat) : KT := seqC (fun e S => execL (C b) 0 c55 (k14 b) e S) (k14 b)
def c57 : Code := atB c55
def k58 (b : Nat) : KT := blockC 0 (k14 b)
@[go_sem] theorem k58_ret : k58 b .ret e S = (k14 b) .ret e S := nr (blockC_r _ _ _ _)
@[go_sem] theorem k58_exit : k58 b (.exit i) e S = if i = 0 then (k14 b) .normal e S else (k14 b) (.exit i) e S := nr (blockC_x _ _ _ _ _)
def c59 : Code := atL c57
def k60 (b n0 : Nat) : KT := afterC 0 n0 [0] (k58 b)
def L0g (b n0 : Nat) (e : Env) (S : Store) : RT := loopL (fun K e S => execL (C b) 0 c59 K e S) (normG [0, 3] [] n0) (k60 b n0) e S
def L0 (b n0 : Nat) (x0 x3 : PV) (S : Store) : RT := L0g b n0 (ee1 x0 x3) S
def k61 (b n0 : Nat) : KT := stepC (normG [0, 3] [] n0) (k60 b n0) (L0g b n0)
@[go_sem] theorem k61_n : k61 b n0 .normal (ee1 x0 x3) S = L0 b n0 x0 x3 (gc n0 (ee1 x0 x3) S) := nr (by kernel_rfl)
@[go_sem] theorem k61_ret : k61 b n0 .ret e S = (k58 b) .ret e S := nr ((show k61 b n0 .ret e S = (k60 b n0) .ret e S from stepC_r _ _ _ _ _).trans (afterC_r _ _ _ _ _ _))
@[go_sem] theorem k61_x1 : k61 b n0 (.exit 0) (ee2 x0 x3 x21) S = (k58 b) (.exit 0) (ee2 x0 .undef .undef) (gc n0 (ee2 x0 .undef .undef) S) := nr ((show k61 b n0 (.exit 0) (ee2 x0 x3 x21) S = (k60 b n0) (.exit 0) (ee2 x0 x3 x21) S from stepC_x _ _ _ _ _ _).trans ((show (k60 b n0) (.exit 0) (ee2 x0 x3 x21) S = _ from afterC_x _ _ _ _ _ _ _).trans (if_pos rfl)))
def c62 : Code := at0 c59
def c63 : Code := at1 c59
def c64 : Code := at0 c63
def c65 : Code := at1 c63
def k66 (b n0 : Nat) : KT := seqC (fun e S => execL (C b) 0 c65 (k61 b n0) e S) (k61 b n0)
@[go_sem] theorem g67 : execL (C b) 0 c65 K (ee3 x0 x3 x40) S =
  withV (some x3) fun x22 =>
    withV (evBin .add (tyi Try.prog 3) x22 (.int .i64 1)) fun x23 =>
    withV (some x23) fun x3 =>
    K .normal (ee1 x0 x3) S := nr (by kernel_rfl)
@[go_sem] theorem k66_n : k66 b n0 .normal e S = execL (C b) 0 c65 (k61 b n0) e S := nr (seqN rfl)
@[go_sem] theorem k66_ret : k66 b n0 .ret e S = (k61 b n0) .ret e S := nr (seqC_r _ _ _ _)
def k68 (b n0 : Nat) : KT := seqC (fun e S => execL (C b) 0 c63 (k61 b n0) e S) (k61 b n0)
def c69 : Code := atB c64
def k70 (b n0 : Nat) : KT := blockC 1 (k66 b n0)
@[go_sem] theorem k70_n : k70 b n0 .normal e S = (k66 b n0) .normal e S := nr (blockC_n _ _ _ _)
@[go_sem] theorem k70_ret : k70 b n0 .ret e S = (k66 b n0) .ret e S := nr (blockC_r _ _ _ _)
def c71 : Code := at0 c69
def c72 : Code := at1 c69
def k73 (b n0 : Nat) : KT := seqC (fun e S => execL (C b) 1 c72 (k70 b n0) e S) (k70 b n0)
def c74 : Code := atT c72
def c77 : Code := at0 c74
def c78 : Code := at1 c74
def k79 (b n0 : Nat) : KT := seqC (fun e S => execL (C b) 1 c78 (k70 b n0) e S) (k70 b n0)
@[go_sem] theorem k79_n : k79 b n0 .normal (ee5 x2) S =
  (k70 b n0) .ret (ee5 x2) S := nr (seqN (execL_ret (by kernel_rfl)))
@[go_sem] theorem g80 : execL (C b) 1 c77 K (ee3 x0 x3 x40) S =
  withV (some (.bool false)) fun x2 =>
    K .normal (ee5 x2) S := nr (by kernel_rfl)
@[go_sem] theorem k73_n : k73 b n0 .normal (ee3 x0 x3 x40) S =
  condC x40 (execL (C b) 1 c77 (k79 b n0) (ee3 x0 x3 x40) S)
    ((k70 b n0) .normal (ee3 x0 x3 x40) S) := nr (seqN (condE (t := 40) (by kernel_rfl) (enterS (by kernel_rfl)) (execL_skip (by kernel_rfl)) rfl))
@[go_sem] theorem g81 : execL (C b) 1 c71 K (ee2 x0 x3 x21) S =
  withV (some x0) fun x24 =>
    withV (some x3) fun x25 =>
    withV (indexO Try.prog 9 x24 x25) fun x26 =>
    withN (callO (callL Try.prog hints) S 66 [x26]) S fun x27 S =>
    withV (evUn .not x27) fun x28 =>
    withV (some x28) fun x29 =>
    withV (gval x29 true (some x0)) fun x30 =>
    withV (gval x29 true (some x3)) fun x31 =>
    withV (gval x29 true (indexO Try.prog 9 x30 x31)) fun x32 =>
    withV (gval x29 true (evBin .lss (tyi Try.prog 5) x32 (.int .u8 48))) fun x33 =>
    withV (gval x29 true (some x33)) fun x34 =>
    withV (gval x34 false (some x0)) fun x35 =>
    withV (gval x34 false (some x3)) fun x36 =>
    withV (gval x34 false (indexO Try.prog 9 x35 x36)) fun x37 =>
    withV (gval x34 false (evBin .gtr (tyi Try.prog 5) x37 (.int .u8 57))) fun x38 =>
    withV (gval x29 true (pickO x34 (.bool true) x38)) fun x39 =>
    withV (pickO x29 x39 (.bool false)) fun x40 =>
    K .normal (ee3 x0 x3 x40) S := nr (by kernel_rfl)
@[go_sem] theorem k68_n : k68 b n0 .normal (ee2 x0 x3 x21) S =
  execL (C b) 1 c71 (k73 b n0) (ee2 x0 x3 x21) S := nr (seqN ((enterS (by kernel_rfl)).trans ((blockE (by kernel_rfl)).trans (enterS (by kernel_rfl)))))
@[go_sem] theorem k68_exit : k68 b n0 (.exit i) e S = (k61 b n0) (.exit i) e S := nr (seqC_x _ _ _ _ _)
def c82 : Code := at0 c62
def c83 : Code := at1 c62
def k84 (b n0 : Nat) : KT := seqC (fun e S => execL (C b) 0 c83 (k68 b n0) e S) (k68 b n0)
@[go_sem] theorem k84_n : k84 b n0 .normal (ee2 x0 x3 x21) S =
  condC x21 ((k68 b n0) .normal (ee2 x0 x3 x21) S)
    ((k68 b n0) (.exit 0) (ee2 x0 x3 x21) S) := nr (seqN (condE (t := 21) (by kernel_rfl) (execL_skip (by kernel_rfl)) (execL_exit (by kernel_rfl)) rfl))
@[go_sem] theorem g87 : execL (C b) 0 c82 K (ee1 x0 x3) S =
  withV (some x3) fun x18 =>
    withV (some x0) fun x19 =>
    withV (lenO (tyi Try.prog 9) x19) fun x20 =>
    withV (evBin .lss (tyi Try.prog 3) x18 x20) fun x21 =>
    K .normal (ee2 x0 x3 x21) S := nr (by kernel_rfl)
def B0 (b n0 : Nat) (x0 x3 : PV) (S : Store) : RT := execL (C b) 0 c59 (k61 b n0) (ee1 x0 x3) S
@[go_sem] theorem B0_eq : B0 b n0 x0 x3 S =
  execL (C b) 0 c82 (k84 b n0) (ee1 x0 x3) S := nr ((enterS (by kernel_rfl)).trans (enterS (by kernel_rfl)))
theorem L0_step {b n0 : Nat} {x0 x3 : PV} {S : Store} {z : PV × Store} (h : B0 b n0 x0 x3 S = some z) : L0 b n0 x0 x3 S = some z := loopL_step h
theorem L0_in (b : Nat) (x0 x3 : PV) (S : Store) : execL (C b) 0 c57 (k58 b) (ee1 x0 x3) S = L0 b (List.length S) x0 x3 S := by kernel_rfl
@[go_sem] theorem k56_n : k56 b .normal (ee1 x0 x3) S =
  L0 b (List.length S) x0 x3 S := nr (seqN ((blockE (by kernel_rfl)).trans (L0_in b x0 x3 S)))
@[go_sem] theorem g89 : execL (C b) 0 c54 K (ee4 x0 x17) S =
  withV (some (.int .i64 0)) fun x3 =>
    K .normal (ee1 x0 x3) S := nr (by kernel_rfl)
@[go_sem] theorem k53_n : k53 b .normal (ee4 x0 x17) S =
  execL (C b) 0 c54 (k56 b) (ee4 x0 x17) S := nr (seqN ((enterS (by kernel_rfl)).trans (enterS (by kernel_rfl))))
@[go_sem] theorem k53_ret : k53 b .ret e S = (k0 b) .ret e S := nr (seqC_r _ _ _ _)
def k90 (b : Nat) : KT := seqC (fun e S => execL (C b) 0 c2 (k0 b) e S) (k0 b)
def c91 : Code := at0 c3
def c92 : Code := at1 c3
def k93 (b : Nat) : KT := seqC (fun e S => execL (C b) 0 c92 (k53 b) e S) (k53 b)
def c94 : Code := atT c92
def c97 : Code := at0 c94
def c98 : Code := at1 c94
def k99 (b : Nat) : KT := seqC (fun e S => execL (C b) 0 c98 (k53 b) e S) (k53 b)
@[go_sem] theorem k99_n : k99 b .normal (ee5 x2) S =
  (k53 b) .ret (ee5 x2) S := nr (seqN (execL_ret (by kernel_rfl)))
@[go_sem] theorem g100 : execL (C b) 0 c97 K (ee4 x0 x17) S =
  withV (some (.bool false)) fun x2 =>
    K .normal (ee5 x2) S := nr (by kernel_rfl)
@[go_sem] theorem k93_n : k93 b .normal (ee4 x0 x17) S =
  condC x17 (execL (C b) 0 c97 (k99 b) (ee4 x0 x17) S)
    ((k53 b) .normal (ee4 x0 x17) S) := nr (seqN (condE (t := 17) (by kernel_rfl) (enterS (by kernel_rfl)) (execL_skip (by kernel_rfl)) rfl))
@[go_sem] theorem g101 : execL (C b) 0 c91 K (ee0 x0) S =
  withV (some x0) fun x4 =>
    withV (lenO (tyi Try.prog 9) x4) fun x5 =>
    withV (evBin .eql (tyi Try.prog 3) x5 (.int .i64 0)) fun x6 =>
    withV (some x6) fun x7 =>
    withV (gval x7 false (some x0)) fun x8 =>
    withV (gval x7 false (lenO (tyi Try.prog 9) x8)) fun x9 =>
    withV (gval x7 false (evBin .gtr (tyi Try.prog 3) x9 (.int .i64 12))) fun x10 =>
    withV (pickO x7 (.bool true) x10) fun x11 =>
    withV (some x11) fun x12 =>
    withV (gval x12 false (some x0)) fun x13 =>
    withV (gval x12 false (indexO Try.prog 9 x13 (.int .i64 0))) fun x14 =>
    withN (gout x12 false (callO (callL Try.prog hints) S 66 [x14])) S fun x15 S =>
    withV (gval x12 false (evUn .not x15)) fun x16 =>
    withV (pickO x12 (.bool true) x16) fun x17 =>
    K .normal (ee4 x0 x17) S := nr (by kernel_rfl)
@[go_sem] theorem k90_n : k90 b .normal (ee0 x0) S =
  execL (C b) 0 c91 (k93 b) (ee0 x0) S := nr (seqN ((enterS (by kernel_rfl)).trans (enterS (by kernel_rfl))))
@[go_sem] theorem g102 : execL (C b) 0 c1 K (ee0 x0) S =
  withV (some (.bool false)) fun x2 =>
    K .normal (ee0 x0) S := nr (by kernel_rfl)
def E (b : Nat) (x0 : PV) (S : Store) : RT := execL (C b) 0 code (k0 b) (ee0 x0) S
@[go_sem] theorem E_eq : E b x0 S =
  execL (C b) 0 c1 (k90 b) (ee0 x0) S := nr (enterS (by kernel_rfl))
@[go_sem] theorem k0_ret5 : k0 b .ret (ee5 x2) S = some (x2, S) := nr (by kernel_rfl)
theorem call {x0 : PV} {r : PV × Store} {v : PV} (h : E 0 x0 [] = some r) (hv : fzPV r.2 r.1 = some v) : callL Try.prog hints 38 [x0] = some v := callL_of (fn := Try.f38) (c := code) (by kernel_rfl) (by kernel_rfl) (by decide) (by kernel_rfl) (Nat.le_of_ble_eq_true (by kernel_rfl)) h hv
end
end F38
/-! ### isochroneref08.Name -/
namespace F39
section
variable (b i n n0 : Nat) (K : KT) (x0 x2 x3 x27 x31 x54 : PV) (e : Env) (S : Store)
noncomputable def hint : Hint := { keep := [], loops := [(0, { live := [0, 3], after := [], own := [], fz := [] })], regs := [(0, [0]), (1, [0, 27]), (2, [2]), (3, [0, 3]), (4, [0, 3, 31]), (5, [0, 3]), (6, [0, 3, 54]), (7, [2]), (8, [2])] }
noncomputable def C (b : Nat) : Ctx := ctxL Try.prog hints b hint
noncomputable def code : Code := Try.f39.body.get rfl
noncomputable def k0 (b : Nat) : KT := endC Try.prog Try.f39
def ee0 (x0 : PV) : Env := [(0, x0)]
def ee1 (x0 x3 : PV) : Env := [(0, x0), (3, x3)]
def ee2 (x0 x3 x31 : PV) : Env := [(0, x0), (3, x3), (31, x31)]
def ee3 (x0 x3 x54 : PV) : Env := [(0, x0), (3, x3), (54, x54)]
def ee4 (x0 x27 : PV) : Env := [(0, x0), (27, x27)]
def ee5 (x2 : PV) : Env := [(2, x2)]
def c1 : Code := at0 code
def c2 : Code := at1 code
def c3 : Code := at0 c2
def c4 : Code := at1 c2
def c5 : Code := at0 c4
def c6 : Code := at1 c4
def c7 : Code := at0 c6
def c8 : Code := at1 c6
def k9 (b : Nat) : KT := seqC (fun e S => execL (C b) 0 c8 (k0 b) e S) (k0 b)
@[go_sem] theorem k9_n : k9 b .normal (ee5 x2) S =
  (k0 b) .ret (ee5 x2) S := nr (seqN (execL_ret (by kernel_rfl)))
def k10 (b : Nat) : KT := seqC (fun e S => execL (C b) 0 c6 (k0 b) e S) (k0 b)
@[go_sem] theorem g11 : execL (C b) 0 c7 K (ee2 x0 x3 x31) S =
  withV (some (.bool true)) fun x2 =>
    K .normal (ee5 x2) S := nr (by kernel_rfl)
@[go_sem] theorem k10_n : k10 b .normal e S = execL (C b) 0 c7 (k9 b) e S := nr (seqN (enterS (by kernel_rfl)))
@[go_sem] theorem k10_ret : k10 b .ret e S = (k0 b) .ret e S := nr (seqC_r _ _ _ _)
def k12 (b : Nat) : KT := seqC (fun e S => execL (C b) 0 c4 (k0 b) e S) (k0 b)
def c13 : Code := at0 c5
def c14 : Code := at1 c5
def k15 (b : Nat) : KT := seqC (fun e S => execL (C b) 0 c14 (k10 b) e S) (k10 b)
def c16 : Code := atB c14
def k17 (b : Nat) : KT := blockC 0 (k10 b)
@[go_sem] theorem k17_ret : k17 b .ret e S = (k10 b) .ret e S := nr (blockC_r _ _ _ _)
@[go_sem] theorem k17_exit : k17 b (.exit i) e S = if i = 0 then (k10 b) .normal e S else (k10 b) (.exit i) e S := nr (blockC_x _ _ _ _ _)
def c18 : Code := atL c16
def k19 (b n0 : Nat) : KT := afterC 0 n0 [] (k17 b)
def L0g (b n0 : Nat) (e : Env) (S : Store) : RT := loopL (fun K e S => execL (C b) 0 c18 K e S) (normG [0, 3] [] n0) (k19 b n0) e S
def L0 (b n0 : Nat) (x0 x3 : PV) (S : Store) : RT := L0g b n0 (ee1 x0 x3) S
def k20 (b n0 : Nat) : KT := stepC (normG [0, 3] [] n0) (k19 b n0) (L0g b n0)
@[go_sem] theorem k20_n : k20 b n0 .normal (ee1 x0 x3) S = L0 b n0 x0 x3 (gc n0 (ee1 x0 x3) S) := nr (by kernel_rfl)
@[go_sem] theorem k20_ret : k20 b n0 .ret e S = (k17 b) .ret e S := nr ((show k20 b n0 .ret e S = (k19 b n0) .ret e S from stepC_r _ _ _ _ _).trans (afterC_r _ _ _ _ _ _))
@[go_sem] theorem k20_x1 : k20 b n0 (.exit 0) (ee2 x0 x3 x31) S = (k17 b) (.exit 0) (ee2 .undef .undef .undef) (gc n0 (ee2 .undef .undef .undef) S) := nr ((show k20 b n0 (.exit 0) (ee2 x0 x3 x31) S = (k19 b n0) (.exit 0) (ee2 x0 x3 x31) S from stepC_x _ _ _ _ _ _).trans ((show (k19 b n0) (.exit 0) (ee2 x0 x3 x31) S = _ from afterC_x _ _ _ _ _ _ _).trans (if_pos rfl)))
def c21 : Code := at0 c18
def c22 : Code := at1 c18
def c23 : Code := at0 c22
def c24 : Code := at1 c22
def k25 (b n0 : Nat) : KT := seqC (fun e S => execL (C b) 0 c24 (k20 b n0) e S) (k20 b n0)
@[go_sem] theorem g26 : execL (C b) 0 c24 K (ee3 x0 x3 x54) S =
  withV (some x3) fun x32 =>
    withV (evBin .add (tyi Try.prog 3) x32 (.int .i64 1)) fun x33 =>
    withV (some x33) fun x3 =>
    K .normal (ee1 x0 x3) S := nr (by kernel_rfl)
@[go_sem] theorem k25_n : k25 b n0 .normal e S = execL (C b) 0 c24 (k20 b n0) e S := nr (seqN rfl)
@[go_sem] theorem k25_ret : k25 b n0 .ret e S = (k20 b n0) .ret e S := nr (seqC_r _ _ _ _)
def k27 (b n0 : Nat) : KT := seqC (fun e S => execL (C b) 0 c22 (k20 b n0) e S) (k20 b n0)
def c28 : Code := atB c23
def k29 (b n0 : Nat) : KT := blockC 1 (k25 b n0)
@[go_sem] theorem k29_n : k29 b n0 .normal e S = (k25 b n0) .normal e S := nr (blockC_n _ _ _ _)
@[go_sem] theorem k29_ret : k29 b n0 .ret e S = (k25 b n0) .ret e S := nr (blockC_r _ _ _ _)
def c30 : Code := at0 c28
def c31 : Code := at1 c28
def k32 (b n0 : Nat) : KT := seqC (fun e S => execL (C b) 1 c31 (k29 b n0) e S) (k29 b n0)
def c33 : Code := atT c31
def c36 : Code := at0 c33
def c37 : Code := at1 c33
def k38 (b n0 : Nat) : KT := seqC (fun e S => execL (C b) 1 c37 (k29 b n0) e S) (k29 b n0)
@[go_sem] theorem k38_n : k38 b n0 .normal (ee5 x2) S =
  (k29 b n0) .ret (ee5 x2) S := nr (seqN (execL_ret (by kernel_rfl)))
@[go_sem] theorem g39 : execL (C b) 1 c36 K (ee3 x0 x3 x54) S =
  withV (some (.bool false)) fun x2 =>
    K .normal (ee5 x2) S := nr (by kernel_rfl)
@[go_sem] theorem k32_n : k32 b n0 .normal (ee3 x0 x3 x54) S =
  condC x54 (execL (C b) 1 c36 (k38 b n0) (ee3 x0 x3 x54) S)
    ((k29 b n0) .normal (ee3 x0 x3 x54) S) := nr (seqN (condE (t := 54) (by kernel_rfl) (enterS (by kernel_rfl)) (execL_skip (by kernel_rfl)) rfl))
@[go_sem] theorem g40 : execL (C b) 1 c30 K (ee2 x0 x3 x31) S =
  withV (some x0) fun x34 =>
    withV (some x3) fun x35 =>
    withV (indexO Try.prog 9 x34 x35) fun x36 =>
    withN (callO (callL Try.prog hints) S 67 [x36]) S fun x37 S =>
    withV (evUn .not x37) fun x38 =>
    withV (some x38) fun x39 =>
    withV (gval x39 true (some x3)) fun x40 =>
    withV (gval x39 true (evBin .eql (tyi Try.prog 3) x40 (.int .i64 0))) fun x41 =>
    withV (gval x39 true (some x41)) fun x42 =>
    withV (gval x42 false (some x0)) fun x43 =>
    withV (gval x42 false (some x3)) fun x44 =>
    withV (gval x42 false (indexO Try.prog 9 x43 x44)) fun x45 =>
    withV (gval x42 false (evBin .lss (tyi Try.prog 5) x45 (.int .u8 48))) fun x46 =>
    withV (gval x39 true (pickO x42 (.bool true) x46)) fun x47 =>
    withV (gval x39 true (some x47)) fun x48 =>
    withV (gval x48 false (some x0)) fun x49 =>
    withV (gval x48 false (some x3)) fun x50 =>
    withV (gval x48 false (indexO Try.prog 9 x49 x50)) fun x51 =>
    withV (gval x48 false (evBin .gtr (tyi Try.prog 5) x51 (.int .u8 57))) fun x52 =>
    withV (gval x39 true (pickO x48 (.bool true) x52)) fun x53 =>
    withV (pickO x39 x53 (.bool false)) fun x54 =>
    K .normal (ee3 x0 x3 x54) S := nr (by kernel_rfl)
@[go_sem] theorem k27_n : k27 b n0 .normal (ee2 x0 x3 x31) S =
  execL (C b) 1 c30 (k32 b n0) (ee2 x0 x3 x31) S := nr (seqN ((enterS (by kernel_rfl)).trans ((blockE (by kernel_rfl)).trans (enterS (by kernel_rfl)))))
@[go_sem] theorem k27_exit : k27 b n0 (.exit i) e S = (k20 b n0) (.exit i) e S := nr (seqC_x _ _ _ _ _)
def c41 : Code := at0 c21
def c42 : Code := at1 c21
def k43 (b n0 : Nat) : KT := seqC (fun e S => execL (C b) 0 c42 (k27 b n0) e S) (k27 b n0)
@[go_sem] theorem k43_n : k43 b n0 .normal (ee2 x0 x3 x31) S =
  condC x31 ((k27 b n0) .normal (ee2 x0 x3 x31) S)
    ((k27 b n0) (.exit 0) (ee2 x0 x3 x31) S) := nr (seqN (condE (t := 31) (by kernel_rfl) (execL_skip (by kernel_rfl)) (execL_exit (by kernel_rfl)) rfl))
@[go_sem] theorem g46 : execL (C b) 0 c41 K (ee1 x0 x3) S =
  withV (some x3) fun x28 =>
    withV (some x0) fun x29 =>
    withV (lenO (tyi Try.prog 9) x29) fun x30 =>
    withV (evBin .lss (tyi Try.prog 3) x28 x30) fun x31 =>
    K .normal (ee2 x0 x3 x31) S := nr (by kernel_rfl)
def B0 (b n0 : Nat) (x0 x3 : PV) (S : Store) : RT := execL (C b) 0 c18 (k20 b n0) (ee1 x0 x3) S
@[go_sem] theorem B0_eq : B0 b n0 x0 x3 S =
  execL (C b) 0 c41 (k43 b n0) (ee1 x0 x3) S := nr ((enterS (by kernel_rfl)).trans (enterS (by kernel_rfl)))
theorem L0_step {b n0 : Nat} {x0 x3 : PV} {S : Store} {z : PV × Store} (h : B0 b n0 x0 x3 S = some z) : L0 b n0 x0 x3 S = some z := loopL_step h
theorem L0_in (b : Nat) (x0 x3 : PV) (S : Store) : execL (C b) 0 c16 (k17 b) (ee1 x0 x3) S = L0 b (List.length S) x0 x3 S := by kernel_rfl
@[go_sem] theorem k15_n : k15 b .normal (ee1 x0 x3) S =
  L0 b (List.length S) x0 x3 S := nr (seqN ((blockE (by kernel_rfl)).trans (L0_in b x0 x3 S)))
@[go_sem] theorem g48 : execL (C b) 0 c13 K (ee4 x0 x27) S =
  withV (some (.int .i64 0)) fun x3 =>
    K .normal (ee1 x0 x3) S := nr (by kernel_rfl)
@[go_sem] theorem k12_n : k12 b .normal (ee4 x0 x27) S =
  execL (C b) 0 c13 (k15 b) (ee4 x0 x27) S := nr (seqN ((enterS (by kernel_rfl)).trans (enterS (by kernel_rfl))))
@[go_sem] theorem k12_ret : k12 b .ret e S = (k0 b) .ret e S := nr (seqC_r _ _ _ _)
def k49 (b : Nat) : KT := seqC (fun e S => execL (C b) 0 c2 (k0 b) e S) (k0 b)
def c50 : Code := at0 c3
def c51 : Code := at1 c3
def k52 (b : Nat) : KT := seqC (fun e S => execL (C b) 0 c51 (k12 b) e S) (k12 b)
def c53 : Code := atT c51
def c56 : Code := at0 c53
def c57 : Code := at1 c53
def k58 (b : Nat) : KT := seqC (fun e S => execL (C b) 0 c57 (k12 b) e S) (k12 b)
@[go_sem] theorem k58_n : k58 b .normal (ee5 x2) S =
  (k12 b) .ret (ee5 x2) S := nr (seqN (execL_ret (by kernel_rfl)))
@[go_sem] theorem g59 : execL (C b) 0 c56 K (ee4 x0 x27) S =
  withV (some (.bool false)) fun x2 =>
    K .normal (ee5 x2) S := nr (by kernel_rfl)
@[go_sem] theorem k52_n : k52 b .normal (ee4 x0 x27) S =
  condC x27 (execL (C b) 0 c56 (k58 b) (ee4 x0 x27) S)
    ((k12 b) .normal (ee4 x0 x27) S) := nr (seqN (condE (t := 27) (by kernel_rfl) (enterS (by kernel_rfl)) (execL_skip (by kernel_rfl)) rfl))
@[go_sem] theorem g60 : execL (C b) 0 c50 K (ee0 x0) S =
  withV (some x0) fun x4 =>
    withV (lenO (tyi Try.prog 9) x4) fun x5 =>
    withV (evBin .eql (tyi Try.prog 3) x5 (.int .i64 0)) fun x6 =>
    withV (some x6) fun x7 =>
    withV (gval x7 false (some x0)) fun x8 =>
    withV (gval x7 false (lenO (tyi Try.prog 9) x8)) fun x9 =>
    withV (gval x7 false (evBin .gtr (tyi Try.prog 3) x9 (.int .i64 12))) fun x10 =>
    withV (pickO x7 (.bool true) x10) fun x11 =>
    withV (some x11) fun x12 =>
    withV (gval x12 false (some x0)) fun x13 =>
    withV (gval x12 false (evBin .eql (tyi Try.prog 9) x13 (.str ⟨#[116, 114, 117, 101]⟩))) fun x14 =>
    withV (pickO x12 (.bool true) x14) fun x15 =>
    withV (some x15) fun x16 =>
    withV (gval x16 false (some x0)) fun x17 =>
    withV (gval x16 false (evBin .eql (tyi Try.prog 9) x17 (.str ⟨#[102, 97, 108, 115, 101]⟩))) fun x18 =>
    withV (pickO x16 (.bool true) x18) fun x19 =>
    withV (some x19) fun x20 =>
    withV (gval x20 false (some x0)) fun x21 =>
    withV (gval x20 false (evBin .eql (tyi Try.prog 9) x21 (.str ⟨#[102, 111, 114, 97, 108, 108]⟩))) fun x22 =>
    withV (pickO x20 (.bool true) x22) fun x23 =>
    withV (some x23) fun x24 =>
    withV (gval x24 false (some x0)) fun x25 =>
    withV (gval x24 false (evBin .eql (tyi Try.prog 9) x25 (.str ⟨#[101, 120, 105, 115, 116, 115]⟩))) fun x26 =>
    withV (pickO x24 (.bool true) x26) fun x27 =>
    K .normal (ee4 x0 x27) S := nr (by kernel_rfl)
@[go_sem] theorem k49_n : k49 b .normal (ee0 x0) S =
  execL (C b) 0 c50 (k52 b) (ee0 x0) S := nr (seqN ((enterS (by kernel_rfl)).trans (enterS (by kernel_rfl))))
@[go_sem] theorem g61 : execL (C b) 0 c1 K (ee0 x0) S =
  withV (some (.bool false)) fun x2 =>
    K .normal (ee0 x0) S := nr (by kernel_rfl)
def E (b : Nat) (x0 : PV) (S : Store) : RT := execL (C b) 0 code (k0 b) (ee0 x0) S
@[go_sem] theorem E_eq : E b x0 S =
  execL (C b) 0 c1 (k49 b) (ee0 x0) S := nr (enterS (by kernel_rfl))
@[go_sem] theorem k0_ret5 : k0 b .ret (ee5 x2) S = some (x2, S) := nr (by kernel_rfl)
theorem call {x0 : PV} {r : PV × Store} {v : PV} (h : E 0 x0 [] = some r) (hv : fzPV r.2 r.1 = some v) : callL Try.prog hints 39 [x0] = some v := callL_of (fn := Try.f39) (c := code) (by kernel_rfl) (by kernel_rfl) (by decide) (by kernel_rfl) (Nat.le_of_ble_eq_true (by kernel_rfl)) h hv
end
end F39
/-! ### tree.Sort -/
namespace F40
section
variable (b : Nat) (K : KT) (x0 x2 x3 x10 x17 x24 : PV) (e : Env) (S : Store)
noncomputable def hint : Hint := { keep := [], loops := [], regs := [(0, [0]), (1, [0, 3]), (2, [2]), (3, [0, 10]), (4, [2]), (5, [0, 17]), (6, [2]), (7, [24]), (8, [2]), (9, [2])] }
noncomputable def C (b : Nat) : Ctx := ctxL Try.prog hints b hint
noncomputable def code : Code := Try.f40.body.get rfl
noncomputable def k0 (b : Nat) : KT := endC Try.prog Try.f40
def ee0 (x0 : PV) : Env := [(0, x0)]
def ee1 (x0 x3 : PV) : Env := [(0, x0), (3, x3)]
def ee2 (x0 x10 : PV) : Env := [(0, x0), (10, x10)]
def ee3 (x0 x17 : PV) : Env := [(0, x0), (17, x17)]
def ee4 (x2 : PV) : Env := [(2, x2)]
def ee5 (x24 : PV) : Env := [(24, x24)]
def c1 : Code := at0 code
def c2 : Code := at1 code
def c3 : Code := at0 c2
def c4 : Code := at1 c2
def c5 : Code := at0 c4
def c6 : Code := at1 c4
def k7 (b : Nat) : KT := seqC (fun e S => execL (C b) 0 c6 (k0 b) e S) (k0 b)
@[go_sem] theorem k7_n : k7 b .normal (ee4 x2) S =
  (k0 b) .ret (ee4 x2) S := nr (seqN (execL_ret (by kernel_rfl)))
def k8 (b : Nat) : KT := seqC (fun e S => execL (C b) 0 c4 (k0 b) e S) (k0 b)
@[go_sem] theorem g9 : execL (C b) 0 c5 K (ee5 x24) S =
  withV (some (.int .i64 0)) fun x2 =>
    K .normal (ee4 x2) S := nr (by kernel_rfl)
@[go_sem] theorem k8_n : k8 b .normal e S = execL (C b) 0 c5 (k7 b) e S := nr (seqN (enterS (by kernel_rfl)))
@[go_sem] theorem k8_ret : k8 b .ret e S = (k0 b) .ret e S := nr (seqC_r _ _ _ _)
def k10 (b : Nat) : KT := seqC (fun e S => execL (C b) 0 c2 (k0 b) e S) (k0 b)
def c11 : Code := atB c3
def k12 (b : Nat) : KT := blockC 0 (k8 b)
@[go_sem] theorem k12_n : k12 b .normal e S = (k8 b) .normal e S := nr (blockC_n _ _ _ _)
@[go_sem] theorem k12_ret : k12 b .ret e S = (k8 b) .ret e S := nr (blockC_r _ _ _ _)
def c13 : Code := at0 c11
def c14 : Code := at1 c11
def k15 (b : Nat) : KT := seqC (fun e S => execL (C b) 0 c14 (k12 b) e S) (k12 b)
def c16 : Code := atT c14
def c17 : Code := atF c14
def c19 : Code := at0 c16
def c20 : Code := at1 c16
def k21 (b : Nat) : KT := seqC (fun e S => execL (C b) 0 c20 (k12 b) e S) (k12 b)
@[go_sem] theorem k21_n : k21 b .normal (ee4 x2) S =
  (k12 b) .ret (ee4 x2) S := nr (seqN (execL_ret (by kernel_rfl)))
@[go_sem] theorem g22 : execL (C b) 0 c19 K (ee1 x0 x3) S =
  withV (some (.int .i64 1)) fun x2 =>
    K .normal (ee4 x2) S := nr (by kernel_rfl)
def c24 : Code := at0 c17
def c25 : Code := at1 c17
def k26 (b : Nat) : KT := seqC (fun e S => execL (C b) 0 c25 (k12 b) e S) (k12 b)
def c27 : Code := atT c25
def c28 : Code := atF c25
def c30 : Code := at0 c27
def c31 : Code := at1 c27
def k32 (b : Nat) : KT := seqC (fun e S => execL (C b) 0 c31 (k12 b) e S) (k12 b)
@[go_sem] theorem k32_n : k32 b .normal (ee4 x2) S =
  (k12 b) .ret (ee4 x2) S := nr (seqN (execL_ret (by kernel_rfl)))
@[go_sem] theorem g33 : execL (C b) 0 c30 K (ee2 x0 x10) S =
  withV (some (.int .i64 2)) fun x2 =>
    K .normal (ee4 x2) S := nr (by kernel_rfl)
def c35 : Code := at0 c28
def c36 : Code := at1 c28
def k37 (b : Nat) : KT := seqC (fun e S => execL (C b) 0 c36 (k12 b) e S) (k12 b)
def c38 : Code := atT c36
def c39 : Code := atF c36
def c41 : Code := at0 c38
def c42 : Code := at1 c38
def k43 (b : Nat) : KT := seqC (fun e S => execL (C b) 0 c42 (k12 b) e S) (k12 b)
@[go_sem] theorem k43_n : k43 b .normal (ee4 x2) S =
  (k12 b) .ret (ee4 x2) S := nr (seqN (execL_ret (by kernel_rfl)))
@[go_sem] theorem g44 : execL (C b) 0 c41 K (ee3 x0 x17) S =
  withV (some (.int .i64 4)) fun x2 =>
    K .normal (ee4 x2) S := nr (by kernel_rfl)
def c46 : Code := at0 c39
def c47 : Code := at1 c39
def k48 (b : Nat) : KT := seqC (fun e S => execL (C b) 0 c47 (k12 b) e S) (k12 b)
def c49 : Code := atT c47
def c52 : Code := at0 c49
def c53 : Code := at1 c49
def k54 (b : Nat) : KT := seqC (fun e S => execL (C b) 0 c53 (k12 b) e S) (k12 b)
@[go_sem] theorem k54_n : k54 b .normal (ee4 x2) S =
  (k12 b) .ret (ee4 x2) S := nr (seqN (execL_ret (by kernel_rfl)))
@[go_sem] theorem g55 : execL (C b) 0 c52 K (ee5 x24) S =
  withV (some (.int .i64 3)) fun x2 =>
    K .normal (ee4 x2) S := nr (by kernel_rfl)
@[go_sem] theorem k48_n : k48 b .normal (ee5 x24) S =
  condC x24 (execL (C b) 0 c52 (k54 b) (ee5 x24) S)
    ((k12 b) .normal (ee5 x24) S) := nr (seqN (condE (t := 24) (by kernel_rfl) (enterS (by kernel_rfl)) (execL_skip (by kernel_rfl)) rfl))
@[go_sem] theorem g56 : execL (C b) 0 c46 K (ee3 x0 x17) S =
  withV (some x0) fun x25 =>
    withV (evBin .geq (tyi Try.prog 3) x25 (.int .i64 50)) fun x26 =>
    withV (some x26) fun x27 =>
    withV (gval x27 true (some x0)) fun x28 =>
    withV (gval x27 true (evBin .leq (tyi Try.prog 3) x28 (.int .i64 62))) fun x29 =>
    withV (pickO x27 x29 (.bool false)) fun x30 =>
    withV (some x30) fun x24 =>
    K .normal (ee5 x24) S := nr (by kernel_rfl)
@[go_sem] theorem k37_n : k37 b .normal (ee3 x0 x17) S =
  condC x17 (execL (C b) 0 c41 (k43 b) (ee3 x0 x17) S)
    (execL (C b) 0 c46 (k48 b) (ee3 x0 x17) S) := nr (seqN (condE (t := 17) (by kernel_rfl) (enterS (by kernel_rfl)) (enterS (by kernel_rfl)) rfl))
@[go_sem] theorem g57 : execL (C b) 0 c35 K (ee2 x0 x10) S =
  withV (some x0) fun x18 =>
    withV (evBin .eql (tyi Try.prog 3) x18 (.int .i64 55)) fun x19 =>
    withV (some x19) fun x20 =>
    withV (gval x20 false (some x0)) fun x21 =>
    withV (gval x20 false (evBin .eql (tyi Try.prog 3) x21 (.int .i64 56))) fun x22 =>
    withV (pickO x20 (.bool true) x22) fun x23 =>
    withV (some x23) fun x17 =>
    K .normal (ee3 x0 x17) S := nr (by kernel_rfl)
@[go_sem] theorem k26_n : k26 b .normal (ee2 x0 x10) S =
  condC x10 (execL (C b) 0 c30 (k32 b) (ee2 x0 x10) S)
    (execL (C b) 0 c35 (k37 b) (ee2 x0 x10) S) := nr (seqN (condE (t := 10) (by kernel_rfl) (enterS (by kernel_rfl)) (enterS (by kernel_rfl)) rfl))
@[go_sem] theorem g58 : execL (C b) 0 c24 K (ee1 x0 x3) S =
  withV (some x0) fun x11 =>
    withV (evBin .geq (tyi Try.prog 3) x11 (.int .i64 20)) fun x12 =>
    withV (some x12) fun x13 =>
    withV (gval x13 true (some x0)) fun x14 =>
    withV (gval x13 true (evBin .leq (tyi Try.prog 3) x14 (.int .i64 39))) fun x15 =>
    withV (pickO x13 x15 (.bool false)) fun x16 =>
    withV (some x16) fun x10 =>
    K .normal (ee2 x0 x10) S := nr (by kernel_rfl)
@[go_sem] theorem k15_n : k15 b .normal (ee1 x0 x3) S =
  condC x3 (execL (C b) 0 c19 (k21 b) (ee1 x0 x3) S)
    (execL (C b) 0 c24 (k26 b) (ee1 x0 x3) S) := nr (seqN (condE (t := 3) (by kernel_rfl) (enterS (by kernel_rfl)) (enterS (by kernel_rfl)) rfl))
@[go_sem] theorem g59 : execL (C b) 0 c13 K (ee0 x0) S =
  withV (some x0) fun x4 =>
    withV (evBin .geq (tyi Try.prog 3) x4 (.int .i64 1)) fun x5 =>
    withV (some x5) fun x6 =>
    withV (gval x6 true (some x0)) fun x7 =>
    withV (gval x6 true (evBin .leq (tyi Try.prog 3) x7 (.int .i64 13))) fun x8 =>
    withV (pickO x6 x8 (.bool false)) fun x9 =>
    withV (some x9) fun x3 =>
    K .normal (ee1 x0 x3) S := nr (by kernel_rfl)
@[go_sem] theorem k10_n : k10 b .normal (ee0 x0) S =
  execL (C b) 0 c13 (k15 b) (ee0 x0) S := nr (seqN ((enterS (by kernel_rfl)).trans ((blockE (by kernel_rfl)).trans (enterS (by kernel_rfl)))))
@[go_sem] theorem g60 : execL (C b) 0 c1 K (ee0 x0) S =
  withV (some (.int .i64 0)) fun x2 =>
    K .normal (ee0 x0) S := nr (by kernel_rfl)
def E (b : Nat) (x0 : PV) (S : Store) : RT := execL (C b) 0 code (k0 b) (ee0 x0) S
@[go_sem] theorem E_eq : E b x0 S =
  execL (C b) 0 c1 (k10 b) (ee0 x0) S := nr (enterS (by kernel_rfl))
@[go_sem] theorem k0_ret4 : k0 b .ret (ee4 x2) S = some (x2, S) := nr (by kernel_rfl)
theorem call {x0 : PV} {r : PV × Store} {v : PV} (h : E 0 x0 [] = some r) (hv : fzPV r.2 r.1 = some v) : callL Try.prog hints 40 [x0] = some v := callL_of (fn := Try.f40) (c := code) (by kernel_rfl) (by kernel_rfl) (by decide) (by kernel_rfl) (Nat.le_of_ble_eq_true (by kernel_rfl)) h hv
end
end F40
/-! ### isochroneref08.Sort -/
namespace F41
section
variable (b : Nat) (K : KT) (x0 x2 x3 x10 x17 x24 : PV) (e : Env) (S : Store)
noncomputable def hint : Hint := { keep := [], loops := [], regs := [(0, [0]), (1, [0, 3]), (2, [2]), (3, [0, 10]), (4, [2]), (5, [0, 17]), (6, [2]), (7, [24]), (8, [2]), (9, [2])] }
noncomputable def C (b : Nat) : Ctx := ctxL Try.prog hints b hint
noncomputable def code : Code := Try.f41.body.get rfl
noncomputable def k0 (b : Nat) : KT := endC Try.prog Try.f41
def ee0 (x0 : PV) : Env := [(0, x0)]
def ee1 (x0 x3 : PV) : Env := [(0, x0), (3, x3)]
def ee2 (x0 x10 : PV) : Env := [(0, x0), (10, x10)]
def ee3 (x0 x17 : PV) : Env := [(0, x0), (17, x17)]
def ee4 (x2 : PV) : Env := [(2, x2)]
def ee5 (x24 : PV) : Env := [(24, x24)]
def c1 : Code := at0 code
def c2 : Code := at1 code
def c3 : Code := at0 c2
def c4 : Code := at1 c2
def c5 : Code := at0 c4
def c6 : Code := at1 c4
def k7 (b : Nat) : KT := seqC (fun e S => execL (C b) 0 c6 (k0 b) e S) (k0 b)
@[go_sem] theorem k7_n : k7 b .normal (ee4 x2) S =
  (k0 b) .ret (ee4 x2) S := nr (seqN (execL_ret (by kernel_rfl)))
def k8 (b : Nat) : KT := seqC (fun e S => execL (C b) 0 c4 (k0 b) e S) (k0 b)
@[go_sem] theorem g9 : execL (C b) 0 c5 K (ee5 x24) S =
  withV (some (.int .i64 0)) fun x2 =>
    K .normal (ee4 x2) S := nr (by kernel_rfl)
@[go_sem] theorem k8_n : k8 b .normal e S = execL (C b) 0 c5 (k7 b) e S := nr (seqN (enterS (by kernel_rfl)))
@[go_sem] theorem k8_ret : k8 b .ret e S = (k0 b) .ret e S := nr (seqC_r _ _ _ _)
def k10 (b : Nat) : KT := seqC (fun e S => execL (C b) 0 c2 (k0 b) e S) (k0 b)
def c11 : Code := atB c3
def k12 (b : Nat) : KT := blockC 0 (k8 b)
@[go_sem] theorem k12_n : k12 b .normal e S = (k8 b) .normal e S := nr (blockC_n _ _ _ _)
@[go_sem] theorem k12_ret : k12 b .ret e S = (k8 b) .ret e S := nr (blockC_r _ _ _ _)
def c13 : Code := at0 c11
def c14 : Code := at1 c11
def k15 (b : Nat) : KT := seqC (fun e S => execL (C b) 0 c14 (k12 b) e S) (k12 b)
def c16 : Code := atT c14
def c17 : Code := atF c14
def c19 : Code := at0 c16
def c20 : Code := at1 c16
def k21 (b : Nat) : KT := seqC (fun e S => execL (C b) 0 c20 (k12 b) e S) (k12 b)
@[go_sem] theorem k21_n : k21 b .normal (ee4 x2) S =
  (k12 b) .ret (ee4 x2) S := nr (seqN (execL_ret (by kernel_rfl)))
@[go_sem] theorem g22 : execL (C b) 0 c19 K (ee1 x0 x3) S =
  withV (some (.int .i64 1)) fun x2 =>
    K .normal (ee4 x2) S := nr (by kernel_rfl)
def c24 : Code := at0 c17
def c25 : Code := at1 c17
def k26 (b : Nat) : KT := seqC (fun e S => execL (C b) 0 c25 (k12 b) e S) (k12 b)
def c27 : Code := atT c25
def c28 : Code := atF c25
def c30 : Code := at0 c27
def c31 : Code := at1 c27
def k32 (b : Nat) : KT := seqC (fun e S => execL (C b) 0 c31 (k12 b) e S) (k12 b)
@[go_sem] theorem k32_n : k32 b .normal (ee4 x2) S =
  (k12 b) .ret (ee4 x2) S := nr (seqN (execL_ret (by kernel_rfl)))
@[go_sem] theorem g33 : execL (C b) 0 c30 K (ee2 x0 x10) S =
  withV (some (.int .i64 2)) fun x2 =>
    K .normal (ee4 x2) S := nr (by kernel_rfl)
def c35 : Code := at0 c28
def c36 : Code := at1 c28
def k37 (b : Nat) : KT := seqC (fun e S => execL (C b) 0 c36 (k12 b) e S) (k12 b)
def c38 : Code := atT c36
def c39 : Code := atF c36
def c41 : Code := at0 c38
def c42 : Code := at1 c38
def k43 (b : Nat) : KT := seqC (fun e S => execL (C b) 0 c42 (k12 b) e S) (k12 b)
@[go_sem] theorem k43_n : k43 b .normal (ee4 x2) S =
  (k12 b) .ret (ee4 x2) S := nr (seqN (execL_ret (by kernel_rfl)))
@[go_sem] theorem g44 : execL (C b) 0 c41 K (ee3 x0 x17) S =
  withV (some (.int .i64 4)) fun x2 =>
    K .normal (ee4 x2) S := nr (by kernel_rfl)
def c46 : Code := at0 c39
def c47 : Code := at1 c39
def k48 (b : Nat) : KT := seqC (fun e S => execL (C b) 0 c47 (k12 b) e S) (k12 b)
def c49 : Code := atT c47
def c52 : Code := at0 c49
def c53 : Code := at1 c49
def k54 (b : Nat) : KT := seqC (fun e S => execL (C b) 0 c53 (k12 b) e S) (k12 b)
@[go_sem] theorem k54_n : k54 b .normal (ee4 x2) S =
  (k12 b) .ret (ee4 x2) S := nr (seqN (execL_ret (by kernel_rfl)))
@[go_sem] theorem g55 : execL (C b) 0 c52 K (ee5 x24) S =
  withV (some (.int .i64 3)) fun x2 =>
    K .normal (ee4 x2) S := nr (by kernel_rfl)
@[go_sem] theorem k48_n : k48 b .normal (ee5 x24) S =
  condC x24 (execL (C b) 0 c52 (k54 b) (ee5 x24) S)
    ((k12 b) .normal (ee5 x24) S) := nr (seqN (condE (t := 24) (by kernel_rfl) (enterS (by kernel_rfl)) (execL_skip (by kernel_rfl)) rfl))
@[go_sem] theorem g56 : execL (C b) 0 c46 K (ee3 x0 x17) S =
  withV (some x0) fun x25 =>
    withV (evBin .geq (tyi Try.prog 3) x25 (.int .i64 50)) fun x26 =>
    withV (some x26) fun x27 =>
    withV (gval x27 true (some x0)) fun x28 =>
    withV (gval x27 true (evBin .leq (tyi Try.prog 3) x28 (.int .i64 62))) fun x29 =>
    withV (pickO x27 x29 (.bool false)) fun x30 =>
    withV (some x30) fun x24 =>
    K .normal (ee5 x24) S := nr (by kernel_rfl)
@[go_sem] theorem k37_n : k37 b .normal (ee3 x0 x17) S =
  condC x17 (execL (C b) 0 c41 (k43 b) (ee3 x0 x17) S)
    (execL (C b) 0 c46 (k48 b) (ee3 x0 x17) S) := nr (seqN (condE (t := 17) (by kernel_rfl) (enterS (by kernel_rfl)) (enterS (by kernel_rfl)) rfl))
@[go_sem] theorem g57 : execL (C b) 0 c35 K (ee2 x0 x10) S =
  withV (some x0) fun x18 =>
    withV (evBin .eql (tyi Try.prog 3) x18 (.int .i64 55)) fun x19 =>
    withV (some x19) fun x20 =>
    withV (gval x20 false (some x0)) fun x21 =>
    withV (gval x20 false (evBin .eql (tyi Try.prog 3) x21 (.int .i64 56))) fun x22 =>
    withV (pickO x20 (.bool true) x22) fun x23 =>
    withV (some x23) fun x17 =>
    K .normal (ee3 x0 x17) S := nr (by kernel_rfl)
@[go_sem] theorem k26_n : k26 b .normal (ee2 x0 x10) S =
  condC x10 (execL (C b) 0 c30 (k32 b) (ee2 x0 x10) S)
    (execL (C b) 0 c35 (k37 b) (ee2 x0 x10) S) := nr (seqN (condE (t := 10) (by kernel_rfl) (enterS (by kernel_rfl)) (enterS (by kernel_rfl)) rfl))
@[go_sem] theorem g58 : execL (C b) 0 c24 K (ee1 x0 x3) S =
  withV (some x0) fun x11 =>
    withV (evBin .geq (tyi Try.prog 3) x11 (.int .i64 20)) fun x12 =>
    withV (some x12) fun x13 =>
    withV (gval x13 true (some x0)) fun x14 =>
    withV (gval x13 true (evBin .leq (tyi Try.prog 3) x14 (.int .i64 39))) fun x15 =>
    withV (pickO x13 x15 (.bool false)) fun x16 =>
    withV (some x16) fun x10 =>
    K .normal (ee2 x0 x10) S := nr (by kernel_rfl)
@[go_sem] theorem k15_n : k15 b .normal (ee1 x0 x3) S =
  condC x3 (execL (C b) 0 c19 (k21 b) (ee1 x0 x3) S)
    (execL (C b) 0 c24 (k26 b) (ee1 x0 x3) S) := nr (seqN (condE (t := 3) (by kernel_rfl) (enterS (by kernel_rfl)) (enterS (by kernel_rfl)) rfl))
@[go_sem] theorem g59 : execL (C b) 0 c13 K (ee0 x0) S =
  withV (some x0) fun x4 =>
    withV (evBin .geq (tyi Try.prog 3) x4 (.int .i64 1)) fun x5 =>
    withV (some x5) fun x6 =>
    withV (gval x6 true (some x0)) fun x7 =>
    withV (gval x6 true (evBin .leq (tyi Try.prog 3) x7 (.int .i64 13))) fun x8 =>
    withV (pickO x6 x8 (.bool false)) fun x9 =>
    withV (some x9) fun x3 =>
    K .normal (ee1 x0 x3) S := nr (by kernel_rfl)
@[go_sem] theorem k10_n : k10 b .normal (ee0 x0) S =
  execL (C b) 0 c13 (k15 b) (ee0 x0) S := nr (seqN ((enterS (by kernel_rfl)).trans ((blockE (by kernel_rfl)).trans (enterS (by kernel_rfl)))))
@[go_sem] theorem g60 : execL (C b) 0 c1 K (ee0 x0) S =
  withV (some (.int .i64 0)) fun x2 =>
    K .normal (ee0 x0) S := nr (by kernel_rfl)
def E (b : Nat) (x0 : PV) (S : Store) : RT := execL (C b) 0 code (k0 b) (ee0 x0) S
@[go_sem] theorem E_eq : E b x0 S =
  execL (C b) 0 c1 (k10 b) (ee0 x0) S := nr (enterS (by kernel_rfl))
@[go_sem] theorem k0_ret4 : k0 b .ret (ee4 x2) S = some (x2, S) := nr (by kernel_rfl)
theorem call {x0 : PV} {r : PV × Store} {v : PV} (h : E 0 x0 [] = some r) (hv : fzPV r.2 r.1 = some v) : callL Try.prog hints 41 [x0] = some v := callL_of (fn := Try.f41) (c := code) (by kernel_rfl) (by kernel_rfl) (by decide) (by kernel_rfl) (Nat.le_of_ble_eq_true (by kernel_rfl)) h hv
end
end F41
end
end Go.Vs
