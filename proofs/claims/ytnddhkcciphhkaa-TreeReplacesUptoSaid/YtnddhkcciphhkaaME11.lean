/- Printed by a program of mine (stage1.py): the functions 66, 67, 38, 39, 40, 41, piece by piece. -/

import Derived.Test.YtnddhkcciphhkaaME9
import Derived.Test.YtnddhkcciphhkaaME10
section
set_option linter.unusedVariables false
set_option linter.unusedSimpArgs false
namespace Go.Vs
open Go Go.Proofs
noncomputable section

/-! ### tree.letter -/
namespace F66
noncomputable def hint : Hint := { keep := [], loops := [], regs := [(0, [0]), (1, [2])] }
noncomputable def C (b : Nat) : Ctx := ctxL Try.prog hints b hint
noncomputable def code : Code := Try.f66.body.get rfl
noncomputable def k0 (b : Nat) : KT := endC Try.prog Try.f66
def ee0 (x0 : PV) : Env := [(0, x0)]
def ee1 (x2 : PV) : Env := [(2, x2)]
def c1 : Code := at0 code
def c2 : Code := at1 code
def c3 : Code := at0 c2
def c4 : Code := at1 c2
def k5 (b : Nat) : KT := seqC (fun e S => execL (C b) 0 c4 (k0 b) e S) (k0 b)
@[go_sem] theorem k5_n (b : Nat) (x2 : PV) (S : Store) : k5 b .normal (ee1 x2) S =
  (k0 b) .ret (ee1 x2) S := nr (seqN (execL_ret (by kernel_rfl)))
def k6 (b : Nat) : KT := seqC (fun e S => execL (C b) 0 c2 (k0 b) e S) (k0 b)
@[go_sem] theorem g7 (b : Nat) (K : KT) (x0 : PV) (S : Store) : execL (C b) 0 c3 K (ee0 x0) S =
  withV (some x0) fun x3 =>
    withV (evBin .geq (tyi Try.prog 5) x3 (.int .u8 97)) fun x4 =>
    withV (some x4) fun x5 =>
    withV (gval x5 true (some x0)) fun x6 =>
    withV (gval x5 true (evBin .leq (tyi Try.prog 5) x6 (.int .u8 122))) fun x7 =>
    withV (pickO x5 x7 (.bool false)) fun x8 =>
    withV (some x8) fun x9 =>
    withV (gval x9 false (some x0)) fun x10 =>
    withV (gval x9 false (evBin .geq (tyi Try.prog 5) x10 (.int .u8 65))) fun x11 =>
    withV (gval x9 false (some x11)) fun x12 =>
    withV (gval x12 true (some x0)) fun x13 =>
    withV (gval x12 true (evBin .leq (tyi Try.prog 5) x13 (.int .u8 90))) fun x14 =>
    withV (gval x9 false (pickO x12 x14 (.bool false))) fun x15 =>
    withV (pickO x9 (.bool true) x15) fun x16 =>
    withV (some x16) fun x2 =>
    K .normal (ee1 x2) S := nr (by kernel_rfl)
@[go_sem] theorem k6_n (b : Nat) (e : Env) (S : Store) : k6 b .normal e S = execL (C b) 0 c3 (k5 b) e S := nr (seqN (enterS (by kernel_rfl)))
@[go_sem] theorem g8 (b : Nat) (K : KT) (x0 : PV) (S : Store) : execL (C b) 0 c1 K (ee0 x0) S =
  withV (some (.bool false)) fun x2 =>
    K .normal (ee0 x0) S := nr (by kernel_rfl)
def E (b : Nat) (x0 : PV) (S : Store) : RT := execL (C b) 0 code (k0 b) (ee0 x0) S
@[go_sem] theorem E_eq (b : Nat) (x0 : PV) (S : Store) : E b x0 S =
  execL (C b) 0 c1 (k6 b) (ee0 x0) S := nr (enterS (by kernel_rfl))
@[go_sem] theorem k0_ret1 (b : Nat) (x2 : PV) (S : Store) : k0 b .ret (ee1 x2) S = some (x2, S) := nr (by kernel_rfl)
theorem call {x0 : PV} {r : PV × Store} {v : PV} (h : E 0 x0 [] = some r) (hv : fzPV r.2 r.1 = some v) : callL Try.prog hints 66 [x0] = some v := callL_of (fn := Try.f66) (c := code) (by kernel_rfl) (by kernel_rfl) (by decide) (by kernel_rfl) (Nat.le_of_ble_eq_true (by kernel_rfl)) h hv
end F66
/-! ### isochroneref08.letter -/
namespace F67
end F67
/-! ### tree.Name -/
namespace F38
noncomputable def hint : Hint := { keep := [], loops := [(0, { live := [0, 3], after := [0], own := [], fz := [] })], regs := [(0, [0]), (1, [0, 17]), (2, [2]), (3, [0, 3]), (4, [0, 3, 21]), (5, [0, 3]), (6, [0, 3, 40]), (7, [2]), (8, [41]), (9, [41, 42]), (10, [41, 42]), (11, [41, 42]), (12, [41, 42]), (13, [2]), (14, [2])] }
noncomputable def C (b : Nat) : Ctx := ctxL Try.prog hints b hint
noncomputable def code : Code := Try.f38.body.get rfl
noncomputable def k0 (b : Nat) : KT := endC Try.prog Try.f38
def ee0 (x0 : PV) : Env := [(0, x0)]
def ee1 (x0 x3 : PV) : Env := [(0, x0), (3, x3)]
def ee2 (x0 x3 x21 : PV) : Env := [(0, x0), (3, x3), (21, x21)]
def ee3 (x0 x3 x40 : PV) : Env := [(0, x0), (3, x3), (40, x40)]
def ee4 (x0 x17 : PV) : Env := [(0, x0), (17, x17)]
def ee5 (x2 : PV) : Env := [(2, x2)]
def ee6 (x41 : PV) : Env := [(41, x41)]
def ee7 (x41 x42 : PV) : Env := [(41, x41), (42, x42)]
def c1 : Code := at0 code
def c2 : Code := at1 code
def c3 : Code := at0 c2
def c4 : Code := at1 c2
def c5 : Code := at0 c4
def c6 : Code := at1 c4
def c7 : Code := at0 c6
def c8 : Code := at1 c6
def c9 : Code := at0 c8
def c10 : Code := at1 c8
def k11 (b : Nat) : KT := seqC (fun e S => execL (C b) 0 c10 (k0 b) e S) (k0 b)
@[go_sem] theorem k11_n (b : Nat) (x2 : PV) (S : Store) : k11 b .normal (ee5 x2) S =
  (k0 b) .ret (ee5 x2) S := nr (seqN (execL_ret (by kernel_rfl)))
def k12 (b : Nat) : KT := seqC (fun e S => execL (C b) 0 c8 (k0 b) e S) (k0 b)
@[go_sem] theorem g13 (b : Nat) (K : KT) (x41 x42 : PV) (S : Store) : execL (C b) 0 c9 K (ee7 x41 x42) S =
  withV (some (.bool true)) fun x2 =>
    K .normal (ee5 x2) S := nr (by kernel_rfl)
@[go_sem] theorem k12_n (b : Nat) (e : Env) (S : Store) : k12 b .normal e S = execL (C b) 0 c9 (k11 b) e S := nr (seqN (enterS (by kernel_rfl)))
@[go_sem] theorem k12_ret (b : Nat) (e : Env) (S : Store) : k12 b .ret e S = (k0 b) .ret e S := nr (seqC_r _ _ _ _)
def k14 (b : Nat) : KT := seqC (fun e S => execL (C b) 0 c6 (k0 b) e S) (k0 b)
def c15 : Code := at0 c7
def c16 : Code := at1 c7
def k17 (b : Nat) : KT := seqC (fun e S => execL (C b) 0 c16 (k12 b) e S) (k12 b)
def c18 : Code := atB c16
def k19 (b : Nat) : KT := blockC 2 (k12 b)
@[go_sem] theorem k19_n (b : Nat) (e : Env) (S : Store) : k19 b .normal e S = (k12 b) .normal e S := nr (blockC_n _ _ _ _)
@[go_sem] theorem k19_ret (b : Nat) (e : Env) (S : Store) : k19 b .ret e S = (k12 b) .ret e S := nr (blockC_r _ _ _ _)
def c20 : Code := at0 c18
def c21 : Code := at1 c18
def k22 (b : Nat) : KT := seqC (fun e S => execL (C b) 2 c21 (k19 b) e S) (k19 b)
def c23 : Code := atT c21
def c26 : Code := at0 c23
def c27 : Code := at1 c23
def k28 (b : Nat) : KT := seqC (fun e S => execL (C b) 2 c27 (k19 b) e S) (k19 b)
@[go_sem] theorem k28_n (b : Nat) (x2 : PV) (S : Store) : k28 b .normal (ee5 x2) S =
  (k19 b) .ret (ee5 x2) S := nr (seqN (execL_ret (by kernel_rfl)))
@[go_sem] theorem g29 (b : Nat) (K : KT) (x41 x42 : PV) (S : Store) : execL (C b) 2 c26 K (ee7 x41 x42) S =
  withV (some (.bool false)) fun x2 =>
    K .normal (ee5 x2) S := nr (by kernel_rfl)
@[go_sem] theorem k22_n (b : Nat) (x41 x42 : PV) (S : Store) : k22 b .normal (ee7 x41 x42) S =
  condC x42 (execL (C b) 2 c26 (k28 b) (ee7 x41 x42) S)
    ((k19 b) .normal (ee7 x41 x42) S) := nr (seqN (condE (t := 42) (by kernel_rfl) (enterS (by kernel_rfl)) (execL_skip (by kernel_rfl)) rfl))
def c30 : Code := at0 c20
def c31 : Code := at1 c20
def k32 (b : Nat) : KT := seqC (fun e S => execL (C b) 2 c31 (k22 b) e S) (k22 b)
def c34 : Code := atF c31
def c36 : Code := at0 c34
def c37 : Code := at1 c34
def k38 (b : Nat) : KT := seqC (fun e S => execL (C b) 2 c37 (k22 b) e S) (k22 b)
def c40 : Code := atF c37
def c42 : Code := at0 c40
def c43 : Code := at1 c40
def k44 (b : Nat) : KT := seqC (fun e S => execL (C b) 2 c43 (k22 b) e S) (k22 b)
def c46 : Code := atF c43
@[go_sem] theorem g48 (b : Nat) (K : KT) (x41 x42 : PV) (S : Store) : execL (C b) 2 c46 K (ee7 x41 x42) S =
  withV (evBin .eql (tyi Try.prog 9) x41 (.str ⟨#[101, 120, 105, 115, 116, 115]⟩)) fun x46 =>
    withV (some x46) fun x42 =>
    K .normal (ee7 x41 x42) S := nr (by kernel_rfl)
@[go_sem] theorem k44_n (b : Nat) (x41 x42 : PV) (S : Store) : k44 b .normal (ee7 x41 x42) S =
  condC x42 ((k22 b) .normal (ee7 x41 x42) S)
    (execL (C b) 2 c46 (k22 b) (ee7 x41 x42) S) := nr (seqN (condE (t := 42) (by kernel_rfl) (execL_skip (by kernel_rfl)) (rfl) rfl))
@[go_sem] theorem g49 (b : Nat) (K : KT) (x41 x42 : PV) (S : Store) : execL (C b) 2 c42 K (ee7 x41 x42) S =
  withV (evBin .eql (tyi Try.prog 9) x41 (.str ⟨#[102, 111, 114, 97, 108, 108]⟩)) fun x45 =>
    withV (some x45) fun x42 =>
    K .normal (ee7 x41 x42) S := nr (by kernel_rfl)
@[go_sem] theorem k38_n (b : Nat) (x41 x42 : PV) (S : Store) : k38 b .normal (ee7 x41 x42) S =
  condC x42 ((k22 b) .normal (ee7 x41 x42) S)
    (execL (C b) 2 c42 (k44 b) (ee7 x41 x42) S) := nr (seqN (condE (t := 42) (by kernel_rfl) (execL_skip (by kernel_rfl)) (enterS (by kernel_rfl)) rfl))
@[go_sem] theorem g50 (b : Nat) (K : KT) (x41 x42 : PV) (S : Store) : execL (C b) 2 c36 K (ee7 x41 x42) S =
  withV (evBin .eql (tyi Try.prog 9) x41 (.str ⟨#[102, 97, 108, 115, 101]⟩)) fun x44 =>
    withV (some x44) fun x42 =>
    K .normal (ee7 x41 x42) S := nr (by kernel_rfl)
@[go_sem] theorem k32_n (b : Nat) (x41 x42 : PV) (S : Store) : k32 b .normal (ee7 x41 x42) S =
  condC x42 ((k22 b) .normal (ee7 x41 x42) S)
    (execL (C b) 2 c36 (k38 b) (ee7 x41 x42) S) := nr (seqN (condE (t := 42) (by kernel_rfl) (execL_skip (by kernel_rfl)) (enterS (by kernel_rfl)) rfl))
@[go_sem] theorem g51 (b : Nat) (K : KT) (x41 : PV) (S : Store) : execL (C b) 2 c30 K (ee6 x41) S =
  withV (evBin .eql (tyi Try.prog 9) x41 (.str ⟨#[116, 114, 117, 101]⟩)) fun x43 =>
    withV (some x43) fun x42 =>
    K .normal (ee7 x41 x42) S := nr (by kernel_rfl)
@[go_sem] theorem k17_n (b : Nat) (x41 : PV) (S : Store) : k17 b .normal (ee6 x41) S =
  execL (C b) 2 c30 (k32 b) (ee6 x41) S := nr (seqN ((blockE (by kernel_rfl)).trans ((enterS (by kernel_rfl)).trans (enterS (by kernel_rfl)))))
@[go_sem] theorem g52 (b : Nat) (K : KT) (x0 x3 x21 : PV) (S : Store) : execL (C b) 0 c15 K (ee2 x0 x3 x21) S =
  withV (some x0) fun x41 =>
    K .normal (ee6 x41) S := nr (by kernel_rfl)
@[go_sem] theorem k14_n (b : Nat) (x0 x3 x21 : PV) (S : Store) : k14 b .normal (ee2 x0 x3 x21) S =
  execL (C b) 0 c15 (k17 b) (ee2 x0 x3 x21) S := nr (seqN ((enterS (by kernel_rfl)).trans (enterS (by kernel_rfl))))
@[go_sem] theorem k14_ret (b : Nat) (e : Env) (S : Store) : k14 b .ret e S = (k0 b) .ret e S := nr (seqC_r _ _ _ _)
def k53 (b : Nat) : KT := seqC (fun e S => execL (C b) 0 c4 (k0 b) e S) (k0 b)
def c54 : Code := at0 c5
def c55 : Code := at1 c5
def k56 (b : Nat) : KT := seqC (fun e S => execL (C b) 0 c55 (k14 b) e S) (k14 b)
def c57 : Code := atB c55
def k58 (b : Nat) : KT := blockC 0 (k14 b)
@[go_sem] theorem k58_ret (b : Nat) (e : Env) (S : Store) : k58 b .ret e S = (k14 b) .ret e S := nr (blockC_r _ _ _ _)
@[go_sem] theorem k58_exit (b : Nat) (i : Nat) (e : Env) (S : Store) : k58 b (.exit i) e S = if i = 0 then (k14 b) .normal e S else (k14 b) (.exit i) e S := nr (blockC_x _ _ _ _ _)
def c59 : Code := atL c57
def k60 (b n0 : Nat) : KT := afterC 0 n0 [0] (k58 b)
def L0g (b n0 : Nat) (e : Env) (S : Store) : RT := loopL (fun K e S => execL (C b) 0 c59 K e S) (normG [0, 3] [] n0) (k60 b n0) e S
def L0 (b n0 : Nat) (x0 x3 : PV) (S : Store) : RT := L0g b n0 (ee1 x0 x3) S
def k61 (b n0 : Nat) : KT := stepC (normG [0, 3] [] n0) (k60 b n0) (L0g b n0)
@[go_sem] theorem k61_n (b n0 : Nat) (x0 x3 : PV) (S : Store) : k61 b n0 .normal (ee1 x0 x3) S = L0 b n0 x0 x3 (gc n0 (ee1 x0 x3) S) := nr (by kernel_rfl)
@[go_sem] theorem k61_ret (b n0 : Nat) (e : Env) (S : Store) : k61 b n0 .ret e S = (k58 b) .ret e S := nr ((show k61 b n0 .ret e S = (k60 b n0) .ret e S from stepC_r _ _ _ _ _).trans (afterC_r _ _ _ _ _ _))
@[go_sem] theorem k61_x1 (b n0 : Nat) (x0 x3 x21 : PV) (S : Store) : k61 b n0 (.exit 0) (ee2 x0 x3 x21) S = (k58 b) (.exit 0) (ee2 x0 .undef .undef) (gc n0 (ee2 x0 .undef .undef) S) := nr ((show k61 b n0 (.exit 0) (ee2 x0 x3 x21) S = (k60 b n0) (.exit 0) (ee2 x0 x3 x21) S from stepC_x _ _ _ _ _ _).trans ((show (k60 b n0) (.exit 0) (ee2 x0 x3 x21) S = _ from afterC_x _ _ _ _ _ _ _).trans (if_pos rfl)))
def c62 : Code := at0 c59
def c63 : Code := at1 c59
def c64 : Code := at0 c63
def c65 : Code := at1 c63
def k66 (b n0 : Nat) : KT := seqC (fun e S => execL (C b) 0 c65 (k61 b n0) e S) (k61 b n0)
@[go_sem] theorem g67 (b : Nat) (K : KT) (x0 x3 x40 : PV) (S : Store) : execL (C b) 0 c65 K (ee3 x0 x3 x40) S =
  withV (some x3) fun x22 =>
    withV (evBin .add (tyi Try.prog 3) x22 (.int .i64 1)) fun x23 =>
    withV (some x23) fun x3 =>
    K .normal (ee1 x0 x3) S := nr (by kernel_rfl)
@[go_sem] theorem k66_n (b n0 : Nat) (e : Env) (S : Store) : k66 b n0 .normal e S = execL (C b) 0 c65 (k61 b n0) e S := nr (seqN rfl)
@[go_sem] theorem k66_ret (b n0 : Nat) (e : Env) (S : Store) : k66 b n0 .ret e S = (k61 b n0) .ret e S := nr (seqC_r _ _ _ _)
def k68 (b n0 : Nat) : KT := seqC (fun e S => execL (C b) 0 c63 (k61 b n0) e S) (k61 b n0)
def c69 : Code := atB c64
def k70 (b n0 : Nat) : KT := blockC 1 (k66 b n0)
@[go_sem] theorem k70_n (b n0 : Nat) (e : Env) (S : Store) : k70 b n0 .normal e S = (k66 b n0) .normal e S := nr (blockC_n _ _ _ _)
@[go_sem] theorem k70_ret (b n0 : Nat) (e : Env) (S : Store) : k70 b n0 .ret e S = (k66 b n0) .ret e S := nr (blockC_r _ _ _ _)
def c71 : Code := at0 c69
def c72 : Code := at1 c69
def k73 (b n0 : Nat) : KT := seqC (fun e S => execL (C b) 1 c72 (k70 b n0) e S) (k70 b n0)
def c74 : Code := atT c72
def c77 : Code := at0 c74
def c78 : Code := at1 c74
def k79 (b n0 : Nat) : KT := seqC (fun e S => execL (C b) 1 c78 (k70 b n0) e S) (k70 b n0)
@[go_sem] theorem k79_n (b n0 : Nat) (x2 : PV) (S : Store) : k79 b n0 .normal (ee5 x2) S =
  (k70 b n0) .ret (ee5 x2) S := nr (seqN (execL_ret (by kernel_rfl)))
@[go_sem] theorem g80 (b : Nat) (K : KT) (x0 x3 x40 : PV) (S : Store) : execL (C b) 1 c77 K (ee3 x0 x3 x40) S =
  withV (some (.bool false)) fun x2 =>
    K .normal (ee5 x2) S := nr (by kernel_rfl)
@[go_sem] theorem k73_n (b n0 : Nat) (x0 x3 x40 : PV) (S : Store) : k73 b n0 .normal (ee3 x0 x3 x40) S =
  condC x40 (execL (C b) 1 c77 (k79 b n0) (ee3 x0 x3 x40) S)
    ((k70 b n0) .normal (ee3 x0 x3 x40) S) := nr (seqN (condE (t := 40) (by kernel_rfl) (enterS (by kernel_rfl)) (execL_skip (by kernel_rfl)) rfl))
@[go_sem] theorem g81 (b : Nat) (K : KT) (x0 x3 x21 : PV) (S : Store) : execL (C b) 1 c71 K (ee2 x0 x3 x21) S =
  withV (some x0) fun x24 =>
    withV (some x3) fun x25 =>
    withV (indexO Try.prog 9 x24 x25) fun x26 =>
    withN (callO (callL Try.prog hints) S 66 [x26]) S fun x27 S =>
    withV (evUn .not x27) fun x28 =>
    withV (some x28) fun x29 =>
    withV (gval x29 true (some x0)) fun x30 =>
    withV (gval x29 true (some x3)) fun x31 =>
    withV (gval x29 true (indexO Try.prog 9 x30 x31)) fun x32 =>
    withV (gval x29 true (evBin .lss (tyi Try.prog 5) x32 (.int .u8 48))) fun x33 =>
    withV (gval x29 true (some x33)) fun x34 =>
    withV (gval x34 false (some x0)) fun x35 =>
    withV (gval x34 false (some x3)) fun x36 =>
    withV (gval x34 false (indexO Try.prog 9 x35 x36)) fun x37 =>
    withV (gval x34 false (evBin .gtr (tyi Try.prog 5) x37 (.int .u8 57))) fun x38 =>
    withV (gval x29 true (pickO x34 (.bool true) x38)) fun x39 =>
    withV (pickO x29 x39 (.bool false)) fun x40 =>
    K .normal (ee3 x0 x3 x40) S := nr (by kernel_rfl)
@[go_sem] theorem k68_n (b n0 : Nat) (x0 x3 x21 : PV) (S : Store) : k68 b n0 .normal (ee2 x0 x3 x21) S =
  execL (C b) 1 c71 (k73 b n0) (ee2 x0 x3 x21) S := nr (seqN ((enterS (by kernel_rfl)).trans ((blockE (by kernel_rfl)).trans (enterS (by kernel_rfl)))))
@[go_sem] theorem k68_exit (b n0 : Nat) (i : Nat) (e : Env) (S : Store) : k68 b n0 (.exit i) e S = (k61 b n0) (.exit i) e S := nr (seqC_x _ _ _ _ _)
def c82 : Code := at0 c62
def c83 : Code := at1 c62
def k84 (b n0 : Nat) : KT := seqC (fun e S => execL (C b) 0 c83 (k68 b n0) e S) (k68 b n0)
@[go_sem] theorem k84_n (b n0 : Nat) (x0 x3 x21 : PV) (S : Store) : k84 b n0 .normal (ee2 x0 x3 x21) S =
  condC x21 ((k68 b n0) .normal (ee2 x0 x3 x21) S)
    ((k68 b n0) (.exit 0) (ee2 x0 x3 x21) S) := nr (seqN (condE (t := 21) (by kernel_rfl) (execL_skip (by kernel_rfl)) (execL_exit (by kernel_rfl)) rfl))
@[go_sem] theorem g87 (b : Nat) (K : KT) (x0 x3 : PV) (S : Store) : execL (C b) 0 c82 K (ee1 x0 x3) S =
  withV (some x3) fun x18 =>
    withV (some x0) fun x19 =>
    withV (lenO (tyi Try.prog 9) x19) fun x20 =>
    withV (evBin .lss (tyi Try.prog 3) x18 x20) fun x21 =>
    K .normal (ee2 x0 x3 x21) S := nr (by kernel_rfl)
def B0 (b n0 : Nat) (x0 x3 : PV) (S : Store) : RT := execL (C b) 0 c59 (k61 b n0) (ee1 x0 x3) S
@[go_sem] theorem B0_eq (b n0 : Nat) (x0 x3 : PV) (S : Store) : B0 b n0 x0 x3 S =
  execL (C b) 0 c82 (k84 b n0) (ee1 x0 x3) S := nr ((enterS (by kernel_rfl)).trans (enterS (by kernel_rfl)))
theorem L0_step {b n0 : Nat} {x0 x3 : PV} {S : Store} {z : PV × Store} (h : B0 b n0 x0 x3 S = some z) : L0 b n0 x0 x3 S = some z := loopL_step h
theorem L0_in (b : Nat) (x0 x3 : PV) (S : Store) : execL (C b) 0 c57 (k58 b) (ee1 x0 x3) S = L0 b (List.length S) x0 x3 S := by kernel_rfl
@[go_sem] theorem k56_n (b : Nat) (x0 x3 : PV) (S : Store) : k56 b .normal (ee1 x0 x3) S =
  L0 b (List.length S) x0 x3 S := nr (seqN ((blockE (by kernel_rfl)).trans (L0_in b x0 x3 S)))
@[go_sem] theorem g89 (b : Nat) (K : KT) (x0 x17 : PV) (S : Store) : execL (C b) 0 c54 K (ee4 x0 x17) S =
  withV (some (.int .i64 0)) fun x3 =>
    K .normal (ee1 x0 x3) S := nr (by kernel_rfl)
@[go_sem] theorem k53_n (b : Nat) (x0 x17 : PV) (S : Store) : k53 b .normal (ee4 x0 x17) S =
  execL (C b) 0 c54 (k56 b) (ee4 x0 x17) S := nr (seqN ((enterS (by kernel_rfl)).trans (enterS (by kernel_rfl))))
@[go_sem] theorem k53_ret (b : Nat) (e : Env) (S : Store) : k53 b .ret e S = (k0 b) .ret e S := nr (seqC_r _ _ _ _)
def k90 (b : Nat) : KT := seqC (fun e S => execL (C b) 0 c2 (k0 b) e S) (k0 b)
def c91 : Code := at0 c3
def c92 : Code := at1 c3
def k93 (b : Nat) : KT := seqC (fun e S => execL (C b) 0 c92 (k53 b) e S) (k53 b)
def c94 : Code := atT c92
def c97 : Code := at0 c94
def c98 : Code := at1 c94
def k99 (b : Nat) : KT := seqC (fun e S => execL (C b) 0 c98 (k53 b) e S) (k53 b)
@[go_sem] theorem k99_n (b : Nat) (x2 : PV) (S : Store) : k99 b .normal (ee5 x2) S =
  (k53 b) .ret (ee5 x2) S := nr (seqN (execL_ret (by kernel_rfl)))
@[go_sem] theorem g100 (b : Nat) (K : KT) (x0 x17 : PV) (S : Store) : execL (C b) 0 c97 K (ee4 x0 x17) S =
  withV (some (.bool false)) fun x2 =>
    K .normal (ee5 x2) S := nr (by kernel_rfl)
@[go_sem] theorem k93_n (b : Nat) (x0 x17 : PV) (S : Store) : k93 b .normal (ee4 x0 x17) S =
  condC x17 (execL (C b) 0 c97 (k99 b) (ee4 x0 x17) S)
    ((k53 b) .normal (ee4 x0 x17) S) := nr (seqN (condE (t := 17) (by kernel_rfl) (enterS (by kernel_rfl)) (execL_skip (by kernel_rfl)) rfl))
@[go_sem] theorem g101 (b : Nat) (K : KT) (x0 : PV) (S : Store) : execL (C b) 0 c91 K (ee0 x0) S =
  withV (some x0) fun x4 =>
    withV (lenO (tyi Try.prog 9) x4) fun x5 =>
    withV (evBin .eql (tyi Try.prog 3) x5 (.int .i64 0)) fun x6 =>
    withV (some x6) fun x7 =>
    withV (gval x7 false (some x0)) fun x8 =>
    withV (gval x7 false (lenO (tyi Try.prog 9) x8)) fun x9 =>
    withV (gval x7 false (evBin .gtr (tyi Try.prog 3) x9 (.int .i64 12))) fun x10 =>
    withV (pickO x7 (.bool true) x10) fun x11 =>
    withV (some x11) fun x12 =>
    withV (gval x12 false (some x0)) fun x13 =>
    withV (gval x12 false (indexO Try.prog 9 x13 (.int .i64 0))) fun x14 =>
    withN (gout x12 false (callO (callL Try.prog hints) S 66 [x14])) S fun x15 S =>
    withV (gval x12 false (evUn .not x15)) fun x16 =>
    withV (pickO x12 (.bool true) x16) fun x17 =>
    K .normal (ee4 x0 x17) S := nr (by kernel_rfl)
@[go_sem] theorem k90_n (b : Nat) (x0 : PV) (S : Store) : k90 b .normal (ee0 x0) S =
  execL (C b) 0 c91 (k93 b) (ee0 x0) S := nr (seqN ((enterS (by kernel_rfl)).trans (enterS (by kernel_rfl))))
@[go_sem] theorem g102 (b : Nat) (K : KT) (x0 : PV) (S : Store) : execL (C b) 0 c1 K (ee0 x0) S =
  withV (some (.bool false)) fun x2 =>
    K .normal (ee0 x0) S := nr (by kernel_rfl)
def E (b : Nat) (x0 : PV) (S : Store) : RT := execL (C b) 0 code (k0 b) (ee0 x0) S
@[go_sem] theorem E_eq (b : Nat) (x0 : PV) (S : Store) : E b x0 S =
  execL (C b) 0 c1 (k90 b) (ee0 x0) S := nr (enterS (by kernel_rfl))
@[go_sem] theorem k0_ret5 (b : Nat) (x2 : PV) (S : Store) : k0 b .ret (ee5 x2) S = some (x2, S) := nr (by kernel_rfl)
theorem call {x0 : PV} {r : PV × Store} {v : PV} (h : E 0 x0 [] = some r) (hv : fzPV r.2 r.1 = some v) : callL Try.prog hints 38 [x0] = some v := callL_of (fn := Try.f38) (c := code) (by kernel_rfl) (by kernel_rfl) (by decide) (by kernel_rfl) (Nat.le_of_ble_eq_true (by kernel_rfl)) h hv
end F38
/-! ### isochroneref08.Name -/
namespace F39
end F39
/-! ### tree.Sort -/
namespace F40
noncomputable def hint : Hint := { keep := [], loops := [], regs := [(0, [0]), (1, [0, 3]), (2, [2]), (3, [0, 10]), (4, [2]), (5, [0, 17]), (6, [2]), (7, [24]), (8, [2]), (9, [2])] }
noncomputable def C (b : Nat) : Ctx := ctxL Try.prog hints b hint
noncomputable def code : Code := Try.f40.body.get rfl
noncomputable def k0 (b : Nat) : KT := endC Try.prog Try.f40
def ee0 (x0 : PV) : Env := [(0, x0)]
def ee1 (x0 x3 : PV) : Env := [(0, x0), (3, x3)]
def ee2 (x0 x10 : PV) : Env := [(0, x0), (10, x10)]
def ee3 (x0 x17 : PV) : Env := [(0, x0), (17, x17)]
def ee4 (x2 : PV) : Env := [(2, x2)]
def ee5 (x24 : PV) : Env := [(24, x24)]
def c1 : Code := at0 code
def c2 : Code := at1 code
def c3 : Code := at0 c2
def c4 : Code := at1 c2
def c5 : Code := at0 c4
def c6 : Code := at1 c4
def k7 (b : Nat) : KT := seqC (fun e S => execL (C b) 0 c6 (k0 b) e S) (k0 b)
@[go_sem] theorem k7_n (b : Nat) (x2 : PV) (S : Store) : k7 b .normal (ee4 x2) S =
  (k0 b) .ret (ee4 x2) S := nr (seqN (execL_ret (by kernel_rfl)))
def k8 (b : Nat) : KT := seqC (fun e S => execL (C b) 0 c4 (k0 b) e S) (k0 b)
@[go_sem] theorem g9 (b : Nat) (K : KT) (x24 : PV) (S : Store) : execL (C b) 0 c5 K (ee5 x24) S =
  withV (some (.int .i64 0)) fun x2 =>
    K .normal (ee4 x2) S := nr (by kernel_rfl)
@[go_sem] theorem k8_n (b : Nat) (e : Env) (S : Store) : k8 b .normal e S = execL (C b) 0 c5 (k7 b) e S := nr (seqN (enterS (by kernel_rfl)))
@[go_sem] theorem k8_ret (b : Nat) (e : Env) (S : Store) : k8 b .ret e S = (k0 b) .ret e S := nr (seqC_r _ _ _ _)
def k10 (b : Nat) : KT := seqC (fun e S => execL (C b) 0 c2 (k0 b) e S) (k0 b)
def c11 : Code := atB c3
def k12 (b : Nat) : KT := blockC 0 (k8 b)
@[go_sem] theorem k12_n (b : Nat) (e : Env) (S : Store) : k12 b .normal e S = (k8 b) .normal e S := nr (blockC_n _ _ _ _)
@[go_sem] theorem k12_ret (b : Nat) (e : Env) (S : Store) : k12 b .ret e S = (k8 b) .ret e S := nr (blockC_r _ _ _ _)
def c13 : Code := at0 c11
def c14 : Code := at1 c11
def k15 (b : Nat) : KT := seqC (fun e S => execL (C b) 0 c14 (k12 b) e S) (k12 b)
def c16 : Code := atT c14
def c17 : Code := atF c14
def c19 : Code := at0 c16
def c20 : Code := at1 c16
def k21 (b : Nat) : KT := seqC (fun e S => execL (C b) 0 c20 (k12 b) e S) (k12 b)
@[go_sem] theorem k21_n (b : Nat) (x2 : PV) (S : Store) : k21 b .normal (ee4 x2) S =
  (k12 b) .ret (ee4 x2) S := nr (seqN (execL_ret (by kernel_rfl)))
@[go_sem] theorem g22 (b : Nat) (K : KT) (x0 x3 : PV) (S : Store) : execL (C b) 0 c19 K (ee1 x0 x3) S =
  withV (some (.int .i64 1)) fun x2 =>
    K .normal (ee4 x2) S := nr (by kernel_rfl)
def c24 : Code := at0 c17
def c25 : Code := at1 c17
def k26 (b : Nat) : KT := seqC (fun e S => execL (C b) 0 c25 (k12 b) e S) (k12 b)
def c27 : Code := atT c25
def c28 : Code := atF c25
def c30 : Code := at0 c27
def c31 : Code := at1 c27
def k32 (b : Nat) : KT := seqC (fun e S => execL (C b) 0 c31 (k12 b) e S) (k12 b)
@[go_sem] theorem k32_n (b : Nat) (x2 : PV) (S : Store) : k32 b .normal (ee4 x2) S =
  (k12 b) .ret (ee4 x2) S := nr (seqN (execL_ret (by kernel_rfl)))
@[go_sem] theorem g33 (b : Nat) (K : KT) (x0 x10 : PV) (S : Store) : execL (C b) 0 c30 K (ee2 x0 x10) S =
  withV (some (.int .i64 2)) fun x2 =>
    K .normal (ee4 x2) S := nr (by kernel_rfl)
def c35 : Code := at0 c28
def c36 : Code := at1 c28
def k37 (b : Nat) : KT := seqC (fun e S => execL (C b) 0 c36 (k12 b) e S) (k12 b)
def c38 : Code := atT c36
def c39 : Code := atF c36
def c41 : Code := at0 c38
def c42 : Code := at1 c38
def k43 (b : Nat) : KT := seqC (fun e S => execL (C b) 0 c42 (k12 b) e S) (k12 b)
@[go_sem] theorem k43_n (b : Nat) (x2 : PV) (S : Store) : k43 b .normal (ee4 x2) S =
  (k12 b) .ret (ee4 x2) S := nr (seqN (execL_ret (by kernel_rfl)))
@[go_sem] theorem g44 (b : Nat) (K : KT) (x0 x17 : PV) (S : Store) : execL (C b) 0 c41 K (ee3 x0 x17) S =
  withV (some (.int .i64 4)) fun x2 =>
    K .normal (ee4 x2) S := nr (by kernel_rfl)
def c46 : Code := at0 c39
def c47 : Code := at1 c39
def k48 (b : Nat) : KT := seqC (fun e S => execL (C b) 0 c47 (k12 b) e S) (k12 b)
def c49 : Code := atT c47
def c52 : Code := at0 c49
def c53 : Code := at1 c49
def k54 (b : Nat) : KT := seqC (fun e S => execL (C b) 0 c53 (k12 b) e S) (k12 b)
@[go_sem] theorem k54_n (b : Nat) (x2 : PV) (S : Store) : k54 b .normal (ee4 x2) S =
  (k12 b) .ret (ee4 x2) S := nr (seqN (execL_ret (by kernel_rfl)))
@[go_sem] theorem g55 (b : Nat) (K : KT) (x24 : PV) (S : Store) : execL (C b) 0 c52 K (ee5 x24) S =
  withV (some (.int .i64 3)) fun x2 =>
    K .normal (ee4 x2) S := nr (by kernel_rfl)
@[go_sem] theorem k48_n (b : Nat) (x24 : PV) (S : Store) : k48 b .normal (ee5 x24) S =
  condC x24 (execL (C b) 0 c52 (k54 b) (ee5 x24) S)
    ((k12 b) .normal (ee5 x24) S) := nr (seqN (condE (t := 24) (by kernel_rfl) (enterS (by kernel_rfl)) (execL_skip (by kernel_rfl)) rfl))
@[go_sem] theorem g56 (b : Nat) (K : KT) (x0 x17 : PV) (S : Store) : execL (C b) 0 c46 K (ee3 x0 x17) S =
  withV (some x0) fun x25 =>
    withV (evBin .geq (tyi Try.prog 3) x25 (.int .i64 50)) fun x26 =>
    withV (some x26) fun x27 =>
    withV (gval x27 true (some x0)) fun x28 =>
    withV (gval x27 true (evBin .leq (tyi Try.prog 3) x28 (.int .i64 62))) fun x29 =>
    withV (pickO x27 x29 (.bool false)) fun x30 =>
    withV (some x30) fun x24 =>
    K .normal (ee5 x24) S := nr (by kernel_rfl)
@[go_sem] theorem k37_n (b : Nat) (x0 x17 : PV) (S : Store) : k37 b .normal (ee3 x0 x17) S =
  condC x17 (execL (C b) 0 c41 (k43 b) (ee3 x0 x17) S)
    (execL (C b) 0 c46 (k48 b) (ee3 x0 x17) S) := nr (seqN (condE (t := 17) (by kernel_rfl) (enterS (by kernel_rfl)) (enterS (by kernel_rfl)) rfl))
@[go_sem] theorem g57 (b : Nat) (K : KT) (x0 x10 : PV) (S : Store) : execL (C b) 0 c35 K (ee2 x0 x10) S =
  withV (some x0) fun x18 =>
    withV (evBin .eql (tyi Try.prog 3) x18 (.int .i64 55)) fun x19 =>
    withV (some x19) fun x20 =>
    withV (gval x20 false (some x0)) fun x21 =>
    withV (gval x20 false (evBin .eql (tyi Try.prog 3) x21 (.int .i64 56))) fun x22 =>
    withV (pickO x20 (.bool true) x22) fun x23 =>
    withV (some x23) fun x17 =>
    K .normal (ee3 x0 x17) S := nr (by kernel_rfl)
@[go_sem] theorem k26_n (b : Nat) (x0 x10 : PV) (S : Store) : k26 b .normal (ee2 x0 x10) S =
  condC x10 (execL (C b) 0 c30 (k32 b) (ee2 x0 x10) S)
    (execL (C b) 0 c35 (k37 b) (ee2 x0 x10) S) := nr (seqN (condE (t := 10) (by kernel_rfl) (enterS (by kernel_rfl)) (enterS (by kernel_rfl)) rfl))
@[go_sem] theorem g58 (b : Nat) (K : KT) (x0 x3 : PV) (S : Store) : execL (C b) 0 c24 K (ee1 x0 x3) S =
  withV (some x0) fun x11 =>
    withV (evBin .geq (tyi Try.prog 3) x11 (.int .i64 20)) fun x12 =>
    withV (some x12) fun x13 =>
    withV (gval x13 true (some x0)) fun x14 =>
    withV (gval x13 true (evBin .leq (tyi Try.prog 3) x14 (.int .i64 39))) fun x15 =>
    withV (pickO x13 x15 (.bool false)) fun x16 =>
    withV (some x16) fun x10 =>
    K .normal (ee2 x0 x10) S := nr (by kernel_rfl)
@[go_sem] theorem k15_n (b : Nat) (x0 x3 : PV) (S : Store) : k15 b .normal (ee1 x0 x3) S =
  condC x3 (execL (C b) 0 c19 (k21 b) (ee1 x0 x3) S)
    (execL (C b) 0 c24 (k26 b) (ee1 x0 x3) S) := nr (seqN (condE (t := 3) (by kernel_rfl) (enterS (by kernel_rfl)) (enterS (by kernel_rfl)) rfl))
@[go_sem] theorem g59 (b : Nat) (K : KT) (x0 : PV) (S : Store) : execL (C b) 0 c13 K (ee0 x0) S =
  withV (some x0) fun x4 =>
    withV (evBin .geq (tyi Try.prog 3) x4 (.int .i64 1)) fun x5 =>
    withV (some x5) fun x6 =>
    withV (gval x6 true (some x0)) fun x7 =>
    withV (gval x6 true (evBin .leq (tyi Try.prog 3) x7 (.int .i64 13))) fun x8 =>
    withV (pickO x6 x8 (.bool false)) fun x9 =>
    withV (some x9) fun x3 =>
    K .normal (ee1 x0 x3) S := nr (by kernel_rfl)
@[go_sem] theorem k10_n (b : Nat) (x0 : PV) (S : Store) : k10 b .normal (ee0 x0) S =
  execL (C b) 0 c13 (k15 b) (ee0 x0) S := nr (seqN ((enterS (by kernel_rfl)).trans ((blockE (by kernel_rfl)).trans (enterS (by kernel_rfl)))))
@[go_sem] theorem g60 (b : Nat) (K : KT) (x0 : PV) (S : Store) : execL (C b) 0 c1 K (ee0 x0) S =
  withV (some (.int .i64 0)) fun x2 =>
    K .normal (ee0 x0) S := nr (by kernel_rfl)
def E (b : Nat) (x0 : PV) (S : Store) : RT := execL (C b) 0 code (k0 b) (ee0 x0) S
@[go_sem] theorem E_eq (b : Nat) (x0 : PV) (S : Store) : E b x0 S =
  execL (C b) 0 c1 (k10 b) (ee0 x0) S := nr (enterS (by kernel_rfl))
@[go_sem] theorem k0_ret4 (b : Nat) (x2 : PV) (S : Store) : k0 b .ret (ee4 x2) S = some (x2, S) := nr (by kernel_rfl)
theorem call {x0 : PV} {r : PV × Store} {v : PV} (h : E 0 x0 [] = some r) (hv : fzPV r.2 r.1 = some v) : callL Try.prog hints 40 [x0] = some v := callL_of (fn := Try.f40) (c := code) (by kernel_rfl) (by kernel_rfl) (by decide) (by kernel_rfl) (Nat.le_of_ble_eq_true (by kernel_rfl)) h hv
end F40
/-! ### isochroneref08.Sort -/
namespace F41
end F41
end
end Go.Vs
end
/- tree.Name, tree.Sort, and the reference's: what they return. -/
section
set_option linter.unusedVariables false
set_option linter.unusedSimpArgs false
namespace Go.Vs
open Go Go.Proofs
def isLetter (c : Int) : Bool := decide (97 ≤ c ∧ c ≤ 122 ∨ 65 ≤ c ∧ c ≤ 90)
def isDigit (c : Int) : Bool := decide (48 ≤ c ∧ c ≤ 57)
theorem call66 (c : Int) : callL Try.prog hints 66 [.int .u8 c] = some (.bool (isLetter c)) := by
  refine F66.call (r := (.bool (isLetter c), [])) ?_ rfl
  simp only [go_sem]
  repeat' split
  all_goals (simp [isLetter] <;> omega)
@[go_sem] theorem callO66 (S : Store) (c : Int) : callO (callL Try.prog hints) S 66 [.int .u8 c] = some { v := .bool (isLetter c) } := callO_plain (call66 c) (by simp [Plain.int])
/-- From byte i on, letters and digits alone. -/
def restOK (s : ByteArray) : Nat → Nat → Bool
  | 0, i => true
  | m + 1, i => (isLetter (byteAt s i) || isDigit (byteAt s i)) && restOK s m (i + 1)
def keyword (s : ByteArray) : Bool := s.toList == (⟨#[116, 114, 117, 101]⟩ : ByteArray).toList || s.toList == (⟨#[102, 97, 108, 115, 101]⟩ : ByteArray).toList || s.toList == (⟨#[102, 111, 114, 97, 108, 108]⟩ : ByteArray).toList || s.toList == (⟨#[101, 120, 105, 115, 116, 115]⟩ : ByteArray).toList
theorem loop38 (s : ByteArray) (hs : s.size ≤ 12) : ∀ (m i : Nat), i + m = s.size → F38.L0 0 0 (.str s) (.int .i64 i) [] = some (.bool (restOK s m i && !keyword s), []) := by
  intro m
  induction m with
  | zero =>
    intro i hi
    apply F38.L0_step
    have h1 : ¬ (i : Int) < (s.size : Int) := by omega
    simp only [go_sem, h1]
    repeat' split
    all_goals simp_all [restOK, keyword]
  | succ m ih =>
    intro i hi
    apply F38.L0_step
    have h1 : (i : Int) < (s.size : Int) := by omega
    have h2 : IntKind.i64.wrap ((i : Int) + 1) = ((i + 1 : Nat) : Int) := by rw [IntKind.wrap_i64]; omega
    have h3 := ih (i + 1) (by omega)
    have h4 : 0 ≤ (i : Int) ∧ (i : Int) < (s.size : Int) := ⟨by omega, h1⟩
    simp only [go_sem, h1, h2, h3, h4]
    repeat' split
    all_goals (simp_all [restOK, isDigit] <;> omega)
/-- A name. -/
def nameOK (s : ByteArray) : Bool := decide (0 < s.size ∧ s.size ≤ 12) && isLetter (byteAt s 0) && restOK s s.size 0 && !keyword s
theorem call38 (s : ByteArray) : callL Try.prog hints 38 [.str s] = some (.bool (nameOK s)) := by
  refine F38.call (r := (.bool (nameOK s), [])) ?_ rfl
  by_cases h0 : s.size = 0
  · simp [go_sem, h0, nameOK]
  have h5 : ¬ (s.size : Int) = 0 := by omega
  by_cases h1 : s.size ≤ 12
  · have h2 := loop38 s h1 s.size 0 (by omega)
    have h3 : (0 : Int) < (s.size : Int) := by omega
    have h4 : ¬ (12 : Int) < (s.size : Int) := by omega
    simp only [Int.natCast_zero] at h2
    simp only [go_sem, h3, h4, h5, Int.le_refl, List.length_nil, h2, Int.toNat_zero]
    have h6 : 0 < s.size := by omega
    cases h7 : isLetter (byteAt s 0) <;> simp [nameOK, h7, h1, h6]
  · have h4 : (12 : Int) < (s.size : Int) := by omega
    simp only [go_sem, h4, h5]
    simp [nameOK, h1]
/-- The sort of an operator. -/
def sortOf (n : Int) : Int := if 1 ≤ n ∧ n ≤ 13 then 1 else if 20 ≤ n ∧ n ≤ 39 then 2 else if n = 55 ∨ n = 56 then 4 else if 50 ≤ n ∧ n ≤ 62 then 3 else 0
theorem call40 (n : Int) : callL Try.prog hints 40 [.int .i64 n] = some (.int .i64 (sortOf n)) := by
  refine F40.call (r := (.int .i64 (sortOf n), [])) ?_ rfl
  simp only [go_sem]
  repeat' split
  all_goals (simp [sortOf] <;> omega)
@[go_sem] theorem callO38 (S : Store) (s : ByteArray) : callO (callL Try.prog hints) S 38 [.str s] = some { v := .bool (nameOK s) } := callO_plain (call38 s) (by simp [Plain.str])
@[go_sem] theorem callO40 (S : Store) (n : Int) : callO (callL Try.prog hints) S 40 [.int .i64 n] = some { v := .int .i64 (sortOf n) } := callO_plain (call40 n) (by simp [Plain.int])
end Go.Vs
end
/- Rules for stores of known arrays. -/
section
set_option linter.unusedVariables false
set_option linter.unusedSimpArgs false
namespace Go.Vs
open Go Go.Proofs
attribute [go_sem] List.all_cons List.all_nil Bool.and_self Bool.and_true Bool.true_and Bool.and_false Bool.false_and decide_true decide_false List.take_succ_cons List.take_zero List.take_nil List.drop_nil List.append_nil List.set_cons_zero List.set_cons_succ ge_iff_le
@[go_sem] theorem pvcells_agg (l : List PV) : PV.cells (.agg l) = l := nr rfl
@[go_sem] theorem pvcells_int (k : IntKind) (n : Int) : PV.cells (.int k n) = [.int k n] := nr rfl
@[go_sem] theorem pvcells_bool (b : Bool) : PV.cells (.bool b) = [.bool b] := nr rfl
@[go_sem] theorem pvcells_sl (r : List (List PV)) (ex : Bool) : PV.cells (.sl r ex) = [.sl r ex] := nr rfl
@[go_sem] theorem pvcells_msl (a b c : Nat) (ex : Bool) : PV.cells (.msl a b c ex) = [.msl a b c ex] := nr rfl
@[go_sem] theorem cell_int (k : IntKind) (n : Int) : PV.cell (.int k n) = true := nr rfl
@[go_sem] theorem cell_bool (b : Bool) : PV.cell (.bool b) = true := nr rfl
@[go_sem] theorem cell_str (b : ByteArray) : PV.cell (.str b) = true := nr rfl
@[go_sem] theorem cell_sl (r : List (List PV)) (ex : Bool) : PV.cell (.sl r ex) = true := nr rfl
@[go_sem] theorem cell_msl (a b c : Nat) (ex : Bool) : PV.cell (.msl a b c ex) = true := nr rfl
@[go_sem] theorem refs_undef : PV.refs .undef = [] := nr rfl
@[go_sem] theorem refs_int (k : IntKind) (n : Int) : PV.refs (.int k n) = [] := nr rfl
@[go_sem] theorem refs_bool (b : Bool) : PV.refs (.bool b) = [] := nr rfl
@[go_sem] theorem refs_sl (r : List (List PV)) (ex : Bool) : PV.refs (.sl r ex) = [] := nr rfl
@[go_sem] theorem refs_agg (l : List PV) : PV.refs (.agg l) = refsL l := nr rfl
@[go_sem] theorem refs_msl (a b c : Nat) (ex : Bool) : PV.refs (.msl a b c ex) = [a] := nr rfl
@[go_sem] theorem refs_mp (a b c : Nat) : PV.refs (.mp a b c) = [a] := nr rfl
@[go_sem] theorem refsL_nil : refsL [] = [] := nr rfl
@[go_sem] theorem refsL_cons (v : PV) (r : List PV) : refsL (v :: r) = v.refs ++ refsL r := nr rfl
@[go_sem] theorem rowsRefs_nil : rowsRefs [] = [] := nr rfl
@[go_sem] theorem rowsRefs_cons (v : List PV) (r : List (List PV)) : rowsRefs (v :: r) = refsL v ++ rowsRefs r := nr rfl
@[go_sem] theorem zeroNode_length : zeroNode.length = 6 := nr rfl
@[go_sem] theorem zeroNode_refs : refsL zeroNode = [] := nr rfl
/-- Does all that is seen lie below a number? -/
def seenBelow (n : Nat) : Env → Bool
  | [] => true
  | (_, v) :: r => (v.refs.all fun i => decide (i < n)) && seenBelow n r
def heldBelow (n : Nat) : Nat → Store → Bool
  | 0, _ => true
  | _, [] => true
  | m + 1, .arr rows _ _ :: r => ((rowsRefs rows).all fun i => decide (i < n)) && heldBelow n m r
  | m + 1, .gone :: r => heldBelow n m r
theorem seenBelow_eq (n : Nat) : ∀ e : Env, (e.all fun (_, v) => v.refs.all fun i => decide (i < n)) = seenBelow n e
  | [] => rfl
  | (_, v) :: r => by simp only [List.all_cons, seenBelow, seenBelow_eq n r]
theorem heldBelow_eq (n : Nat) : ∀ (m : Nat) (S : Store), ((S.take m).all fun | .arr rows _ _ => (rowsRefs rows).all fun i => decide (i < n) | .gone => true) = heldBelow n m S
  | 0, S => by simp [heldBelow]
  | m + 1, [] => by simp [heldBelow]
  | m + 1, .arr rows g f :: r => by simp only [List.take_succ_cons, List.all_cons, heldBelow, heldBelow_eq n m r]
  | m + 1, .gone :: r => by simp only [List.take_succ_cons, List.all_cons, heldBelow, heldBelow_eq n m r, Bool.true_and]
@[go_sem] theorem gc_eq (n : Nat) (k : Nat) (v : PV) (e : Env) (o : Obj) (S : Store) : gc n ((k, v) :: e) (o :: S) = if seenBelow n ((k, v) :: e) = true ∧ heldBelow n n (o :: S) = true then (o :: S).take n else o :: S := by
  rw [← seenBelow_eq, ← heldBelow_eq]
  rfl
@[go_sem] theorem seenBelow_nil (n : Nat) : seenBelow n [] = true := nr rfl
@[go_sem] theorem seenBelow_cons (n k : Nat) (v : PV) (r : Env) : seenBelow n ((k, v) :: r) = ((v.refs.all fun i => decide (i < n)) && seenBelow n r) := nr rfl
@[go_sem] theorem heldBelow_zero (n : Nat) (S : Store) : heldBelow n 0 S = true := nr (by cases S <;> rfl)
@[go_sem] theorem heldBelow_nil (n m : Nat) : heldBelow n m [] = true := nr (by cases m <;> rfl)
@[go_sem] theorem heldBelow_cons (n m : Nat) (rows : List (List PV)) (g : Option (Option Nat)) (f : Bool) (r : Store) : heldBelow n (m + 1) (.arr rows g f :: r) = (((rowsRefs rows).all fun i => decide (i < n)) && heldBelow n m r) := nr rfl
@[go_sem] theorem storeE_eq (ti : TI) (S : Store) (a v : PV) : storeE ti S a v = if ti.known = true then (evStore ti.size S a v).map fun S => { v := .skip, S } else none := nr rfl
@[go_sem] theorem evStore_zero (n : Nat) (rows : List (List PV)) (g : Option (Option Nat)) (S : Store) (i off : Nat) (v : PV) : evStore n (.arr rows g false :: S) (.mp 0 i off) v =
    if i < rows.length ∧ off + n ≤ (rows.getD i []).length ∧ v.cells.length = n ∧ v.cells.all PV.cell = true then some (.arr (rows.set i (splice (rows.getD i []) off v.cells)) g false :: S) else none := nr rfl
@[go_sem] theorem evStore_succ (n : Nat) (o : Obj) (S : Store) (id i off : Nat) (v : PV) : evStore n (o :: S) (.mp (id + 1) i off) v = (evStore n S (.mp id i off) v).map fun S => o :: S := by
  simp only [evStore, List.getElem?_cons_succ]
  cases h : S[id]? with
  | none => rfl
  | some q =>
    cases q with
    | gone => rfl
    | arr rows g f =>
      cases f with
      | true => rfl
      | false =>
        simp only
        split <;> simp
@[go_sem] theorem splice_if (row : List PV) (off : Nat) (cs : List PV) : splice row off cs = if off = 0 ∧ cs.length = row.length then cs else row.take off ++ cs ++ row.drop (off + cs.length) := nr rfl
@[go_sem] theorem killE_nil' (e : Env) : killE [] e = e := nr rfl
attribute [go_sem] Nat.le_refl
theorem iteEq {α : Type} {c : Prop} [Decidable c] {a b v : α} (h1 : c → a = v) (h2 : ¬ c → b = v) : (if c then a else b) = v := by
  by_cases h : c
  · rw [if_pos h]; exact h1 h
  · rw [if_neg h]; exact h2 h
theorem iteBind {α β : Type} {c : Prop} [Decidable c] {a b : Option α} {f : α → Option β} {v : Option β} (h1 : c → a.bind f = v) (h2 : ¬ c → b.bind f = v) : (if c then a else b).bind f = v := by
  by_cases h : c
  · rw [if_pos h]; exact h1 h
  · rw [if_neg h]; exact h2 h
theorem bindCall {x : Option (PV × Store)} {y : Option PV} {v : PV} (hc : ∀ {r : PV × Store} {v : PV}, x = some r → fzPV r.2 r.1 = some v → y = some v) (h : (x.bind fun r => fzPV r.2 r.1) = some v) : y = some v := by
  obtain ⟨r, h1, h2⟩ := bind_some h
  exact hc h1 h2
@[go_sem] theorem buildSlice22 (id n : Nat) (is : List Nat) (rows : List (List PV)) : buildSliceO Try.prog 22 id n is rows = if is = List.range n ∧ rowsOK 1 rows = true ∧ (rows.all fun r => r.all PV.cell) = true ∧ n * 1 ≤ 16777216 then some { v := .msl id 0 n true, new := some (rows, some (some 1)) } else none := by
  have e : (tyi Try.prog 3).zero.isSome = true := by kernel_rfl
  simp [buildSliceO, d22, size3, e]
@[go_sem] theorem rowsOK_nil (n : Nat) : rowsOK n [] = true := nr rfl
@[go_sem] theorem rowsOK_cons (n : Nat) (r : List PV) (l : List (List PV)) : rowsOK n (r :: l) = (r.length == n && rowsOK n l) := nr rfl
@[go_sem] theorem range0 : List.range 0 = [] := nr rfl
attribute [go_sem] beq_self_eq_true
end Go.Vs
end
/- Printed by a program of mine (stage1.py): the functions 35, 43, 44, 45, piece by piece. -/
section
set_option linter.unusedVariables false
set_option linter.unusedSimpArgs false
namespace Go.Vs
open Go Go.Proofs
noncomputable section

/-! ### isochroneref08.Size -/
namespace F35
noncomputable def hint : Hint := { keep := [], loops := [(0, { live := [1, 3, 4], after := [3], own := [], fz := [] })], regs := [(0, [1]), (1, [1, 3]), (2, [1, 3, 4]), (3, [1, 3, 4, 9]), (4, [1, 3, 4]), (5, [1, 3, 4]), (6, [2])] }
noncomputable def C (b : Nat) : Ctx := ctxL Try.prog hints b hint
noncomputable def code : Code := Try.f35.body.get rfl
noncomputable def k0 (b : Nat) : KT := endC Try.prog Try.f35
def ee0 (x1 : PV) : Env := [(1, x1)]
def ee1 (x1 x3 : PV) : Env := [(1, x1), (3, x3)]
def ee2 (x1 x3 x4 : PV) : Env := [(1, x1), (3, x3), (4, x4)]
def ee3 (x1 x3 x4 x9 : PV) : Env := [(1, x1), (3, x3), (4, x4), (9, x9)]
def ee4 (x2 : PV) : Env := [(2, x2)]
def c1 : Code := at0 code
def c2 : Code := at1 code
def c3 : Code := at0 c2
def c4 : Code := at1 c2
def c5 : Code := at0 c4
def c6 : Code := at1 c4
def c7 : Code := at0 c6
def c8 : Code := at1 c6
def k9 (b : Nat) : KT := seqC (fun e S => execL (C b) 0 c8 (k0 b) e S) (k0 b)
@[go_sem] theorem k9_n (b : Nat) (x2 : PV) (S : Store) : k9 b .normal (ee4 x2) S =
  (k0 b) .ret (ee4 x2) S := nr (seqN (execL_ret (by kernel_rfl)))
def k10 (b : Nat) : KT := seqC (fun e S => execL (C b) 0 c6 (k0 b) e S) (k0 b)
@[go_sem] theorem g11 (b : Nat) (K : KT) (x1 x3 x4 x9 : PV) (S : Store) : execL (C b) 0 c7 K (ee3 x1 x3 x4 x9) S =
  withV (some x3) fun x20 =>
    withV (some x20) fun x2 =>
    K .normal (ee4 x2) S := nr (by kernel_rfl)
@[go_sem] theorem k10_n (b : Nat) (e : Env) (S : Store) : k10 b .normal e S = execL (C b) 0 c7 (k9 b) e S := nr (seqN (enterS (by kernel_rfl)))
def k12 (b : Nat) : KT := seqC (fun e S => execL (C b) 0 c4 (k0 b) e S) (k0 b)
def c13 : Code := at0 c5
def c14 : Code := at1 c5
def k15 (b : Nat) : KT := seqC (fun e S => execL (C b) 0 c14 (k10 b) e S) (k10 b)
def c16 : Code := atB c14
def k17 (b : Nat) : KT := blockC 0 (k10 b)
@[go_sem] theorem k17_exit (b : Nat) (i : Nat) (e : Env) (S : Store) : k17 b (.exit i) e S = if i = 0 then (k10 b) .normal e S else (k10 b) (.exit i) e S := nr (blockC_x _ _ _ _ _)
def c18 : Code := atL c16
def k19 (b n0 : Nat) : KT := afterC 0 n0 [3] (k17 b)
def L0g (b n0 : Nat) (e : Env) (S : Store) : RT := loopL (fun K e S => execL (C b) 0 c18 K e S) (normG [1, 3, 4] [] n0) (k19 b n0) e S
def L0 (b n0 : Nat) (x1 x3 x4 : PV) (S : Store) : RT := L0g b n0 (ee2 x1 x3 x4) S
def k20 (b n0 : Nat) : KT := stepC (normG [1, 3, 4] [] n0) (k19 b n0) (L0g b n0)
@[go_sem] theorem k20_n (b n0 : Nat) (x1 x3 x4 : PV) (S : Store) : k20 b n0 .normal (ee2 x1 x3 x4) S = L0 b n0 x1 x3 x4 (gc n0 (ee2 x1 x3 x4) S) := nr (by kernel_rfl)
@[go_sem] theorem k20_x1 (b n0 : Nat) (x1 x3 x4 x9 : PV) (S : Store) : k20 b n0 (.exit 0) (ee3 x1 x3 x4 x9) S = (k17 b) (.exit 0) (ee3 .undef x3 .undef .undef) (gc n0 (ee3 .undef x3 .undef .undef) S) := nr ((show k20 b n0 (.exit 0) (ee3 x1 x3 x4 x9) S = (k19 b n0) (.exit 0) (ee3 x1 x3 x4 x9) S from stepC_x _ _ _ _ _ _).trans ((show (k19 b n0) (.exit 0) (ee3 x1 x3 x4 x9) S = _ from afterC_x _ _ _ _ _ _ _).trans (if_pos rfl)))
def c21 : Code := at0 c18
def c22 : Code := at1 c18
def c23 : Code := at0 c22
def c24 : Code := at1 c22
def k25 (b n0 : Nat) : KT := seqC (fun e S => execL (C b) 0 c24 (k20 b n0) e S) (k20 b n0)
@[go_sem] theorem g26 (b : Nat) (K : KT) (x1 x3 x4 : PV) (S : Store) : execL (C b) 0 c24 K (ee2 x1 x3 x4) S =
  withV (some x4) fun x10 =>
    withV (evBin .add (tyi Try.prog 3) x10 (.int .i64 1)) fun x11 =>
    withV (some x11) fun x4 =>
    K .normal (ee2 x1 x3 x4) S := nr (by kernel_rfl)
@[go_sem] theorem k25_n (b n0 : Nat) (e : Env) (S : Store) : k25 b n0 .normal e S = execL (C b) 0 c24 (k20 b n0) e S := nr (seqN rfl)
def k27 (b n0 : Nat) : KT := seqC (fun e S => execL (C b) 0 c22 (k20 b n0) e S) (k20 b n0)
def c28 : Code := atB c23
def k29 (b n0 : Nat) : KT := blockC 1 (k25 b n0)
@[go_sem] theorem k29_n (b n0 : Nat) (e : Env) (S : Store) : k29 b n0 .normal e S = (k25 b n0) .normal e S := nr (blockC_n _ _ _ _)
@[go_sem] theorem g30 (b : Nat) (K : KT) (x1 x3 x4 x9 : PV) (S : Store) : execL (C b) 1 c28 K (ee3 x1 x3 x4 x9) S =
  withV (some x3) fun x12 =>
    withV (evFieldAddr (tyi Try.prog 54) 3 x1) fun x13 =>
    withV (evLoad (tyi Try.prog 52) S x13) fun x14 =>
    withV (some x4) fun x15 =>
    withV (indexAddrO Try.prog 52 S x14 x15) fun x16 =>
    withV (evLoad (tyi Try.prog 54) S x16) fun x17 =>
    withN (callO (callL Try.prog hints) S 35 [x17]) S fun x18 S =>
    withV (evBin .add (tyi Try.prog 3) x12 x18) fun x19 =>
    withV (some x19) fun x3 =>
    K .normal (ee2 x1 x3 x4) S := nr (by kernel_rfl)
@[go_sem] theorem k27_n (b n0 : Nat) (x1 x3 x4 x9 : PV) (S : Store) : k27 b n0 .normal (ee3 x1 x3 x4 x9) S =
  execL (C b) 1 c28 (k29 b n0) (ee3 x1 x3 x4 x9) S := nr (seqN ((enterS (by kernel_rfl)).trans (blockE (by kernel_rfl))))
@[go_sem] theorem k27_exit (b n0 : Nat) (i : Nat) (e : Env) (S : Store) : k27 b n0 (.exit i) e S = (k20 b n0) (.exit i) e S := nr (seqC_x _ _ _ _ _)
def c31 : Code := at0 c21
def c32 : Code := at1 c21
def k33 (b n0 : Nat) : KT := seqC (fun e S => execL (C b) 0 c32 (k27 b n0) e S) (k27 b n0)
@[go_sem] theorem k33_n (b n0 : Nat) (x1 x3 x4 x9 : PV) (S : Store) : k33 b n0 .normal (ee3 x1 x3 x4 x9) S =
  condC x9 ((k27 b n0) .normal (ee3 x1 x3 x4 x9) S)
    ((k27 b n0) (.exit 0) (ee3 x1 x3 x4 x9) S) := nr (seqN (condE (t := 9) (by kernel_rfl) (execL_skip (by kernel_rfl)) (execL_exit (by kernel_rfl)) rfl))
@[go_sem] theorem g36 (b : Nat) (K : KT) (x1 x3 x4 : PV) (S : Store) : execL (C b) 0 c31 K (ee2 x1 x3 x4) S =
  withV (some x4) fun x5 =>
    withV (evFieldAddr (tyi Try.prog 54) 3 x1) fun x6 =>
    withV (evLoad (tyi Try.prog 52) S x6) fun x7 =>
    withV (lenO (tyi Try.prog 52) x7) fun x8 =>
    withV (evBin .lss (tyi Try.prog 3) x5 x8) fun x9 =>
    K .normal (ee3 x1 x3 x4 x9) S := nr (by kernel_rfl)
def B0 (b n0 : Nat) (x1 x3 x4 : PV) (S : Store) : RT := execL (C b) 0 c18 (k20 b n0) (ee2 x1 x3 x4) S
@[go_sem] theorem B0_eq (b n0 : Nat) (x1 x3 x4 : PV) (S : Store) : B0 b n0 x1 x3 x4 S =
  execL (C b) 0 c31 (k33 b n0) (ee2 x1 x3 x4) S := nr ((enterS (by kernel_rfl)).trans (enterS (by kernel_rfl)))
theorem L0_step {b n0 : Nat} {x1 x3 x4 : PV} {S : Store} {z : PV × Store} (h : B0 b n0 x1 x3 x4 S = some z) : L0 b n0 x1 x3 x4 S = some z := loopL_step h
theorem L0_in (b : Nat) (x1 x3 x4 : PV) (S : Store) : execL (C b) 0 c16 (k17 b) (ee2 x1 x3 x4) S = L0 b (List.length S) x1 x3 x4 S := by kernel_rfl
@[go_sem] theorem k15_n (b : Nat) (x1 x3 x4 : PV) (S : Store) : k15 b .normal (ee2 x1 x3 x4) S =
  L0 b (List.length S) x1 x3 x4 S := nr (seqN ((blockE (by kernel_rfl)).trans (L0_in b x1 x3 x4 S)))
@[go_sem] theorem g38 (b : Nat) (K : KT) (x1 x3 : PV) (S : Store) : execL (C b) 0 c13 K (ee1 x1 x3) S =
  withV (some (.int .i64 0)) fun x4 =>
    K .normal (ee2 x1 x3 x4) S := nr (by kernel_rfl)
@[go_sem] theorem k12_n (b : Nat) (x1 x3 : PV) (S : Store) : k12 b .normal (ee1 x1 x3) S =
  execL (C b) 0 c13 (k15 b) (ee1 x1 x3) S := nr (seqN ((enterS (by kernel_rfl)).trans (enterS (by kernel_rfl))))
def k39 (b : Nat) : KT := seqC (fun e S => execL (C b) 0 c2 (k0 b) e S) (k0 b)
@[go_sem] theorem g40 (b : Nat) (K : KT) (x1 : PV) (S : Store) : execL (C b) 0 c3 K (ee0 x1) S =
  withV (some (.int .i64 1)) fun x3 =>
    K .normal (ee1 x1 x3) S := nr (by kernel_rfl)
@[go_sem] theorem k39_n (b : Nat) (e : Env) (S : Store) : k39 b .normal e S = execL (C b) 0 c3 (k12 b) e S := nr (seqN (enterS (by kernel_rfl)))
@[go_sem] theorem g41 (b : Nat) (K : KT) (x0 : PV) (S : Store) : execL (C b) 0 c1 K [(0, x0)] S =
  withN (boxed S (List.length S) (TI.size (tyi Try.prog 54)) x0) S fun x1 S =>
    withV (some (.int .i64 0)) fun x2 =>
    K .normal (ee0 x1) S := nr (by kernel_rfl)
def E (b : Nat) (x0 : PV) (S : Store) : RT := execL (C b) 0 code (k0 b) [(0, x0)] S
@[go_sem] theorem E_eq (b : Nat) (x0 : PV) (S : Store) : E b x0 S =
  execL (C b) 0 c1 (k39 b) [(0, x0)] S := nr (enterS (by kernel_rfl))
@[go_sem] theorem gc_ee2 (n : Nat) (x1 x3 x4 : PV) (S : Store) : gc n (ee2 x1 x3 x4) S = gc n [(1, x1), (3, x3), (4, x4)] S := nr (rfl)
@[go_sem] theorem gc_ee3 (n : Nat) (x1 x3 x4 x9 : PV) (S : Store) : gc n (ee3 x1 x3 x4 x9) S = gc n [(1, x1), (3, x3), (4, x4), (9, x9)] S := nr (rfl)
@[go_sem] theorem k0_ret4 (b : Nat) (x2 : PV) (S : Store) : k0 b .ret (ee4 x2) S = some (x2, S) := nr (by kernel_rfl)
theorem call {x0 : PV} {r : PV × Store} {v : PV} (h : E 0 x0 [] = some r) (hv : fzPV r.2 r.1 = some v) : callL Try.prog hints 35 [x0] = some v := callL_of (fn := Try.f35) (c := code) (by kernel_rfl) (by kernel_rfl) (by decide) (by kernel_rfl) (Nat.le_of_ble_eq_true (by kernel_rfl)) h hv
end F35
/-! ### tree.Size -/
namespace F43
noncomputable def hint : Hint := { keep := [], loops := [(0, { live := [3, 7, 8, 9], after := [3], own := [], fz := [] })], regs := [(0, [1]), (1, [1, 3]), (2, [3, 7, 8, 9]), (3, [3, 7, 8, 9, 10]), (4, [3, 5, 7, 8, 9]), (5, [3, 7, 8, 9]), (6, [3, 7, 8, 9]), (7, [2])] }
noncomputable def C (b : Nat) : Ctx := ctxL Try.prog hints b hint
noncomputable def code : Code := Try.f43.body.get rfl
noncomputable def k0 (b : Nat) : KT := endC Try.prog Try.f43
def ee0 (x1 : PV) : Env := [(1, x1)]
def ee1 (x1 x3 : PV) : Env := [(1, x1), (3, x3)]
def ee2 (x2 : PV) : Env := [(2, x2)]
def ee3 (x3 x5 x7 x8 x9 : PV) : Env := [(3, x3), (5, x5), (7, x7), (8, x8), (9, x9)]
def ee4 (x3 x7 x8 x9 : PV) : Env := [(3, x3), (7, x7), (8, x8), (9, x9)]
def ee5 (x3 x7 x8 x9 x10 : PV) : Env := [(3, x3), (7, x7), (8, x8), (9, x9), (10, x10)]
def c1 : Code := at0 code
def c2 : Code := at1 code
def c3 : Code := at0 c2
def c4 : Code := at1 c2
def c5 : Code := at0 c4
def c6 : Code := at1 c4
def c7 : Code := at0 c6
def c8 : Code := at1 c6
def k9 (b : Nat) : KT := seqC (fun e S => execL (C b) 0 c8 (k0 b) e S) (k0 b)
@[go_sem] theorem k9_n (b : Nat) (x2 : PV) (S : Store) : k9 b .normal (ee2 x2) S =
  (k0 b) .ret (ee2 x2) S := nr (seqN (execL_ret (by kernel_rfl)))
def k10 (b : Nat) : KT := seqC (fun e S => execL (C b) 0 c6 (k0 b) e S) (k0 b)
@[go_sem] theorem g11 (b : Nat) (K : KT) (x3 x7 x8 x9 x10 : PV) (S : Store) : execL (C b) 0 c7 K (ee5 x3 x7 x8 x9 x10) S =
  withV (some x3) fun x18 =>
    withV (some x18) fun x2 =>
    K .normal (ee2 x2) S := nr (by kernel_rfl)
@[go_sem] theorem k10_n (b : Nat) (e : Env) (S : Store) : k10 b .normal e S = execL (C b) 0 c7 (k9 b) e S := nr (seqN (enterS (by kernel_rfl)))
def k12 (b : Nat) : KT := seqC (fun e S => execL (C b) 0 c4 (k0 b) e S) (k0 b)
def c13 : Code := at0 c5
def c14 : Code := at1 c5
def k15 (b : Nat) : KT := seqC (fun e S => execL (C b) 0 c14 (k10 b) e S) (k10 b)
def c16 : Code := atB c14
def k17 (b : Nat) : KT := blockC 0 (k10 b)
@[go_sem] theorem k17_exit (b : Nat) (i : Nat) (e : Env) (S : Store) : k17 b (.exit i) e S = if i = 0 then (k10 b) .normal e S else (k10 b) (.exit i) e S := nr (blockC_x _ _ _ _ _)
def c18 : Code := atL c16
def k19 (b n0 : Nat) : KT := afterC 0 n0 [3] (k17 b)
def L0g (b n0 : Nat) (e : Env) (S : Store) : RT := loopL (fun K e S => execL (C b) 0 c18 K e S) (normG [3, 7, 8, 9] [] n0) (k19 b n0) e S
def L0 (b n0 : Nat) (x3 x7 x8 x9 : PV) (S : Store) : RT := L0g b n0 (ee4 x3 x7 x8 x9) S
def k20 (b n0 : Nat) : KT := stepC (normG [3, 7, 8, 9] [] n0) (k19 b n0) (L0g b n0)
@[go_sem] theorem k20_n (b n0 : Nat) (x3 x7 x8 x9 : PV) (S : Store) : k20 b n0 .normal (ee4 x3 x7 x8 x9) S = L0 b n0 x3 x7 x8 x9 (gc n0 (ee4 x3 x7 x8 x9) S) := nr (by kernel_rfl)
@[go_sem] theorem k20_x1 (b n0 : Nat) (x3 x7 x8 x9 x10 : PV) (S : Store) : k20 b n0 (.exit 0) (ee5 x3 x7 x8 x9 x10) S = (k17 b) (.exit 0) (ee5 x3 .undef .undef .undef .undef) (gc n0 (ee5 x3 .undef .undef .undef .undef) S) := nr ((show k20 b n0 (.exit 0) (ee5 x3 x7 x8 x9 x10) S = (k19 b n0) (.exit 0) (ee5 x3 x7 x8 x9 x10) S from stepC_x _ _ _ _ _ _).trans ((show (k19 b n0) (.exit 0) (ee5 x3 x7 x8 x9 x10) S = _ from afterC_x _ _ _ _ _ _ _).trans (if_pos rfl)))
def c21 : Code := at0 c18
def c22 : Code := at1 c18
def c24 : Code := at1 c22
def c25 : Code := at0 c24
def c26 : Code := at1 c24
def k27 (b n0 : Nat) : KT := seqC (fun e S => execL (C b) 0 c26 (k20 b n0) e S) (k20 b n0)
@[go_sem] theorem g28 (b : Nat) (K : KT) (x3 x7 x8 x9 : PV) (S : Store) : execL (C b) 0 c26 K (ee4 x3 x7 x8 x9) S =
  withV (evBin .add (tyi Try.prog 3) x9 (.int .i64 1)) fun x17 =>
    withV (some x17) fun x9 =>
    K .normal (ee4 x3 x7 x8 x9) S := nr (by kernel_rfl)
@[go_sem] theorem k27_n (b n0 : Nat) (e : Env) (S : Store) : k27 b n0 .normal e S = execL (C b) 0 c26 (k20 b n0) e S := nr (seqN rfl)
def k29 (b n0 : Nat) : KT := seqC (fun e S => execL (C b) 0 c24 (k20 b n0) e S) (k20 b n0)
def c30 : Code := atB c25
def k31 (b n0 : Nat) : KT := blockC 1 (k27 b n0)
@[go_sem] theorem k31_n (b n0 : Nat) (e : Env) (S : Store) : k31 b n0 .normal e S = (k27 b n0) .normal e S := nr (blockC_n _ _ _ _)
def c32 : Code := at0 c30
def c33 : Code := at1 c30
def k34 (b n0 : Nat) : KT := seqC (fun e S => execL (C b) 1 c33 (k31 b n0) e S) (k31 b n0)
@[go_sem] theorem g35 (b : Nat) (K : KT) (x3 x5 x7 x8 x9 : PV) (S : Store) : execL (C b) 1 c33 K (ee3 x3 x5 x7 x8 x9) S =
  withV (some x3) fun x13 =>
    withV (evLoad (tyi Try.prog 54) S x5) fun x14 =>
    withN (callO (callL Try.prog hints) S 43 [x14]) S fun x15 S =>
    withV (evBin .add (tyi Try.prog 3) x13 x15) fun x16 =>
    withV (some x16) fun x3 =>
    K .normal (ee4 x3 x7 x8 x9) S := nr (by kernel_rfl)
@[go_sem] theorem k34_n (b n0 : Nat) (e : Env) (S : Store) : k34 b n0 .normal e S = execL (C b) 1 c33 (k31 b n0) e S := nr (seqN rfl)
@[go_sem] theorem g36 (b : Nat) (K : KT) (x3 x7 x8 x9 x10 : PV) (S : Store) : execL (C b) 1 c32 K (ee5 x3 x7 x8 x9 x10) S =
  withV (indexAddrO Try.prog 52 S x7 x9) fun x11 =>
    withV (evLoad (tyi Try.prog 54) S x11) fun x12 =>
    withN (allocO (tyi Try.prog 54) (List.length S)) S fun x5 S =>
    withS (storeE (tyi Try.prog 54) S x5 x12) fun _u S =>
    K .normal (ee3 x3 x5 x7 x8 x9) S := nr (by kernel_rfl)
@[go_sem] theorem k29_n (b n0 : Nat) (x3 x7 x8 x9 x10 : PV) (S : Store) : k29 b n0 .normal (ee5 x3 x7 x8 x9 x10) S =
  execL (C b) 1 c32 (k34 b n0) (ee5 x3 x7 x8 x9 x10) S := nr (seqN ((enterS (by kernel_rfl)).trans ((blockE (by kernel_rfl)).trans (enterS (by kernel_rfl)))))
@[go_sem] theorem k29_exit (b n0 : Nat) (i : Nat) (e : Env) (S : Store) : k29 b n0 (.exit i) e S = (k20 b n0) (.exit i) e S := nr (seqC_x _ _ _ _ _)
def k37 (b n0 : Nat) : KT := seqC (fun e S => execL (C b) 0 c22 (k20 b n0) e S) (k20 b n0)
@[go_sem] theorem k37_n (b n0 : Nat) (x3 x7 x8 x9 x10 : PV) (S : Store) : k37 b n0 .normal (ee5 x3 x7 x8 x9 x10) S =
  condC x10 ((k29 b n0) .normal (ee5 x3 x7 x8 x9 x10) S)
    ((k29 b n0) (.exit 0) (ee5 x3 x7 x8 x9 x10) S) := nr (seqN ((enterS (by kernel_rfl)).trans (condE (t := 10) (by kernel_rfl) (execL_skip (by kernel_rfl)) (execL_exit (by kernel_rfl)) rfl)))
@[go_sem] theorem g40 (b : Nat) (K : KT) (x3 x7 x8 x9 : PV) (S : Store) : execL (C b) 0 c21 K (ee4 x3 x7 x8 x9) S =
  withV (evBin .lss (tyi Try.prog 3) x9 x8) fun x10 =>
    K .normal (ee5 x3 x7 x8 x9 x10) S := nr (by kernel_rfl)
def B0 (b n0 : Nat) (x3 x7 x8 x9 : PV) (S : Store) : RT := execL (C b) 0 c18 (k20 b n0) (ee4 x3 x7 x8 x9) S
@[go_sem] theorem B0_eq (b n0 : Nat) (x3 x7 x8 x9 : PV) (S : Store) : B0 b n0 x3 x7 x8 x9 S =
  execL (C b) 0 c21 (k37 b n0) (ee4 x3 x7 x8 x9) S := nr (enterS (by kernel_rfl))
theorem L0_step {b n0 : Nat} {x3 x7 x8 x9 : PV} {S : Store} {z : PV × Store} (h : B0 b n0 x3 x7 x8 x9 S = some z) : L0 b n0 x3 x7 x8 x9 S = some z := loopL_step h
theorem L0_in (b : Nat) (x3 x7 x8 x9 : PV) (S : Store) : execL (C b) 0 c16 (k17 b) (ee4 x3 x7 x8 x9) S = L0 b (List.length S) x3 x7 x8 x9 S := by kernel_rfl
@[go_sem] theorem k15_n (b : Nat) (x3 x7 x8 x9 : PV) (S : Store) : k15 b .normal (ee4 x3 x7 x8 x9) S =
  L0 b (List.length S) x3 x7 x8 x9 S := nr (seqN ((blockE (by kernel_rfl)).trans (L0_in b x3 x7 x8 x9 S)))
@[go_sem] theorem g42 (b : Nat) (K : KT) (x1 x3 : PV) (S : Store) : execL (C b) 0 c13 K (ee1 x1 x3) S =
  withV (evFieldAddr (tyi Try.prog 54) 3 x1) fun x6 =>
    withV (evLoad (tyi Try.prog 52) S x6) fun x7 =>
    withV (lenO (tyi Try.prog 52) x7) fun x8 =>
    withV (some (.int .i64 0)) fun x9 =>
    K .normal (ee4 x3 x7 x8 x9) S := nr (by kernel_rfl)
@[go_sem] theorem k12_n (b : Nat) (x1 x3 : PV) (S : Store) : k12 b .normal (ee1 x1 x3) S =
  execL (C b) 0 c13 (k15 b) (ee1 x1 x3) S := nr (seqN ((enterS (by kernel_rfl)).trans (enterS (by kernel_rfl))))
def k43 (b : Nat) : KT := seqC (fun e S => execL (C b) 0 c2 (k0 b) e S) (k0 b)
@[go_sem] theorem g44 (b : Nat) (K : KT) (x1 : PV) (S : Store) : execL (C b) 0 c3 K (ee0 x1) S =
  withV (some (.int .i64 1)) fun x3 =>
    K .normal (ee1 x1 x3) S := nr (by kernel_rfl)
@[go_sem] theorem k43_n (b : Nat) (e : Env) (S : Store) : k43 b .normal e S = execL (C b) 0 c3 (k12 b) e S := nr (seqN (enterS (by kernel_rfl)))
@[go_sem] theorem g45 (b : Nat) (K : KT) (x0 : PV) (S : Store) : execL (C b) 0 c1 K [(0, x0)] S =
  withN (boxed S (List.length S) (TI.size (tyi Try.prog 54)) x0) S fun x1 S =>
    withV (some (.int .i64 0)) fun x2 =>
    K .normal (ee0 x1) S := nr (by kernel_rfl)
def E (b : Nat) (x0 : PV) (S : Store) : RT := execL (C b) 0 code (k0 b) [(0, x0)] S
@[go_sem] theorem E_eq (b : Nat) (x0 : PV) (S : Store) : E b x0 S =
  execL (C b) 0 c1 (k43 b) [(0, x0)] S := nr (enterS (by kernel_rfl))
@[go_sem] theorem k0_ret2 (b : Nat) (x2 : PV) (S : Store) : k0 b .ret (ee2 x2) S = some (x2, S) := nr (by kernel_rfl)
@[go_sem] theorem gc_ee4 (n : Nat) (x3 x7 x8 x9 : PV) (S : Store) : gc n (ee4 x3 x7 x8 x9) S = gc n [(3, x3), (7, x7), (8, x8), (9, x9)] S := nr (rfl)
@[go_sem] theorem gc_ee5 (n : Nat) (x3 x7 x8 x9 x10 : PV) (S : Store) : gc n (ee5 x3 x7 x8 x9 x10) S = gc n [(3, x3), (7, x7), (8, x8), (9, x9), (10, x10)] S := nr (rfl)
theorem call {x0 : PV} {r : PV × Store} {v : PV} (h : E 0 x0 [] = some r) (hv : fzPV r.2 r.1 = some v) : callL Try.prog hints 43 [x0] = some v := callL_of (fn := Try.f43) (c := code) (by kernel_rfl) (by kernel_rfl) (by decide) (by kernel_rfl) (Nat.le_of_ble_eq_true (by kernel_rfl)) h hv
end F43
/-! ### tree.Levels -/
namespace F44
end F44
/-! ### isochroneref08.Levels -/
namespace F45
end F45
end
end Go.Vs
end
