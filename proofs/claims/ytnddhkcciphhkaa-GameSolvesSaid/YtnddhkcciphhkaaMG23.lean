/- Printed by a program of mine (stage1.py): the functions 3, piece by piece. -/

import Derived.Test.YtnddhkcciphhkaaMG9
import Derived.Test.YtnddhkcciphhkaaMG22
section
set_option linter.unusedVariables false
set_option linter.unusedSimpArgs false
namespace Go.Vs
open Go Go.Proofs
noncomputable section

/-! ### isochronelaw23.GameSolves -/
namespace F3
section
variable (b : Nat) (K : KT) (x0 x1 x2 x4 x5 x6 x7 x8 x9 x10 x12 x15 x41 x62 x81 : PV) (e : Env) (S : Store)
noncomputable def hint : Hint := { keep := [], loops := [], regs := [(0, [1, 2]), (1, [1, 2, 12]), (2, [4]), (3, [1, 2, 15]), (4, [4]), (5, [1, 2, 5, 6]), (6, [1, 2, 5, 6, 7, 8]), (7, [1, 2, 41]), (8, [4]), (9, [1, 2, 6, 9]), (10, [1, 2, 6, 8, 9, 10]), (11, [1, 2, 62]), (12, [4]), (13, [1, 2, 6, 9]), (14, [1, 2, 6, 8, 9, 10]), (15, [1, 2, 81]), (16, [4]), (17, [1, 2, 5, 6]), (18, [5, 6, 7, 8]), (19, [4])] }
noncomputable def C (b : Nat) : Ctx := ctxL Try.prog hints b hint
noncomputable def code : Code := Try.f3.body.get rfl
noncomputable def k0 (b : Nat) : KT := endC Try.prog Try.f3
def ee0 (x1 x2 : PV) : Env := [(1, x1), (2, x2)]
def ee1 (x1 x2 x5 x6 : PV) : Env := [(1, x1), (2, x2), (5, x5), (6, x6)]
def ee2 (x1 x2 x5 x6 x7 x8 : PV) : Env := [(1, x1), (2, x2), (5, x5), (6, x6), (7, x7), (8, x8)]
def ee3 (x1 x2 x6 x8 x9 x10 : PV) : Env := [(1, x1), (2, x2), (6, x6), (8, x8), (9, x9), (10, x10)]
def ee4 (x1 x2 x6 x9 : PV) : Env := [(1, x1), (2, x2), (6, x6), (9, x9)]
def ee5 (x1 x2 x12 : PV) : Env := [(1, x1), (2, x2), (12, x12)]
def ee6 (x1 x2 x15 : PV) : Env := [(1, x1), (2, x2), (15, x15)]
def ee7 (x1 x2 x41 : PV) : Env := [(1, x1), (2, x2), (41, x41)]
def ee8 (x1 x2 x62 : PV) : Env := [(1, x1), (2, x2), (62, x62)]
def ee9 (x1 x2 x81 : PV) : Env := [(1, x1), (2, x2), (81, x81)]
def ee10 (x4 : PV) : Env := [(4, x4)]
def ee11 (x5 x6 x7 x8 : PV) : Env := [(5, x5), (6, x6), (7, x7), (8, x8)]
def c1 : Code := at0 code
def c2 : Code := at1 code
def c3 : Code := at0 c2
def c4 : Code := at1 c2
def c5 : Code := at0 c4
def c6 : Code := at1 c4
def c7 : Code := at0 c6
def c8 : Code := at1 c6
def c9 : Code := at0 c8
def c10 : Code := at1 c8
def c11 : Code := at0 c10
def c12 : Code := at1 c10
def c13 : Code := at0 c12
def c14 : Code := at1 c12
def c15 : Code := at0 c14
def c16 : Code := at1 c14
def c17 : Code := at0 c16
def c18 : Code := at1 c16
def c19 : Code := at0 c18
def c20 : Code := at1 c18
def c21 : Code := at0 c20
def c22 : Code := at1 c20
def c23 : Code := at0 c22
def c24 : Code := at1 c22
def c25 : Code := at0 c24
def c26 : Code := at1 c24
def c27 : Code := at0 c26
def c28 : Code := at1 c26
def c29 : Code := at0 c28
def c30 : Code := at1 c28
def k31 (b : Nat) : KT := seqC (fun e S => execL (C b) 0 c30 (k0 b) e S) (k0 b)
@[go_sem] theorem k31_n : k31 b .normal (ee10 x4) S =
  (k0 b) .ret (ee10 x4) S := nr (seqN (execL_ret (by kernel_rfl)))
def k32 (b : Nat) : KT := seqC (fun e S => execL (C b) 0 c28 (k0 b) e S) (k0 b)
@[go_sem] theorem g33 : execL (C b) 0 c29 K (ee11 x5 x6 x7 x8) S =
  withV (some x6) fun x94 =>
    withV (some x8) fun x95 =>
    withV (evBin .eql (tyi Try.prog 29) x94 x95) fun x96 =>
    withV (some x96) fun x97 =>
    withV (gval x97 true (some x5)) fun x98 =>
    withV (gval x97 true (some x7)) fun x99 =>
    withN (gout x97 true (callO (callL Try.prog hints) S 19 [x98, x99])) S fun x100 S =>
    withV (pickO x97 x100 (.bool false)) fun x101 =>
    withV (some x101) fun x4 =>
    K .normal (ee10 x4) S := nr (by kernel_rfl)
@[go_sem] theorem k32_n : k32 b .normal e S = execL (C b) 0 c29 (k31 b) e S := nr (seqN (enterS (by kernel_rfl)))
def k34 (b : Nat) : KT := seqC (fun e S => execL (C b) 0 c26 (k0 b) e S) (k0 b)
@[go_sem] theorem g35 : execL (C b) 0 c27 K (ee1 x1 x2 x5 x6) S =
  withV (evLoad (tyi Try.prog 26) S x2) fun x89 =>
    withV (some x1) fun x90 =>
    withN (callO (callL Try.prog hints) S 25 [x89, x90]) S fun x91 S =>
    withV (some x91) fun x88 =>
    withV (extractO x88 0) fun x92 =>
    withV (extractO x88 1) fun x93 =>
    withV (some x92) fun x7 =>
    withV (some x93) fun x8 =>
    K .normal (ee11 x5 x6 x7 x8) S := nr (by kernel_rfl)
@[go_sem] theorem k34_n : k34 b .normal e S = execL (C b) 0 c27 (k32 b) e S := nr (seqN (enterS (by kernel_rfl)))
def k36 (b : Nat) : KT := seqC (fun e S => execL (C b) 0 c24 (k0 b) e S) (k0 b)
@[go_sem] theorem g37 : execL (C b) 0 c25 K (ee9 x1 x2 x81) S =
  withV (evLoad (tyi Try.prog 26) S x2) fun x83 =>
    withV (some x1) fun x84 =>
    withN (callO (callL Try.prog hints) S 24 [x83, x84]) S fun x85 S =>
    withV (some x85) fun x82 =>
    withV (extractO x82 0) fun x86 =>
    withV (extractO x82 1) fun x87 =>
    withV (some x86) fun x5 =>
    withV (some x87) fun x6 =>
    K .normal (ee1 x1 x2 x5 x6) S := nr (by kernel_rfl)
@[go_sem] theorem k36_n : k36 b .normal e S = execL (C b) 0 c25 (k34 b) e S := nr (seqN (enterS (by kernel_rfl)))
@[go_sem] theorem k36_ret : k36 b .ret e S = (k0 b) .ret e S := nr (seqC_r _ _ _ _)
def k38 (b : Nat) : KT := seqC (fun e S => execL (C b) 0 c22 (k0 b) e S) (k0 b)
def c39 : Code := at0 c23
def c40 : Code := at1 c23
def k41 (b : Nat) : KT := seqC (fun e S => execL (C b) 0 c40 (k36 b) e S) (k36 b)
def c42 : Code := atT c40
def c45 : Code := at0 c42
def c46 : Code := at1 c42
def k47 (b : Nat) : KT := seqC (fun e S => execL (C b) 0 c46 (k36 b) e S) (k36 b)
@[go_sem] theorem k47_n : k47 b .normal (ee10 x4) S =
  (k36 b) .ret (ee10 x4) S := nr (seqN (execL_ret (by kernel_rfl)))
@[go_sem] theorem g48 : execL (C b) 0 c45 K (ee9 x1 x2 x81) S =
  withV (some (.bool false)) fun x4 =>
    K .normal (ee10 x4) S := nr (by kernel_rfl)
@[go_sem] theorem k41_n : k41 b .normal (ee9 x1 x2 x81) S =
  condC x81 (execL (C b) 0 c45 (k47 b) (ee9 x1 x2 x81) S)
    ((k36 b) .normal (ee9 x1 x2 x81) S) := nr (seqN (condE (t := 81) (by kernel_rfl) (enterS (by kernel_rfl)) (execL_skip (by kernel_rfl)) rfl))
@[go_sem] theorem g49 : execL (C b) 0 c39 K (ee3 x1 x2 x6 x8 x9 x10) S =
  withV (some x6) fun x73 =>
    withV (some x8) fun x74 =>
    withV (evBin .neq (tyi Try.prog 29) x73 x74) fun x75 =>
    withV (some x75) fun x76 =>
    withV (gval x76 false (some x9)) fun x77 =>
    withV (gval x76 false (some x10)) fun x78 =>
    withN (gout x76 false (callO (callL Try.prog hints) S 22 [x77, x78])) S fun x79 S =>
    withV (gval x76 false (evUn .not x79)) fun x80 =>
    withV (pickO x76 (.bool true) x80) fun x81 =>
    K .normal (ee9 x1 x2 x81) S := nr (by kernel_rfl)
@[go_sem] theorem k38_n : k38 b .normal (ee3 x1 x2 x6 x8 x9 x10) S =
  execL (C b) 0 c39 (k41 b) (ee3 x1 x2 x6 x8 x9 x10) S := nr (seqN ((enterS (by kernel_rfl)).trans (enterS (by kernel_rfl))))
def k50 (b : Nat) : KT := seqC (fun e S => execL (C b) 0 c20 (k0 b) e S) (k0 b)
@[go_sem] theorem g51 : execL (C b) 0 c21 K (ee4 x1 x2 x6 x9) S =
  withV (evLoad (tyi Try.prog 26) S x2) fun x69 =>
    withN (callO (callL Try.prog hints) S 21 [x69, (.int .i64 1)]) S fun x70 S =>
    withV (some x70) fun x68 =>
    withV (extractO x68 0) fun x71 =>
    withV (extractO x68 1) fun x72 =>
    withV (some x71) fun x10 =>
    withV (some x72) fun x8 =>
    K .normal (ee3 x1 x2 x6 x8 x9 x10) S := nr (by kernel_rfl)
@[go_sem] theorem k50_n : k50 b .normal e S = execL (C b) 0 c21 (k38 b) e S := nr (seqN (enterS (by kernel_rfl)))
def k52 (b : Nat) : KT := seqC (fun e S => execL (C b) 0 c18 (k0 b) e S) (k0 b)
@[go_sem] theorem g53 : execL (C b) 0 c19 K (ee8 x1 x2 x62) S =
  withV (evLoad (tyi Try.prog 26) S x2) fun x64 =>
    withN (callO (callL Try.prog hints) S 23 [x64]) S fun x65 S =>
    withV (some x65) fun x63 =>
    withV (extractO x63 0) fun x66 =>
    withV (extractO x63 1) fun x67 =>
    withV (some x66) fun x9 =>
    withV (some x67) fun x6 =>
    K .normal (ee4 x1 x2 x6 x9) S := nr (by kernel_rfl)
@[go_sem] theorem k52_n : k52 b .normal e S = execL (C b) 0 c19 (k50 b) e S := nr (seqN (enterS (by kernel_rfl)))
@[go_sem] theorem k52_ret : k52 b .ret e S = (k0 b) .ret e S := nr (seqC_r _ _ _ _)
def k54 (b : Nat) : KT := seqC (fun e S => execL (C b) 0 c16 (k0 b) e S) (k0 b)
def c55 : Code := at0 c17
def c56 : Code := at1 c17
def k57 (b : Nat) : KT := seqC (fun e S => execL (C b) 0 c56 (k52 b) e S) (k52 b)
def c58 : Code := atT c56
def c61 : Code := at0 c58
def c62 : Code := at1 c58
def k63 (b : Nat) : KT := seqC (fun e S => execL (C b) 0 c62 (k52 b) e S) (k52 b)
@[go_sem] theorem k63_n : k63 b .normal (ee10 x4) S =
  (k52 b) .ret (ee10 x4) S := nr (seqN (execL_ret (by kernel_rfl)))
@[go_sem] theorem g64 : execL (C b) 0 c61 K (ee8 x1 x2 x62) S =
  withV (some (.bool false)) fun x4 =>
    K .normal (ee10 x4) S := nr (by kernel_rfl)
@[go_sem] theorem k57_n : k57 b .normal (ee8 x1 x2 x62) S =
  condC x62 (execL (C b) 0 c61 (k63 b) (ee8 x1 x2 x62) S)
    ((k52 b) .normal (ee8 x1 x2 x62) S) := nr (seqN (condE (t := 62) (by kernel_rfl) (enterS (by kernel_rfl)) (execL_skip (by kernel_rfl)) rfl))
@[go_sem] theorem g65 : execL (C b) 0 c55 K (ee3 x1 x2 x6 x8 x9 x10) S =
  withV (some x6) fun x54 =>
    withV (some x8) fun x55 =>
    withV (evBin .neq (tyi Try.prog 29) x54 x55) fun x56 =>
    withV (some x56) fun x57 =>
    withV (gval x57 false (some x9)) fun x58 =>
    withV (gval x57 false (some x10)) fun x59 =>
    withN (gout x57 false (callO (callL Try.prog hints) S 22 [x58, x59])) S fun x60 S =>
    withV (gval x57 false (evUn .not x60)) fun x61 =>
    withV (pickO x57 (.bool true) x61) fun x62 =>
    K .normal (ee8 x1 x2 x62) S := nr (by kernel_rfl)
@[go_sem] theorem k54_n : k54 b .normal (ee3 x1 x2 x6 x8 x9 x10) S =
  execL (C b) 0 c55 (k57 b) (ee3 x1 x2 x6 x8 x9 x10) S := nr (seqN ((enterS (by kernel_rfl)).trans (enterS (by kernel_rfl))))
def k66 (b : Nat) : KT := seqC (fun e S => execL (C b) 0 c14 (k0 b) e S) (k0 b)
@[go_sem] theorem g67 : execL (C b) 0 c15 K (ee4 x1 x2 x6 x9) S =
  withV (evLoad (tyi Try.prog 26) S x2) fun x49 =>
    withV (some x1) fun x50 =>
    withN (callO (callL Try.prog hints) S 21 [x49, x50]) S fun x51 S =>
    withV (some x51) fun x48 =>
    withV (extractO x48 0) fun x52 =>
    withV (extractO x48 1) fun x53 =>
    withV (some x52) fun x10 =>
    withV (some x53) fun x8 =>
    K .normal (ee3 x1 x2 x6 x8 x9 x10) S := nr (by kernel_rfl)
@[go_sem] theorem k66_n : k66 b .normal e S = execL (C b) 0 c15 (k54 b) e S := nr (seqN (enterS (by kernel_rfl)))
def k68 (b : Nat) : KT := seqC (fun e S => execL (C b) 0 c12 (k0 b) e S) (k0 b)
@[go_sem] theorem g69 : execL (C b) 0 c13 K (ee7 x1 x2 x41) S =
  withV (evLoad (tyi Try.prog 26) S x2) fun x43 =>
    withV (some x1) fun x44 =>
    withN (callO (callL Try.prog hints) S 20 [x43, x44]) S fun x45 S =>
    withV (some x45) fun x42 =>
    withV (extractO x42 0) fun x46 =>
    withV (extractO x42 1) fun x47 =>
    withV (some x46) fun x9 =>
    withV (some x47) fun x6 =>
    K .normal (ee4 x1 x2 x6 x9) S := nr (by kernel_rfl)
@[go_sem] theorem k68_n : k68 b .normal e S = execL (C b) 0 c13 (k66 b) e S := nr (seqN (enterS (by kernel_rfl)))
@[go_sem] theorem k68_ret : k68 b .ret e S = (k0 b) .ret e S := nr (seqC_r _ _ _ _)
def k70 (b : Nat) : KT := seqC (fun e S => execL (C b) 0 c10 (k0 b) e S) (k0 b)
def c71 : Code := at0 c11
def c72 : Code := at1 c11
def k73 (b : Nat) : KT := seqC (fun e S => execL (C b) 0 c72 (k68 b) e S) (k68 b)
def c74 : Code := atT c72
def c77 : Code := at0 c74
def c78 : Code := at1 c74
def k79 (b : Nat) : KT := seqC (fun e S => execL (C b) 0 c78 (k68 b) e S) (k68 b)
@[go_sem] theorem k79_n : k79 b .normal (ee10 x4) S =
  (k68 b) .ret (ee10 x4) S := nr (seqN (execL_ret (by kernel_rfl)))
@[go_sem] theorem g80 : execL (C b) 0 c77 K (ee7 x1 x2 x41) S =
  withV (some (.bool false)) fun x4 =>
    K .normal (ee10 x4) S := nr (by kernel_rfl)
@[go_sem] theorem k73_n : k73 b .normal (ee7 x1 x2 x41) S =
  condC x41 (execL (C b) 0 c77 (k79 b) (ee7 x1 x2 x41) S)
    ((k68 b) .normal (ee7 x1 x2 x41) S) := nr (seqN (condE (t := 41) (by kernel_rfl) (enterS (by kernel_rfl)) (execL_skip (by kernel_rfl)) rfl))
@[go_sem] theorem g81 : execL (C b) 0 c71 K (ee2 x1 x2 x5 x6 x7 x8) S =
  withV (evLoad (tyi Try.prog 26) S x2) fun x26 =>
    withN (callO (callL Try.prog hints) S 17 [x26]) S fun x27 S =>
    withV (evLoad (tyi Try.prog 26) S x2) fun x28 =>
    withN (callO (callL Try.prog hints) S 18 [x28]) S fun x29 S =>
    withV (evBin .neq (tyi Try.prog 29) x27 x29) fun x30 =>
    withV (some x30) fun x31 =>
    withV (gval x31 false (some x6)) fun x32 =>
    withV (gval x31 false (some x8)) fun x33 =>
    withV (gval x31 false (evBin .neq (tyi Try.prog 29) x32 x33)) fun x34 =>
    withV (pickO x31 (.bool true) x34) fun x35 =>
    withV (some x35) fun x36 =>
    withV (gval x36 false (some x5)) fun x37 =>
    withV (gval x36 false (some x7)) fun x38 =>
    withN (gout x36 false (callO (callL Try.prog hints) S 19 [x37, x38])) S fun x39 S =>
    withV (gval x36 false (evUn .not x39)) fun x40 =>
    withV (pickO x36 (.bool true) x40) fun x41 =>
    K .normal (ee7 x1 x2 x41) S := nr (by kernel_rfl)
@[go_sem] theorem k70_n : k70 b .normal (ee2 x1 x2 x5 x6 x7 x8) S =
  execL (C b) 0 c71 (k73 b) (ee2 x1 x2 x5 x6 x7 x8) S := nr (seqN ((enterS (by kernel_rfl)).trans (enterS (by kernel_rfl))))
def k82 (b : Nat) : KT := seqC (fun e S => execL (C b) 0 c8 (k0 b) e S) (k0 b)
@[go_sem] theorem g83 : execL (C b) 0 c9 K (ee1 x1 x2 x5 x6) S =
  withV (evLoad (tyi Try.prog 26) S x2) fun x22 =>
    withN (callO (callL Try.prog hints) S 16 [x22]) S fun x23 S =>
    withV (some x23) fun x21 =>
    withV (extractO x21 0) fun x24 =>
    withV (extractO x21 1) fun x25 =>
    withV (some x24) fun x7 =>
    withV (some x25) fun x8 =>
    K .normal (ee2 x1 x2 x5 x6 x7 x8) S := nr (by kernel_rfl)
@[go_sem] theorem k82_n : k82 b .normal e S = execL (C b) 0 c9 (k70 b) e S := nr (seqN (enterS (by kernel_rfl)))
def k84 (b : Nat) : KT := seqC (fun e S => execL (C b) 0 c6 (k0 b) e S) (k0 b)
@[go_sem] theorem g85 : execL (C b) 0 c7 K (ee6 x1 x2 x15) S =
  withV (evLoad (tyi Try.prog 26) S x2) fun x17 =>
    withN (callO (callL Try.prog hints) S 15 [x17]) S fun x18 S =>
    withV (some x18) fun x16 =>
    withV (extractO x16 0) fun x19 =>
    withV (extractO x16 1) fun x20 =>
    withV (some x19) fun x5 =>
    withV (some x20) fun x6 =>
    K .normal (ee1 x1 x2 x5 x6) S := nr (by kernel_rfl)
@[go_sem] theorem k84_n : k84 b .normal e S = execL (C b) 0 c7 (k82 b) e S := nr (seqN (enterS (by kernel_rfl)))
@[go_sem] theorem k84_ret : k84 b .ret e S = (k0 b) .ret e S := nr (seqC_r _ _ _ _)
def k86 (b : Nat) : KT := seqC (fun e S => execL (C b) 0 c4 (k0 b) e S) (k0 b)
def c87 : Code := at0 c5
def c88 : Code := at1 c5
def k89 (b : Nat) : KT := seqC (fun e S => execL (C b) 0 c88 (k84 b) e S) (k84 b)
def c90 : Code := atT c88
def c93 : Code := at0 c90
def c94 : Code := at1 c90
def k95 (b : Nat) : KT := seqC (fun e S => execL (C b) 0 c94 (k84 b) e S) (k84 b)
@[go_sem] theorem k95_n : k95 b .normal (ee10 x4) S =
  (k84 b) .ret (ee10 x4) S := nr (seqN (execL_ret (by kernel_rfl)))
@[go_sem] theorem g96 : execL (C b) 0 c93 K (ee6 x1 x2 x15) S =
  withV (some (.bool true)) fun x4 =>
    K .normal (ee10 x4) S := nr (by kernel_rfl)
@[go_sem] theorem k89_n : k89 b .normal (ee6 x1 x2 x15) S =
  condC x15 (execL (C b) 0 c93 (k95 b) (ee6 x1 x2 x15) S)
    ((k84 b) .normal (ee6 x1 x2 x15) S) := nr (seqN (condE (t := 15) (by kernel_rfl) (enterS (by kernel_rfl)) (execL_skip (by kernel_rfl)) rfl))
@[go_sem] theorem g97 : execL (C b) 0 c87 K (ee5 x1 x2 x12) S =
  withV (evLoad (tyi Try.prog 26) S x2) fun x13 =>
    withN (callO (callL Try.prog hints) S 14 [x13]) S fun x14 S =>
    withV (evUn .not x14) fun x15 =>
    K .normal (ee6 x1 x2 x15) S := nr (by kernel_rfl)
@[go_sem] theorem k86_n : k86 b .normal (ee5 x1 x2 x12) S =
  execL (C b) 0 c87 (k89 b) (ee5 x1 x2 x12) S := nr (seqN ((enterS (by kernel_rfl)).trans (enterS (by kernel_rfl))))
def k98 (b : Nat) : KT := seqC (fun e S => execL (C b) 0 c2 (k0 b) e S) (k0 b)
def c99 : Code := at0 c3
def c100 : Code := at1 c3
def k101 (b : Nat) : KT := seqC (fun e S => execL (C b) 0 c100 (k86 b) e S) (k86 b)
def c102 : Code := atT c100
def c105 : Code := at0 c102
def c106 : Code := at1 c102
def k107 (b : Nat) : KT := seqC (fun e S => execL (C b) 0 c106 (k86 b) e S) (k86 b)
@[go_sem] theorem k101_n : k101 b .normal (ee5 x1 x2 x12) S =
  condC x12 (execL (C b) 0 c105 (k107 b) (ee5 x1 x2 x12) S)
    ((k86 b) .normal (ee5 x1 x2 x12) S) := nr (seqN (condE (t := 12) (by kernel_rfl) (enterS (by kernel_rfl)) (execL_skip (by kernel_rfl)) rfl))
@[go_sem] theorem g109 : execL (C b) 0 c99 K (ee0 x1 x2) S =
  withN (callO (callL Try.prog hints) S 13 []) S fun x11 S =>
    withV (evUn .not x11) fun x12 =>
    K .normal (ee5 x1 x2 x12) S := nr (by kernel_rfl)
@[go_sem] theorem k98_n : k98 b .normal (ee0 x1 x2) S =
  execL (C b) 0 c99 (k101 b) (ee0 x1 x2) S := nr (seqN ((enterS (by kernel_rfl)).trans (enterS (by kernel_rfl))))
@[go_sem] theorem g110 : execL (C b) 0 c1 K [(0, x0), (1, x1)] S =
  withN (boxed S (List.length S) (TI.size (tyi Try.prog 26)) x0) S fun x2 S =>
    withV (some (.bool false)) fun x4 =>
    K .normal (ee0 x1 x2) S := nr (by kernel_rfl)
def E (b : Nat) (x0 x1 : PV) (S : Store) : RT := execL (C b) 0 code (k0 b) [(0, x0), (1, x1)] S
@[go_sem] theorem E_eq : E b x0 x1 S =
  execL (C b) 0 c1 (k98 b) [(0, x0), (1, x1)] S := nr (enterS (by kernel_rfl))
@[go_sem] theorem k0_ret10 : k0 b .ret (ee10 x4) S = some (x4, S) := nr (by kernel_rfl)
theorem call {x0 x1 : PV} {r : PV × Store} {v : PV} (h : E 0 x0 x1 [] = some r) (hv : fzPV r.2 r.1 = some v) : callL Try.prog hints 3 [x0, x1] = some v := callL_of (fn := Try.f3) (c := code) (by kernel_rfl) (by kernel_rfl) (by decide) (by kernel_rfl) (Nat.le_of_ble_eq_true (by kernel_rfl)) h hv
end
end F3
end
end Go.Vs
end
/- GameSolves: the law returns true. -/
section
set_option linter.unusedVariables false
set_option linter.unusedSimpArgs false
namespace Go.Vs
open Go Go.Proofs
theorem winsErr_good {g : Game} {p : Int} (h : g.winsErr p = 0) : g.good := by
  unfold Game.winsErr at h
  split at h
  · rename_i h0; exact good_of h0
  · rename_i h0; exact absurd h h0
theorem pairWins {g : Game} {p : Int} {v v' : PV} (h : IsWins g p v) (h' : IsWins g p v') : ∃ w w' l, v = .tup [w, .int .i64 (g.winsErr p)] ∧ v' = .tup [w', .int .i64 (g.winsErr p)] ∧ IsBools w l ∧ IsBools w' l ∧ l.length ≤ 2000000 := by
  obtain ⟨w, rfl, a1, a2⟩ := h
  obtain ⟨w', rfl, b1, b2⟩ := h'
  by_cases e : g.winsErr p = 0
  · have hN := (winsErr_good e).n
    exact ⟨w, w', g.wins p, rfl, rfl, a1 e, b1 e, by simp only [Game.wins, List.length_map, ranks_len]; omega⟩
  · exact ⟨w, w', [], rfl, rfl, by rw [a2 e]; exact ⟨true, rfl, fun _ => rfl⟩, by rw [b2 e]; exact ⟨true, rfl, fun _ => rfl⟩, by simp⟩
theorem pairStrat {g : Game} {p : Int} {v v' : PV} (h : IsStrat g p v) (h' : IsStrat g p v') : ∃ w w' l, v = .tup [w, .int .i64 (g.winsErr p)] ∧ v' = .tup [w', .int .i64 (g.winsErr p)] ∧ IsInts w l ∧ IsInts w' l ∧ l.length ≤ maxLen := by
  obtain ⟨w, rfl, a1, a2⟩ := h
  obtain ⟨w', rfl, b1, b2⟩ := h'
  have hm4 : (4000 : Nat) ≤ maxLen := by decide
  by_cases e : g.winsErr p = 0
  · have hN := (winsErr_good e).n
    exact ⟨w, w', g.strat p, rfl, rfl, a1 e, b1 e, by simp only [Game.strat, List.length_map, List.length_range]; omega⟩
  · exact ⟨w, w', [], rfl, rfl, by rw [a2 e]; exact ⟨true, rfl, fun _ => rfl⟩, by rw [b2 e]; exact ⟨true, rfl, fun _ => rfl⟩, by simp⟩
theorem ranksPair (g : Game) : ∃ w l e, g.ranksRes = .tup [w, .int .i64 e] ∧ IsInts w l ∧ l.length ≤ maxLen := by
  have hm4 : (4000 : Nat) ≤ maxLen := by decide
  unfold Game.ranksRes
  by_cases h : g.check = 0
  · have hN := (good_of h).n
    exact ⟨_, g.ranks, 0, by rw [if_pos h], ⟨false, rfl, fun h => by cases h⟩, by rw [ranks_len]; omega⟩
  · exact ⟨_, [], g.check, by rw [if_neg h]; rfl, ⟨true, rfl, fun _ => rfl⟩, by simp⟩
theorem call3 (g : Game) (hg : g.ok) (p : Int) : callL Try.prog hints 3 [.agg g.cells, .int .i64 p] = some (.bool true) := by
  have k13 := fun S => callO_plain (S := S) call13 (by simp)
  obtain ⟨bl, k14⟩ := call14 g hg
  have k14 := fun S => callG S k14
  have k15 := fun S => callG S (call15 g hg)
  have k16 := fun S => callG S (call16 g hg)
  have k17 := fun S => callG S (call17 g hg)
  have k18 := fun S => callG S (call18 g hg)
  obtain ⟨rw0, rl, re, er, ri, rlen⟩ := ranksPair g
  rw [er] at k15 k16
  obtain ⟨v20, i20, k20⟩ := call20 g hg p
  obtain ⟨v21, i21, k21⟩ := call21 g hg p
  obtain ⟨v23, i23, k23⟩ := call23 g hg
  obtain ⟨v31, i31, k31⟩ := call21 g hg 1
  obtain ⟨v24, i24, k24⟩ := call24 g hg p
  obtain ⟨v25, i25, k25⟩ := call25 g hg p
  obtain ⟨a, a', al, rfl, rfl, ia, ia', alen⟩ := pairWins i20 i21
  obtain ⟨c, c', cl, rfl, rfl, ic, ic', clen⟩ := pairWins i23 i31
  obtain ⟨d, d', dl, rfl, rfl, id1, id2, dlen⟩ := pairStrat i24 i25
  have k20 := fun S => callGI S k20
  have k21 := fun S => callGI S k21
  have k23 := fun S => callG S k23
  have k31 := fun S => callGI S k31
  have k24 := fun S => callGI S k24
  have k25 := fun S => callGI S k25
  have two : ∀ {x y : PV}, Plain x → Plain y → ∀ z ∈ [x, y], Plain z := fun hx hy z hz => by
    rcases List.mem_cons.1 hz with rfl | hz
    · exact hx
    · rw [List.mem_singleton.1 hz]; exact hy
  have k19 := fun S => callO_plain (S := S) (call19 ri ri rlen) (two ri.plain ri.plain)
  have k19' := fun S => callO_plain (S := S) (call19 id1 id2 dlen) (two id1.plain id2.plain)
  have k22 := fun S => callO_plain (S := S) (call22 ia ia' alen) (two ia.plain ia'.plain)
  have k22' := fun S => callO_plain (S := S) (call22 ic ic' clen) (two ic.plain ic'.plain)
  refine F3.call (r := (.bool true, [.arr [g.cells] none false])) ?_ rfl
  have x0 : ∀ a b : PV, extractO (.tup [a, b]) 0 = some a := fun _ _ => rfl
  have x1 : ∀ a b : PV, extractO (.tup [a, b]) 1 = some b := fun _ _ => rfl
  cases bl with
  | false => simp only [go_sem, ↓reduceIte, Nat.reduceEqDiff, Nat.reduceBEq, Nat.reduceAdd, Nat.reduceMul, Nat.reduceSub, Nat.reduceLT, Nat.reduceLeDiff, reduceCtorEq, Int.reduceToNat, Int.reduceLE, Int.reduceLT, Int.reduceEq, withV_any, k13, k14, Bool.not_true, Bool.not_false]
  | true => simp only [go_sem, ↓reduceIte, Nat.reduceEqDiff, Nat.reduceBEq, Nat.reduceAdd, Nat.reduceMul, Nat.reduceSub, Nat.reduceLT, Nat.reduceLeDiff, reduceCtorEq, Int.reduceToNat, Int.reduceLE, Int.reduceLT, Int.reduceEq, withV_any, k13, k14, k15, k16, k17, k18, k19, k19', k20, k21, k22, k22', k23, k31, k24, k25, x0, x1, decide_true, Bool.not_true, Bool.not_false]
theorem law3 (pvs : List PV) (h : Args Try.prog [26, 3] pvs) : callL Try.prog hints 3 pvs = some (.bool true) := by
  have ⟨x, r, k, e1, h1, h2⟩ := h.cons_inv
  have ⟨y, r', l, e2, h3, h4⟩ := h2.cons_inv
  have e3 := h4.nil_inv
  obtain ⟨g, hg, e4⟩ := h1.game
  have ⟨n, _, e5⟩ := h3.int und3
  rw [e1, e2, e3, e4, e5]
  exact call3 g hg n
end Go.Vs
end
