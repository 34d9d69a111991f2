/- Printed by a program of mine (stage1.py): the functions 74, 77, 93, 73, 48, 50, piece by piece. -/

import Derived.Test.YtnddhkcciphhkaaMQ9
import Derived.Test.YtnddhkcciphhkaaMQ25
section
set_option linter.unusedVariables false
set_option linter.unusedSimpArgs false
namespace Go.Vs
open Go Go.Proofs
noncomputable section

/-! ### tree.Paths$1 -/
namespace F74
section
variable (b : Nat) (K : KT) (x0 x1 x2 x5 : PV) (e : Env) (S : Store)
noncomputable def hint : Hint := { keep := [], loops := [], regs := [(0, [0, 2]), (1, []), (2, [5])] }
noncomputable def C (b : Nat) : Ctx := ctxL Try.prog hints b hint
noncomputable def code : Code := Try.f74.body.get rfl
noncomputable def k0 (b : Nat) : KT := endC Try.prog Try.f74
def ee0 (x0 x2 : PV) : Env := [(0, x0), (2, x2)]
def ee1 (x5 : PV) : Env := [(5, x5)]
def c1 : Code := at0 code
def c2 : Code := at1 code
def c3 : Code := at0 c2
def c4 : Code := at1 c2
def c5 : Code := at0 c4
def c6 : Code := at1 c4
def k7 (b : Nat) : KT := seqC (fun e S => execL (C b) 0 c6 (k0 b) e S) (k0 b)
@[go_sem] theorem k7_n : k7 b .normal (ee1 x5) S =
  (k0 b) .ret (ee1 x5) S := nr (seqN (execL_ret (by kernel_rfl)))
def k8 (b : Nat) : KT := seqC (fun e S => execL (C b) 0 c4 (k0 b) e S) (k0 b)
@[go_sem] theorem g9 : execL (C b) 0 c5 K [] S =
  withV (some (.bool true)) fun x5 =>
    K .normal (ee1 x5) S := nr (by kernel_rfl)
@[go_sem] theorem k8_n : k8 b .normal e S = execL (C b) 0 c5 (k7 b) e S := nr (seqN (enterS (by kernel_rfl)))
def k10 (b : Nat) : KT := seqC (fun e S => execL (C b) 0 c2 (k0 b) e S) (k0 b)
@[go_sem] theorem g11 : execL (C b) 0 c3 K (ee0 x0 x2) S =
  withV (evLoad (tyi Try.prog 23) S x2) fun x6 =>
    withN (buildSliceO Try.prog 22 (List.length S) 0 [] []) S fun x7 S =>
    withV (some x0) fun x8 =>
    withE (appendE Try.prog b 22 22 S x7 x8) [(0, x0), (2, x2), (6, x6), (7, x7), (8, x8)] fun x9 e1 S =>
    withN (buildSliceO Try.prog 23 (List.length S) 1 [0] [PV.cells (Vs.get (put e1 9 x9) 9)]) S fun x10 S =>
    withE (appendE Try.prog b 23 23 S (Vs.get (put (put e1 9 x9) 10 x10) 6) (Vs.get (put (put e1 9 x9) 10 x10) 10)) (put (put e1 9 x9) 10 x10) fun x11 e2 S =>
    withS (storeE (tyi Try.prog 23) S (Vs.get (put e2 11 x11) 2) (Vs.get (put e2 11 x11) 11)) fun _u S =>
    K .normal [] S := nr (by kernel_rfl)
@[go_sem] theorem k10_n : k10 b .normal e S = execL (C b) 0 c3 (k8 b) e S := nr (seqN (enterS (by kernel_rfl)))
@[go_sem] theorem g12 : execL (C b) 0 c1 K [(0, x0), (1, x1), (2, x2)] S =
  withN (boxed S (List.length S) (TI.size (tyi Try.prog 54)) x1) S fun x4 S =>
    withV (some (.bool false)) fun x5 =>
    K .normal (ee0 x0 x2) S := nr (by kernel_rfl)
def E (b : Nat) (x0 x1 x2 : PV) (S : Store) : RT := execL (C b) 0 code (k0 b) [(0, x0), (1, x1), (2, x2)] S
@[go_sem] theorem E_eq : E b x0 x1 x2 S =
  execL (C b) 0 c1 (k10 b) [(0, x0), (1, x1), (2, x2)] S := nr (enterS (by kernel_rfl))
@[go_sem] theorem k0_ret1 : k0 b .ret (ee1 x5) S = some (x5, S) := nr (by kernel_rfl)
theorem callR {x0 x1 x2 : PV} {S : Store} {r : PV × Store} (h : E S.length x0 x1 x2 S = some r) : callRL Try.prog hints 74 [x0, x1, x2] S = some r := callRL_of (fn := Try.f74) (c := code) (by kernel_rfl) (by kernel_rfl) (by decide) (by kernel_rfl) (Nat.le_of_ble_eq_true (by kernel_rfl)) h
end
end F74
/-! ### tree.Find$1 -/
namespace F77
section
variable (b : Nat) (K : KT) (x0 x1 x2 x3 x5 x6 x9 : PV) (e : Env) (S : Store)
noncomputable def hint : Hint := { keep := [], loops := [], regs := [(0, [0, 2, 3, 5]), (1, [0, 3, 9]), (2, [0, 3, 9]), (3, [6])] }
noncomputable def C (b : Nat) : Ctx := ctxL Try.prog hints b hint
noncomputable def code : Code := Try.f77.body.get rfl
noncomputable def k0 (b : Nat) : KT := endC Try.prog Try.f77
def ee0 (x0 x2 x3 x5 : PV) : Env := [(0, x0), (2, x2), (3, x3), (5, x5)]
def ee1 (x0 x3 x9 : PV) : Env := [(0, x0), (3, x3), (9, x9)]
def ee2 (x6 : PV) : Env := [(6, x6)]
def c1 : Code := at0 code
def c2 : Code := at1 code
def c3 : Code := at0 c2
def c4 : Code := at1 c2
def c5 : Code := at0 c4
def c6 : Code := at1 c4
def k7 (b : Nat) : KT := seqC (fun e S => execL (C b) 0 c6 (k0 b) e S) (k0 b)
@[go_sem] theorem k7_n : k7 b .normal (ee2 x6) S =
  (k0 b) .ret (ee2 x6) S := nr (seqN (execL_ret (by kernel_rfl)))
def k8 (b : Nat) : KT := seqC (fun e S => execL (C b) 0 c4 (k0 b) e S) (k0 b)
@[go_sem] theorem g9 : execL (C b) 0 c5 K (ee1 x0 x3 x9) S =
  withV (some (.bool true)) fun x6 =>
    K .normal (ee2 x6) S := nr (by kernel_rfl)
@[go_sem] theorem k8_n : k8 b .normal e S = execL (C b) 0 c5 (k7 b) e S := nr (seqN (enterS (by kernel_rfl)))
def k10 (b : Nat) : KT := seqC (fun e S => execL (C b) 0 c2 (k0 b) e S) (k0 b)
def c11 : Code := at0 c3
def c12 : Code := at1 c3
def k13 (b : Nat) : KT := seqC (fun e S => execL (C b) 0 c12 (k8 b) e S) (k8 b)
def c14 : Code := atT c12
@[go_sem] theorem g17 : execL (C b) 0 c14 K (ee1 x0 x3 x9) S =
  withV (evLoad (tyi Try.prog 23) S x3) fun x10 =>
    withN (buildSliceO Try.prog 22 (List.length S) 0 [] []) S fun x11 S =>
    withV (some x0) fun x12 =>
    withE (appendE Try.prog b 22 22 S x11 x12) [(0, x0), (3, x3), (9, x9), (10, x10), (11, x11), (12, x12)] fun x13 e1 S =>
    withN (buildSliceO Try.prog 23 (List.length S) 1 [0] [PV.cells (Vs.get (put e1 13 x13) 13)]) S fun x14 S =>
    withE (appendE Try.prog b 23 23 S (Vs.get (put (put e1 13 x13) 14 x14) 10) (Vs.get (put (put e1 13 x13) 14 x14) 14)) (put (put e1 13 x13) 14 x14) fun x15 e2 S =>
    withS (storeE (tyi Try.prog 23) S (Vs.get (put e2 15 x15) 3) (Vs.get (put e2 15 x15) 15)) fun _u S =>
    K .normal (ee1 (Vs.get (put e2 15 x15) 0) (Vs.get (put e2 15 x15) 3) (Vs.get (put e2 15 x15) 9)) S := nr (by kernel_rfl)
@[go_sem] theorem k13_n : k13 b .normal (ee1 x0 x3 x9) S =
  condC x9 (execL (C b) 0 c14 (k8 b) (ee1 x0 x3 x9) S)
    ((k8 b) .normal (ee1 x0 x3 x9) S) := nr (seqN (condE (t := 9) (by kernel_rfl) (rfl) (execL_skip (by kernel_rfl)) rfl))
@[go_sem] theorem g18 : execL (C b) 0 c11 K (ee0 x0 x2 x3 x5) S =
  withV (evLoad (tyi Try.prog 54) S x5) fun x7 =>
    withV (evLoad (tyi Try.prog 54) S x2) fun x8 =>
    withN (callO (callL Try.prog hints) S 47 [x7, x8]) S fun x9 S =>
    K .normal (ee1 x0 x3 x9) S := nr (by kernel_rfl)
@[go_sem] theorem k10_n : k10 b .normal (ee0 x0 x2 x3 x5) S =
  execL (C b) 0 c11 (k13 b) (ee0 x0 x2 x3 x5) S := nr (seqN ((enterS (by kernel_rfl)).trans (enterS (by kernel_rfl))))
@[go_sem] theorem g19 : execL (C b) 0 c1 K [(0, x0), (1, x1), (2, x2), (3, x3)] S =
  withN (boxed S (List.length S) (TI.size (tyi Try.prog 54)) x1) S fun x5 S =>
    withV (some (.bool false)) fun x6 =>
    K .normal (ee0 x0 x2 x3 x5) S := nr (by kernel_rfl)
def E (b : Nat) (x0 x1 x2 x3 : PV) (S : Store) : RT := execL (C b) 0 code (k0 b) [(0, x0), (1, x1), (2, x2), (3, x3)] S
@[go_sem] theorem E_eq : E b x0 x1 x2 x3 S =
  execL (C b) 0 c1 (k10 b) [(0, x0), (1, x1), (2, x2), (3, x3)] S := nr (enterS (by kernel_rfl))
@[go_sem] theorem k0_ret2 : k0 b .ret (ee2 x6) S = some (x6, S) := nr (by kernel_rfl)
theorem callR {x0 x1 x2 x3 : PV} {S : Store} {r : PV × Store} (h : E S.length x0 x1 x2 x3 S = some r) : callRL Try.prog hints 77 [x0, x1, x2, x3] S = some r := callRL_of (fn := Try.f77) (c := code) (by kernel_rfl) (by kernel_rfl) (by decide) (by kernel_rfl) (Nat.le_of_ble_eq_true (by kernel_rfl)) h
end
end F77
/-! ### tree.all$1 -/
namespace F93
section
variable (b i n n0 : Nat) (K : KT) (x0 x1 x2 x3 x4 x6 x7 x8 x13 x15 x16 x17 x18 x34 : PV) (e : Env) (S : Store)
noncomputable def hint : Hint := { keep := [], loops := [(0, { live := [1, 3, 15, 16, 17], after := [], own := [], fz := [] })], regs := [(0, [1, 2, 3, 4]), (1, [1, 3, 4, 13]), (2, [6]), (3, [1, 3, 15, 16, 17]), (4, [1, 3, 15, 16, 17, 18]), (5, [1, 3, 7, 8, 15, 16, 17]), (6, [1, 3, 15, 16, 17, 34]), (7, [6]), (8, [1, 3, 15, 16, 17]), (9, [6])] }
noncomputable def C (b : Nat) : Ctx := ctxL Try.prog hints b hint
noncomputable def code : Code := Try.f93.body.get rfl
noncomputable def k0 (b : Nat) : KT := endC Try.prog Try.f93
def ee0 (x1 x2 x3 x4 : PV) : Env := [(1, x1), (2, x2), (3, x3), (4, x4)]
def ee1 (x1 x3 x4 x13 : PV) : Env := [(1, x1), (3, x3), (4, x4), (13, x13)]
def ee2 (x1 x3 x7 x8 x15 x16 x17 : PV) : Env := [(1, x1), (3, x3), (7, x7), (8, x8), (15, x15), (16, x16), (17, x17)]
def ee3 (x1 x3 x15 x16 x17 : PV) : Env := [(1, x1), (3, x3), (15, x15), (16, x16), (17, x17)]
def ee4 (x1 x3 x15 x16 x17 x18 : PV) : Env := [(1, x1), (3, x3), (15, x15), (16, x16), (17, x17), (18, x18)]
def ee5 (x1 x3 x15 x16 x17 x34 : PV) : Env := [(1, x1), (3, x3), (15, x15), (16, x16), (17, x17), (34, x34)]
def ee6 (x6 : PV) : Env := [(6, x6)]
def c1 : Code := at0 code
def c2 : Code := at1 code
def c3 : Code := at0 c2
def c4 : Code := at1 c2
def c5 : Code := at0 c4
def c6 : Code := at1 c4
def c7 : Code := at0 c6
def c8 : Code := at1 c6
def k9 (b : Nat) : KT := seqC (fun e S => execL (C b) 0 c8 (k0 b) e S) (k0 b)
@[go_sem] theorem k9_n : k9 b .normal (ee6 x6) S =
  (k0 b) .ret (ee6 x6) S := nr (seqN (execL_ret (by kernel_rfl)))
def k10 (b : Nat) : KT := seqC (fun e S => execL (C b) 0 c6 (k0 b) e S) (k0 b)
@[go_sem] theorem g11 : execL (C b) 0 c7 K (ee4 x1 x3 x15 x16 x17 x18) S =
  withV (some (.bool true)) fun x6 =>
    K .normal (ee6 x6) S := nr (by kernel_rfl)
@[go_sem] theorem k10_n : k10 b .normal e S = execL (C b) 0 c7 (k9 b) e S := nr (seqN (enterS (by kernel_rfl)))
def k12 (b : Nat) : KT := seqC (fun e S => execL (C b) 0 c4 (k0 b) e S) (k0 b)
def c13 : Code := at0 c5
def c14 : Code := at1 c5
def k15 (b : Nat) : KT := seqC (fun e S => execL (C b) 0 c14 (k10 b) e S) (k10 b)
def c16 : Code := atB c14
def k17 (b : Nat) : KT := blockC 0 (k10 b)
@[go_sem] theorem k17_exit : k17 b (.exit i) e S = if i = 0 then (k10 b) .normal e S else (k10 b) (.exit i) e S := nr (blockC_x _ _ _ _ _)
def c18 : Code := atL c16
def k19 (b n0 : Nat) : KT := afterC 0 n0 [] (k17 b)
def L0g (b n0 : Nat) (e : Env) (S : Store) : RT := loopL (fun K e S => execL (C b) 0 c18 K e S) (normG [1, 3, 15, 16, 17] [] n0) (k19 b n0) e S
def L0 (b n0 : Nat) (x1 x3 x15 x16 x17 : PV) (S : Store) : RT := L0g b n0 (ee3 x1 x3 x15 x16 x17) S
def k20 (b n0 : Nat) : KT := stepC (normG [1, 3, 15, 16, 17] [] n0) (k19 b n0) (L0g b n0)
@[go_sem] theorem k20_n : k20 b n0 .normal (ee3 x1 x3 x15 x16 x17) S = L0 b n0 x1 x3 x15 x16 x17 (gc n0 (ee3 x1 x3 x15 x16 x17) S) := nr (by kernel_rfl)
@[go_sem] theorem k20_x1 : k20 b n0 (.exit 0) (ee4 x1 x3 x15 x16 x17 x18) S = (k17 b) (.exit 0) (ee4 .undef .undef .undef .undef .undef .undef) (gc n0 (ee4 .undef .undef .undef .undef .undef .undef) S) := nr ((show k20 b n0 (.exit 0) (ee4 x1 x3 x15 x16 x17 x18) S = (k19 b n0) (.exit 0) (ee4 x1 x3 x15 x16 x17 x18) S from stepC_x _ _ _ _ _ _).trans ((show (k19 b n0) (.exit 0) (ee4 x1 x3 x15 x16 x17 x18) S = _ from afterC_x _ _ _ _ _ _ _).trans (if_pos rfl)))
def c21 : Code := at0 c18
def c22 : Code := at1 c18
def c24 : Code := at1 c22
def c25 : Code := at0 c24
def c26 : Code := at1 c24
def k27 (b n0 : Nat) : KT := seqC (fun e S => execL (C b) 0 c26 (k20 b n0) e S) (k20 b n0)
@[go_sem] theorem g28 : execL (C b) 0 c26 K (ee5 x1 x3 x15 x16 x17 x34) S =
  withV (evBin .add (tyi Try.prog 3) x17 (.int .i64 1)) fun x35 =>
    withV (some x35) fun x17 =>
    K .normal (ee3 x1 x3 x15 x16 x17) S := nr (by kernel_rfl)
@[go_sem] theorem k27_n : k27 b n0 .normal e S = execL (C b) 0 c26 (k20 b n0) e S := nr (seqN rfl)
def k29 (b n0 : Nat) : KT := seqC (fun e S => execL (C b) 0 c24 (k20 b n0) e S) (k20 b n0)
def c30 : Code := atB c25
def k31 (b n0 : Nat) : KT := blockC 1 (k27 b n0)
@[go_sem] theorem k31_n : k31 b n0 .normal e S = (k27 b n0) .normal e S := nr (blockC_n _ _ _ _)
def c32 : Code := at0 c30
def c33 : Code := at1 c30
def c34 : Code := at0 c33
def c35 : Code := at1 c33
def k36 (b n0 : Nat) : KT := seqC (fun e S => execL (C b) 1 c35 (k31 b n0) e S) (k31 b n0)
def c37 : Code := atT c35
def c40 : Code := at0 c37
def c41 : Code := at1 c37
def k42 (b n0 : Nat) : KT := seqC (fun e S => execL (C b) 1 c41 (k31 b n0) e S) (k31 b n0)
@[go_sem] theorem k36_n : k36 b n0 .normal (ee5 x1 x3 x15 x16 x17 x34) S =
  condC x34 (execL (C b) 1 c40 (k42 b n0) (ee5 x1 x3 x15 x16 x17 x34) S)
    ((k31 b n0) .normal (ee5 x1 x3 x15 x16 x17 x34) S) := nr (seqN (condE (t := 34) (by kernel_rfl) (enterS (by kernel_rfl)) (execL_skip (by kernel_rfl)) rfl))
def k44 (b n0 : Nat) : KT := seqC (fun e S => execL (C b) 1 c33 (k31 b n0) e S) (k31 b n0)
@[go_sem] theorem g45 : execL (C b) 1 c34 K (ee2 x1 x3 x7 x8 x15 x16 x17) S =
  withV (evLoad (tyi Try.prog 104) S x3) fun x22 =>
    withV (evLoad (tyi Try.prog 54) S x8) fun x23 =>
    withV (some x1) fun x24 =>
    withV (some x1) fun x25 =>
    withV (lenO (tyi Try.prog 22) x25) fun x26 =>
    withV (some x1) fun x27 =>
    withV (lenO (tyi Try.prog 22) x27) fun x28 =>
    withV (sliceO Try.prog 22 S x24 none (some x26) (some x28)) fun x29 =>
    withV (some x7) fun x30 =>
    withN (buildSliceO Try.prog 22 (List.length S) 1 [0] [PV.cells x30]) S fun x31 S =>
    withE (appendE Try.prog b 22 22 S x29 x31) [(1, x1), (3, x3), (7, x7), (8, x8), (15, x15), (16, x16), (17, x17), (22, x22), (23, x23), (24, x24), (25, x25), (26, x26), (27, x27), (28, x28), (29, x29), (30, x30), (31, x31)] fun x32 e1 S =>
    withS (callV (C b) S (Vs.get (put e1 32 x32) 22) [(Vs.get (put e1 32 x32) 23), (Vs.get (put e1 32 x32) 32)]) fun x33 S =>
    withV (evUn .not (Vs.get (put (put e1 32 x32) 33 x33) 33)) fun x34 =>
    K .normal (ee5 (Vs.get (put (put (put e1 32 x32) 33 x33) 34 x34) 1) (Vs.get (put (put (put e1 32 x32) 33 x33) 34 x34) 3) (Vs.get (put (put (put e1 32 x32) 33 x33) 34 x34) 15) (Vs.get (put (put (put e1 32 x32) 33 x33) 34 x34) 16) (Vs.get (put (put (put e1 32 x32) 33 x33) 34 x34) 17) (Vs.get (put (put (put e1 32 x32) 33 x33) 34 x34) 34)) S := nr (by kernel_rfl)
@[go_sem] theorem k44_n : k44 b n0 .normal e S = execL (C b) 1 c34 (k36 b n0) e S := nr (seqN (enterS (by kernel_rfl)))
@[go_sem] theorem g46 : execL (C b) 1 c32 K (ee4 x1 x3 x15 x16 x17 x18) S =
  withV (some x17) fun x19 =>
    withV (indexAddrO Try.prog 52 S x15 x17) fun x20 =>
    withV (evLoad (tyi Try.prog 54) S x20) fun x21 =>
    withN (allocO (tyi Try.prog 54) (List.length S)) S fun x8 S =>
    withV (some x19) fun x7 =>
    withS (storeE (tyi Try.prog 54) S x8 x21) fun _u S =>
    K .normal (ee2 x1 x3 x7 x8 x15 x16 x17) S := nr (by kernel_rfl)
@[go_sem] theorem k29_n : k29 b n0 .normal (ee4 x1 x3 x15 x16 x17 x18) S =
  execL (C b) 1 c32 (k44 b n0) (ee4 x1 x3 x15 x16 x17 x18) S := nr (seqN ((enterS (by kernel_rfl)).trans ((blockE (by kernel_rfl)).trans (enterS (by kernel_rfl)))))
@[go_sem] theorem k29_exit : k29 b n0 (.exit i) e S = (k20 b n0) (.exit i) e S := nr (seqC_x _ _ _ _ _)
def k47 (b n0 : Nat) : KT := seqC (fun e S => execL (C b) 0 c22 (k20 b n0) e S) (k20 b n0)
@[go_sem] theorem k47_n : k47 b n0 .normal (ee4 x1 x3 x15 x16 x17 x18) S =
  condC x18 ((k29 b n0) .normal (ee4 x1 x3 x15 x16 x17 x18) S)
    ((k29 b n0) (.exit 0) (ee4 x1 x3 x15 x16 x17 x18) S) := nr (seqN ((enterS (by kernel_rfl)).trans (condE (t := 18) (by kernel_rfl) (execL_skip (by kernel_rfl)) (execL_exit (by kernel_rfl)) rfl)))
@[go_sem] theorem g50 : execL (C b) 0 c21 K (ee3 x1 x3 x15 x16 x17) S =
  withV (evBin .lss (tyi Try.prog 3) x17 x16) fun x18 =>
    K .normal (ee4 x1 x3 x15 x16 x17 x18) S := nr (by kernel_rfl)
def B0 (b n0 : Nat) (x1 x3 x15 x16 x17 : PV) (S : Store) : RT := execL (C b) 0 c18 (k20 b n0) (ee3 x1 x3 x15 x16 x17) S
@[go_sem] theorem B0_eq : B0 b n0 x1 x3 x15 x16 x17 S =
  execL (C b) 0 c21 (k47 b n0) (ee3 x1 x3 x15 x16 x17) S := nr (enterS (by kernel_rfl))
theorem L0_step {b n0 : Nat} {x1 x3 x15 x16 x17 : PV} {S : Store} {z : PV × Store} (h : B0 b n0 x1 x3 x15 x16 x17 S = some z) : L0 b n0 x1 x3 x15 x16 x17 S = some z := loopL_step h
theorem L0_in (b : Nat) (x1 x3 x15 x16 x17 : PV) (S : Store) : execL (C b) 0 c16 (k17 b) (ee3 x1 x3 x15 x16 x17) S = L0 b (List.length S) x1 x3 x15 x16 x17 S := by kernel_rfl
@[go_sem] theorem k15_n : k15 b .normal (ee3 x1 x3 x15 x16 x17) S =
  L0 b (List.length S) x1 x3 x15 x16 x17 S := nr (seqN ((blockE (by kernel_rfl)).trans (L0_in b x1 x3 x15 x16 x17 S)))
@[go_sem] theorem g52 : execL (C b) 0 c13 K (ee1 x1 x3 x4 x13) S =
  withV (evFieldAddr (tyi Try.prog 54) 3 x4) fun x14 =>
    withV (evLoad (tyi Try.prog 52) S x14) fun x15 =>
    withV (lenO (tyi Try.prog 52) x15) fun x16 =>
    withV (some (.int .i64 0)) fun x17 =>
    K .normal (ee3 x1 x3 x15 x16 x17) S := nr (by kernel_rfl)
@[go_sem] theorem k12_n : k12 b .normal (ee1 x1 x3 x4 x13) S =
  execL (C b) 0 c13 (k15 b) (ee1 x1 x3 x4 x13) S := nr (seqN ((enterS (by kernel_rfl)).trans (enterS (by kernel_rfl))))
def k53 (b : Nat) : KT := seqC (fun e S => execL (C b) 0 c2 (k0 b) e S) (k0 b)
def c54 : Code := at0 c3
def c55 : Code := at1 c3
def k56 (b : Nat) : KT := seqC (fun e S => execL (C b) 0 c55 (k12 b) e S) (k12 b)
def c57 : Code := atT c55
def c60 : Code := at0 c57
def c61 : Code := at1 c57
def k62 (b : Nat) : KT := seqC (fun e S => execL (C b) 0 c61 (k12 b) e S) (k12 b)
@[go_sem] theorem k56_n : k56 b .normal (ee1 x1 x3 x4 x13) S =
  condC x13 (execL (C b) 0 c60 (k62 b) (ee1 x1 x3 x4 x13) S)
    ((k12 b) .normal (ee1 x1 x3 x4 x13) S) := nr (seqN (condE (t := 13) (by kernel_rfl) (enterS (by kernel_rfl)) (execL_skip (by kernel_rfl)) rfl))
@[go_sem] theorem g64 : execL (C b) 0 c54 K (ee0 x1 x2 x3 x4) S =
  withV (evLoad (tyi Try.prog 89) S x2) fun x9 =>
    withV (some x1) fun x10 =>
    withV (evLoad (tyi Try.prog 54) S x4) fun x11 =>
    withS (callV (C b) S x9 [x10, x11]) fun x12 S =>
    withV (evUn .not x12) fun x13 =>
    K .normal (ee1 x1 x3 x4 x13) S := nr (by kernel_rfl)
@[go_sem] theorem k53_n : k53 b .normal (ee0 x1 x2 x3 x4) S =
  execL (C b) 0 c54 (k56 b) (ee0 x1 x2 x3 x4) S := nr (seqN ((enterS (by kernel_rfl)).trans (enterS (by kernel_rfl))))
@[go_sem] theorem g65 : execL (C b) 0 c1 K [(0, x0), (1, x1), (2, x2), (3, x3)] S =
  withN (boxed S (List.length S) (TI.size (tyi Try.prog 54)) x0) S fun x4 S =>
    withV (some (.bool false)) fun x6 =>
    K .normal (ee0 x1 x2 x3 x4) S := nr (by kernel_rfl)
def E (b : Nat) (x0 x1 x2 x3 : PV) (S : Store) : RT := execL (C b) 0 code (k0 b) [(0, x0), (1, x1), (2, x2), (3, x3)] S
@[go_sem] theorem E_eq : E b x0 x1 x2 x3 S =
  execL (C b) 0 c1 (k53 b) [(0, x0), (1, x1), (2, x2), (3, x3)] S := nr (enterS (by kernel_rfl))
@[go_sem] theorem gc_ee4 : gc n (ee4 x1 x3 x15 x16 x17 x18) S = gc n [(1, x1), (3, x3), (15, x15), (16, x16), (17, x17), (18, x18)] S := nr (rfl)
@[go_sem] theorem k0_ret6 : k0 b .ret (ee6 x6) S = some (x6, S) := nr (by kernel_rfl)
theorem callR {x0 x1 x2 x3 : PV} {S : Store} {r : PV × Store} (h : E S.length x0 x1 x2 x3 S = some r) : callRL Try.prog hints 93 [x0, x1, x2, x3] S = some r := callRL_of (fn := Try.f93) (c := code) (by kernel_rfl) (by kernel_rfl) (by decide) (by kernel_rfl) (Nat.le_of_ble_eq_true (by kernel_rfl)) h
end
end F93
/-! ### tree.all -/
namespace F73
section
variable (b : Nat) (K : KT) (x0 x1 x2 x3 x4 x5 : PV) (e : Env) (S : Store)
noncomputable def hint : Hint := { keep := [], loops := [], regs := [(0, [2, 3]), (1, [2, 3, 5]), (2, [2, 5]), (3, [4])] }
noncomputable def C (b : Nat) : Ctx := ctxL Try.prog hints b hint
noncomputable def code : Code := Try.f73.body.get rfl
noncomputable def k0 (b : Nat) : KT := endC Try.prog Try.f73
def ee0 (x2 x3 : PV) : Env := [(2, x2), (3, x3)]
def ee1 (x2 x3 x5 : PV) : Env := [(2, x2), (3, x3), (5, x5)]
def ee2 (x2 x5 : PV) : Env := [(2, x2), (5, x5)]
def ee3 (x4 : PV) : Env := [(4, x4)]
def c1 : Code := at0 code
def c2 : Code := at1 code
def c3 : Code := at0 c2
def c4 : Code := at1 c2
def c5 : Code := at0 c4
def c6 : Code := at1 c4
def c7 : Code := at0 c6
def c8 : Code := at1 c6
def k9 (b : Nat) : KT := seqC (fun e S => execL (C b) 0 c8 (k0 b) e S) (k0 b)
@[go_sem] theorem k9_n : k9 b .normal (ee3 x4) S =
  (k0 b) .ret (ee3 x4) S := nr (seqN (execL_ret (by kernel_rfl)))
def k10 (b : Nat) : KT := seqC (fun e S => execL (C b) 0 c6 (k0 b) e S) (k0 b)
@[go_sem] theorem g11 : execL (C b) 0 c7 K (ee2 x2 x5) S =
  withV (evLoad (tyi Try.prog 104) S x5) fun x7 =>
    withV (evLoad (tyi Try.prog 54) S x2) fun x8 =>
    withS (callV (C b) S x7 [x8, (.sl [] true)]) fun x9 S =>
    withV (some x9) fun x4 =>
    K .normal (ee3 x4) S := nr (by kernel_rfl)
@[go_sem] theorem k10_n : k10 b .normal e S = execL (C b) 0 c7 (k9 b) e S := nr (seqN (enterS (by kernel_rfl)))
def k12 (b : Nat) : KT := seqC (fun e S => execL (C b) 0 c4 (k0 b) e S) (k0 b)
@[go_sem] theorem g13 : execL (C b) 0 c5 K (ee1 x2 x3 x5) S =
  withV (some (.fn 93 [] [x3, x5])) fun x6 =>
    withS (storeE (tyi Try.prog 104) S x5 x6) fun _u S =>
    K .normal (ee2 x2 x5) S := nr (by kernel_rfl)
@[go_sem] theorem k12_n : k12 b .normal e S = execL (C b) 0 c5 (k10 b) e S := nr (seqN (enterS (by kernel_rfl)))
def k14 (b : Nat) : KT := seqC (fun e S => execL (C b) 0 c2 (k0 b) e S) (k0 b)
@[go_sem] theorem g15 : execL (C b) 0 c3 K (ee0 x2 x3) S =
  withN (allocO (tyi Try.prog 104) (List.length S)) S fun x5 S =>
    K .normal (ee1 x2 x3 x5) S := nr (by kernel_rfl)
@[go_sem] theorem k14_n : k14 b .normal e S = execL (C b) 0 c3 (k12 b) e S := nr (seqN (enterS (by kernel_rfl)))
@[go_sem] theorem g16 : execL (C b) 0 c1 K [(0, x0), (1, x1)] S =
  withN (boxed S (List.length S) (TI.size (tyi Try.prog 54)) x0) S fun x2 S =>
    withN (boxed S (List.length S) (TI.size (tyi Try.prog 89)) x1) S fun x3 S =>
    withV (some (.bool false)) fun x4 =>
    K .normal (ee0 x2 x3) S := nr (by kernel_rfl)
def E (b : Nat) (x0 x1 : PV) (S : Store) : RT := execL (C b) 0 code (k0 b) [(0, x0), (1, x1)] S
@[go_sem] theorem E_eq : E b x0 x1 S =
  execL (C b) 0 c1 (k14 b) [(0, x0), (1, x1)] S := nr (enterS (by kernel_rfl))
@[go_sem] theorem k0_ret3 : k0 b .ret (ee3 x4) S = some (x4, S) := nr (by kernel_rfl)
theorem callR {x0 x1 : PV} {S : Store} {r : PV × Store} (h : E S.length x0 x1 S = some r) : callRL Try.prog hints 73 [x0, x1] S = some r := callRL_of (fn := Try.f73) (c := code) (by kernel_rfl) (by kernel_rfl) (by decide) (by kernel_rfl) (Nat.le_of_ble_eq_true (by kernel_rfl)) h
end
end F73
/-! ### tree.Paths -/
namespace F48
section
variable (b : Nat) (K : KT) (x0 x1 x2 x3 x4 x5 x9 : PV) (e : Env) (S : Store)
noncomputable def hint : Hint := { keep := [], loops := [], regs := [(0, [1]), (1, [1, 4]), (2, [1, 4, 9]), (3, [2, 3]), (4, [1, 5]), (5, [5]), (6, [2, 3])] }
noncomputable def C (b : Nat) : Ctx := ctxL Try.prog hints b hint
noncomputable def code : Code := Try.f48.body.get rfl
noncomputable def k0 (b : Nat) : KT := endC Try.prog Try.f48
def ee0 (x1 : PV) : Env := [(1, x1)]
def ee1 (x1 x4 : PV) : Env := [(1, x1), (4, x4)]
def ee2 (x1 x4 x9 : PV) : Env := [(1, x1), (4, x4), (9, x9)]
def ee3 (x1 x5 : PV) : Env := [(1, x1), (5, x5)]
def ee4 (x2 x3 : PV) : Env := [(2, x2), (3, x3)]
def ee5 (x5 : PV) : Env := [(5, x5)]
def c1 : Code := at0 code
def c2 : Code := at1 code
def c3 : Code := at0 c2
def c4 : Code := at1 c2
def c5 : Code := at0 c4
def c6 : Code := at1 c4
def c7 : Code := at0 c6
def c8 : Code := at1 c6
def c9 : Code := at0 c8
def c10 : Code := at1 c8
def k11 (b : Nat) : KT := seqC (fun e S => execL (C b) 0 c10 (k0 b) e S) (k0 b)
@[go_sem] theorem k11_n : k11 b .normal (ee4 x2 x3) S =
  (k0 b) .ret (ee4 x2 x3) S := nr (seqN (execL_ret (by kernel_rfl)))
def k12 (b : Nat) : KT := seqC (fun e S => execL (C b) 0 c8 (k0 b) e S) (k0 b)
@[go_sem] theorem g13 : execL (C b) 0 c9 K (ee5 x5) S =
  withV (evLoad (tyi Try.prog 23) S x5) fun x14 =>
    withV (some x14) fun x2 =>
    withV (some (.int .i64 0)) fun x3 =>
    K .normal (ee4 x2 x3) S := nr (by kernel_rfl)
@[go_sem] theorem k12_n : k12 b .normal e S = execL (C b) 0 c9 (k11 b) e S := nr (seqN (enterS (by kernel_rfl)))
def k14 (b : Nat) : KT := seqC (fun e S => execL (C b) 0 c6 (k0 b) e S) (k0 b)
@[go_sem] theorem g15 : execL (C b) 0 c7 K (ee3 x1 x5) S =
  withV (evLoad (tyi Try.prog 54) S x1) fun x11 =>
    withV (some (.fn 74 [] [x5])) fun x12 =>
    withS (callE (C b) S 73 [x11, x12]) fun x13 S =>
    K .normal (ee5 x5) S := nr (by kernel_rfl)
@[go_sem] theorem k14_n : k14 b .normal e S = execL (C b) 0 c7 (k12 b) e S := nr (seqN (enterS (by kernel_rfl)))
def k16 (b : Nat) : KT := seqC (fun e S => execL (C b) 0 c4 (k0 b) e S) (k0 b)
@[go_sem] theorem g17 : execL (C b) 0 c5 K (ee2 x1 x4 x9) S =
  withN (allocO (tyi Try.prog 23) (List.length S)) S fun x5 S =>
    K .normal (ee3 x1 x5) S := nr (by kernel_rfl)
@[go_sem] theorem k16_n : k16 b .normal e S = execL (C b) 0 c5 (k14 b) e S := nr (seqN (enterS (by kernel_rfl)))
@[go_sem] theorem k16_ret : k16 b .ret e S = (k0 b) .ret e S := nr (seqC_r _ _ _ _)
def k18 (b : Nat) : KT := seqC (fun e S => execL (C b) 0 c2 (k0 b) e S) (k0 b)
def c19 : Code := at0 c3
def c20 : Code := at1 c3
def c21 : Code := at0 c20
def c22 : Code := at1 c20
def k23 (b : Nat) : KT := seqC (fun e S => execL (C b) 0 c22 (k16 b) e S) (k16 b)
def c24 : Code := atT c22
def c27 : Code := at0 c24
def c28 : Code := at1 c24
def k29 (b : Nat) : KT := seqC (fun e S => execL (C b) 0 c28 (k16 b) e S) (k16 b)
@[go_sem] theorem k29_n : k29 b .normal (ee4 x2 x3) S =
  (k16 b) .ret (ee4 x2 x3) S := nr (seqN (execL_ret (by kernel_rfl)))
@[go_sem] theorem g30 : execL (C b) 0 c27 K (ee2 x1 x4 x9) S =
  withV (some x4) fun x10 =>
    withV (some (.sl [] true)) fun x2 =>
    withV (some x10) fun x3 =>
    K .normal (ee4 x2 x3) S := nr (by kernel_rfl)
@[go_sem] theorem k23_n : k23 b .normal (ee2 x1 x4 x9) S =
  condC x9 (execL (C b) 0 c27 (k29 b) (ee2 x1 x4 x9) S)
    ((k16 b) .normal (ee2 x1 x4 x9) S) := nr (seqN (condE (t := 9) (by kernel_rfl) (enterS (by kernel_rfl)) (execL_skip (by kernel_rfl)) rfl))
def k31 (b : Nat) : KT := seqC (fun e S => execL (C b) 0 c20 (k16 b) e S) (k16 b)
@[go_sem] theorem g32 : execL (C b) 0 c21 K (ee1 x1 x4) S =
  withV (some x4) fun x8 =>
    withV (evBin .neq (tyi Try.prog 29) x8 (.int .i64 0)) fun x9 =>
    K .normal (ee2 x1 x4 x9) S := nr (by kernel_rfl)
@[go_sem] theorem k31_n : k31 b .normal e S = execL (C b) 0 c21 (k23 b) e S := nr (seqN (enterS (by kernel_rfl)))
@[go_sem] theorem g33 : execL (C b) 0 c19 K (ee0 x1) S =
  withV (evLoad (tyi Try.prog 54) S x1) fun x6 =>
    withN (callO (callL Try.prog hints) S 72 [x6]) S fun x7 S =>
    withV (some x7) fun x4 =>
    K .normal (ee1 x1 x4) S := nr (by kernel_rfl)
@[go_sem] theorem k18_n : k18 b .normal (ee0 x1) S =
  execL (C b) 0 c19 (k31 b) (ee0 x1) S := nr (seqN ((enterS (by kernel_rfl)).trans (enterS (by kernel_rfl))))
@[go_sem] theorem g34 : execL (C b) 0 c1 K [(0, x0)] S =
  withN (boxed S (List.length S) (TI.size (tyi Try.prog 54)) x0) S fun x1 S =>
    withV (some (.sl [] true)) fun x2 =>
    withV (some (.int .i64 0)) fun x3 =>
    K .normal (ee0 x1) S := nr (by kernel_rfl)
def E (b : Nat) (x0 : PV) (S : Store) : RT := execL (C b) 0 code (k0 b) [(0, x0)] S
@[go_sem] theorem E_eq : E b x0 S =
  execL (C b) 0 c1 (k18 b) [(0, x0)] S := nr (enterS (by kernel_rfl))
@[go_sem] theorem k0_ret4 : k0 b .ret (ee4 x2 x3) S = some ((.tup [x2, x3]), S) := nr (by kernel_rfl)
theorem call {x0 : PV} {r : PV × Store} {v : PV} (h : E 0 x0 [] = some r) (hv : fzPV r.2 r.1 = some v) : callL Try.prog hints 48 [x0] = some v := callL_of (fn := Try.f48) (c := code) (by kernel_rfl) (by kernel_rfl) (by decide) (by kernel_rfl) (Nat.le_of_ble_eq_true (by kernel_rfl)) h hv
end
end F48
/-! ### tree.Find -/
namespace F50
section
variable (b : Nat) (K : KT) (x0 x1 x2 x3 x4 x5 x6 x7 x11 : PV) (e : Env) (S : Store)
noncomputable def hint : Hint := { keep := [], loops := [], regs := [(0, [2, 3]), (1, [2, 3, 6]), (2, [2, 3, 6, 11]), (3, [4, 5]), (4, [2, 3, 7]), (5, [7]), (6, [4, 5])] }
noncomputable def C (b : Nat) : Ctx := ctxL Try.prog hints b hint
noncomputable def code : Code := Try.f50.body.get rfl
noncomputable def k0 (b : Nat) : KT := endC Try.prog Try.f50
def ee0 (x2 x3 : PV) : Env := [(2, x2), (3, x3)]
def ee1 (x2 x3 x6 : PV) : Env := [(2, x2), (3, x3), (6, x6)]
def ee2 (x2 x3 x6 x11 : PV) : Env := [(2, x2), (3, x3), (6, x6), (11, x11)]
def ee3 (x2 x3 x7 : PV) : Env := [(2, x2), (3, x3), (7, x7)]
def ee4 (x4 x5 : PV) : Env := [(4, x4), (5, x5)]
def ee5 (x7 : PV) : Env := [(7, x7)]
def c1 : Code := at0 code
def c2 : Code := at1 code
def c3 : Code := at0 c2
def c4 : Code := at1 c2
def c5 : Code := at0 c4
def c6 : Code := at1 c4
def c7 : Code := at0 c6
def c8 : Code := at1 c6
def c9 : Code := at0 c8
def c10 : Code := at1 c8
def k11 (b : Nat) : KT := seqC (fun e S => execL (C b) 0 c10 (k0 b) e S) (k0 b)
@[go_sem] theorem k11_n : k11 b .normal (ee4 x4 x5) S =
  (k0 b) .ret (ee4 x4 x5) S := nr (seqN (execL_ret (by kernel_rfl)))
def k12 (b : Nat) : KT := seqC (fun e S => execL (C b) 0 c8 (k0 b) e S) (k0 b)
@[go_sem] theorem g13 : execL (C b) 0 c9 K (ee5 x7) S =
  withV (evLoad (tyi Try.prog 23) S x7) fun x16 =>
    withV (some x16) fun x4 =>
    withV (some (.int .i64 0)) fun x5 =>
    K .normal (ee4 x4 x5) S := nr (by kernel_rfl)
@[go_sem] theorem k12_n : k12 b .normal e S = execL (C b) 0 c9 (k11 b) e S := nr (seqN (enterS (by kernel_rfl)))
def k14 (b : Nat) : KT := seqC (fun e S => execL (C b) 0 c6 (k0 b) e S) (k0 b)
@[go_sem] theorem g15 : execL (C b) 0 c7 K (ee3 x2 x3 x7) S =
  withV (evLoad (tyi Try.prog 54) S x2) fun x13 =>
    withV (some (.fn 77 [] [x3, x7])) fun x14 =>
    withS (callE (C b) S 73 [x13, x14]) fun x15 S =>
    K .normal (ee5 x7) S := nr (by kernel_rfl)
@[go_sem] theorem k14_n : k14 b .normal e S = execL (C b) 0 c7 (k12 b) e S := nr (seqN (enterS (by kernel_rfl)))
def k16 (b : Nat) : KT := seqC (fun e S => execL (C b) 0 c4 (k0 b) e S) (k0 b)
@[go_sem] theorem g17 : execL (C b) 0 c5 K (ee2 x2 x3 x6 x11) S =
  withN (allocO (tyi Try.prog 23) (List.length S)) S fun x7 S =>
    K .normal (ee3 x2 x3 x7) S := nr (by kernel_rfl)
@[go_sem] theorem k16_n : k16 b .normal e S = execL (C b) 0 c5 (k14 b) e S := nr (seqN (enterS (by kernel_rfl)))
@[go_sem] theorem k16_ret : k16 b .ret e S = (k0 b) .ret e S := nr (seqC_r _ _ _ _)
def k18 (b : Nat) : KT := seqC (fun e S => execL (C b) 0 c2 (k0 b) e S) (k0 b)
def c19 : Code := at0 c3
def c20 : Code := at1 c3
def c21 : Code := at0 c20
def c22 : Code := at1 c20
def k23 (b : Nat) : KT := seqC (fun e S => execL (C b) 0 c22 (k16 b) e S) (k16 b)
def c24 : Code := atT c22
def c27 : Code := at0 c24
def c28 : Code := at1 c24
def k29 (b : Nat) : KT := seqC (fun e S => execL (C b) 0 c28 (k16 b) e S) (k16 b)
@[go_sem] theorem k29_n : k29 b .normal (ee4 x4 x5) S =
  (k16 b) .ret (ee4 x4 x5) S := nr (seqN (execL_ret (by kernel_rfl)))
@[go_sem] theorem g30 : execL (C b) 0 c27 K (ee2 x2 x3 x6 x11) S =
  withV (some x6) fun x12 =>
    withV (some (.sl [] true)) fun x4 =>
    withV (some x12) fun x5 =>
    K .normal (ee4 x4 x5) S := nr (by kernel_rfl)
@[go_sem] theorem k23_n : k23 b .normal (ee2 x2 x3 x6 x11) S =
  condC x11 (execL (C b) 0 c27 (k29 b) (ee2 x2 x3 x6 x11) S)
    ((k16 b) .normal (ee2 x2 x3 x6 x11) S) := nr (seqN (condE (t := 11) (by kernel_rfl) (enterS (by kernel_rfl)) (execL_skip (by kernel_rfl)) rfl))
def k31 (b : Nat) : KT := seqC (fun e S => execL (C b) 0 c20 (k16 b) e S) (k16 b)
@[go_sem] theorem g32 : execL (C b) 0 c21 K (ee1 x2 x3 x6) S =
  withV (some x6) fun x10 =>
    withV (evBin .neq (tyi Try.prog 29) x10 (.int .i64 0)) fun x11 =>
    K .normal (ee2 x2 x3 x6 x11) S := nr (by kernel_rfl)
@[go_sem] theorem k31_n : k31 b .normal e S = execL (C b) 0 c21 (k23 b) e S := nr (seqN (enterS (by kernel_rfl)))
@[go_sem] theorem g33 : execL (C b) 0 c19 K (ee0 x2 x3) S =
  withV (evLoad (tyi Try.prog 54) S x2) fun x8 =>
    withN (callO (callL Try.prog hints) S 72 [x8]) S fun x9 S =>
    withV (some x9) fun x6 =>
    K .normal (ee1 x2 x3 x6) S := nr (by kernel_rfl)
@[go_sem] theorem k18_n : k18 b .normal (ee0 x2 x3) S =
  execL (C b) 0 c19 (k31 b) (ee0 x2 x3) S := nr (seqN ((enterS (by kernel_rfl)).trans (enterS (by kernel_rfl))))
@[go_sem] theorem g34 : execL (C b) 0 c1 K [(0, x0), (1, x1)] S =
  withN (boxed S (List.length S) (TI.size (tyi Try.prog 54)) x0) S fun x2 S =>
    withN (boxed S (List.length S) (TI.size (tyi Try.prog 54)) x1) S fun x3 S =>
    withV (some (.sl [] true)) fun x4 =>
    withV (some (.int .i64 0)) fun x5 =>
    K .normal (ee0 x2 x3) S := nr (by kernel_rfl)
def E (b : Nat) (x0 x1 : PV) (S : Store) : RT := execL (C b) 0 code (k0 b) [(0, x0), (1, x1)] S
@[go_sem] theorem E_eq : E b x0 x1 S =
  execL (C b) 0 c1 (k18 b) [(0, x0), (1, x1)] S := nr (enterS (by kernel_rfl))
@[go_sem] theorem k0_ret4 : k0 b .ret (ee4 x4 x5) S = some ((.tup [x4, x5]), S) := nr (by kernel_rfl)
theorem call {x0 x1 : PV} {r : PV × Store} {v : PV} (h : E 0 x0 x1 [] = some r) (hv : fzPV r.2 r.1 = some v) : callL Try.prog hints 50 [x0, x1] = some v := callL_of (fn := Try.f50) (c := code) (by kernel_rfl) (by kernel_rfl) (by decide) (by kernel_rfl) (Nat.le_of_ble_eq_true (by kernel_rfl)) h hv
end
end F50
end
end Go.Vs
end
/- tree.all and its closures: what they return, and what they leave. -/
section
set_option linter.unusedVariables false
set_option linter.unusedSimpArgs false
namespace Go.Vs
open Go Go.Proofs
/-! ### Types of functions, and of lists of lists -/
@[go_sem] theorem known23 : (tyi Try.prog 23).known = true := nr (by kernel_rfl)
@[go_sem] theorem size23 : (tyi Try.prog 23).size = 1 := nr (by kernel_rfl)
@[go_sem] theorem size89 : (tyi Try.prog 89).size = 1 := nr (by kernel_rfl)
@[go_sem] theorem size104 : (tyi Try.prog 104).size = 1 := nr (by kernel_rfl)
@[go_sem] theorem known104 : (tyi Try.prog 104).known = true := nr (by kernel_rfl)
@[go_sem] theorem part23 (v : PV) (r : List PV) : part (tyi Try.prog 23) (v :: r) = some v := by
  have e : (tyi Try.prog 23).isAgg = false := by kernel_rfl
  simp [part, known23, e]
@[go_sem] theorem part89 (v : PV) (r : List PV) : part (tyi Try.prog 89) (v :: r) = some v := by
  have e : (tyi Try.prog 89).isAgg = false := by kernel_rfl
  have k : (tyi Try.prog 89).known = true := by kernel_rfl
  simp [part, k, e]
@[go_sem] theorem part104 (v : PV) (r : List PV) : part (tyi Try.prog 104) (v :: r) = some v := by
  have e : (tyi Try.prog 104).isAgg = false := by kernel_rfl
  simp [part, known104, e]
@[go_sem] theorem alloc23 (id : Nat) : allocO (tyi Try.prog 23) id = some { v := .mp id 0 0, new := some ([[.sl [] true]], none) } := by
  have e : (tyi Try.prog 23).zero = some [.sl [] true] := by kernel_rfl
  simp [allocO, e, PV.cell]
noncomputable def zero104 : PV := ((tyi Try.prog 104).zero.getD []).headD .undef
@[go_sem] theorem alloc104 (id : Nat) : allocO (tyi Try.prog 104) id = some { v := .mp id 0 0, new := some ([[zero104]], none) } := by
  have e : (tyi Try.prog 104).zero = some [zero104] := by kernel_rfl
  have e2 : zero104.cell = true := by kernel_rfl
  simp [allocO, e, e2]
@[go_sem] theorem pvcells_fn (f : FuncId) (a c : List PV) : PV.cells (.fn f a c) = [.fn f a c] := nr rfl
@[go_sem] theorem cell_fn (f : FuncId) (a c : List PV) : PV.cell (.fn f a c) = true := nr rfl
@[go_sem] theorem callV_fn (C : Ctx) (S : Store) (f : FuncId) (a c l : List PV) : callV C S (.fn f a c) l = callE C S f (a ++ l ++ c) := nr rfl
/-! ### Places that stay -/
def Fixed (P : List (Nat × List (List PV))) (n ob : Nat) (D : List Nat) (S : Store) : Prop := ∀ q ∈ P, q.1 < n ∧ q.1 ≠ ob ∧ q.1 ∉ D ∧ S[q.1]? = some (.arr q.2 none false) ∧ ∀ r ∈ rowsRefs q.2, r < n ∧ r ∉ D
theorem Fixed.keep {P : List (Nat × List (List PV))} {n ob : Nat} {D D' : List Nat} {S S' : Store} (h : Fixed P n ob D S) (k : Keep n (ob :: D) D S S') (hD : ∀ r ∈ D', r ∈ D ∨ n ≤ r) : Fixed P n ob D' S' := fun q hq => by
  obtain ⟨h1, h2, h3, h4, h5⟩ := h q hq
  have nd : ∀ r, r < n → r ∉ D → r ∉ D' := fun r hr hd hx => by
    rcases hD r hx with h | h
    · exact hd h
    · omega
  exact ⟨h1, h2, nd _ h1 h3, k.keeps q.1 h1 (by simp [h2, h3]) _ _ _ h4 h5, fun r hr => ⟨(h5 r hr).1, nd r (h5 r hr).1 (h5 r hr).2⟩⟩
theorem Fixed.mono {P : List (Nat × List (List PV))} {n m ob : Nat} {D : List Nat} {S : Store} (h : Fixed P n ob D S) (hm : n ≤ m) : Fixed P m ob D S := fun q hq => by
  obtain ⟨h1, h2, h3, h4, h5⟩ := h q hq
  exact ⟨by omega, h2, h3, h4, fun r hr => ⟨by have := (h5 r hr).1; omega, (h5 r hr).2⟩⟩
theorem Fixed.same {P : List (Nat × List (List PV))} {n ob : Nat} {D : List Nat} {S S' : Store} (h : Fixed P n ob D S) (hs : ∀ j, j < n → S'[j]? = S[j]?) : Fixed P n ob D S' := fun q hq => by
  obtain ⟨h1, h2, h3, h4, h5⟩ := h q hq
  exact ⟨h1, h2, h3, by rw [hs _ h1]; exact h4, h5⟩
theorem Fixed.sub {P Q : List (Nat × List (List PV))} {n ob : Nat} {D : List Nat} {S : Store} (h : Fixed P n ob D S) (hs : ∀ q ∈ Q, q ∈ P) : Fixed Q n ob D S := fun q hq => h q (hs q hq)
theorem PathRows.at {S : Store} {id : Nat} {rows : List (List PV)} {L : List (List Int)} (h : PathRows S id rows L) : ∀ r ∈ rowsRefs rows, ∃ l g f, S[r]? = some (.arr (intRows l) g f) := by
  induction h with
  | nil => intro r hr; cases hr
  | cons h1 _ _ ih =>
    intro r hr
    simp only [rowsRefs_cons, refsL, List.append_nil, List.mem_append] at hr
    rcases hr with hr | hr
    · cases h1 with
      | sl l ex => cases hr
      | msl id l ex g f h => simp only [PV.refs, List.mem_singleton] at hr; subst hr; exact ⟨_, g, f, h⟩
    · exact ih r hr
/-- Another place is written. -/
theorem OutV.set {S : Store} {v u : PV} {L : List (List Int)} {ob : Nat} {g : Option (Option Nat)} {f : Bool} (h : OutV S v L) (hob : ob ∉ v.refs) (hb : S[ob]? = some (.arr [[u]] g f)) (hu : ∀ k n, u ≠ .int k n) (o : Obj) : OutV (S.set ob o) v L := by
  cases h with
  | nil => exact .nil
  | arr id rows L h hr =>
    have hne : ob ≠ id := fun e => hob (by simp [PV.refs, e])
    refine .arr id rows L (by rw [List.getElem?_set_ne hne]; exact h) (hr.move fun r hrr => ⟨?_, fun e => hr.out (e ▸ hrr)⟩)
    by_cases hx : ob = r
    · subst hx
      obtain ⟨l, g', f', hl⟩ := hr.at _ hrr
      rw [hb] at hl
      simp only [Option.some.injEq, Obj.arr.injEq] at hl
      exfalso
      cases l with
      | nil => simp [intRows] at hl
      | cons a l =>
        simp only [intRows, List.map_cons, List.cons.injEq] at hl
        exact hu _ _ hl.1.1.1
    · rw [List.getElem?_set_ne hx]
/-- The list of paths that a place holds outlives what falls away. -/
theorem OutV.gcBox {n : Nat} {e : Env} {S : Store} {v : PV} {L : List (List Int)} {ob : Nat} {g : Option (Option Nat)} {f : Bool} (h : OutV S v L) (hb : S[ob]? = some (.arr [[v]] g f)) (hn : ob < n) : OutV (Vs.gc n e S) v L := by
  unfold Vs.gc
  split
  case isFalse => exact h
  rename_i hc
  obtain ⟨h1, h2⟩ := hc
  rw [List.all_eq_true] at h2
  have hbox := h2 (.arr [[v]] g f) (by
    have e : (S.take n)[ob]? = some (.arr [[v]] g f) := by rw [List.getElem?_take_of_lt hn]; exact hb
    exact List.mem_of_getElem? e)
  simp only [rowsRefs_cons, rowsRefs_nil, refsL, List.append_nil, List.all_eq_true, decide_eq_true_eq] at hbox
  cases h with
  | nil => exact .nil
  | arr id rows L h hr =>
    have hid : id < n := hbox id (by simp [PV.refs])
    have hrows := h2 (.arr rows (some (some 1)) false) (by
      have e : (S.take n)[id]? = some (.arr rows (some (some 1)) false) := by rw [List.getElem?_take_of_lt hid]; exact h
      exact List.mem_of_getElem? e)
    simp only [List.all_eq_true, decide_eq_true_eq] at hrows
    exact .arr id rows L (by rw [List.getElem?_take_of_lt hid]; exact h) (hr.move fun r hrr => ⟨by rw [List.getElem?_take_of_lt (hrows r hrr)], fun e => hr.out (e ▸ hrr)⟩)
theorem OutV.cells {S : Store} {v : PV} {L : List (List Int)} (h : OutV S v L) : v.cells = [v] ∧ v.cell = true ∧ (∀ k n, v ≠ .int k n) := by
  cases h with
  | nil => exact ⟨rfl, rfl, fun k n h => by cases h⟩
  | arr => exact ⟨rfl, rfl, fun k n h => by cases h⟩
theorem store_box {ti : TI} {S : Store} {ob : Nat} {u v : PV} (hk : ti.known = true) (hs : ti.size = 1) (h : S[ob]? = some (.arr [[u]] none false)) (hv : v.cells = [v]) (hc : v.cell = true) : storeE ti S (.mp ob 0 0) v = some { v := .skip, S := S.set ob (.arr [[v]] none false) } := by
  simp only [storeE_eq, hk, if_true, hs, evStore, h, hv]
  rw [if_pos ⟨by simp, by simp, rfl, by simp [hc]⟩]
  rfl
/-- A copy of a list of ints, by an append to a fresh empty slice. -/
theorem appendCopy {b : Nat} {S : Store} {e : Nat} {pv : PV} {path : List Int} (he : S[e]? = some (.arr [] (some (some 1)) false)) (hp : Ints S pv path) (hl : path.length ≤ 2000000) :
    appendE Try.prog b 22 22 S (.msl e 0 0 true) pv = some { v := .msl S.length 0 path.length false, S := S ++ [.arr (intRows path) (some (some 1)) false] } := by
  have e1 : zeroOK (tyi Try.prog 3) = true := by kernel_rfl
  have e2 : (tyi Try.prog 3).bytes = 8 := by kernel_rfl
  have e3 : rowsIn S (.msl e 0 0 true) = some [] := by rw [rowsIn_msl, rowsAt_of he]; rfl
  have e4 : evAppendNew 8 1 S S.length (.msl e 0 0 true) pv = some { v := .msl S.length 0 path.length false, new := some (intRows path, some (some 1)) } := by
    simp only [evAppendNew, exact, if_true, e3, hp.rowsIn, Option.bind_some]
    rw [if_pos ⟨rfl, intRows_ok path, by rw [intRows_length]; simp only [List.length_nil]; omega, by rw [intRows_length]; simp only [List.length_nil]; omega⟩]
    by_cases h0 : path.length = 0
    · obtain rfl := List.eq_nil_of_length_eq_zero h0
      rfl
    · rw [if_neg (by rw [intRows_length]; exact h0)]
      simp only [intRows_length, List.length_nil, Nat.zero_add, List.nil_append]
  simp only [appendE, exact, if_true, appendN, d22, e1, e2, size3, e4, Option.map_some, place]
/-! ### What is done with each node -/
/-- Function f with captured values: it appends the path to the list at ob, if c holds of the node. -/
def Yields (f : FuncId) (caps : List PV) (P : List (Nat × List (List PV))) (ob : Nat) (c : Node → Bool) : Prop := ∀ (n : Node), n.ok → ∀ (path : List Int) (v : PV) (L : List (List Int)) (S : Store) (pv : PV), Fixed P S.length ob v.refs S → S[ob]? = some (.arr [[v]] none false) → OutV S v L → Ints S pv path → (∀ r ∈ pv.refs, r ∉ v.refs ∧ r ≠ ob) → ob ∉ v.refs → path.length ≤ 2000000 → L.length ≤ 2000000 →
  ∃ v' S', callRL Try.prog hints f (pv :: .agg n.cells :: caps) S = some (.bool true, S') ∧ S'[ob]? = some (.arr [[v']] none false) ∧ OutV S' v' (L ++ if c n = true then [path] else []) ∧ Keep S.length (ob :: v.refs) v.refs S S' ∧ (∀ r ∈ v'.refs, r ∈ v.refs ∨ S.length ≤ r)
/-- A path's own copy is appended to the list that a place holds. -/
theorem push23 {b : Nat} {S : Store} {v pv : PV} {L : List (List Int)} {path : List Int} {ob : Nat} (hbox : S[ob]? = some (.arr [[v]] none false)) (hO : OutV S v L) (hp : Ints S pv path) (hd : ∀ r ∈ pv.refs, r ∉ v.refs ∧ r ≠ ob) (hob : ob ∉ v.refs) (hl : path.length ≤ 2000000) (hL : L.length ≤ 2000000) :
    appendE Try.prog b 22 22 (S ++ [.arr [] (some (some 1)) false]) (.msl S.length 0 0 true) pv = some { v := .msl (S.length + 1) 0 path.length false, S := S ++ [.arr [] (some (some 1)) false, .arr (intRows path) (some (some 1)) false] } ∧
    ∃ v' S' S'' ks, appendE Try.prog b 23 23 (S ++ [.arr [] (some (some 1)) false, .arr (intRows path) (some (some 1)) false, .arr [[.msl (S.length + 1) 0 path.length false]] (some (some 1)) false]) v (.msl (S.length + 2) 0 1 true) = some { v := v', S := S', kill := ks } ∧
      storeE (tyi Try.prog 23) S' (.mp ob 0 0) v' = some { v := .skip, S := S'' } ∧ (∀ r ∈ ks, r ∈ v.refs) ∧ S''[ob]? = some (.arr [[v']] none false) ∧ OutV S'' v' (L ++ [path]) ∧ Keep S.length (ob :: v.refs) v.refs S S'' ∧ (∀ r ∈ v'.refs, r ∈ v.refs ∨ S.length ≤ r) := by
  have hobl := (List.getElem?_eq_some_iff.1 hbox).1
  have hv := hO.lt
  have hpl := hp.refs_lt
  refine ⟨?_, ?_⟩
  · have := appendCopy (b := b) (S := S ++ [.arr [] (some (some 1)) false]) (e := S.length) (pv := pv) (path := path) (by simp) (hp.same fun r hr => by rw [List.getElem?_append_left (hpl r hr)]) hl
    simpa using this
  · obtain ⟨v', S', ks, a1, a2, a3, a4, a5, a6⟩ := appendOut6 (b := b) (bid := S.length + 2) (hO.ext [.arr [] (some (some 1)) false, .arr (intRows path) (some (some 1)) false, .arr [[.msl (S.length + 1) 0 path.length false]] (some (some 1)) false])
      (p := .msl (S.length + 1) 0 path.length false) (l := path) (.msl _ _ _ (some (some 1)) false (by rw [List.getElem?_append_right (by omega)]; simp)) (by intro r hr; simp only [PV.refs, List.mem_singleton] at hr; subst hr; intro hx; have := hv _ hx; omega)
      (by rw [List.getElem?_append_right (by omega)]; simp) (by intro hx; have := hv _ hx; omega) hL
    have hlen : (S ++ [Obj.arr [] (some (some 1)) false, .arr (intRows path) (some (some 1)) false, .arr [[.msl (S.length + 1) 0 path.length false]] (some (some 1)) false]).length = S.length + 3 := by simp
    rw [hlen] at a3 a5 a6
    have hb2 : S'[ob]? = some (.arr [[kill1 v.refs v]] none false) := by
      rw [a6 ob (by omega) hob, List.getElem?_append_left hobl, hbox]
      simp only [Option.map_some, killObj_arr, killRows_eq]
      split
      · rfl
      · rename_i hx
        rw [kill1_id]
        simp only [rowsRefs_cons, rowsRefs_nil, refsL, List.append_nil, List.any_eq_true, not_exists, not_and, List.contains_iff_mem] at hx
        exact hx
    have hu : ∀ k n, kill1 v.refs v ≠ .int k n := fun k n h => by
      unfold kill1 at h
      split at h
      · cases h
      · exact hO.cells.2.2 k n h
    have hob' : ob ∉ v'.refs := fun hx => by
      rcases a5 ob hx with h | h
      · exact hob h
      · omega
    have hS'l : ob < S'.length := (List.getElem?_eq_some_iff.1 hb2).1
    refine ⟨v', S', S'.set ob (.arr [[v']] none false), ks, a1, store_box known23 size23 hb2 a2.cells.1 a2.cells.2.1, a4, by simp [hS'l], a2.set hob' hb2 hu _, ⟨by rw [List.length_set]; have := a3.len; omega, fun j hj hx rows g f ha hr => ?_⟩, fun r hr => ?_⟩
    · simp only [List.mem_cons, not_or] at hx
      rw [List.getElem?_set_ne (fun e => hx.1 e.symm)]
      exact a3.keeps j (by omega) hx.2 rows g f (by rw [List.getElem?_append_left hj]; exact ha) fun r h => ⟨by have := (hr r h).1; omega, (hr r h).2⟩
    · rcases a5 r hr with h | h
      · exact .inl h
      · exact .inr (by omega)
theorem yields74 (part : Node) (ob : Nat) : Yields 74 [.mp ob 0 0] [] ob (wanted false part) := by
  intro n hn path v L S pv hF hbox hO hp hd hob hl hL
  have hobl := (List.getElem?_eq_some_iff.1 hbox).1
  have hpl := hp.refs_lt
  have hbox1 : (S ++ [Obj.arr [n.cells] none false])[ob]? = some (.arr [[v]] none false) := by rw [List.getElem?_append_left hobl]; exact hbox
  obtain ⟨p1, v', S', S'', ks, p2, p3, p4, p5, p6, p7, p8⟩ := push23 (b := S.length) hbox1 (hO.ext _) (hp.same fun r hr => by rw [List.getElem?_append_left (hpl r hr)]) hd hob hl hL
  have hln : (S ++ [Obj.arr [n.cells] none false]).length = S.length + 1 := by simp
  rw [hln] at p1 p2 p7 p8
  have r1 := rowsAt_of hbox1
  have k1 : kill1 ks (.mp ob 0 0) = .mp ob 0 0 := kill1_id fun r hr hx => by simp only [PV.refs, List.mem_singleton] at hr; subst hr; exact hob (p4 _ hx)
  refine ⟨v', S'', F74.callR ?_, p5, by simpa [wanted] using p6, ?_, fun r hr => ?_⟩
  · simp only [List.append_assoc, List.cons_append, List.nil_append, Nat.add_assoc, Nat.reduceAdd] at p1 p2
    have s0 : ∀ K : KT, execL (F74.C S.length) 0 F74.c1 K [(0, pv), (1, .agg n.cells), (2, .mp ob 0 0)] S = K .normal (F74.ee0 pv (.mp ob 0 0)) (S ++ [.arr [n.cells] none false]) := fun K => by
      simp only [go_sem, ↓reduceIte, Nat.reduceEqDiff, Nat.reduceBEq, Nat.reduceAdd, Nat.reduceMul, Nat.reduceSub, Nat.reduceLT, Nat.reduceLeDiff, reduceCtorEq, Int.reduceToNat, Int.reduceLE, Int.reduceLT, Int.reduceEq, withV_any]
    have s1 : ∀ K : KT, execL (F74.C S.length) 0 F74.c3 K (F74.ee0 pv (.mp ob 0 0)) (S ++ [.arr [n.cells] none false]) = K .normal [] S'' := fun K => by
      simp only [storeE_eq, known23, if_true, size23] at p3
      simp only [go_sem, ↓reduceIte, Nat.reduceEqDiff, Nat.reduceBEq, Nat.reduceAdd, Nat.reduceMul, Nat.reduceSub, Nat.reduceLT, Nat.reduceLeDiff, reduceCtorEq, Int.reduceToNat, Int.reduceLE, Int.reduceLT, Int.reduceEq, withV_any, r1, p1, p2, get_put, get_killE, k1, p3]
    simp only [F74.E_eq, s0, F74.k10_n, s1, F74.k8_n, F74.g9, withV_any, F74.k7_n, F74.k0_ret1]
  · exact Keep.trans (.same (by simp) fun j hj => List.getElem?_append_left hj) p7 (by omega) (fun r h => .inl h) (fun r h => .inl h)
  · rcases p8 r hr with h | h
    · exact .inl h
    · exact .inr (by omega)
theorem yields77 (part : Node) (hpart : part.ok) (pb ob : Nat) : Yields 77 [.mp pb 0 0, .mp ob 0 0] [(pb, [part.cells])] ob (wanted true part) := by
  intro n hn path v L S pv hF hbox hO hp hd hob hl hL
  have hobl := (List.getElem?_eq_some_iff.1 hbox).1
  have hpl := hp.refs_lt
  obtain ⟨f1, f2, f3, f4, f5⟩ := hF (pb, [part.cells]) (by simp)
  simp only at f1 f2 f3 f4 f5
  have hbox1 : (S ++ [Obj.arr [n.cells] none false])[ob]? = some (.arr [[v]] none false) := by rw [List.getElem?_append_left hobl]; exact hbox
  have hpb1 : (S ++ [Obj.arr [n.cells] none false])[pb]? = some (.arr [part.cells] none false) := by rw [List.getElem?_append_left f1]; exact f4
  have hln : (S ++ [Obj.arr [n.cells] none false]).length = S.length + 1 := by simp
  have r1 := rowsAt_of hbox1
  have r2 := rowsAt_of hpb1
  have hE := fun S => callN2 S (call47 n part hn hpart)
  have s0 : ∀ K : KT, execL (F77.C S.length) 0 F77.c1 K [(0, pv), (1, .agg n.cells), (2, .mp pb 0 0), (3, .mp ob 0 0)] S = K .normal (F77.ee0 pv (.mp pb 0 0) (.mp ob 0 0) (.mp S.length 0 0)) (S ++ [.arr [n.cells] none false]) := fun K => by
    simp only [go_sem, ↓reduceIte, Nat.reduceEqDiff, Nat.reduceBEq, Nat.reduceAdd, Nat.reduceMul, Nat.reduceSub, Nat.reduceLT, Nat.reduceLeDiff, reduceCtorEq, Int.reduceToNat, Int.reduceLE, Int.reduceLT, Int.reduceEq, withV_any]
  have hw : wanted true part n = decide (n.cmp part = 0) := rfl
  have s1 : ∀ K : KT, execL (F77.C S.length) 0 F77.c11 K (F77.ee0 pv (.mp pb 0 0) (.mp ob 0 0) (.mp S.length 0 0)) (S ++ [.arr [n.cells] none false]) = K .normal (F77.ee1 pv (.mp ob 0 0) (.bool (wanted true part n))) (S ++ [.arr [n.cells] none false]) := fun K => by
    rw [hw]
    by_cases hc : n.cmp part = 0
    · simp only [go_sem, ↓reduceIte, Nat.reduceEqDiff, Nat.reduceBEq, Nat.reduceAdd, Nat.reduceMul, Nat.reduceSub, Nat.reduceLT, Nat.reduceLeDiff, reduceCtorEq, Int.reduceToNat, Int.reduceLE, Int.reduceLT, Int.reduceEq, withV_any, r2, hE, hc]
    · simp only [go_sem, ↓reduceIte, Nat.reduceEqDiff, Nat.reduceBEq, Nat.reduceAdd, Nat.reduceMul, Nat.reduceSub, Nat.reduceLT, Nat.reduceLeDiff, reduceCtorEq, Int.reduceToNat, Int.reduceLE, Int.reduceLT, Int.reduceEq, withV_any, r2, hE, hc]
  cases hc : wanted true part n with
  | false =>
    rw [hc] at s1
    refine ⟨v, S ++ [.arr [n.cells] none false], F77.callR ?_, hbox1, by simpa using hO.ext _, .same (by simp) fun j hj => List.getElem?_append_left hj, fun r hr => .inl hr⟩
    simp only [F77.E_eq, s0, F77.k10_n, s1, F77.k13_n, condC_false, F77.k8_n, F77.g9, withV_any, F77.k7_n, F77.k0_ret2]
  | true =>
    rw [hc] at s1
    obtain ⟨p1, v', S', S'', ks, p2, p3, p4, p5, p6, p7, p8⟩ := push23 (b := S.length) hbox1 (hO.ext _) (hp.same fun r hr => by rw [List.getElem?_append_left (hpl r hr)]) hd hob hl hL
    rw [hln] at p1 p2 p7 p8
    have k1 : kill1 ks (.mp ob 0 0) = .mp ob 0 0 := kill1_id fun r hr hx => by simp only [PV.refs, List.mem_singleton] at hr; subst hr; exact hob (p4 _ hx)
    have k2 : kill1 ks pv = pv := kill1_id fun r hr hx => (hd r hr).1 (p4 _ hx)
    have k3 : kill1 ks (.bool true) = .bool true := rfl
    refine ⟨v', S'', F77.callR ?_, p5, by simpa using p6, ?_, fun r hr => ?_⟩
    · simp only [List.append_assoc, List.cons_append, List.nil_append, Nat.add_assoc, Nat.reduceAdd] at p1 p2
      have s2 : ∀ K : KT, execL (F77.C S.length) 0 F77.c14 K (F77.ee1 pv (.mp ob 0 0) (.bool true)) (S ++ [.arr [n.cells] none false]) = K .normal (F77.ee1 pv (.mp ob 0 0) (.bool true)) S'' := fun K => by
        simp only [storeE_eq, known23, if_true, size23] at p3
        simp only [go_sem, ↓reduceIte, Nat.reduceEqDiff, Nat.reduceBEq, Nat.reduceAdd, Nat.reduceMul, Nat.reduceSub, Nat.reduceLT, Nat.reduceLeDiff, reduceCtorEq, Int.reduceToNat, Int.reduceLE, Int.reduceLT, Int.reduceEq, withV_any, r1, p1, p2, get_put, get_killE, k1, k2, k3, p3]
      simp only [F77.E_eq, s0, F77.k10_n, s1, F77.k13_n, condC_true, s2, F77.k8_n, F77.g9, withV_any, F77.k7_n, F77.k0_ret2]
    · exact Keep.trans (.same (by simp) fun j hj => List.getElem?_append_left hj) p7 (by omega) (fun r h => .inl h) (fun r h => .inl h)
    · rcases p8 r hr with h | h
      · exact .inl h
      · exact .inr (by omega)
end Go.Vs
end
