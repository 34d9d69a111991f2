/- Printed by a program of mine (stage1.py): the functions 76, 49, 51, 33, 59, 10, piece by piece. -/

import Derived.Test.YtnddhkcciphhkaaMQ9
set_option linter.unusedVariables false
set_option linter.unusedSimpArgs false
namespace Go.Vs
open Go Go.Proofs
noncomputable section

/-! ### isochroneref08.walk -/
namespace F76
section
variable (b i n n0 : Nat) (K : KT) (x0 x1 x2 x3 x4 x6 x9 x10 x11 x12 x13 x20 x35 : PV) (e : Env) (S : Store)
noncomputable def hint : Hint := { keep := [], loops := [(0, { live := [0, 2, 3, 6, 9, 12], after := [0], own := [], fz := [] })], regs := [(0, [0, 2, 3, 6, 9]), (1, [0, 2, 3, 6, 9, 20]), (2, [0, 2, 3, 6, 9, 11]), (3, [0, 2, 3, 6, 9, 11]), (4, [0, 2, 3, 6, 9, 20]), (5, [0, 2, 3, 6, 9, 12]), (6, [0, 2, 3, 6, 9, 12, 35]), (7, [0, 2, 3, 6, 9, 12]), (8, [0, 2, 3, 6, 9, 12, 13]), (9, [0, 2, 3, 6, 9, 12, 13]), (10, [0, 2, 3, 6, 9, 12, 13]), (11, [0, 2, 3, 6, 9, 12]), (12, [10])] }
noncomputable def C (b : Nat) : Ctx := ctxL Try.prog hints b hint
noncomputable def code : Code := Try.f76.body.get rfl
noncomputable def k0 (b : Nat) : KT := endC Try.prog Try.f76
def ee0 (x0 x2 x3 x6 x9 : PV) : Env := [(0, x0), (2, x2), (3, x3), (6, x6), (9, x9)]
def ee1 (x0 x2 x3 x6 x9 x11 : PV) : Env := [(0, x0), (2, x2), (3, x3), (6, x6), (9, x9), (11, x11)]
def ee2 (x0 x2 x3 x6 x9 x12 : PV) : Env := [(0, x0), (2, x2), (3, x3), (6, x6), (9, x9), (12, x12)]
def ee3 (x0 x2 x3 x6 x9 x12 x13 : PV) : Env := [(0, x0), (2, x2), (3, x3), (6, x6), (9, x9), (12, x12), (13, x13)]
def ee4 (x0 x2 x3 x6 x9 x12 x35 : PV) : Env := [(0, x0), (2, x2), (3, x3), (6, x6), (9, x9), (12, x12), (35, x35)]
def ee5 (x0 x2 x3 x6 x9 x20 : PV) : Env := [(0, x0), (2, x2), (3, x3), (6, x6), (9, x9), (20, x20)]
def ee6 (x10 : PV) : Env := [(10, x10)]
def c1 : Code := at0 code
def c2 : Code := at1 code
def c3 : Code := at0 c2
def c4 : Code := at1 c2
def c5 : Code := at0 c4
def c6 : Code := at1 c4
def c7 : Code := at0 c6
def c8 : Code := at1 c6
def k9 (b : Nat) : KT := seqC (fun e S => execL (C b) 0 c8 (k0 b) e S) (k0 b)
@[go_sem] theorem k9_n : k9 b .normal (ee6 x10) S =
  (k0 b) .ret (ee6 x10) S := nr (seqN (execL_ret (by kernel_rfl)))
def k10 (b : Nat) : KT := seqC (fun e S => execL (C b) 0 c6 (k0 b) e S) (k0 b)
@[go_sem] theorem g11 : execL (C b) 0 c7 K (ee4 x0 x2 x3 x6 x9 x12 x35) S =
  withV (some x0) fun x60 =>
    withV (some x60) fun x10 =>
    K .normal (ee6 x10) S := nr (by kernel_rfl)
@[go_sem] theorem k10_n : k10 b .normal e S = execL (C b) 0 c7 (k9 b) e S := nr (seqN (enterS (by kernel_rfl)))
def k12 (b : Nat) : KT := seqC (fun e S => execL (C b) 0 c4 (k0 b) e S) (k0 b)
def c13 : Code := at0 c5
def c14 : Code := at1 c5
def k15 (b : Nat) : KT := seqC (fun e S => execL (C b) 0 c14 (k10 b) e S) (k10 b)
def c16 : Code := atB c14
def k17 (b : Nat) : KT := blockC 0 (k10 b)
@[go_sem] theorem k17_exit : k17 b (.exit i) e S = if i = 0 then (k10 b) .normal e S else (k10 b) (.exit i) e S := nr (blockC_x _ _ _ _ _)
def c18 : Code := atL c16
def k19 (b n0 : Nat) : KT := afterC 0 n0 [0] (k17 b)
def L0g (b n0 : Nat) (e : Env) (S : Store) : RT := loopL (fun K e S => execL (C b) 0 c18 K e S) (normG [0, 2, 3, 6, 9, 12] [] n0) (k19 b n0) e S
def L0 (b n0 : Nat) (x0 x2 x3 x6 x9 x12 : PV) (S : Store) : RT := L0g b n0 (ee2 x0 x2 x3 x6 x9 x12) S
def k20 (b n0 : Nat) : KT := stepC (normG [0, 2, 3, 6, 9, 12] [] n0) (k19 b n0) (L0g b n0)
@[go_sem] theorem k20_n : k20 b n0 .normal (ee2 x0 x2 x3 x6 x9 x12) S = L0 b n0 x0 x2 x3 x6 x9 x12 (gc n0 (ee2 x0 x2 x3 x6 x9 x12) S) := nr (by kernel_rfl)
@[go_sem] theorem k20_x1 : k20 b n0 (.exit 0) (ee4 x0 x2 x3 x6 x9 x12 x35) S = (k17 b) (.exit 0) (ee4 x0 .undef .undef .undef .undef .undef .undef) (gc n0 (ee4 x0 .undef .undef .undef .undef .undef .undef) S) := nr ((show k20 b n0 (.exit 0) (ee4 x0 x2 x3 x6 x9 x12 x35) S = (k19 b n0) (.exit 0) (ee4 x0 x2 x3 x6 x9 x12 x35) S from stepC_x _ _ _ _ _ _).trans ((show (k19 b n0) (.exit 0) (ee4 x0 x2 x3 x6 x9 x12 x35) S = _ from afterC_x _ _ _ _ _ _ _).trans (if_pos rfl)))
def c21 : Code := at0 c18
def c22 : Code := at1 c18
def c23 : Code := at0 c22
def c24 : Code := at1 c22
def k25 (b n0 : Nat) : KT := seqC (fun e S => execL (C b) 0 c24 (k20 b n0) e S) (k20 b n0)
@[go_sem] theorem g26 : execL (C b) 0 c24 K (ee2 x0 x2 x3 x6 x9 x12) S =
  withV (some x12) fun x36 =>
    withV (evBin .add (tyi Try.prog 3) x36 (.int .i64 1)) fun x37 =>
    withV (some x37) fun x12 =>
    K .normal (ee2 x0 x2 x3 x6 x9 x12) S := nr (by kernel_rfl)
@[go_sem] theorem k25_n : k25 b n0 .normal e S = execL (C b) 0 c24 (k20 b n0) e S := nr (seqN rfl)
def k27 (b n0 : Nat) : KT := seqC (fun e S => execL (C b) 0 c22 (k20 b n0) e S) (k20 b n0)
def c28 : Code := atB c23
def k29 (b n0 : Nat) : KT := blockC 1 (k25 b n0)
@[go_sem] theorem k29_n : k29 b n0 .normal e S = (k25 b n0) .normal e S := nr (blockC_n _ _ _ _)
def c30 : Code := at0 c28
def c31 : Code := at1 c28
def c32 : Code := at0 c31
def c33 : Code := at1 c31
def c34 : Code := at0 c33
def c35 : Code := at1 c33
def k36 (b n0 : Nat) : KT := seqC (fun e S => execL (C b) 1 c35 (k29 b n0) e S) (k29 b n0)
@[go_sem] theorem g37 : execL (C b) 1 c35 K (ee3 x0 x2 x3 x6 x9 x12 x13) S =
  withV (some x0) fun x50 =>
    withV (evFieldAddr (tyi Try.prog 54) 3 x6) fun x51 =>
    withV (evLoad (tyi Try.prog 52) S x51) fun x52 =>
    withV (some x12) fun x53 =>
    withV (indexAddrO Try.prog 52 S x52 x53) fun x54 =>
    withV (evLoad (tyi Try.prog 54) S x54) fun x55 =>
    withV (some x13) fun x56 =>
    withV (some x3) fun x57 =>
    withV (evLoad (tyi Try.prog 54) S x9) fun x58 =>
    withS (callE (C b) S 76 [x50, x55, x56, x57, x58]) fun x59 S =>
    withV (some x59) fun x0 =>
    K .normal (ee2 x0 x2 x3 x6 x9 x12) S := nr (by kernel_rfl)
@[go_sem] theorem k36_n : k36 b n0 .normal e S = execL (C b) 1 c35 (k29 b n0) e S := nr (seqN rfl)
def k38 (b n0 : Nat) : KT := seqC (fun e S => execL (C b) 1 c33 (k29 b n0) e S) (k29 b n0)
@[go_sem] theorem g39 : execL (C b) 1 c34 K (ee3 x0 x2 x3 x6 x9 x12 x13) S =
  withV (some x13) fun x45 =>
    withV (some x2) fun x46 =>
    withV (lenO (tyi Try.prog 22) x46) fun x47 =>
    withV (some x12) fun x48 =>
    withV (indexAddrO Try.prog 22 S x45 x47) fun x49 =>
    withS (storeE (tyi Try.prog 3) S x49 x48) fun _u S =>
    K .normal (ee3 x0 x2 x3 x6 x9 x12 x13) S := nr (by kernel_rfl)
@[go_sem] theorem k38_n : k38 b n0 .normal e S = execL (C b) 1 c34 (k36 b n0) e S := nr (seqN (enterS (by kernel_rfl)))
def k40 (b n0 : Nat) : KT := seqC (fun e S => execL (C b) 1 c31 (k29 b n0) e S) (k29 b n0)
@[go_sem] theorem g41 : execL (C b) 1 c32 K (ee3 x0 x2 x3 x6 x9 x12 x13) S =
  withV (some x13) fun x42 =>
    withV (some x2) fun x43 =>
    withS (copyE Try.prog 22 22 S x42 x43) fun x44 S =>
    K .normal (ee3 x0 x2 x3 x6 x9 x12 x13) S := nr (by kernel_rfl)
@[go_sem] theorem k40_n : k40 b n0 .normal e S = execL (C b) 1 c32 (k38 b n0) e S := nr (seqN (enterS (by kernel_rfl)))
@[go_sem] theorem g42 : execL (C b) 1 c30 K (ee4 x0 x2 x3 x6 x9 x12 x35) S =
  withV (some x2) fun x38 =>
    withV (lenO (tyi Try.prog 22) x38) fun x39 =>
    withV (evBin .add (tyi Try.prog 3) x39 (.int .i64 1)) fun x40 =>
    withN (makeSliceO Try.prog 22 (List.length S) x40 x40) S fun x41 S =>
    withV (some x41) fun x13 =>
    K .normal (ee3 x0 x2 x3 x6 x9 x12 x13) S := nr (by kernel_rfl)
@[go_sem] theorem k27_n : k27 b n0 .normal (ee4 x0 x2 x3 x6 x9 x12 x35) S =
  execL (C b) 1 c30 (k40 b n0) (ee4 x0 x2 x3 x6 x9 x12 x35) S := nr (seqN ((enterS (by kernel_rfl)).trans ((blockE (by kernel_rfl)).trans (enterS (by kernel_rfl)))))
@[go_sem] theorem k27_exit : k27 b n0 (.exit i) e S = (k20 b n0) (.exit i) e S := nr (seqC_x _ _ _ _ _)
def c43 : Code := at0 c21
def c44 : Code := at1 c21
def k45 (b n0 : Nat) : KT := seqC (fun e S => execL (C b) 0 c44 (k27 b n0) e S) (k27 b n0)
@[go_sem] theorem k45_n : k45 b n0 .normal (ee4 x0 x2 x3 x6 x9 x12 x35) S =
  condC x35 ((k27 b n0) .normal (ee4 x0 x2 x3 x6 x9 x12 x35) S)
    ((k27 b n0) (.exit 0) (ee4 x0 x2 x3 x6 x9 x12 x35) S) := nr (seqN (condE (t := 35) (by kernel_rfl) (execL_skip (by kernel_rfl)) (execL_exit (by kernel_rfl)) rfl))
@[go_sem] theorem g48 : execL (C b) 0 c43 K (ee2 x0 x2 x3 x6 x9 x12) S =
  withV (some x12) fun x31 =>
    withV (evFieldAddr (tyi Try.prog 54) 3 x6) fun x32 =>
    withV (evLoad (tyi Try.prog 52) S x32) fun x33 =>
    withV (lenO (tyi Try.prog 52) x33) fun x34 =>
    withV (evBin .lss (tyi Try.prog 3) x31 x34) fun x35 =>
    K .normal (ee4 x0 x2 x3 x6 x9 x12 x35) S := nr (by kernel_rfl)
def B0 (b n0 : Nat) (x0 x2 x3 x6 x9 x12 : PV) (S : Store) : RT := execL (C b) 0 c18 (k20 b n0) (ee2 x0 x2 x3 x6 x9 x12) S
@[go_sem] theorem B0_eq : B0 b n0 x0 x2 x3 x6 x9 x12 S =
  execL (C b) 0 c43 (k45 b n0) (ee2 x0 x2 x3 x6 x9 x12) S := nr ((enterS (by kernel_rfl)).trans (enterS (by kernel_rfl)))
theorem L0_step {b n0 : Nat} {x0 x2 x3 x6 x9 x12 : PV} {S : Store} {z : PV × Store} (h : B0 b n0 x0 x2 x3 x6 x9 x12 S = some z) : L0 b n0 x0 x2 x3 x6 x9 x12 S = some z := loopL_step h
theorem L0_in (b : Nat) (x0 x2 x3 x6 x9 x12 : PV) (S : Store) : execL (C b) 0 c16 (k17 b) (ee2 x0 x2 x3 x6 x9 x12) S = L0 b (List.length S) x0 x2 x3 x6 x9 x12 S := by kernel_rfl
@[go_sem] theorem k15_n : k15 b .normal (ee2 x0 x2 x3 x6 x9 x12) S =
  L0 b (List.length S) x0 x2 x3 x6 x9 x12 S := nr (seqN ((blockE (by kernel_rfl)).trans (L0_in b x0 x2 x3 x6 x9 x12 S)))
@[go_sem] theorem g50 : execL (C b) 0 c13 K (ee5 x0 x2 x3 x6 x9 x20) S =
  withV (some (.int .i64 0)) fun x12 =>
    K .normal (ee2 x0 x2 x3 x6 x9 x12) S := nr (by kernel_rfl)
@[go_sem] theorem k12_n : k12 b .normal (ee5 x0 x2 x3 x6 x9 x20) S =
  execL (C b) 0 c13 (k15 b) (ee5 x0 x2 x3 x6 x9 x20) S := nr (seqN ((enterS (by kernel_rfl)).trans (enterS (by kernel_rfl))))
def k51 (b : Nat) : KT := seqC (fun e S => execL (C b) 0 c2 (k0 b) e S) (k0 b)
def c52 : Code := at0 c3
def c53 : Code := at1 c3
def k54 (b : Nat) : KT := seqC (fun e S => execL (C b) 0 c53 (k12 b) e S) (k12 b)
def c55 : Code := atT c53
def c58 : Code := at0 c55
def c59 : Code := at1 c55
def c60 : Code := at0 c59
def c61 : Code := at1 c59
def k62 (b : Nat) : KT := seqC (fun e S => execL (C b) 0 c61 (k12 b) e S) (k12 b)
@[go_sem] theorem g63 : execL (C b) 0 c61 K (ee1 x0 x2 x3 x6 x9 x11) S =
  withV (some x0) fun x27 =>
    withV (some x11) fun x28 =>
    withN (buildSliceO Try.prog 23 (List.length S) 1 [0] [PV.cells x28]) S fun x29 S =>
    withE (appendE Try.prog b 23 23 S x27 x29) [(0, x0), (2, x2), (3, x3), (6, x6), (9, x9), (11, x11), (27, x27), (28, x28), (29, x29)] fun x30 e1 S =>
    withV (some (Vs.get (put e1 30 x30) 30)) fun x0 =>
    K .normal (ee5 (Vs.get (put (put e1 30 x30) 0 x0) 0) (Vs.get (put (put e1 30 x30) 0 x0) 2) (Vs.get (put (put e1 30 x30) 0 x0) 3) (Vs.get (put (put e1 30 x30) 0 x0) 6) (Vs.get (put (put e1 30 x30) 0 x0) 9) (Vs.get (put (put e1 30 x30) 0 x0) 20)) S := nr (by kernel_rfl)
@[go_sem] theorem k62_n : k62 b .normal e S = execL (C b) 0 c61 (k12 b) e S := nr (seqN rfl)
def k64 (b : Nat) : KT := seqC (fun e S => execL (C b) 0 c59 (k12 b) e S) (k12 b)
@[go_sem] theorem g65 : execL (C b) 0 c60 K (ee1 x0 x2 x3 x6 x9 x11) S =
  withV (some x11) fun x24 =>
    withV (some x2) fun x25 =>
    withS (copyE Try.prog 22 22 S x24 x25) fun x26 S =>
    K .normal (ee1 x0 x2 x3 x6 x9 x11) S := nr (by kernel_rfl)
@[go_sem] theorem k64_n : k64 b .normal e S = execL (C b) 0 c60 (k62 b) e S := nr (seqN (enterS (by kernel_rfl)))
@[go_sem] theorem g66 : execL (C b) 0 c58 K (ee5 x0 x2 x3 x6 x9 x20) S =
  withV (some x2) fun x21 =>
    withV (lenO (tyi Try.prog 22) x21) fun x22 =>
    withN (makeSliceO Try.prog 22 (List.length S) x22 x22) S fun x23 S =>
    withV (some x23) fun x11 =>
    K .normal (ee1 x0 x2 x3 x6 x9 x11) S := nr (by kernel_rfl)
@[go_sem] theorem k54_n : k54 b .normal (ee5 x0 x2 x3 x6 x9 x20) S =
  condC x20 (execL (C b) 0 c58 (k64 b) (ee5 x0 x2 x3 x6 x9 x20) S)
    ((k12 b) .normal (ee5 x0 x2 x3 x6 x9 x20) S) := nr (seqN (condE (t := 20) (by kernel_rfl) (enterS (by kernel_rfl)) (execL_skip (by kernel_rfl)) rfl))
@[go_sem] theorem g67 : execL (C b) 0 c52 K (ee0 x0 x2 x3 x6 x9) S =
  withV (some x3) fun x14 =>
    withV (evUn .not x14) fun x15 =>
    withV (some x15) fun x16 =>
    withV (gval x16 false (evLoad (tyi Try.prog 54) S x6)) fun x17 =>
    withV (gval x16 false (evLoad (tyi Try.prog 54) S x9)) fun x18 =>
    withN (gout x16 false (callO (callL Try.prog hints) S 56 [x17, x18])) S fun x19 S =>
    withV (pickO x16 (.bool true) x19) fun x20 =>
    K .normal (ee5 x0 x2 x3 x6 x9 x20) S := nr (by kernel_rfl)
@[go_sem] theorem k51_n : k51 b .normal (ee0 x0 x2 x3 x6 x9) S =
  execL (C b) 0 c52 (k54 b) (ee0 x0 x2 x3 x6 x9) S := nr (seqN ((enterS (by kernel_rfl)).trans (enterS (by kernel_rfl))))
@[go_sem] theorem g68 : execL (C b) 0 c1 K [(0, x0), (1, x1), (2, x2), (3, x3), (4, x4)] S =
  withN (boxed S (List.length S) (TI.size (tyi Try.prog 54)) x1) S fun x6 S =>
    withN (boxed S (List.length S) (TI.size (tyi Try.prog 54)) x4) S fun x9 S =>
    withV (some (.sl [] true)) fun x10 =>
    K .normal (ee0 x0 x2 x3 x6 x9) S := nr (by kernel_rfl)
def E (b : Nat) (x0 x1 x2 x3 x4 : PV) (S : Store) : RT := execL (C b) 0 code (k0 b) [(0, x0), (1, x1), (2, x2), (3, x3), (4, x4)] S
@[go_sem] theorem E_eq : E b x0 x1 x2 x3 x4 S =
  execL (C b) 0 c1 (k51 b) [(0, x0), (1, x1), (2, x2), (3, x3), (4, x4)] S := nr (enterS (by kernel_rfl))
@[go_sem] theorem gc_ee4 : gc n (ee4 x0 x2 x3 x6 x9 x12 x35) S = gc n [(0, x0), (2, x2), (3, x3), (6, x6), (9, x9), (12, x12), (35, x35)] S := nr (rfl)
@[go_sem] theorem k0_ret6 : k0 b .ret (ee6 x10) S = some (x10, S) := nr (by kernel_rfl)
theorem callR {x0 x1 x2 x3 x4 : PV} {S : Store} {r : PV × Store} (h : E S.length x0 x1 x2 x3 x4 S = some r) : callRL Try.prog hints 76 [x0, x1, x2, x3, x4] S = some r := callRL_of (fn := Try.f76) (c := code) (by kernel_rfl) (by kernel_rfl) (by decide) (by kernel_rfl) (Nat.le_of_ble_eq_true (by kernel_rfl)) h
end
end F76
/-! ### isochroneref08.Paths -/
namespace F49
section
variable (b : Nat) (K : KT) (x0 x1 x2 x3 x4 x8 : PV) (e : Env) (S : Store)
noncomputable def hint : Hint := { keep := [], loops := [], regs := [(0, [1]), (1, [1, 4]), (2, [1, 4, 8]), (3, [2, 3]), (4, [2, 3])] }
noncomputable def C (b : Nat) : Ctx := ctxL Try.prog hints b hint
noncomputable def code : Code := Try.f49.body.get rfl
noncomputable def k0 (b : Nat) : KT := endC Try.prog Try.f49
def ee0 (x1 : PV) : Env := [(1, x1)]
def ee1 (x1 x4 : PV) : Env := [(1, x1), (4, x4)]
def ee2 (x1 x4 x8 : PV) : Env := [(1, x1), (4, x4), (8, x8)]
def ee3 (x2 x3 : PV) : Env := [(2, x2), (3, x3)]
def c1 : Code := at0 code
def c2 : Code := at1 code
def c3 : Code := at0 c2
def c4 : Code := at1 c2
def c5 : Code := at0 c4
def c6 : Code := at1 c4
def k7 (b : Nat) : KT := seqC (fun e S => execL (C b) 0 c6 (k0 b) e S) (k0 b)
@[go_sem] theorem k7_n : k7 b .normal (ee3 x2 x3) S =
  (k0 b) .ret (ee3 x2 x3) S := nr (seqN (execL_ret (by kernel_rfl)))
def k8 (b : Nat) : KT := seqC (fun e S => execL (C b) 0 c4 (k0 b) e S) (k0 b)
@[go_sem] theorem g9 : execL (C b) 0 c5 K (ee2 x1 x4 x8) S =
  withV (evLoad (tyi Try.prog 54) S x1) fun x10 =>
    withV (buildO (tyi Try.prog 54) []) fun x11 =>
    withS (callE (C b) S 76 [(.sl [] true), x10, (.sl [] true), (.bool false), x11]) fun x12 S =>
    withV (some x12) fun x2 =>
    withV (some (.int .i64 0)) fun x3 =>
    K .normal (ee3 x2 x3) S := nr (by kernel_rfl)
@[go_sem] theorem k8_n : k8 b .normal e S = execL (C b) 0 c5 (k7 b) e S := nr (seqN (enterS (by kernel_rfl)))
@[go_sem] theorem k8_ret : k8 b .ret e S = (k0 b) .ret e S := nr (seqC_r _ _ _ _)
def k10 (b : Nat) : KT := seqC (fun e S => execL (C b) 0 c2 (k0 b) e S) (k0 b)
def c11 : Code := at0 c3
def c12 : Code := at1 c3
def c13 : Code := at0 c12
def c14 : Code := at1 c12
def k15 (b : Nat) : KT := seqC (fun e S => execL (C b) 0 c14 (k8 b) e S) (k8 b)
def c16 : Code := atT c14
def c19 : Code := at0 c16
def c20 : Code := at1 c16
def k21 (b : Nat) : KT := seqC (fun e S => execL (C b) 0 c20 (k8 b) e S) (k8 b)
@[go_sem] theorem k21_n : k21 b .normal (ee3 x2 x3) S =
  (k8 b) .ret (ee3 x2 x3) S := nr (seqN (execL_ret (by kernel_rfl)))
@[go_sem] theorem g22 : execL (C b) 0 c19 K (ee2 x1 x4 x8) S =
  withV (some x4) fun x9 =>
    withV (some (.sl [] true)) fun x2 =>
    withV (some x9) fun x3 =>
    K .normal (ee3 x2 x3) S := nr (by kernel_rfl)
@[go_sem] theorem k15_n : k15 b .normal (ee2 x1 x4 x8) S =
  condC x8 (execL (C b) 0 c19 (k21 b) (ee2 x1 x4 x8) S)
    ((k8 b) .normal (ee2 x1 x4 x8) S) := nr (seqN (condE (t := 8) (by kernel_rfl) (enterS (by kernel_rfl)) (execL_skip (by kernel_rfl)) rfl))
def k23 (b : Nat) : KT := seqC (fun e S => execL (C b) 0 c12 (k8 b) e S) (k8 b)
@[go_sem] theorem g24 : execL (C b) 0 c13 K (ee1 x1 x4) S =
  withV (some x4) fun x7 =>
    withV (evBin .neq (tyi Try.prog 29) x7 (.int .i64 0)) fun x8 =>
    K .normal (ee2 x1 x4 x8) S := nr (by kernel_rfl)
@[go_sem] theorem k23_n : k23 b .normal e S = execL (C b) 0 c13 (k15 b) e S := nr (seqN (enterS (by kernel_rfl)))
@[go_sem] theorem g25 : execL (C b) 0 c11 K (ee0 x1) S =
  withV (evLoad (tyi Try.prog 54) S x1) fun x5 =>
    withN (callO (callL Try.prog hints) S 75 [x5]) S fun x6 S =>
    withV (some x6) fun x4 =>
    K .normal (ee1 x1 x4) S := nr (by kernel_rfl)
@[go_sem] theorem k10_n : k10 b .normal (ee0 x1) S =
  execL (C b) 0 c11 (k23 b) (ee0 x1) S := nr (seqN ((enterS (by kernel_rfl)).trans (enterS (by kernel_rfl))))
@[go_sem] theorem g26 : execL (C b) 0 c1 K [(0, x0)] S =
  withN (boxed S (List.length S) (TI.size (tyi Try.prog 54)) x0) S fun x1 S =>
    withV (some (.sl [] true)) fun x2 =>
    withV (some (.int .i64 0)) fun x3 =>
    K .normal (ee0 x1) S := nr (by kernel_rfl)
def E (b : Nat) (x0 : PV) (S : Store) : RT := execL (C b) 0 code (k0 b) [(0, x0)] S
@[go_sem] theorem E_eq : E b x0 S =
  execL (C b) 0 c1 (k10 b) [(0, x0)] S := nr (enterS (by kernel_rfl))
@[go_sem] theorem k0_ret3 : k0 b .ret (ee3 x2 x3) S = some ((.tup [x2, x3]), S) := nr (by kernel_rfl)
theorem call {x0 : PV} {r : PV × Store} {v : PV} (h : E 0 x0 [] = some r) (hv : fzPV r.2 r.1 = some v) : callL Try.prog hints 49 [x0] = some v := callL_of (fn := Try.f49) (c := code) (by kernel_rfl) (by kernel_rfl) (by decide) (by kernel_rfl) (Nat.le_of_ble_eq_true (by kernel_rfl)) h hv
end
end F49
/-! ### isochroneref08.Find -/
namespace F51
section
variable (b : Nat) (K : KT) (x0 x1 x2 x3 x4 x5 x6 x10 : PV) (e : Env) (S : Store)
noncomputable def hint : Hint := { keep := [], loops := [], regs := [(0, [2, 3]), (1, [2, 3, 6]), (2, [2, 3, 6, 10]), (3, [4, 5]), (4, [4, 5])] }
noncomputable def C (b : Nat) : Ctx := ctxL Try.prog hints b hint
noncomputable def code : Code := Try.f51.body.get rfl
noncomputable def k0 (b : Nat) : KT := endC Try.prog Try.f51
def ee0 (x2 x3 : PV) : Env := [(2, x2), (3, x3)]
def ee1 (x2 x3 x6 : PV) : Env := [(2, x2), (3, x3), (6, x6)]
def ee2 (x2 x3 x6 x10 : PV) : Env := [(2, x2), (3, x3), (6, x6), (10, x10)]
def ee3 (x4 x5 : PV) : Env := [(4, x4), (5, x5)]
def c1 : Code := at0 code
def c2 : Code := at1 code
def c3 : Code := at0 c2
def c4 : Code := at1 c2
def c5 : Code := at0 c4
def c6 : Code := at1 c4
def k7 (b : Nat) : KT := seqC (fun e S => execL (C b) 0 c6 (k0 b) e S) (k0 b)
@[go_sem] theorem k7_n : k7 b .normal (ee3 x4 x5) S =
  (k0 b) .ret (ee3 x4 x5) S := nr (seqN (execL_ret (by kernel_rfl)))
def k8 (b : Nat) : KT := seqC (fun e S => execL (C b) 0 c4 (k0 b) e S) (k0 b)
@[go_sem] theorem g9 : execL (C b) 0 c5 K (ee2 x2 x3 x6 x10) S =
  withV (evLoad (tyi Try.prog 54) S x2) fun x12 =>
    withV (evLoad (tyi Try.prog 54) S x3) fun x13 =>
    withS (callE (C b) S 76 [(.sl [] true), x12, (.sl [] true), (.bool true), x13]) fun x14 S =>
    withV (some x14) fun x4 =>
    withV (some (.int .i64 0)) fun x5 =>
    K .normal (ee3 x4 x5) S := nr (by kernel_rfl)
@[go_sem] theorem k8_n : k8 b .normal e S = execL (C b) 0 c5 (k7 b) e S := nr (seqN (enterS (by kernel_rfl)))
@[go_sem] theorem k8_ret : k8 b .ret e S = (k0 b) .ret e S := nr (seqC_r _ _ _ _)
def k10 (b : Nat) : KT := seqC (fun e S => execL (C b) 0 c2 (k0 b) e S) (k0 b)
def c11 : Code := at0 c3
def c12 : Code := at1 c3
def c13 : Code := at0 c12
def c14 : Code := at1 c12
def k15 (b : Nat) : KT := seqC (fun e S => execL (C b) 0 c14 (k8 b) e S) (k8 b)
def c16 : Code := atT c14
def c19 : Code := at0 c16
def c20 : Code := at1 c16
def k21 (b : Nat) : KT := seqC (fun e S => execL (C b) 0 c20 (k8 b) e S) (k8 b)
@[go_sem] theorem k21_n : k21 b .normal (ee3 x4 x5) S =
  (k8 b) .ret (ee3 x4 x5) S := nr (seqN (execL_ret (by kernel_rfl)))
@[go_sem] theorem g22 : execL (C b) 0 c19 K (ee2 x2 x3 x6 x10) S =
  withV (some x6) fun x11 =>
    withV (some (.sl [] true)) fun x4 =>
    withV (some x11) fun x5 =>
    K .normal (ee3 x4 x5) S := nr (by kernel_rfl)
@[go_sem] theorem k15_n : k15 b .normal (ee2 x2 x3 x6 x10) S =
  condC x10 (execL (C b) 0 c19 (k21 b) (ee2 x2 x3 x6 x10) S)
    ((k8 b) .normal (ee2 x2 x3 x6 x10) S) := nr (seqN (condE (t := 10) (by kernel_rfl) (enterS (by kernel_rfl)) (execL_skip (by kernel_rfl)) rfl))
def k23 (b : Nat) : KT := seqC (fun e S => execL (C b) 0 c12 (k8 b) e S) (k8 b)
@[go_sem] theorem g24 : execL (C b) 0 c13 K (ee1 x2 x3 x6) S =
  withV (some x6) fun x9 =>
    withV (evBin .neq (tyi Try.prog 29) x9 (.int .i64 0)) fun x10 =>
    K .normal (ee2 x2 x3 x6 x10) S := nr (by kernel_rfl)
@[go_sem] theorem k23_n : k23 b .normal e S = execL (C b) 0 c13 (k15 b) e S := nr (seqN (enterS (by kernel_rfl)))
@[go_sem] theorem g25 : execL (C b) 0 c11 K (ee0 x2 x3) S =
  withV (evLoad (tyi Try.prog 54) S x2) fun x7 =>
    withN (callO (callL Try.prog hints) S 75 [x7]) S fun x8 S =>
    withV (some x8) fun x6 =>
    K .normal (ee1 x2 x3 x6) S := nr (by kernel_rfl)
@[go_sem] theorem k10_n : k10 b .normal (ee0 x2 x3) S =
  execL (C b) 0 c11 (k23 b) (ee0 x2 x3) S := nr (seqN ((enterS (by kernel_rfl)).trans (enterS (by kernel_rfl))))
@[go_sem] theorem g26 : execL (C b) 0 c1 K [(0, x0), (1, x1)] S =
  withN (boxed S (List.length S) (TI.size (tyi Try.prog 54)) x0) S fun x2 S =>
    withN (boxed S (List.length S) (TI.size (tyi Try.prog 54)) x1) S fun x3 S =>
    withV (some (.sl [] true)) fun x4 =>
    withV (some (.int .i64 0)) fun x5 =>
    K .normal (ee0 x2 x3) S := nr (by kernel_rfl)
def E (b : Nat) (x0 x1 : PV) (S : Store) : RT := execL (C b) 0 code (k0 b) [(0, x0), (1, x1)] S
@[go_sem] theorem E_eq : E b x0 x1 S =
  execL (C b) 0 c1 (k10 b) [(0, x0), (1, x1)] S := nr (enterS (by kernel_rfl))
@[go_sem] theorem k0_ret3 : k0 b .ret (ee3 x4 x5) S = some ((.tup [x4, x5]), S) := nr (by kernel_rfl)
theorem call {x0 x1 : PV} {r : PV × Store} {v : PV} (h : E 0 x0 x1 [] = some r) (hv : fzPV r.2 r.1 = some v) : callL Try.prog hints 51 [x0, x1] = some v := callL_of (fn := Try.f51) (c := code) (by kernel_rfl) (by kernel_rfl) (by decide) (by kernel_rfl) (Nat.le_of_ble_eq_true (by kernel_rfl)) h hv
end
end F51
/-! ### isochroneref08.SamePaths -/
namespace F33
section
variable (b i n n0 : Nat) (K : KT) (x0 x1 x4 x5 x10 x14 x26 : PV) (e : Env) (S : Store)
noncomputable def hint : Hint := { keep := [], loops := [(0, { live := [0, 1, 5], after := [], own := [], fz := [] })], regs := [(0, [0, 1]), (1, [0, 1, 10]), (2, [4]), (3, [0, 1, 5]), (4, [0, 1, 5, 14]), (5, [0, 1, 5]), (6, [0, 1, 5, 26]), (7, [4]), (8, [4])] }
noncomputable def C (b : Nat) : Ctx := ctxL Try.prog hints b hint
noncomputable def code : Code := Try.f33.body.get rfl
noncomputable def k0 (b : Nat) : KT := endC Try.prog Try.f33
def ee0 (x0 x1 : PV) : Env := [(0, x0), (1, x1)]
def ee1 (x0 x1 x5 : PV) : Env := [(0, x0), (1, x1), (5, x5)]
def ee2 (x0 x1 x5 x14 : PV) : Env := [(0, x0), (1, x1), (5, x5), (14, x14)]
def ee3 (x0 x1 x5 x26 : PV) : Env := [(0, x0), (1, x1), (5, x5), (26, x26)]
def ee4 (x0 x1 x10 : PV) : Env := [(0, x0), (1, x1), (10, x10)]
def ee5 (x4 : PV) : Env := [(4, x4)]
def c1 : Code := at0 code
def c2 : Code := at1 code
def c3 : Code := at0 c2
def c4 : Code := at1 c2
def c5 : Code := at0 c4
def c6 : Code := at1 c4
def c7 : Code := at0 c6
def c8 : Code := at1 c6
def k9 (b : Nat) : KT := seqC (fun e S => execL (C b) 0 c8 (k0 b) e S) (k0 b)
@[go_sem] theorem k9_n : k9 b .normal (ee5 x4) S =
  (k0 b) .ret (ee5 x4) S := nr (seqN (execL_ret (by kernel_rfl)))
def k10 (b : Nat) : KT := seqC (fun e S => execL (C b) 0 c6 (k0 b) e S) (k0 b)
@[go_sem] theorem g11 : execL (C b) 0 c7 K (ee2 x0 x1 x5 x14) S =
  withV (some (.bool true)) fun x4 =>
    K .normal (ee5 x4) S := nr (by kernel_rfl)
@[go_sem] theorem k10_n : k10 b .normal e S = execL (C b) 0 c7 (k9 b) e S := nr (seqN (enterS (by kernel_rfl)))
def k12 (b : Nat) : KT := seqC (fun e S => execL (C b) 0 c4 (k0 b) e S) (k0 b)
def c13 : Code := at0 c5
def c14 : Code := at1 c5
def k15 (b : Nat) : KT := seqC (fun e S => execL (C b) 0 c14 (k10 b) e S) (k10 b)
def c16 : Code := atB c14
def k17 (b : Nat) : KT := blockC 0 (k10 b)
@[go_sem] theorem k17_exit : k17 b (.exit i) e S = if i = 0 then (k10 b) .normal e S else (k10 b) (.exit i) e S := nr (blockC_x _ _ _ _ _)
def c18 : Code := atL c16
def k19 (b n0 : Nat) : KT := afterC 0 n0 [] (k17 b)
def L0g (b n0 : Nat) (e : Env) (S : Store) : RT := loopL (fun K e S => execL (C b) 0 c18 K e S) (normG [0, 1, 5] [] n0) (k19 b n0) e S
def L0 (b n0 : Nat) (x0 x1 x5 : PV) (S : Store) : RT := L0g b n0 (ee1 x0 x1 x5) S
def k20 (b n0 : Nat) : KT := stepC (normG [0, 1, 5] [] n0) (k19 b n0) (L0g b n0)
@[go_sem] theorem k20_n : k20 b n0 .normal (ee1 x0 x1 x5) S = L0 b n0 x0 x1 x5 (gc n0 (ee1 x0 x1 x5) S) := nr (by kernel_rfl)
@[go_sem] theorem k20_x1 : k20 b n0 (.exit 0) (ee2 x0 x1 x5 x14) S = (k17 b) (.exit 0) (ee2 .undef .undef .undef .undef) (gc n0 (ee2 .undef .undef .undef .undef) S) := nr ((show k20 b n0 (.exit 0) (ee2 x0 x1 x5 x14) S = (k19 b n0) (.exit 0) (ee2 x0 x1 x5 x14) S from stepC_x _ _ _ _ _ _).trans ((show (k19 b n0) (.exit 0) (ee2 x0 x1 x5 x14) S = _ from afterC_x _ _ _ _ _ _ _).trans (if_pos rfl)))
def c21 : Code := at0 c18
def c22 : Code := at1 c18
def c23 : Code := at0 c22
def c24 : Code := at1 c22
def k25 (b n0 : Nat) : KT := seqC (fun e S => execL (C b) 0 c24 (k20 b n0) e S) (k20 b n0)
@[go_sem] theorem g26 : execL (C b) 0 c24 K (ee3 x0 x1 x5 x26) S =
  withV (some x5) fun x15 =>
    withV (evBin .add (tyi Try.prog 3) x15 (.int .i64 1)) fun x16 =>
    withV (some x16) fun x5 =>
    K .normal (ee1 x0 x1 x5) S := nr (by kernel_rfl)
@[go_sem] theorem k25_n : k25 b n0 .normal e S = execL (C b) 0 c24 (k20 b n0) e S := nr (seqN rfl)
def k27 (b n0 : Nat) : KT := seqC (fun e S => execL (C b) 0 c22 (k20 b n0) e S) (k20 b n0)
def c28 : Code := atB c23
def k29 (b n0 : Nat) : KT := blockC 1 (k25 b n0)
@[go_sem] theorem k29_n : k29 b n0 .normal e S = (k25 b n0) .normal e S := nr (blockC_n _ _ _ _)
def c30 : Code := at0 c28
def c31 : Code := at1 c28
def k32 (b n0 : Nat) : KT := seqC (fun e S => execL (C b) 1 c31 (k29 b n0) e S) (k29 b n0)
def c33 : Code := atT c31
def c36 : Code := at0 c33
def c37 : Code := at1 c33
def k38 (b n0 : Nat) : KT := seqC (fun e S => execL (C b) 1 c37 (k29 b n0) e S) (k29 b n0)
@[go_sem] theorem k32_n : k32 b n0 .normal (ee3 x0 x1 x5 x26) S =
  condC x26 (execL (C b) 1 c36 (k38 b n0) (ee3 x0 x1 x5 x26) S)
    ((k29 b n0) .normal (ee3 x0 x1 x5 x26) S) := nr (seqN (condE (t := 26) (by kernel_rfl) (enterS (by kernel_rfl)) (execL_skip (by kernel_rfl)) rfl))
@[go_sem] theorem g40 : execL (C b) 1 c30 K (ee2 x0 x1 x5 x14) S =
  withV (some x0) fun x17 =>
    withV (some x5) fun x18 =>
    withV (indexAddrO Try.prog 23 S x17 x18) fun x19 =>
    withV (evLoad (tyi Try.prog 22) S x19) fun x20 =>
    withV (some x1) fun x21 =>
    withV (some x5) fun x22 =>
    withV (indexAddrO Try.prog 23 S x21 x22) fun x23 =>
    withV (evLoad (tyi Try.prog 22) S x23) fun x24 =>
    withN (callO (callL Try.prog hints) S 59 [x20, x24]) S fun x25 S =>
    withV (evUn .not x25) fun x26 =>
    K .normal (ee3 x0 x1 x5 x26) S := nr (by kernel_rfl)
@[go_sem] theorem k27_n : k27 b n0 .normal (ee2 x0 x1 x5 x14) S =
  execL (C b) 1 c30 (k32 b n0) (ee2 x0 x1 x5 x14) S := nr (seqN ((enterS (by kernel_rfl)).trans ((blockE (by kernel_rfl)).trans (enterS (by kernel_rfl)))))
@[go_sem] theorem k27_exit : k27 b n0 (.exit i) e S = (k20 b n0) (.exit i) e S := nr (seqC_x _ _ _ _ _)
def c41 : Code := at0 c21
def c42 : Code := at1 c21
def k43 (b n0 : Nat) : KT := seqC (fun e S => execL (C b) 0 c42 (k27 b n0) e S) (k27 b n0)
@[go_sem] theorem k43_n : k43 b n0 .normal (ee2 x0 x1 x5 x14) S =
  condC x14 ((k27 b n0) .normal (ee2 x0 x1 x5 x14) S)
    ((k27 b n0) (.exit 0) (ee2 x0 x1 x5 x14) S) := nr (seqN (condE (t := 14) (by kernel_rfl) (execL_skip (by kernel_rfl)) (execL_exit (by kernel_rfl)) rfl))
@[go_sem] theorem g46 : execL (C b) 0 c41 K (ee1 x0 x1 x5) S =
  withV (some x5) fun x11 =>
    withV (some x0) fun x12 =>
    withV (lenO (tyi Try.prog 23) x12) fun x13 =>
    withV (evBin .lss (tyi Try.prog 3) x11 x13) fun x14 =>
    K .normal (ee2 x0 x1 x5 x14) S := nr (by kernel_rfl)
def B0 (b n0 : Nat) (x0 x1 x5 : PV) (S : Store) : RT := execL (C b) 0 c18 (k20 b n0) (ee1 x0 x1 x5) S
@[go_sem] theorem B0_eq : B0 b n0 x0 x1 x5 S =
  execL (C b) 0 c41 (k43 b n0) (ee1 x0 x1 x5) S := nr ((enterS (by kernel_rfl)).trans (enterS (by kernel_rfl)))
theorem L0_step {b n0 : Nat} {x0 x1 x5 : PV} {S : Store} {z : PV × Store} (h : B0 b n0 x0 x1 x5 S = some z) : L0 b n0 x0 x1 x5 S = some z := loopL_step h
theorem L0_in (b : Nat) (x0 x1 x5 : PV) (S : Store) : execL (C b) 0 c16 (k17 b) (ee1 x0 x1 x5) S = L0 b (List.length S) x0 x1 x5 S := by kernel_rfl
@[go_sem] theorem k15_n : k15 b .normal (ee1 x0 x1 x5) S =
  L0 b (List.length S) x0 x1 x5 S := nr (seqN ((blockE (by kernel_rfl)).trans (L0_in b x0 x1 x5 S)))
@[go_sem] theorem g48 : execL (C b) 0 c13 K (ee4 x0 x1 x10) S =
  withV (some (.int .i64 0)) fun x5 =>
    K .normal (ee1 x0 x1 x5) S := nr (by kernel_rfl)
@[go_sem] theorem k12_n : k12 b .normal (ee4 x0 x1 x10) S =
  execL (C b) 0 c13 (k15 b) (ee4 x0 x1 x10) S := nr (seqN ((enterS (by kernel_rfl)).trans (enterS (by kernel_rfl))))
def k49 (b : Nat) : KT := seqC (fun e S => execL (C b) 0 c2 (k0 b) e S) (k0 b)
def c50 : Code := at0 c3
def c51 : Code := at1 c3
def k52 (b : Nat) : KT := seqC (fun e S => execL (C b) 0 c51 (k12 b) e S) (k12 b)
def c53 : Code := atT c51
def c56 : Code := at0 c53
def c57 : Code := at1 c53
def k58 (b : Nat) : KT := seqC (fun e S => execL (C b) 0 c57 (k12 b) e S) (k12 b)
@[go_sem] theorem k52_n : k52 b .normal (ee4 x0 x1 x10) S =
  condC x10 (execL (C b) 0 c56 (k58 b) (ee4 x0 x1 x10) S)
    ((k12 b) .normal (ee4 x0 x1 x10) S) := nr (seqN (condE (t := 10) (by kernel_rfl) (enterS (by kernel_rfl)) (execL_skip (by kernel_rfl)) rfl))
@[go_sem] theorem g60 : execL (C b) 0 c50 K (ee0 x0 x1) S =
  withV (some x0) fun x6 =>
    withV (lenO (tyi Try.prog 23) x6) fun x7 =>
    withV (some x1) fun x8 =>
    withV (lenO (tyi Try.prog 23) x8) fun x9 =>
    withV (evBin .neq (tyi Try.prog 3) x7 x9) fun x10 =>
    K .normal (ee4 x0 x1 x10) S := nr (by kernel_rfl)
@[go_sem] theorem k49_n : k49 b .normal (ee0 x0 x1) S =
  execL (C b) 0 c50 (k52 b) (ee0 x0 x1) S := nr (seqN ((enterS (by kernel_rfl)).trans (enterS (by kernel_rfl))))
@[go_sem] theorem g61 : execL (C b) 0 c1 K (ee0 x0 x1) S =
  withV (some (.bool false)) fun x4 =>
    K .normal (ee0 x0 x1) S := nr (by kernel_rfl)
def E (b : Nat) (x0 x1 : PV) (S : Store) : RT := execL (C b) 0 code (k0 b) (ee0 x0 x1) S
@[go_sem] theorem E_eq : E b x0 x1 S =
  execL (C b) 0 c1 (k49 b) (ee0 x0 x1) S := nr (enterS (by kernel_rfl))
@[go_sem] theorem k0_ret5 : k0 b .ret (ee5 x4) S = some (x4, S) := nr (by kernel_rfl)
theorem call {x0 x1 : PV} {r : PV × Store} {v : PV} (h : E 0 x0 x1 [] = some r) (hv : fzPV r.2 r.1 = some v) : callL Try.prog hints 33 [x0, x1] = some v := callL_of (fn := Try.f33) (c := code) (by kernel_rfl) (by kernel_rfl) (by decide) (by kernel_rfl) (Nat.le_of_ble_eq_true (by kernel_rfl)) h hv
end
end F33
/-! ### isochroneref08.SamePath -/
namespace F59
section
variable (b i n n0 : Nat) (K : KT) (x0 x1 x4 x5 x10 x14 x25 : PV) (e : Env) (S : Store)
noncomputable def hint : Hint := { keep := [], loops := [(0, { live := [0, 1, 5], after := [], own := [], fz := [] })], regs := [(0, [0, 1]), (1, [0, 1, 10]), (2, [4]), (3, [0, 1, 5]), (4, [0, 1, 5, 14]), (5, [0, 1, 5]), (6, [0, 1, 5, 25]), (7, [4]), (8, [4])] }
noncomputable def C (b : Nat) : Ctx := ctxL Try.prog hints b hint
noncomputable def code : Code := Try.f59.body.get rfl
noncomputable def k0 (b : Nat) : KT := endC Try.prog Try.f59
def ee0 (x0 x1 : PV) : Env := [(0, x0), (1, x1)]
def ee1 (x0 x1 x5 : PV) : Env := [(0, x0), (1, x1), (5, x5)]
def ee2 (x0 x1 x5 x14 : PV) : Env := [(0, x0), (1, x1), (5, x5), (14, x14)]
def ee3 (x0 x1 x5 x25 : PV) : Env := [(0, x0), (1, x1), (5, x5), (25, x25)]
def ee4 (x0 x1 x10 : PV) : Env := [(0, x0), (1, x1), (10, x10)]
def ee5 (x4 : PV) : Env := [(4, x4)]
def c1 : Code := at0 code
def c2 : Code := at1 code
def c3 : Code := at0 c2
def c4 : Code := at1 c2
def c5 : Code := at0 c4
def c6 : Code := at1 c4
def c7 : Code := at0 c6
def c8 : Code := at1 c6
def k9 (b : Nat) : KT := seqC (fun e S => execL (C b) 0 c8 (k0 b) e S) (k0 b)
@[go_sem] theorem k9_n : k9 b .normal (ee5 x4) S =
  (k0 b) .ret (ee5 x4) S := nr (seqN (execL_ret (by kernel_rfl)))
def k10 (b : Nat) : KT := seqC (fun e S => execL (C b) 0 c6 (k0 b) e S) (k0 b)
@[go_sem] theorem g11 : execL (C b) 0 c7 K (ee2 x0 x1 x5 x14) S =
  withV (some (.bool true)) fun x4 =>
    K .normal (ee5 x4) S := nr (by kernel_rfl)
@[go_sem] theorem k10_n : k10 b .normal e S = execL (C b) 0 c7 (k9 b) e S := nr (seqN (enterS (by kernel_rfl)))
def k12 (b : Nat) : KT := seqC (fun e S => execL (C b) 0 c4 (k0 b) e S) (k0 b)
def c13 : Code := at0 c5
def c14 : Code := at1 c5
def k15 (b : Nat) : KT := seqC (fun e S => execL (C b) 0 c14 (k10 b) e S) (k10 b)
def c16 : Code := atB c14
def k17 (b : Nat) : KT := blockC 0 (k10 b)
@[go_sem] theorem k17_exit : k17 b (.exit i) e S = if i = 0 then (k10 b) .normal e S else (k10 b) (.exit i) e S := nr (blockC_x _ _ _ _ _)
def c18 : Code := atL c16
def k19 (b n0 : Nat) : KT := afterC 0 n0 [] (k17 b)
def L0g (b n0 : Nat) (e : Env) (S : Store) : RT := loopL (fun K e S => execL (C b) 0 c18 K e S) (normG [0, 1, 5] [] n0) (k19 b n0) e S
def L0 (b n0 : Nat) (x0 x1 x5 : PV) (S : Store) : RT := L0g b n0 (ee1 x0 x1 x5) S
def k20 (b n0 : Nat) : KT := stepC (normG [0, 1, 5] [] n0) (k19 b n0) (L0g b n0)
@[go_sem] theorem k20_n : k20 b n0 .normal (ee1 x0 x1 x5) S = L0 b n0 x0 x1 x5 (gc n0 (ee1 x0 x1 x5) S) := nr (by kernel_rfl)
@[go_sem] theorem k20_x1 : k20 b n0 (.exit 0) (ee2 x0 x1 x5 x14) S = (k17 b) (.exit 0) (ee2 .undef .undef .undef .undef) (gc n0 (ee2 .undef .undef .undef .undef) S) := nr ((show k20 b n0 (.exit 0) (ee2 x0 x1 x5 x14) S = (k19 b n0) (.exit 0) (ee2 x0 x1 x5 x14) S from stepC_x _ _ _ _ _ _).trans ((show (k19 b n0) (.exit 0) (ee2 x0 x1 x5 x14) S = _ from afterC_x _ _ _ _ _ _ _).trans (if_pos rfl)))
def c21 : Code := at0 c18
def c22 : Code := at1 c18
def c23 : Code := at0 c22
def c24 : Code := at1 c22
def k25 (b n0 : Nat) : KT := seqC (fun e S => execL (C b) 0 c24 (k20 b n0) e S) (k20 b n0)
@[go_sem] theorem g26 : execL (C b) 0 c24 K (ee3 x0 x1 x5 x25) S =
  withV (some x5) fun x15 =>
    withV (evBin .add (tyi Try.prog 3) x15 (.int .i64 1)) fun x16 =>
    withV (some x16) fun x5 =>
    K .normal (ee1 x0 x1 x5) S := nr (by kernel_rfl)
@[go_sem] theorem k25_n : k25 b n0 .normal e S = execL (C b) 0 c24 (k20 b n0) e S := nr (seqN rfl)
def k27 (b n0 : Nat) : KT := seqC (fun e S => execL (C b) 0 c22 (k20 b n0) e S) (k20 b n0)
def c28 : Code := atB c23
def k29 (b n0 : Nat) : KT := blockC 1 (k25 b n0)
@[go_sem] theorem k29_n : k29 b n0 .normal e S = (k25 b n0) .normal e S := nr (blockC_n _ _ _ _)
def c30 : Code := at0 c28
def c31 : Code := at1 c28
def k32 (b n0 : Nat) : KT := seqC (fun e S => execL (C b) 1 c31 (k29 b n0) e S) (k29 b n0)
def c33 : Code := atT c31
def c36 : Code := at0 c33
def c37 : Code := at1 c33
def k38 (b n0 : Nat) : KT := seqC (fun e S => execL (C b) 1 c37 (k29 b n0) e S) (k29 b n0)
@[go_sem] theorem k32_n : k32 b n0 .normal (ee3 x0 x1 x5 x25) S =
  condC x25 (execL (C b) 1 c36 (k38 b n0) (ee3 x0 x1 x5 x25) S)
    ((k29 b n0) .normal (ee3 x0 x1 x5 x25) S) := nr (seqN (condE (t := 25) (by kernel_rfl) (enterS (by kernel_rfl)) (execL_skip (by kernel_rfl)) rfl))
@[go_sem] theorem g40 : execL (C b) 1 c30 K (ee2 x0 x1 x5 x14) S =
  withV (some x0) fun x17 =>
    withV (some x5) fun x18 =>
    withV (indexAddrO Try.prog 22 S x17 x18) fun x19 =>
    withV (evLoad (tyi Try.prog 3) S x19) fun x20 =>
    withV (some x1) fun x21 =>
    withV (some x5) fun x22 =>
    withV (indexAddrO Try.prog 22 S x21 x22) fun x23 =>
    withV (evLoad (tyi Try.prog 3) S x23) fun x24 =>
    withV (evBin .neq (tyi Try.prog 3) x20 x24) fun x25 =>
    K .normal (ee3 x0 x1 x5 x25) S := nr (by kernel_rfl)
@[go_sem] theorem k27_n : k27 b n0 .normal (ee2 x0 x1 x5 x14) S =
  execL (C b) 1 c30 (k32 b n0) (ee2 x0 x1 x5 x14) S := nr (seqN ((enterS (by kernel_rfl)).trans ((blockE (by kernel_rfl)).trans (enterS (by kernel_rfl)))))
@[go_sem] theorem k27_exit : k27 b n0 (.exit i) e S = (k20 b n0) (.exit i) e S := nr (seqC_x _ _ _ _ _)
def c41 : Code := at0 c21
def c42 : Code := at1 c21
def k43 (b n0 : Nat) : KT := seqC (fun e S => execL (C b) 0 c42 (k27 b n0) e S) (k27 b n0)
@[go_sem] theorem k43_n : k43 b n0 .normal (ee2 x0 x1 x5 x14) S =
  condC x14 ((k27 b n0) .normal (ee2 x0 x1 x5 x14) S)
    ((k27 b n0) (.exit 0) (ee2 x0 x1 x5 x14) S) := nr (seqN (condE (t := 14) (by kernel_rfl) (execL_skip (by kernel_rfl)) (execL_exit (by kernel_rfl)) rfl))
@[go_sem] theorem g46 : execL (C b) 0 c41 K (ee1 x0 x1 x5) S =
  withV (some x5) fun x11 =>
    withV (some x0) fun x12 =>
    withV (lenO (tyi Try.prog 22) x12) fun x13 =>
    withV (evBin .lss (tyi Try.prog 3) x11 x13) fun x14 =>
    K .normal (ee2 x0 x1 x5 x14) S := nr (by kernel_rfl)
def B0 (b n0 : Nat) (x0 x1 x5 : PV) (S : Store) : RT := execL (C b) 0 c18 (k20 b n0) (ee1 x0 x1 x5) S
@[go_sem] theorem B0_eq : B0 b n0 x0 x1 x5 S =
  execL (C b) 0 c41 (k43 b n0) (ee1 x0 x1 x5) S := nr ((enterS (by kernel_rfl)).trans (enterS (by kernel_rfl)))
theorem L0_step {b n0 : Nat} {x0 x1 x5 : PV} {S : Store} {z : PV × Store} (h : B0 b n0 x0 x1 x5 S = some z) : L0 b n0 x0 x1 x5 S = some z := loopL_step h
theorem L0_in (b : Nat) (x0 x1 x5 : PV) (S : Store) : execL (C b) 0 c16 (k17 b) (ee1 x0 x1 x5) S = L0 b (List.length S) x0 x1 x5 S := by kernel_rfl
@[go_sem] theorem k15_n : k15 b .normal (ee1 x0 x1 x5) S =
  L0 b (List.length S) x0 x1 x5 S := nr (seqN ((blockE (by kernel_rfl)).trans (L0_in b x0 x1 x5 S)))
@[go_sem] theorem g48 : execL (C b) 0 c13 K (ee4 x0 x1 x10) S =
  withV (some (.int .i64 0)) fun x5 =>
    K .normal (ee1 x0 x1 x5) S := nr (by kernel_rfl)
@[go_sem] theorem k12_n : k12 b .normal (ee4 x0 x1 x10) S =
  execL (C b) 0 c13 (k15 b) (ee4 x0 x1 x10) S := nr (seqN ((enterS (by kernel_rfl)).trans (enterS (by kernel_rfl))))
def k49 (b : Nat) : KT := seqC (fun e S => execL (C b) 0 c2 (k0 b) e S) (k0 b)
def c50 : Code := at0 c3
def c51 : Code := at1 c3
def k52 (b : Nat) : KT := seqC (fun e S => execL (C b) 0 c51 (k12 b) e S) (k12 b)
def c53 : Code := atT c51
def c56 : Code := at0 c53
def c57 : Code := at1 c53
def k58 (b : Nat) : KT := seqC (fun e S => execL (C b) 0 c57 (k12 b) e S) (k12 b)
@[go_sem] theorem k52_n : k52 b .normal (ee4 x0 x1 x10) S =
  condC x10 (execL (C b) 0 c56 (k58 b) (ee4 x0 x1 x10) S)
    ((k12 b) .normal (ee4 x0 x1 x10) S) := nr (seqN (condE (t := 10) (by kernel_rfl) (enterS (by kernel_rfl)) (execL_skip (by kernel_rfl)) rfl))
@[go_sem] theorem g60 : execL (C b) 0 c50 K (ee0 x0 x1) S =
  withV (some x0) fun x6 =>
    withV (lenO (tyi Try.prog 22) x6) fun x7 =>
    withV (some x1) fun x8 =>
    withV (lenO (tyi Try.prog 22) x8) fun x9 =>
    withV (evBin .neq (tyi Try.prog 3) x7 x9) fun x10 =>
    K .normal (ee4 x0 x1 x10) S := nr (by kernel_rfl)
@[go_sem] theorem k49_n : k49 b .normal (ee0 x0 x1) S =
  execL (C b) 0 c50 (k52 b) (ee0 x0 x1) S := nr (seqN ((enterS (by kernel_rfl)).trans (enterS (by kernel_rfl))))
@[go_sem] theorem g61 : execL (C b) 0 c1 K (ee0 x0 x1) S =
  withV (some (.bool false)) fun x4 =>
    K .normal (ee0 x0 x1) S := nr (by kernel_rfl)
def E (b : Nat) (x0 x1 : PV) (S : Store) : RT := execL (C b) 0 code (k0 b) (ee0 x0 x1) S
@[go_sem] theorem E_eq : E b x0 x1 S =
  execL (C b) 0 c1 (k49 b) (ee0 x0 x1) S := nr (enterS (by kernel_rfl))
@[go_sem] theorem k0_ret5 : k0 b .ret (ee5 x4) S = some (x4, S) := nr (by kernel_rfl)
theorem call {x0 x1 : PV} {r : PV × Store} {v : PV} (h : E 0 x0 x1 [] = some r) (hv : fzPV r.2 r.1 = some v) : callL Try.prog hints 59 [x0, x1] = some v := callL_of (fn := Try.f59) (c := code) (by kernel_rfl) (by kernel_rfl) (by decide) (by kernel_rfl) (Nat.le_of_ble_eq_true (by kernel_rfl)) h hv
end
end F59
/-! ### isochronelaw08.TreePaths -/
namespace F10
section
variable (b : Nat) (K : KT) (x0 x1 x2 x3 x4 x5 x6 x7 x8 x9 x10 x11 x12 x14 x22 : PV) (e : Env) (S : Store)
noncomputable def hint : Hint := { keep := [], loops := [], regs := [(0, [2, 3]), (1, [2, 3, 14]), (2, [4]), (3, [2, 3, 22]), (4, [4]), (5, [2, 3, 5, 6]), (6, [2, 3, 5, 6, 7, 8]), (7, [2, 3, 5, 6, 7, 8, 9, 10]), (8, [2, 5, 6, 7, 8, 9, 10, 11, 12]), (9, [4])] }
noncomputable def C (b : Nat) : Ctx := ctxL Try.prog hints b hint
noncomputable def code : Code := Try.f10.body.get rfl
noncomputable def k0 (b : Nat) : KT := endC Try.prog Try.f10
def ee0 (x2 x3 : PV) : Env := [(2, x2), (3, x3)]
def ee1 (x2 x3 x5 x6 : PV) : Env := [(2, x2), (3, x3), (5, x5), (6, x6)]
def ee2 (x2 x3 x5 x6 x7 x8 : PV) : Env := [(2, x2), (3, x3), (5, x5), (6, x6), (7, x7), (8, x8)]
def ee3 (x2 x3 x5 x6 x7 x8 x9 x10 : PV) : Env := [(2, x2), (3, x3), (5, x5), (6, x6), (7, x7), (8, x8), (9, x9), (10, x10)]
def ee4 (x2 x3 x14 : PV) : Env := [(2, x2), (3, x3), (14, x14)]
def ee5 (x2 x3 x22 : PV) : Env := [(2, x2), (3, x3), (22, x22)]
def ee6 (x2 x5 x6 x7 x8 x9 x10 x11 x12 : PV) : Env := [(2, x2), (5, x5), (6, x6), (7, x7), (8, x8), (9, x9), (10, x10), (11, x11), (12, x12)]
def ee7 (x4 : PV) : Env := [(4, x4)]
def c1 : Code := at0 code
def c2 : Code := at1 code
def c3 : Code := at0 c2
def c4 : Code := at1 c2
def c5 : Code := at0 c4
def c6 : Code := at1 c4
def c7 : Code := at0 c6
def c8 : Code := at1 c6
def c9 : Code := at0 c8
def c10 : Code := at1 c8
def c11 : Code := at0 c10
def c12 : Code := at1 c10
def c13 : Code := at0 c12
def c14 : Code := at1 c12
def c15 : Code := at0 c14
def c16 : Code := at1 c14
def k17 (b : Nat) : KT := seqC (fun e S => execL (C b) 0 c16 (k0 b) e S) (k0 b)
@[go_sem] theorem k17_n : k17 b .normal (ee7 x4) S =
  (k0 b) .ret (ee7 x4) S := nr (seqN (execL_ret (by kernel_rfl)))
def k18 (b : Nat) : KT := seqC (fun e S => execL (C b) 0 c14 (k0 b) e S) (k0 b)
@[go_sem] theorem g19 : execL (C b) 0 c15 K (ee6 x2 x5 x6 x7 x8 x9 x10 x11 x12) S =
  withV (some x6) fun x45 =>
    withV (some x8) fun x46 =>
    withV (evBin .eql (tyi Try.prog 29) x45 x46) fun x47 =>
    withV (some x47) fun x48 =>
    withV (gval x48 true (some x5)) fun x49 =>
    withV (gval x48 true (some x7)) fun x50 =>
    withN (gout x48 true (callO (callL Try.prog hints) S 33 [x49, x50])) S fun x51 S =>
    withV (pickO x48 x51 (.bool false)) fun x52 =>
    withV (some x52) fun x53 =>
    withV (gval x53 true (some x10)) fun x54 =>
    withV (gval x53 true (some x12)) fun x55 =>
    withV (gval x53 true (evBin .eql (tyi Try.prog 29) x54 x55)) fun x56 =>
    withV (pickO x53 x56 (.bool false)) fun x57 =>
    withV (some x57) fun x58 =>
    withV (gval x58 true (some x9)) fun x59 =>
    withV (gval x58 true (some x11)) fun x60 =>
    withN (gout x58 true (callO (callL Try.prog hints) S 33 [x59, x60])) S fun x61 S =>
    withV (pickO x58 x61 (.bool false)) fun x62 =>
    withV (some x62) fun x63 =>
    withV (gval x63 true (some x6)) fun x64 =>
    withV (gval x63 true (evBin .neq (tyi Try.prog 29) x64 (.int .i64 0))) fun x65 =>
    withV (gval x63 true (some x65)) fun x66 =>
    withV (gval x66 false (some x5)) fun x67 =>
    withV (gval x66 false (lenO (tyi Try.prog 23) x67)) fun x68 =>
    withV (gval x66 false (evLoad (tyi Try.prog 54) S x2)) fun x69 =>
    withN (gout x66 false (callO (callL Try.prog hints) S 43 [x69])) S fun x70 S =>
    withV (gval x66 false (evBin .eql (tyi Try.prog 3) x68 x70)) fun x71 =>
    withV (gval x63 true (pickO x66 (.bool true) x71)) fun x72 =>
    withV (pickO x63 x72 (.bool false)) fun x73 =>
    withV (some x73) fun x4 =>
    K .normal (ee7 x4) S := nr (by kernel_rfl)
@[go_sem] theorem k18_n : k18 b .normal e S = execL (C b) 0 c15 (k17 b) e S := nr (seqN (enterS (by kernel_rfl)))
def k20 (b : Nat) : KT := seqC (fun e S => execL (C b) 0 c12 (k0 b) e S) (k0 b)
@[go_sem] theorem g21 : execL (C b) 0 c13 K (ee3 x2 x3 x5 x6 x7 x8 x9 x10) S =
  withV (evLoad (tyi Try.prog 54) S x2) fun x40 =>
    withV (evLoad (tyi Try.prog 54) S x3) fun x41 =>
    withN (callO (callL Try.prog hints) S 51 [x40, x41]) S fun x42 S =>
    withV (some x42) fun x39 =>
    withV (extractO x39 0) fun x43 =>
    withV (extractO x39 1) fun x44 =>
    withV (some x43) fun x11 =>
    withV (some x44) fun x12 =>
    K .normal (ee6 x2 x5 x6 x7 x8 x9 x10 x11 x12) S := nr (by kernel_rfl)
@[go_sem] theorem k20_n : k20 b .normal e S = execL (C b) 0 c13 (k18 b) e S := nr (seqN (enterS (by kernel_rfl)))
def k22 (b : Nat) : KT := seqC (fun e S => execL (C b) 0 c10 (k0 b) e S) (k0 b)
@[go_sem] theorem g23 : execL (C b) 0 c11 K (ee2 x2 x3 x5 x6 x7 x8) S =
  withV (evLoad (tyi Try.prog 54) S x2) fun x34 =>
    withV (evLoad (tyi Try.prog 54) S x3) fun x35 =>
    withN (callO (callL Try.prog hints) S 50 [x34, x35]) S fun x36 S =>
    withV (some x36) fun x33 =>
    withV (extractO x33 0) fun x37 =>
    withV (extractO x33 1) fun x38 =>
    withV (some x37) fun x9 =>
    withV (some x38) fun x10 =>
    K .normal (ee3 x2 x3 x5 x6 x7 x8 x9 x10) S := nr (by kernel_rfl)
@[go_sem] theorem k22_n : k22 b .normal e S = execL (C b) 0 c11 (k20 b) e S := nr (seqN (enterS (by kernel_rfl)))
def k24 (b : Nat) : KT := seqC (fun e S => execL (C b) 0 c8 (k0 b) e S) (k0 b)
@[go_sem] theorem g25 : execL (C b) 0 c9 K (ee1 x2 x3 x5 x6) S =
  withV (evLoad (tyi Try.prog 54) S x2) fun x29 =>
    withN (callO (callL Try.prog hints) S 49 [x29]) S fun x30 S =>
    withV (some x30) fun x28 =>
    withV (extractO x28 0) fun x31 =>
    withV (extractO x28 1) fun x32 =>
    withV (some x31) fun x7 =>
    withV (some x32) fun x8 =>
    K .normal (ee2 x2 x3 x5 x6 x7 x8) S := nr (by kernel_rfl)
@[go_sem] theorem k24_n : k24 b .normal e S = execL (C b) 0 c9 (k22 b) e S := nr (seqN (enterS (by kernel_rfl)))
def k26 (b : Nat) : KT := seqC (fun e S => execL (C b) 0 c6 (k0 b) e S) (k0 b)
@[go_sem] theorem g27 : execL (C b) 0 c7 K (ee5 x2 x3 x22) S =
  withV (evLoad (tyi Try.prog 54) S x2) fun x24 =>
    withN (callO (callL Try.prog hints) S 48 [x24]) S fun x25 S =>
    withV (some x25) fun x23 =>
    withV (extractO x23 0) fun x26 =>
    withV (extractO x23 1) fun x27 =>
    withV (some x26) fun x5 =>
    withV (some x27) fun x6 =>
    K .normal (ee1 x2 x3 x5 x6) S := nr (by kernel_rfl)
@[go_sem] theorem k26_n : k26 b .normal e S = execL (C b) 0 c7 (k24 b) e S := nr (seqN (enterS (by kernel_rfl)))
@[go_sem] theorem k26_ret : k26 b .ret e S = (k0 b) .ret e S := nr (seqC_r _ _ _ _)
def k28 (b : Nat) : KT := seqC (fun e S => execL (C b) 0 c4 (k0 b) e S) (k0 b)
def c29 : Code := at0 c5
def c30 : Code := at1 c5
def k31 (b : Nat) : KT := seqC (fun e S => execL (C b) 0 c30 (k26 b) e S) (k26 b)
def c32 : Code := atT c30
def c35 : Code := at0 c32
def c36 : Code := at1 c32
def k37 (b : Nat) : KT := seqC (fun e S => execL (C b) 0 c36 (k26 b) e S) (k26 b)
@[go_sem] theorem k37_n : k37 b .normal (ee7 x4) S =
  (k26 b) .ret (ee7 x4) S := nr (seqN (execL_ret (by kernel_rfl)))
@[go_sem] theorem g38 : execL (C b) 0 c35 K (ee5 x2 x3 x22) S =
  withV (some (.bool true)) fun x4 =>
    K .normal (ee7 x4) S := nr (by kernel_rfl)
@[go_sem] theorem k31_n : k31 b .normal (ee5 x2 x3 x22) S =
  condC x22 (execL (C b) 0 c35 (k37 b) (ee5 x2 x3 x22) S)
    ((k26 b) .normal (ee5 x2 x3 x22) S) := nr (seqN (condE (t := 22) (by kernel_rfl) (enterS (by kernel_rfl)) (execL_skip (by kernel_rfl)) rfl))
@[go_sem] theorem g39 : execL (C b) 0 c29 K (ee4 x2 x3 x14) S =
  withV (evLoad (tyi Try.prog 54) S x2) fun x15 =>
    withN (callO (callL Try.prog hints) S 35 [x15]) S fun x16 S =>
    withV (evBin .gtr (tyi Try.prog 3) x16 (.int .i64 1000)) fun x17 =>
    withV (some x17) fun x18 =>
    withV (gval x18 false (evLoad (tyi Try.prog 54) S x3)) fun x19 =>
    withN (gout x18 false (callO (callL Try.prog hints) S 35 [x19])) S fun x20 S =>
    withV (gval x18 false (evBin .gtr (tyi Try.prog 3) x20 (.int .i64 1000))) fun x21 =>
    withV (pickO x18 (.bool true) x21) fun x22 =>
    K .normal (ee5 x2 x3 x22) S := nr (by kernel_rfl)
@[go_sem] theorem k28_n : k28 b .normal (ee4 x2 x3 x14) S =
  execL (C b) 0 c29 (k31 b) (ee4 x2 x3 x14) S := nr (seqN ((enterS (by kernel_rfl)).trans (enterS (by kernel_rfl))))
def k40 (b : Nat) : KT := seqC (fun e S => execL (C b) 0 c2 (k0 b) e S) (k0 b)
def c41 : Code := at0 c3
def c42 : Code := at1 c3
def k43 (b : Nat) : KT := seqC (fun e S => execL (C b) 0 c42 (k28 b) e S) (k28 b)
def c44 : Code := atT c42
def c47 : Code := at0 c44
def c48 : Code := at1 c44
def k49 (b : Nat) : KT := seqC (fun e S => execL (C b) 0 c48 (k28 b) e S) (k28 b)
@[go_sem] theorem k43_n : k43 b .normal (ee4 x2 x3 x14) S =
  condC x14 (execL (C b) 0 c47 (k49 b) (ee4 x2 x3 x14) S)
    ((k28 b) .normal (ee4 x2 x3 x14) S) := nr (seqN (condE (t := 14) (by kernel_rfl) (enterS (by kernel_rfl)) (execL_skip (by kernel_rfl)) rfl))
@[go_sem] theorem g51 : execL (C b) 0 c41 K (ee0 x2 x3) S =
  withN (callO (callL Try.prog hints) S 34 []) S fun x13 S =>
    withV (evUn .not x13) fun x14 =>
    K .normal (ee4 x2 x3 x14) S := nr (by kernel_rfl)
@[go_sem] theorem k40_n : k40 b .normal (ee0 x2 x3) S =
  execL (C b) 0 c41 (k43 b) (ee0 x2 x3) S := nr (seqN ((enterS (by kernel_rfl)).trans (enterS (by kernel_rfl))))
@[go_sem] theorem g52 : execL (C b) 0 c1 K [(0, x0), (1, x1)] S =
  withN (boxed S (List.length S) (TI.size (tyi Try.prog 54)) x0) S fun x2 S =>
    withN (boxed S (List.length S) (TI.size (tyi Try.prog 54)) x1) S fun x3 S =>
    withV (some (.bool false)) fun x4 =>
    K .normal (ee0 x2 x3) S := nr (by kernel_rfl)
def E (b : Nat) (x0 x1 : PV) (S : Store) : RT := execL (C b) 0 code (k0 b) [(0, x0), (1, x1)] S
@[go_sem] theorem E_eq : E b x0 x1 S =
  execL (C b) 0 c1 (k40 b) [(0, x0), (1, x1)] S := nr (enterS (by kernel_rfl))
@[go_sem] theorem k0_ret7 : k0 b .ret (ee7 x4) S = some (x4, S) := nr (by kernel_rfl)
theorem call {x0 x1 : PV} {r : PV × Store} {v : PV} (h : E 0 x0 x1 [] = some r) (hv : fzPV r.2 r.1 = some v) : callL Try.prog hints 10 [x0, x1] = some v := callL_of (fn := Try.f10) (c := code) (by kernel_rfl) (by kernel_rfl) (by decide) (by kernel_rfl) (Nat.le_of_ble_eq_true (by kernel_rfl)) h hv
end
end F10
end
end Go.Vs
