/- Printed by a program of mine (stage1.py): the functions 15, 16, 20, 21, 23, piece by piece. -/
import Derived.Test.YtnddhkcciphhkaaRows
import Derived.Test.YtnddhkcciphhkaaMX10
import Derived.Test.YtnddhkcciphhkaaMX12
import Derived.Test.YtnddhkcciphhkaaMX20
section
set_option linter.unusedVariables false
set_option linter.unusedSimpArgs false
namespace Go.Vs
open Go Go.Proofs
noncomputable section

/-! ### game.Ranks -/
namespace F15
section
variable (b : Nat) (K : KT) (x0 x1 x2 x3 x4 x8 : PV) (e : Env) (S : Store)
noncomputable def hint : Hint := { keep := [], loops := [], regs := [(0, [1]), (1, [1, 4]), (2, [1, 4, 8]), (3, [2, 3]), (4, [2, 3])] }
noncomputable def C (b : Nat) : Ctx := ctxL Try.prog hints b hint
noncomputable def code : Code := Try.f15.body.get rfl
noncomputable def k0 (b : Nat) : KT := endC Try.prog Try.f15
def ee0 (x1 : PV) : Env := [(1, x1)]
def ee1 (x1 x4 : PV) : Env := [(1, x1), (4, x4)]
def ee2 (x1 x4 x8 : PV) : Env := [(1, x1), (4, x4), (8, x8)]
def ee3 (x2 x3 : PV) : Env := [(2, x2), (3, x3)]
def c1 : Code := at0 code
def c2 : Code := at1 code
def c3 : Code := at0 c2
def c4 : Code := at1 c2
def c5 : Code := at0 c4
def c6 : Code := at1 c4
def k7 (b : Nat) : KT := seqC (fun e S => execL (C b) 0 c6 (k0 b) e S) (k0 b)
@[go_sem] theorem k7_n : k7 b .normal (ee3 x2 x3) S =
  (k0 b) .ret (ee3 x2 x3) S := nr (seqN (execL_ret (by kernel_rfl)))
def k8 (b : Nat) : KT := seqC (fun e S => execL (C b) 0 c4 (k0 b) e S) (k0 b)
@[go_sem] theorem g9 : execL (C b) 0 c5 K (ee2 x1 x4 x8) S =
  withV (evLoad (tyi Try.prog 26) S x1) fun x10 =>
    withN (callO (callL Try.prog hints) S 57 [x10]) S fun x11 S =>
    withV (some x11) fun x2 =>
    withV (some (.int .i64 0)) fun x3 =>
    K .normal (ee3 x2 x3) S := nr (by kernel_rfl)
@[go_sem] theorem k8_n : k8 b .normal e S = execL (C b) 0 c5 (k7 b) e S := nr (seqN (enterS (by kernel_rfl)))
@[go_sem] theorem k8_ret : k8 b .ret e S = (k0 b) .ret e S := nr (seqC_r _ _ _ _)
def k10 (b : Nat) : KT := seqC (fun e S => execL (C b) 0 c2 (k0 b) e S) (k0 b)
def c11 : Code := at0 c3
def c12 : Code := at1 c3
def c13 : Code := at0 c12
def c14 : Code := at1 c12
def k15 (b : Nat) : KT := seqC (fun e S => execL (C b) 0 c14 (k8 b) e S) (k8 b)
def c16 : Code := atT c14
def c19 : Code := at0 c16
def c20 : Code := at1 c16
def k21 (b : Nat) : KT := seqC (fun e S => execL (C b) 0 c20 (k8 b) e S) (k8 b)
@[go_sem] theorem k21_n : k21 b .normal (ee3 x2 x3) S =
  (k8 b) .ret (ee3 x2 x3) S := nr (seqN (execL_ret (by kernel_rfl)))
@[go_sem] theorem g22 : execL (C b) 0 c19 K (ee2 x1 x4 x8) S =
  withV (some x4) fun x9 =>
    withV (some (.sl [] true)) fun x2 =>
    withV (some x9) fun x3 =>
    K .normal (ee3 x2 x3) S := nr (by kernel_rfl)
@[go_sem] theorem k15_n : k15 b .normal (ee2 x1 x4 x8) S =
  condC x8 (execL (C b) 0 c19 (k21 b) (ee2 x1 x4 x8) S)
    ((k8 b) .normal (ee2 x1 x4 x8) S) := nr (seqN (condE (t := 8) (by kernel_rfl) (enterS (by kernel_rfl)) (execL_skip (by kernel_rfl)) rfl))
def k23 (b : Nat) : KT := seqC (fun e S => execL (C b) 0 c12 (k8 b) e S) (k8 b)
@[go_sem] theorem g24 : execL (C b) 0 c13 K (ee1 x1 x4) S =
  withV (some x4) fun x7 =>
    withV (evBin .neq (tyi Try.prog 29) x7 (.int .i64 0)) fun x8 =>
    K .normal (ee2 x1 x4 x8) S := nr (by kernel_rfl)
@[go_sem] theorem k23_n : k23 b .normal e S = execL (C b) 0 c13 (k15 b) e S := nr (seqN (enterS (by kernel_rfl)))
@[go_sem] theorem g25 : execL (C b) 0 c11 K (ee0 x1) S =
  withV (evLoad (tyi Try.prog 26) S x1) fun x5 =>
    withN (callO (callL Try.prog hints) S 17 [x5]) S fun x6 S =>
    withV (some x6) fun x4 =>
    K .normal (ee1 x1 x4) S := nr (by kernel_rfl)
@[go_sem] theorem k10_n : k10 b .normal (ee0 x1) S =
  execL (C b) 0 c11 (k23 b) (ee0 x1) S := nr (seqN ((enterS (by kernel_rfl)).trans (enterS (by kernel_rfl))))
@[go_sem] theorem g26 : execL (C b) 0 c1 K [(0, x0)] S =
  withN (boxed S (List.length S) (TI.size (tyi Try.prog 26)) x0) S fun x1 S =>
    withV (some (.sl [] true)) fun x2 =>
    withV (some (.int .i64 0)) fun x3 =>
    K .normal (ee0 x1) S := nr (by kernel_rfl)
def E (b : Nat) (x0 : PV) (S : Store) : RT := execL (C b) 0 code (k0 b) [(0, x0)] S
@[go_sem] theorem E_eq : E b x0 S =
  execL (C b) 0 c1 (k10 b) [(0, x0)] S := nr (enterS (by kernel_rfl))
@[go_sem] theorem k0_ret3 : k0 b .ret (ee3 x2 x3) S = some ((.tup [x2, x3]), S) := nr (by kernel_rfl)
theorem call {x0 : PV} {r : PV × Store} {v : PV} (h : E 0 x0 [] = some r) (hv : fzPV r.2 r.1 = some v) : callL Try.prog hints 15 [x0] = some v := callL_of (fn := Try.f15) (c := code) (by kernel_rfl) (by kernel_rfl) (by decide) (by kernel_rfl) (Nat.le_of_ble_eq_true (by kernel_rfl)) h hv
end
end F15
/-! ### isochroneref23.Ranks -/
namespace F16
section
variable (b : Nat) (K : KT) (x0 x1 x2 x3 x4 x8 : PV) (e : Env) (S : Store)
end
end F16
/-! ### game.Wins -/
namespace F20
section
variable (b i n n0 : Nat) (K : KT) (x0 x1 x2 x4 x5 x6 x7 x9 x13 x20 x22 x23 x24 x25 : PV) (e : Env) (S : Store)
noncomputable def hint : Hint := { keep := [], loops := [(0, { live := [1, 7, 22, 23, 24], after := [7], own := [], fz := [] })], regs := [(0, [1, 2]), (1, [1, 2, 6]), (2, [1, 2, 6, 13]), (3, [4, 5]), (4, [1, 2, 20]), (5, [4, 5]), (6, [1, 2, 7]), (7, [1, 7, 22, 23, 24]), (8, [1, 7, 22, 23, 24, 25]), (9, [1, 7, 9, 22, 23, 24]), (10, [1, 7, 22, 23, 24]), (11, [1, 7, 22, 23, 24]), (12, [4, 5])] }
noncomputable def C (b : Nat) : Ctx := ctxL Try.prog hints b hint
noncomputable def code : Code := Try.f20.body.get rfl
noncomputable def k0 (b : Nat) : KT := endC Try.prog Try.f20
def ee0 (x1 x2 : PV) : Env := [(1, x1), (2, x2)]
def ee1 (x1 x2 x6 : PV) : Env := [(1, x1), (2, x2), (6, x6)]
def ee2 (x1 x2 x6 x13 : PV) : Env := [(1, x1), (2, x2), (6, x6), (13, x13)]
def ee3 (x1 x2 x7 : PV) : Env := [(1, x1), (2, x2), (7, x7)]
def ee4 (x1 x2 x20 : PV) : Env := [(1, x1), (2, x2), (20, x20)]
def ee5 (x1 x7 x9 x22 x23 x24 : PV) : Env := [(1, x1), (7, x7), (9, x9), (22, x22), (23, x23), (24, x24)]
def ee6 (x1 x7 x22 x23 x24 : PV) : Env := [(1, x1), (7, x7), (22, x22), (23, x23), (24, x24)]
def ee7 (x1 x7 x22 x23 x24 x25 : PV) : Env := [(1, x1), (7, x7), (22, x22), (23, x23), (24, x24), (25, x25)]
def ee8 (x4 x5 : PV) : Env := [(4, x4), (5, x5)]
def c1 : Code := at0 code
def c2 : Code := at1 code
def c3 : Code := at0 c2
def c4 : Code := at1 c2
def c5 : Code := at0 c4
def c6 : Code := at1 c4
def c7 : Code := at0 c6
def c8 : Code := at1 c6
def c9 : Code := at0 c8
def c10 : Code := at1 c8
def c11 : Code := at0 c10
def c12 : Code := at1 c10
def k13 (b : Nat) : KT := seqC (fun e S => execL (C b) 0 c12 (k0 b) e S) (k0 b)
@[go_sem] theorem k13_n : k13 b .normal (ee8 x4 x5) S =
  (k0 b) .ret (ee8 x4 x5) S := nr (seqN (execL_ret (by kernel_rfl)))
def k14 (b : Nat) : KT := seqC (fun e S => execL (C b) 0 c10 (k0 b) e S) (k0 b)
@[go_sem] theorem g15 : execL (C b) 0 c11 K (ee7 x1 x7 x22 x23 x24 x25) S =
  withV (some x7) fun x37 =>
    withV (some x37) fun x4 =>
    withV (some (.int .i64 0)) fun x5 =>
    K .normal (ee8 x4 x5) S := nr (by kernel_rfl)
@[go_sem] theorem k14_n : k14 b .normal e S = execL (C b) 0 c11 (k13 b) e S := nr (seqN (enterS (by kernel_rfl)))
def k16 (b : Nat) : KT := seqC (fun e S => execL (C b) 0 c8 (k0 b) e S) (k0 b)
def c17 : Code := at0 c9
def c18 : Code := at1 c9
def k19 (b : Nat) : KT := seqC (fun e S => execL (C b) 0 c18 (k14 b) e S) (k14 b)
def c20 : Code := atB c18
def k21 (b : Nat) : KT := blockC 0 (k14 b)
@[go_sem] theorem k21_exit : k21 b (.exit i) e S = if i = 0 then (k14 b) .normal e S else (k14 b) (.exit i) e S := nr (blockC_x _ _ _ _ _)
def c22 : Code := atL c20
def k23 (b n0 : Nat) : KT := afterC 0 n0 [7] (k21 b)
def L0g (b n0 : Nat) (e : Env) (S : Store) : RT := loopL (fun K e S => execL (C b) 0 c22 K e S) (normG [1, 7, 22, 23, 24] [] n0) (k23 b n0) e S
def L0 (b n0 : Nat) (x1 x7 x22 x23 x24 : PV) (S : Store) : RT := L0g b n0 (ee6 x1 x7 x22 x23 x24) S
def k24 (b n0 : Nat) : KT := stepC (normG [1, 7, 22, 23, 24] [] n0) (k23 b n0) (L0g b n0)
@[go_sem] theorem k24_n : k24 b n0 .normal (ee6 x1 x7 x22 x23 x24) S = L0 b n0 x1 x7 x22 x23 x24 (gc n0 (ee6 x1 x7 x22 x23 x24) S) := nr (by kernel_rfl)
@[go_sem] theorem k24_x1 : k24 b n0 (.exit 0) (ee7 x1 x7 x22 x23 x24 x25) S = (k21 b) (.exit 0) (ee7 .undef x7 .undef .undef .undef .undef) (gc n0 (ee7 .undef x7 .undef .undef .undef .undef) S) := nr ((show k24 b n0 (.exit 0) (ee7 x1 x7 x22 x23 x24 x25) S = (k23 b n0) (.exit 0) (ee7 x1 x7 x22 x23 x24 x25) S from stepC_x _ _ _ _ _ _).trans ((show (k23 b n0) (.exit 0) (ee7 x1 x7 x22 x23 x24 x25) S = _ from afterC_x _ _ _ _ _ _ _).trans (if_pos rfl)))
def c25 : Code := at0 c22
def c26 : Code := at1 c22
def c28 : Code := at1 c26
def c29 : Code := at0 c28
def c30 : Code := at1 c28
def k31 (b n0 : Nat) : KT := seqC (fun e S => execL (C b) 0 c30 (k24 b n0) e S) (k24 b n0)
@[go_sem] theorem g32 : execL (C b) 0 c30 K (ee6 x1 x7 x22 x23 x24) S =
  withV (evBin .add (tyi Try.prog 3) x24 (.int .i64 1)) fun x36 =>
    withV (some x36) fun x24 =>
    K .normal (ee6 x1 x7 x22 x23 x24) S := nr (by kernel_rfl)
@[go_sem] theorem k31_n : k31 b n0 .normal e S = execL (C b) 0 c30 (k24 b n0) e S := nr (seqN rfl)
def k33 (b n0 : Nat) : KT := seqC (fun e S => execL (C b) 0 c28 (k24 b n0) e S) (k24 b n0)
def c34 : Code := atB c29
def k35 (b n0 : Nat) : KT := blockC 1 (k31 b n0)
@[go_sem] theorem k35_n : k35 b n0 .normal e S = (k31 b n0) .normal e S := nr (blockC_n _ _ _ _)
def c36 : Code := at0 c34
def c37 : Code := at1 c34
def k38 (b n0 : Nat) : KT := seqC (fun e S => execL (C b) 1 c37 (k35 b n0) e S) (k35 b n0)
@[go_sem] theorem g39 : execL (C b) 1 c37 K (ee5 x1 x7 x9 x22 x23 x24) S =
  withV (some x7) fun x28 =>
    withV (some x9) fun x29 =>
    withV (evBin .geq (tyi Try.prog 3) x29 (.int .i64 0)) fun x30 =>
    withV (some x1) fun x31 =>
    withV (evBin .eql (tyi Try.prog 3) x31 (.int .i64 0)) fun x32 =>
    withV (evBin .eql (tyi Try.prog 4) x30 x32) fun x33 =>
    withN (buildSliceO Try.prog 24 (List.length S) 1 [0] [PV.cells x33]) S fun x34 S =>
    withE (appendE Try.prog b 24 24 S x28 x34) [(1, x1), (7, x7), (9, x9), (22, x22), (23, x23), (24, x24), (28, x28), (29, x29), (30, x30), (31, x31), (32, x32), (33, x33), (34, x34)] fun x35 e1 S =>
    withV (some (Vs.get (put e1 35 x35) 35)) fun x7 =>
    K .normal (ee6 (Vs.get (put (put e1 35 x35) 7 x7) 1) (Vs.get (put (put e1 35 x35) 7 x7) 7) (Vs.get (put (put e1 35 x35) 7 x7) 22) (Vs.get (put (put e1 35 x35) 7 x7) 23) (Vs.get (put (put e1 35 x35) 7 x7) 24)) S := nr (by kernel_rfl)
@[go_sem] theorem k38_n : k38 b n0 .normal e S = execL (C b) 1 c37 (k35 b n0) e S := nr (seqN rfl)
@[go_sem] theorem g40 : execL (C b) 1 c36 K (ee7 x1 x7 x22 x23 x24 x25) S =
  withV (indexAddrO Try.prog 22 S x22 x24) fun x26 =>
    withV (evLoad (tyi Try.prog 3) S x26) fun x27 =>
    withV (some x27) fun x9 =>
    K .normal (ee5 x1 x7 x9 x22 x23 x24) S := nr (by kernel_rfl)
@[go_sem] theorem k33_n : k33 b n0 .normal (ee7 x1 x7 x22 x23 x24 x25) S =
  execL (C b) 1 c36 (k38 b n0) (ee7 x1 x7 x22 x23 x24 x25) S := nr (seqN ((enterS (by kernel_rfl)).trans ((blockE (by kernel_rfl)).trans (enterS (by kernel_rfl)))))
@[go_sem] theorem k33_exit : k33 b n0 (.exit i) e S = (k24 b n0) (.exit i) e S := nr (seqC_x _ _ _ _ _)
def k41 (b n0 : Nat) : KT := seqC (fun e S => execL (C b) 0 c26 (k24 b n0) e S) (k24 b n0)
@[go_sem] theorem k41_n : k41 b n0 .normal (ee7 x1 x7 x22 x23 x24 x25) S =
  condC x25 ((k33 b n0) .normal (ee7 x1 x7 x22 x23 x24 x25) S)
    ((k33 b n0) (.exit 0) (ee7 x1 x7 x22 x23 x24 x25) S) := nr (seqN ((enterS (by kernel_rfl)).trans (condE (t := 25) (by kernel_rfl) (execL_skip (by kernel_rfl)) (execL_exit (by kernel_rfl)) rfl)))
@[go_sem] theorem g44 : execL (C b) 0 c25 K (ee6 x1 x7 x22 x23 x24) S =
  withV (evBin .lss (tyi Try.prog 3) x24 x23) fun x25 =>
    K .normal (ee7 x1 x7 x22 x23 x24 x25) S := nr (by kernel_rfl)
def B0 (b n0 : Nat) (x1 x7 x22 x23 x24 : PV) (S : Store) : RT := execL (C b) 0 c22 (k24 b n0) (ee6 x1 x7 x22 x23 x24) S
@[go_sem] theorem B0_eq : B0 b n0 x1 x7 x22 x23 x24 S =
  execL (C b) 0 c25 (k41 b n0) (ee6 x1 x7 x22 x23 x24) S := nr (enterS (by kernel_rfl))
theorem L0_step {b n0 : Nat} {x1 x7 x22 x23 x24 : PV} {S : Store} {z : PV × Store} (h : B0 b n0 x1 x7 x22 x23 x24 S = some z) : L0 b n0 x1 x7 x22 x23 x24 S = some z := loopL_step h
theorem L0_in (b : Nat) (x1 x7 x22 x23 x24 : PV) (S : Store) : execL (C b) 0 c20 (k21 b) (ee6 x1 x7 x22 x23 x24) S = L0 b (List.length S) x1 x7 x22 x23 x24 S := by kernel_rfl
@[go_sem] theorem k19_n : k19 b .normal (ee6 x1 x7 x22 x23 x24) S =
  L0 b (List.length S) x1 x7 x22 x23 x24 S := nr (seqN ((blockE (by kernel_rfl)).trans (L0_in b x1 x7 x22 x23 x24 S)))
@[go_sem] theorem g46 : execL (C b) 0 c17 K (ee3 x1 x2 x7) S =
  withV (evLoad (tyi Try.prog 26) S x2) fun x21 =>
    withN (callO (callL Try.prog hints) S 57 [x21]) S fun x22 S =>
    withV (lenO (tyi Try.prog 22) x22) fun x23 =>
    withV (some (.int .i64 0)) fun x24 =>
    K .normal (ee6 x1 x7 x22 x23 x24) S := nr (by kernel_rfl)
@[go_sem] theorem k16_n : k16 b .normal (ee3 x1 x2 x7) S =
  execL (C b) 0 c17 (k19 b) (ee3 x1 x2 x7) S := nr (seqN ((enterS (by kernel_rfl)).trans (enterS (by kernel_rfl))))
def k47 (b : Nat) : KT := seqC (fun e S => execL (C b) 0 c6 (k0 b) e S) (k0 b)
@[go_sem] theorem g48 : execL (C b) 0 c7 K (ee4 x1 x2 x20) S =
  withV (some (.sl [] true)) fun x7 =>
    K .normal (ee3 x1 x2 x7) S := nr (by kernel_rfl)
@[go_sem] theorem k47_n : k47 b .normal e S = execL (C b) 0 c7 (k16 b) e S := nr (seqN (enterS (by kernel_rfl)))
@[go_sem] theorem k47_ret : k47 b .ret e S = (k0 b) .ret e S := nr (seqC_r _ _ _ _)
def k49 (b : Nat) : KT := seqC (fun e S => execL (C b) 0 c4 (k0 b) e S) (k0 b)
def c50 : Code := at0 c5
def c51 : Code := at1 c5
def k52 (b : Nat) : KT := seqC (fun e S => execL (C b) 0 c51 (k47 b) e S) (k47 b)
def c53 : Code := atT c51
def c56 : Code := at0 c53
def c57 : Code := at1 c53
def k58 (b : Nat) : KT := seqC (fun e S => execL (C b) 0 c57 (k47 b) e S) (k47 b)
@[go_sem] theorem k58_n : k58 b .normal (ee8 x4 x5) S =
  (k47 b) .ret (ee8 x4 x5) S := nr (seqN (execL_ret (by kernel_rfl)))
@[go_sem] theorem g59 : execL (C b) 0 c56 K (ee4 x1 x2 x20) S =
  withV (some (.sl [] true)) fun x4 =>
    withV (some (.int .i64 1)) fun x5 =>
    K .normal (ee8 x4 x5) S := nr (by kernel_rfl)
@[go_sem] theorem k52_n : k52 b .normal (ee4 x1 x2 x20) S =
  condC x20 (execL (C b) 0 c56 (k58 b) (ee4 x1 x2 x20) S)
    ((k47 b) .normal (ee4 x1 x2 x20) S) := nr (seqN (condE (t := 20) (by kernel_rfl) (enterS (by kernel_rfl)) (execL_skip (by kernel_rfl)) rfl))
@[go_sem] theorem g60 : execL (C b) 0 c50 K (ee2 x1 x2 x6 x13) S =
  withV (some x1) fun x15 =>
    withV (evBin .neq (tyi Try.prog 3) x15 (.int .i64 0)) fun x16 =>
    withV (some x16) fun x17 =>
    withV (gval x17 true (some x1)) fun x18 =>
    withV (gval x17 true (evBin .neq (tyi Try.prog 3) x18 (.int .i64 1))) fun x19 =>
    withV (pickO x17 x19 (.bool false)) fun x20 =>
    K .normal (ee4 x1 x2 x20) S := nr (by kernel_rfl)
@[go_sem] theorem k49_n : k49 b .normal (ee2 x1 x2 x6 x13) S =
  execL (C b) 0 c50 (k52 b) (ee2 x1 x2 x6 x13) S := nr (seqN ((enterS (by kernel_rfl)).trans (enterS (by kernel_rfl))))
@[go_sem] theorem k49_ret : k49 b .ret e S = (k0 b) .ret e S := nr (seqC_r _ _ _ _)
def k61 (b : Nat) : KT := seqC (fun e S => execL (C b) 0 c2 (k0 b) e S) (k0 b)
def c62 : Code := at0 c3
def c63 : Code := at1 c3
def c64 : Code := at0 c63
def c65 : Code := at1 c63
def k66 (b : Nat) : KT := seqC (fun e S => execL (C b) 0 c65 (k49 b) e S) (k49 b)
def c67 : Code := atT c65
def c70 : Code := at0 c67
def c71 : Code := at1 c67
def k72 (b : Nat) : KT := seqC (fun e S => execL (C b) 0 c71 (k49 b) e S) (k49 b)
@[go_sem] theorem k72_n : k72 b .normal (ee8 x4 x5) S =
  (k49 b) .ret (ee8 x4 x5) S := nr (seqN (execL_ret (by kernel_rfl)))
@[go_sem] theorem g73 : execL (C b) 0 c70 K (ee2 x1 x2 x6 x13) S =
  withV (some x6) fun x14 =>
    withV (some (.sl [] true)) fun x4 =>
    withV (some x14) fun x5 =>
    K .normal (ee8 x4 x5) S := nr (by kernel_rfl)
@[go_sem] theorem k66_n : k66 b .normal (ee2 x1 x2 x6 x13) S =
  condC x13 (execL (C b) 0 c70 (k72 b) (ee2 x1 x2 x6 x13) S)
    ((k49 b) .normal (ee2 x1 x2 x6 x13) S) := nr (seqN (condE (t := 13) (by kernel_rfl) (enterS (by kernel_rfl)) (execL_skip (by kernel_rfl)) rfl))
def k74 (b : Nat) : KT := seqC (fun e S => execL (C b) 0 c63 (k49 b) e S) (k49 b)
@[go_sem] theorem g75 : execL (C b) 0 c64 K (ee1 x1 x2 x6) S =
  withV (some x6) fun x12 =>
    withV (evBin .neq (tyi Try.prog 29) x12 (.int .i64 0)) fun x13 =>
    K .normal (ee2 x1 x2 x6 x13) S := nr (by kernel_rfl)
@[go_sem] theorem k74_n : k74 b .normal e S = execL (C b) 0 c64 (k66 b) e S := nr (seqN (enterS (by kernel_rfl)))
@[go_sem] theorem g76 : execL (C b) 0 c62 K (ee0 x1 x2) S =
  withV (evLoad (tyi Try.prog 26) S x2) fun x10 =>
    withN (callO (callL Try.prog hints) S 17 [x10]) S fun x11 S =>
    withV (some x11) fun x6 =>
    K .normal (ee1 x1 x2 x6) S := nr (by kernel_rfl)
@[go_sem] theorem k61_n : k61 b .normal (ee0 x1 x2) S =
  execL (C b) 0 c62 (k74 b) (ee0 x1 x2) S := nr (seqN ((enterS (by kernel_rfl)).trans (enterS (by kernel_rfl))))
@[go_sem] theorem g77 : execL (C b) 0 c1 K [(0, x0), (1, x1)] S =
  withN (boxed S (List.length S) (TI.size (tyi Try.prog 26)) x0) S fun x2 S =>
    withV (some (.sl [] true)) fun x4 =>
    withV (some (.int .i64 0)) fun x5 =>
    K .normal (ee0 x1 x2) S := nr (by kernel_rfl)
def E (b : Nat) (x0 x1 : PV) (S : Store) : RT := execL (C b) 0 code (k0 b) [(0, x0), (1, x1)] S
@[go_sem] theorem E_eq : E b x0 x1 S =
  execL (C b) 0 c1 (k61 b) [(0, x0), (1, x1)] S := nr (enterS (by kernel_rfl))
@[go_sem] theorem k0_ret8 : k0 b .ret (ee8 x4 x5) S = some ((.tup [x4, x5]), S) := nr (by kernel_rfl)
theorem call {x0 x1 : PV} {r : PV × Store} {v : PV} (h : E 0 x0 x1 [] = some r) (hv : fzPV r.2 r.1 = some v) : callL Try.prog hints 20 [x0, x1] = some v := callL_of (fn := Try.f20) (c := code) (by kernel_rfl) (by kernel_rfl) (by decide) (by kernel_rfl) (Nat.le_of_ble_eq_true (by kernel_rfl)) h hv
end
end F20
/-! ### isochroneref23.Wins -/
namespace F21
section
variable (b i n n0 : Nat) (K : KT) (x0 x1 x2 x4 x5 x6 x7 x8 x9 x13 x20 x29 : PV) (e : Env) (S : Store)
end
end F21
/-! ### game.Safe -/
namespace F23
section
variable (b : Nat) (K : KT) (x0 x1 x2 x3 : PV) (e : Env) (S : Store)
end
end F23
end
end Go.Vs
end
/- game.Ranks and the reference's: what they return. -/
section
set_option linter.unusedVariables false
set_option linter.unusedSimpArgs false
namespace Go.Vs
open Go Go.Proofs
/-- The ranks. -/
def Game.ranks (g : Game) : List Int := Rk.lvl g.toG (g.owner.length + 1)
def Game.ranksRes (g : Game) : PV := if g.check = 0 then .tup [.sl (intRows g.ranks) false, .int .i64 0] else .tup [.sl [] true, .int .i64 g.check]
theorem call15 (g : Game) (hg : g.ok) : callL Try.prog hints 15 [.agg g.cells] = some g.ranksRes := by
  have c1 := fun S => callG S (call17 g hg)
  unfold Game.ranksRes
  by_cases h : g.check = 0
  · have c2 := fun S => callG S (call57 g (good_of h))
    rw [if_pos h]
    refine F15.call (r := (.tup [.sl (intRows g.ranks) false, .int .i64 0], [.arr [g.cells] none false])) ?_ ?_
    · simp only [go_sem, ↓reduceIte, Nat.reduceEqDiff, Nat.reduceBEq, Nat.reduceAdd, Nat.reduceMul, Nat.reduceSub, Nat.reduceLT, Nat.reduceLeDiff, reduceCtorEq, Int.reduceToNat, Int.reduceLE, Int.reduceLT, Int.reduceEq, withV_any, c1, h, c2, Game.ranks]
    · show (mapO (fzPV1 _) [.sl (intRows g.ranks) false, .int .i64 0]).map PV.tup = _
      have e : fzPV1 [.arr [g.cells] none false] (.sl (intRows g.ranks) false) = some (.sl (intRows g.ranks) false) := fzPV_sl _ _
      simp only [mapO, e, Option.bind_some]
      rfl
  · rw [if_neg h]
    refine F15.call (r := (.tup [.sl [] true, .int .i64 g.check], [.arr [g.cells] none false])) ?_ rfl
    simp only [go_sem, ↓reduceIte, Nat.reduceEqDiff, Nat.reduceBEq, Nat.reduceAdd, Nat.reduceMul, Nat.reduceSub, Nat.reduceLT, Nat.reduceLeDiff, reduceCtorEq, Int.reduceToNat, Int.reduceLE, Int.reduceLT, Int.reduceEq, withV_any, c1, h, decide_false, Bool.not_false]
end Go.Vs
end
/- game.Wins: what it returns. -/
section
set_option linter.unusedVariables false
set_option linter.unusedSimpArgs false
namespace Go.Vs
open Go Go.Proofs
theorem bytes4 : (tyi Try.prog 4).bytes = 1 := by kernel_rfl
theorem zeroOK4 : zeroOK (tyi Try.prog 4) = true := by kernel_rfl
@[go_sem] theorem buildSlice24 (id n : Nat) (is : List Nat) (rows : List (List PV)) : buildSliceO Try.prog 24 id n is rows = if is = List.range n ∧ rowsOK 1 rows = true ∧ (rows.all fun r => r.all PV.cell) = true ∧ n * 1 ≤ 16777216 then some { v := .msl id 0 n true, new := some (rows, some (some 1)) } else none := by
  have e : (tyi Try.prog 4).zero.isSome = true := by kernel_rfl
  simp [buildSliceO, d24, size4, e]
theorem boolRows_ok (l : List Bool) : rowsOK 1 (boolRows l) = true := by simp [rowsOK, boolRows]
theorem boolRows_refs (l : List Bool) : rowsRefs (boolRows l) = [] := by
  induction l with
  | nil => rfl
  | cons a l ih => simp only [boolRows, List.map_cons, rowsRefs_cons] at ih ⊢; rw [ih]; rfl
theorem boolRows_append (a b : List Bool) : boolRows (a ++ b) = boolRows a ++ boolRows b := by simp [boolRows]
/-- A list of bools that is appended to. -/
inductive BoolO (S : Store) : PV → List Bool → Prop
  | nil : BoolO S (.sl [] true) []
  | arr (id : Nat) (L : List Bool) (g : Option Nat) (hg : g = none ∨ g = some 1) (h : S[id]? = some (.arr (boolRows L) (some g) false)) (h0 : L ≠ []) : BoolO S (.msl id 0 L.length false) L
theorem appendBool {S : Store} {v : PV} {L : List Bool} (x : Bool) (h : BoolO S v L) (hv : ∀ r ∈ v.refs, 1 ≤ r) (hS : 1 ≤ S.length) (hn : L.length ≤ 2000000) :
    ∃ v' S' ks, appendE Try.prog 0 24 24 (S ++ [.arr [[.bool x]] (some (some 1)) false]) v (.msl S.length 0 1 true) = some { v := v', S := S', kill := ks } ∧ BoolO S' v' (L ++ [x]) ∧ (∃ r, r ∈ v'.refs ∧ 1 ≤ r) ∧ (∀ r ∈ v'.refs, 1 ≤ r) ∧ 1 ≤ S'.length := by
  have hy : rowsIn (S ++ [Obj.arr [[.bool x]] (some (some 1)) false]) (.msl S.length 0 1 true) = some (boolRows [x]) := by
    rw [rowsIn_msl, rowsAt_of (S := S ++ [Obj.arr [[.bool x]] (some (some 1)) false]) (id := S.length) (rows := [[.bool x]]) (g := some (some 1)) (f := false) (by simp)]
    rfl
  cases h with
  | nil =>
    refine ⟨.msl (S.length + 1) 0 1 false, (S ++ [.arr [[.bool x]] (some (some 1)) false]) ++ [.arr (boolRows [x]) (some (some 1)) false], [], ?_, .arr (S.length + 1) [x] (some 1) (.inr rfl) (by rw [List.getElem?_append_right (by simp)]; simp) (by simp), ⟨S.length + 1, by simp [PV.refs], by omega⟩, by intro r hr; simp only [PV.refs, List.mem_singleton] at hr; omega, by simp⟩
    have e5 : evAppendNew 1 1 (S ++ [Obj.arr [[.bool x]] (some (some 1)) false]) (S ++ [Obj.arr [[.bool x]] (some (some 1)) false]).length (.sl [] true) (.msl S.length 0 1 true) = some { v := .msl (S.length + 1) 0 1 false, new := some (boolRows [x], some (some 1)) } := by
      have e6 : Vs.rowsIn (S ++ [Obj.arr [[.bool x]] (some (some 1)) false]) (.sl [] true) = some [] := rfl
      have e7 : exact (.sl [] true) = true := rfl
      simp only [evAppendNew, e7, if_true, e6, hy, Option.bind_some]
      rw [if_pos ⟨rfl, boolRows_ok [x], by simp [boolRows], by simp [boolRows]⟩, if_neg (by simp [boolRows])]
      simp [boolRows]
    simp only [appendE, exact, if_true, appendN, d24, zeroOK4, bytes4, size4, e5, Option.map_some, place]
  | arr id L g hg h h0 =>
    have hid := (List.getElem?_eq_some_iff.1 h).1
    have h1 := hv id (by simp [PV.refs])
    have h' : (S ++ [Obj.arr [[.bool x]] (some (some 1)) false])[id]? = some (.arr (boolRows L) (some g) false) := by rw [List.getElem?_append_left hid]; exact h
    have hk := append_known (ex := false) (esz := 1) (bytes := 1) h' hy (Nat.zero_le id) (boolRows_length L).symm hg (boolRows_ok L) (boolRows_ok [x]) (by simp only [boolRows_length, List.length_cons, List.length_nil]; omega) (by simp only [boolRows_length, List.length_cons, List.length_nil]; omega) (by rw [boolRows_refs, boolRows_refs]; rfl)
    have hl1 : (boolRows L).length + (boolRows [x]).length = (L ++ [x]).length := by simp [boolRows_length]
    rw [hl1, ← boolRows_append] at hk
    have e1 : ∀ y : PV, appendE Try.prog 0 24 24 (S ++ [Obj.arr [[.bool x]] (some (some 1)) false]) (.msl id 0 L.length false) y = evAppend 0 1 1 (S ++ [Obj.arr [[.bool x]] (some (some 1)) false]) (.msl id 0 L.length false) y := fun y => by
      simp only [appendE, exact, Bool.false_eq_true, if_false, d24, zeroOK4, if_true, bytes4, size4]
    exact ⟨_, _, [id], by rw [e1, hk], .arr id (L ++ [x]) (some 1) (.inr rfl) (by rw [List.getElem?_set_self (by simp; omega)]) (by simp), ⟨id, by simp [PV.refs], h1⟩, by intro r hr; simp only [PV.refs, List.mem_singleton] at hr; omega, by simp⟩
/-- Does the player win where the rank is this? -/
def winB (p r : Int) : Bool := decide (0 ≤ r) == decide (p = 0)
theorem loop20 (p : Int) (R : List Int) (hR : R.length ≤ 2000000) : ∀ (m i : Nat), i + m = R.length → ∀ (S : Store) (v : PV) (L : List Bool), BoolO S v L → (∀ r ∈ v.refs, 1 ≤ r) → 1 ≤ S.length → L.length + m ≤ 2000000 →
    ∃ v' S', F20.L0 0 1 (.int .i64 p) v (.sl (intRows R) false) (.int .i64 R.length) (.int .i64 i) S = some (.tup [v', .int .i64 0], S') ∧ BoolO S' v' (L ++ (R.drop i).map (winB p)) := by
  have hm4 : (2000000 : Nat) ≤ maxLen := by decide
  have gcO : ∀ (e : Env) (S : Store) (v : PV) (L : List Bool), (∃ t, (t, v) ∈ e) → BoolO S v L → (∀ r ∈ v.refs, 1 ≤ r) → BoolO (Vs.gc 1 e S) v L := fun e S v L he h hv => by
    cases h with
    | nil => exact .nil
    | arr id L g hg h h0 =>
      obtain ⟨t, ht⟩ := he
      rw [gc_no ht (r := id) (by simp [PV.refs]) (hv id (by simp [PV.refs]))]
      exact .arr id L g hg h h0
  intro m
  induction m with
  | zero =>
    intro i hi S v L h hv hS hL
    have c1 : ¬ (i : Int) < (R.length : Int) := by omega
    rw [List.drop_of_length_le (by omega), List.map_nil, List.append_nil]
    refine ⟨v, Vs.gc 1 (F20.ee7 .undef v .undef .undef .undef .undef) S, F20.L0_step ?_, gcO _ S v L ⟨7, by simp [F20.ee7]⟩ h hv⟩
    have s1 : ∀ (K : KT), execL (F20.C 0) 0 F20.c25 K (F20.ee6 (.int .i64 p) v (.sl (intRows R) false) (.int .i64 R.length) (.int .i64 i)) S = K .normal (F20.ee7 (.int .i64 p) v (.sl (intRows R) false) (.int .i64 R.length) (.int .i64 i) (.bool false)) S := fun K => by
      simp only [go_sem, ↓reduceIte, Nat.reduceEqDiff, Nat.reduceBEq, Nat.reduceAdd, Nat.reduceMul, Nat.reduceSub, Nat.reduceLT, Nat.reduceLeDiff, reduceCtorEq, Int.reduceToNat, Int.reduceLE, Int.reduceLT, Int.reduceEq, c1]
    simp only [F20.B0_eq, s1, F20.k41_n, condC_false, F20.k33_exit, F20.k24_x1, F20.k21_exit, if_true, F20.k14_n, F20.g15, withV_any, F20.k13_n, F20.k0_ret8]
  | succ m hm =>
    intro i hi S v L h hv hS hL
    have c1 : (i : Int) < (R.length : Int) := by omega
    have hiR : i < R.length := by omega
    have w1 := wrap_succ (i := i) (n := R.length) hiR (by omega)
    have h5 : 0 ≤ (i : Int) ∧ (i : Int) < (R.length : Int) := ⟨by omega, c1⟩
    have ed : R.drop i = R.getD i 0 :: R.drop (i + 1) := by
      rw [List.drop_eq_getElem_cons hiR]
      simp [List.getD_eq_getElem?_getD, hiR]
    obtain ⟨v1, S1, ks, p1, p2, ⟨r, p3, p4⟩, p5, p6⟩ := appendBool (winB p (R.getD i 0)) h hv hS (by omega)
    have e1 : Vs.gc 1 (F20.ee6 (.int .i64 p) v1 (.sl (intRows R) false) (.int .i64 R.length) (.int .i64 (i + 1 : Nat))) S1 = S1 := gc_no (t := 7) (v := v1) (by simp [F20.ee6]) p3 p4
    obtain ⟨v', S', q1, q2⟩ := hm (i + 1) (by omega) S1 v1 (L ++ [winB p (R.getD i 0)]) p2 p5 p6 (by simp; omega)
    refine ⟨v', S', F20.L0_step ?_, by rw [ed, List.map_cons]; simpa using q2⟩
    have s1 : ∀ (K : KT), execL (F20.C 0) 0 F20.c25 K (F20.ee6 (.int .i64 p) v (.sl (intRows R) false) (.int .i64 R.length) (.int .i64 i)) S = K .normal (F20.ee7 (.int .i64 p) v (.sl (intRows R) false) (.int .i64 R.length) (.int .i64 i) (.bool true)) S := fun K => by
      simp only [go_sem, ↓reduceIte, Nat.reduceEqDiff, Nat.reduceBEq, Nat.reduceAdd, Nat.reduceMul, Nat.reduceSub, Nat.reduceLT, Nat.reduceLeDiff, reduceCtorEq, Int.reduceToNat, Int.reduceLE, Int.reduceLT, Int.reduceEq, c1]
    have s2 : ∀ (K : KT), execL (F20.C 0) 1 F20.c36 K (F20.ee7 (.int .i64 p) v (.sl (intRows R) false) (.int .i64 R.length) (.int .i64 i) (.bool true)) S = K .normal (F20.ee5 (.int .i64 p) v (.int .i64 (R.getD i 0)) (.sl (intRows R) false) (.int .i64 R.length) (.int .i64 i)) S := fun K => by
      simp only [go_sem, ↓reduceIte, Nat.reduceEqDiff, Nat.reduceBEq, Nat.reduceAdd, Nat.reduceMul, Nat.reduceSub, Nat.reduceLT, Nat.reduceLeDiff, reduceCtorEq, Int.reduceToNat, Int.reduceLE, Int.reduceLT, Int.reduceEq, withV_any, h5, Int.toNat_natCast]
    have ki : ∀ z : Int, kill1 ks (.int .i64 z) = .int .i64 z := fun z => rfl
    have kl : kill1 ks (.sl (intRows R) false) = .sl (intRows R) false := rfl
    have s3 : ∀ (K : KT), execL (F20.C 0) 1 F20.c37 K (F20.ee5 (.int .i64 p) v (.int .i64 (R.getD i 0)) (.sl (intRows R) false) (.int .i64 R.length) (.int .i64 i)) S = K .normal (F20.ee6 (.int .i64 p) v1 (.sl (intRows R) false) (.int .i64 R.length) (.int .i64 i)) S1 := fun K => by
      by_cases a1 : 0 ≤ R.getD i 0 <;> by_cases a2 : p = 0 <;> simp only [winB, a1, a2, decide_true, decide_false, beq_self_eq_true] at p1 <;> simp only [go_sem, ↓reduceIte, Nat.reduceEqDiff, Nat.reduceBEq, Nat.reduceAdd, Nat.reduceMul, Nat.reduceSub, Nat.reduceLT, Nat.reduceLeDiff, reduceCtorEq, Int.reduceToNat, Int.reduceLE, Int.reduceLT, Int.reduceEq, withV_any, a1, a2, p1, get_put, get_killE, ki, kl]
    have s4 : ∀ (K : KT), execL (F20.C 0) 0 F20.c30 K (F20.ee6 (.int .i64 p) v1 (.sl (intRows R) false) (.int .i64 R.length) (.int .i64 i)) S1 = K .normal (F20.ee6 (.int .i64 p) v1 (.sl (intRows R) false) (.int .i64 R.length) (.int .i64 (i + 1 : Nat))) S1 := fun K => by
      simp only [go_sem, ↓reduceIte, Nat.reduceEqDiff, Nat.reduceBEq, Nat.reduceAdd, Nat.reduceMul, Nat.reduceSub, Nat.reduceLT, Nat.reduceLeDiff, reduceCtorEq, Int.reduceToNat, Int.reduceLE, Int.reduceLT, Int.reduceEq, withV_any, w1]
    simp only [F20.B0_eq, s1, F20.k41_n, condC_true, F20.k33_n, s2, F20.k38_n, s3, F20.k35_n, F20.k31_n, s4, F20.k24_n, e1]
    exact q1
end Go.Vs
end
/- game.Wins, game.Safe and the reference's Wins: what they return. -/
section
set_option linter.unusedVariables false
set_option linter.unusedSimpArgs false
namespace Go.Vs
open Go Go.Proofs
theorem bools_fz {S : Store} {id : Nat} {ex : Bool} {L : List Bool} {g : Option (Option Nat)} {f : Bool} (h : S[id]? = some (.arr (boolRows L) g f)) (d : Nat) : fzCell S (d + 2) (.msl id 0 L.length ex) = some (.sl (boolRows L) false) := by
  have e0 : rowsAt S id = some (boolRows L) := by simp only [rowsAt, h]
  have e1 : Vs.rowsIn S (.msl id 0 L.length false) = some (boolRows L) := by
    rw [rowsIn_msl, e0]
    simp only [Option.bind_some, Nat.zero_add, boolRows_length, Nat.le_refl, if_true, List.drop_zero]
    rw [← boolRows_length L, List.take_length]
  have e2 : mapO (mapO (fzCell S (d + 1))) (boolRows L) = some (boolRows L) := by
    have := mapO_all (f := mapO (fzCell S (d + 1))) (g := fun x => x) (l := boolRows L) (fun a ha => by
      obtain ⟨w, _, rfl⟩ := List.mem_map.1 ha
      rfl)
    simpa using this
  show ((Vs.rowsIn S (.msl id 0 L.length false)).bind fun rows => (mapO (mapO (fzCell S (d + 1))) rows).map fun rows => PV.sl rows false) = _
  rw [e1]
  simp only [Option.bind_some, e2, Option.map_some]
/-- A list of bools as a value; nil only if it is empty. -/
def IsBools (v : PV) (l : List Bool) : Prop := ∃ ex, v = .sl (boolRows l) ex ∧ (ex = true → l = [])
theorem IsBools.plain {v : PV} {l : List Bool} (h : IsBools v l) : Plain v := by
  obtain ⟨ex, rfl, h2⟩ := h
  cases ex with
  | false => exact .sl _
  | true => rw [h2 rfl]; exact .nil
theorem BoolO.fz {S : Store} {v : PV} {L : List Bool} (h : BoolO S v L) : ∃ w, IsBools w L ∧ fzPV1 S v = some w := by
  cases h with
  | nil => exact ⟨.sl [] true, ⟨true, rfl, fun _ => rfl⟩, rfl⟩
  | arr id L g hg h h0 => exact ⟨.sl (boolRows L) false, ⟨false, rfl, fun h => by cases h⟩, bools_fz (ex := false) h 6⟩
theorem callGI {f : FuncId} {g : Game} {p : Int} {v : PV} (S : Store) (h : callL Try.prog hints f [.agg g.cells, .int .i64 p] = some v) : callO (callL Try.prog hints) S f [.agg g.cells, .int .i64 p] = some { v } := callO_plain h (by
  intro a ha
  rcases List.mem_cons.1 ha with rfl | ha
  · exact g.plain
  · rw [List.mem_singleton.1 ha]; exact ⟨rfl, fun _ => rfl⟩)
/-- Who wins where. -/
def Game.wins (g : Game) (p : Int) : List Bool := g.ranks.map (winB p)
def Game.winsErr (g : Game) (p : Int) : Int := if g.check = 0 then (if p = 0 ∨ p = 1 then 0 else 1) else g.check
theorem ranks_len (g : Game) : g.ranks.length = g.owner.length := by rw [Game.ranks, Rk.lvl_length]; rfl
/-- A result of Wins: the list if there is no error, nil otherwise. -/
def IsWins (g : Game) (p : Int) (v : PV) : Prop := ∃ w, v = .tup [w, .int .i64 (g.winsErr p)] ∧ (g.winsErr p = 0 → IsBools w (g.wins p)) ∧ (g.winsErr p ≠ 0 → w = .sl [] true)
theorem winsErr_ok {g : Game} {p : Int} (h : g.check = 0) (hp : p = 0 ∨ p = 1) : g.winsErr p = 0 := by unfold Game.winsErr; rw [if_pos h, if_pos hp]
theorem call20 (g : Game) (hg : g.ok) (p : Int) : ∃ v, IsWins g p v ∧ callL Try.prog hints 20 [.agg g.cells, .int .i64 p] = some v := by
  have c1 := fun S => callG S (call17 g hg)
  by_cases h : g.check = 0
  · by_cases hp : p = 0 ∨ p = 1
    · have hgood := good_of h
      have c2 := fun S => callG S (call57 g hgood)
      have hN := hgood.n
      have hrl := ranks_len g
      obtain ⟨v', S', a1, a2⟩ := loop20 p g.ranks (by omega) g.ranks.length 0 (by omega) [.arr [g.cells] none false] (.sl [] true) [] .nil (by intro r hr; cases hr) (by simp) (by simp; omega)
      rw [List.drop_zero, List.nil_append] at a2
      obtain ⟨w, b1, b2⟩ := a2.fz
      have e0 := winsErr_ok h hp
      refine ⟨.tup [w, .int .i64 (g.winsErr p)], ⟨w, rfl, fun _ => b1, fun hn => absurd e0 hn⟩, ?_⟩
      rw [e0]
      refine F20.call (r := (.tup [v', .int .i64 0], S')) ?_ ?_
      · simp only [Int.natCast_zero] at a1
        have c2' : ∀ S, callO (callL Try.prog hints) S 57 [.agg g.cells] = some { v := .sl (intRows g.ranks) false } := c2
        rcases hp with rfl | rfl
        · simp only [go_sem, ↓reduceIte, Nat.reduceEqDiff, Nat.reduceBEq, Nat.reduceAdd, Nat.reduceMul, Nat.reduceSub, Nat.reduceLT, Nat.reduceLeDiff, reduceCtorEq, Int.reduceToNat, Int.reduceLE, Int.reduceLT, Int.reduceEq, withV_any, c1, h, c2', a1]
        · simp only [go_sem, ↓reduceIte, Nat.reduceEqDiff, Nat.reduceBEq, Nat.reduceAdd, Nat.reduceMul, Nat.reduceSub, Nat.reduceLT, Nat.reduceLeDiff, reduceCtorEq, Int.reduceToNat, Int.reduceLE, Int.reduceLT, Int.reduceEq, withV_any, c1, h, c2', a1]
      · show (mapO (fzPV1 S') [v', .int .i64 0]).map PV.tup = _
        simp only [mapO, b2, Option.bind_some]
        rfl
    · have e0 : g.winsErr p = 1 := by unfold Game.winsErr; rw [if_pos h, if_neg hp]
      refine ⟨.tup [.sl [] true, .int .i64 (g.winsErr p)], ⟨.sl [] true, rfl, fun hn => by rw [e0] at hn; exact absurd hn (by decide), fun _ => rfl⟩, ?_⟩
      rw [e0]
      have h0 : ¬ p = 0 := fun e => hp (.inl e)
      have h1 : ¬ p = 1 := fun e => hp (.inr e)
      refine F20.call (r := (.tup [.sl [] true, .int .i64 1], [.arr [g.cells] none false])) ?_ rfl
      simp only [go_sem, ↓reduceIte, Nat.reduceEqDiff, Nat.reduceBEq, Nat.reduceAdd, Nat.reduceMul, Nat.reduceSub, Nat.reduceLT, Nat.reduceLeDiff, reduceCtorEq, Int.reduceToNat, Int.reduceLE, Int.reduceLT, Int.reduceEq, withV_any, c1, h, h0, h1, decide_false, Bool.not_false]
  · have e0 : g.winsErr p = g.check := by unfold Game.winsErr; rw [if_neg h]
    refine ⟨.tup [.sl [] true, .int .i64 (g.winsErr p)], ⟨.sl [] true, rfl, fun hn => absurd (e0 ▸ hn) h, fun _ => rfl⟩, ?_⟩
    rw [e0]
    refine F20.call (r := (.tup [.sl [] true, .int .i64 g.check], [.arr [g.cells] none false])) ?_ rfl
    simp only [go_sem, ↓reduceIte, Nat.reduceEqDiff, Nat.reduceBEq, Nat.reduceAdd, Nat.reduceMul, Nat.reduceSub, Nat.reduceLT, Nat.reduceLeDiff, reduceCtorEq, Int.reduceToNat, Int.reduceLE, Int.reduceLT, Int.reduceEq, withV_any, c1, h, decide_false, Bool.not_false]
end Go.Vs
end
/- The reference's Wins: what it returns. -/
section
set_option linter.unusedVariables false
set_option linter.unusedSimpArgs false
namespace Go.Vs
open Go Go.Proofs
theorem known4' : (tyi Try.prog 4).known = true := by kernel_rfl
def zbool (n : Nat) : List Bool := List.replicate n false
theorem makeSlice24 (id n : Nat) (h : n ≤ 2000000) : makeSliceO Try.prog 24 id (.int .i64 n) (.int .i64 n) = some { v := .msl id 0 n true, new := some (boolRows (zbool n), some (some 1)) } := by
  have e3 : (tyi Try.prog 4).zero = some [.bool false] := by kernel_rfl
  simp only [makeSliceO, d24, e3, Option.bind_some, bytes4, size4]
  rw [if_pos ⟨by omega, by omega, by omega, by omega, rfl, rfl⟩]
  simp [zbool, boolRows]
theorem idx24m {S : Store} {id n : Nat} {ex : Bool} {rows : List (List PV)} (i : Nat) (hS : rowsAt S id = some rows) (hl : rows.length = n) (h2 : rowsOK 1 rows = true) (hi : i < n) : indexAddrO Try.prog 24 S (.msl id 0 n ex) (.int .i64 i) = some (.mp id i 0) := by
  have e1 : elemTy (tyi Try.prog 24) = 4 := by simp [elemTy, d24]
  have e2 : isSlice (tyi Try.prog 24) = true := by simp [isSlice, d24]
  simp only [indexAddrO, e1, e2, known4', size4, and_self, if_true, evIndexAddr, hS, Option.bind_some]
  rw [if_pos ⟨by omega, by omega⟩, if_pos ⟨h2, by omega⟩, Nat.zero_add, Int.toNat_natCast]
end Go.Vs
end
/- Printed by a program of mine (stage1.py): the functions 72, 78, 79, 81, piece by piece. -/
section
set_option linter.unusedVariables false
set_option linter.unusedSimpArgs false
namespace Go.Vs
open Go Go.Proofs
noncomputable section

/-! ### tree.root -/
namespace F72
section
variable (b : Nat) (K : KT) (x0 x1 x2 x3 x12 : PV) (e : Env) (S : Store)
end
end F72
/-! ### tree.step -/
namespace F78
section
variable (b i n n0 : Nat) (K : KT) (x0 x1 x2 x4 x5 x7 x8 x9 x10 x11 x22 : PV) (e : Env) (S : Store)
end
end F78
/-! ### tree.Copy -/
namespace F79
section
variable (b i n n0 : Nat) (K : KT) (x0 x1 x2 x3 x5 x6 x20 x31 x39 x40 x41 x42 : PV) (e : Env) (S : Store)
end
end F79
/-! ### tree.put -/
namespace F81
section
variable (b i n n0 : Nat) (K : KT) (x0 x1 x2 x3 x5 x6 x7 x8 x9 x10 x13 x19 x20 x21 x22 x30 : PV) (e : Env) (S : Store)
end
end F81
end
end Go.Vs
end
/- tree.Copy: it returns the same tree. -/
section
set_option linter.unusedVariables false
set_option linter.unusedSimpArgs false
namespace Go.Vs
open Go Go.Proofs
/- No list of a tree is too long to be appended to. -/
@[go_sem] theorem ownMem_mp (S : Store) (id i off j : Nat) : ownMem S (.mp id i off) j = ownCell S id i (off + j) := nr rfl
/-- A cell that freezes to a value, refers but below, and isn't hurt by what comes behind. -/
structure CellOK (A B R0 : Obj) (T : Store) (v w : PV) : Prop where
  cell : v.cell = true
  low : (v.refs.all fun i => decide (i < T.length + 3)) = true
  fz : ∀ A B R U d, fzCell (A :: B :: R :: (T ++ U)) (d + 2) v = some w
  ne : ∀ i, T.length + 3 ≤ i → (v.refs.any fun x => [i].contains x) = false
/-- A slice of words that lie in the store. -/
theorem fzCell_words {S : Store} {id : Nat} {l : List Int} {ex : Bool} (h : rowsAt S id = some (wordRows l)) (d : Nat) : fzCell S (d + 2) (.msl id 0 l.length ex) = some (.sl (wordRows l) false) := by
  have e1 : rowsIn S (.msl id 0 l.length false) = some (wordRows l) := by
    have : l.length = (wordRows l).length := (wordRows_length l).symm
    simp only [rowsIn, h, Option.bind_some, Nat.zero_add, List.drop_zero, wordRows_length, Nat.le_refl, if_true]
    rw [this, List.take_length]
  have e2 : mapO (mapO (fzCell S (d + 1))) (wordRows l) = some (wordRows l) := by
    have := mapO_all (f := mapO (fzCell S (d + 1))) (g := fun x => x) (l := wordRows l) (fun a ha => by
      obtain ⟨w, _, rfl⟩ := List.mem_map.1 ha
      rfl)
    simpa using this
  show ((rowsIn S (.msl id 0 l.length false)).bind fun rows => (mapO (mapO (fzCell S (d + 1))) rows).map fun rows => PV.sl rows false) = _
  rw [e1]
  simp only [Option.bind_some, e2, Option.map_some]
theorem CellOK.none {A B R0 : Obj} {T : Store} {l : List Int} (h : l.length = 0) : CellOK A B R0 T (.sl [] true) (.sl (wordRows l) false) := by
  obtain rfl := List.eq_nil_of_length_eq_zero h
  exact ⟨rfl, rfl, fun _ _ _ _ _ => rfl, fun _ _ => rfl⟩
theorem CellOK.some {A B R0 : Obj} {T : Store} {l : List Int} {j : Nat} (hj : j < T.length) (h : ∀ U, rowsAt (T ++ U) j = some (wordRows l)) : CellOK A B R0 T (.msl (j + 3) 0 l.length false) (.sl (wordRows l) false) := by
  refine ⟨rfl, ?_, fun A B R U d => fzCell_words ?_ d, fun i hi => ?_⟩
  · simp [PV.refs]; omega
  · rw [rowsAt_succ, rowsAt_succ, rowsAt_succ]; exact h U
  · simp [PV.refs]; omega
end Go.Vs
end
/- tree.put: the tree with another node at a place. -/
section
set_option linter.unusedVariables false
set_option linter.unusedSimpArgs false
namespace Go.Vs
open Go Go.Proofs
/-- The tree with w at a place. -/
def Node.put (w : Node) : List Int → Node → Node
  | [], _ => w
  | p :: ps, n => .mk n.op n.name n.neg n.num n.den (n.kids.mapIdx fun i k => if (i : Int) = p then Node.put w ps k else k)
end Go.Vs
end
/- tree.shape: what it returns. -/
section
set_option linter.unusedVariables false
set_option linter.unusedSimpArgs false
namespace Go.Vs
open Go Go.Proofs
/-- The sorts of an operator's kids; what differs by the node is not told here. -/
def kidSorts (o : Int) : List Int :=
  if o = 4 ∨ o = 12 then [1] else if o = 59 ∨ o = 60 then [3] else if o = 53 ∨ o = 28 ∨ o = 39 then [2] else
  if (5 ≤ o ∧ o ≤ 9) ∨ (22 ≤ o ∧ o ≤ 27) then [1, 1] else if 29 ≤ o ∧ o ≤ 32 then [2, 2] else if o = 33 ∨ o = 34 then [2] else
  if o = 35 ∨ o = 36 then [3, 2] else if o = 50 ∨ o = 51 ∨ o = 55 then [1] else if o = 57 ∨ o = 58 then [3, 3] else []
/-- Has a node of an operator a name? -/
def hasName (o : Int) : Bool := decide (o = 2 ∨ o = 3 ∨ o = 11 ∨ o = 33 ∨ o = 34 ∨ o = 38 ∨ o = 50 ∨ o = 51 ∨ o = 52 ∨ o = 55 ∨ o = 56 ∨ o = 61 ∨ o = 62)
end Go.Vs
end
/- tree.formed: what it returns. -/
section
set_option linter.unusedVariables false
set_option linter.unusedSimpArgs false
namespace Go.Vs
open Go Go.Proofs
def noName (s : ByteArray) : Bool := s.toList == (⟨#[]⟩ : ByteArray).toList
/-- The sorts of a node's kids. -/
def sortsFor (o : Int) (m : Nat) : List Int := if o = 10 ∨ o = 37 then List.replicate m 1 else if o = 54 then List.replicate (m - 1) 4 ++ [2] else kidSorts o
/-- The last test: a quotient's, a power's second kid. -/
def tailOK (o : Int) (f : List Node) : Bool :=
  if o = 8 then decide ((f.getD 1 default).op = 1) && decide (0 < (f.getD 1 default).num.length)
  else if o = 9 then decide ((f.getD 1 default).op = 1) && (decide ((f.getD 1 default).num.length = 0) || (decide ((f.getD 1 default).num.length = 1) && decide ((f.getD 1 default).num.getD 0 0 ≤ 20)))
  else true
/-- Another variable than this equation's. -/
def otherVar (k o : Node) : Bool := !(decide (k.op = 55) && (o.name.toList == k.name.toList))
/-- A flow's kid at a place: an equation of another variable than those before, or further equations at the end. -/
def flowAt (f : List Node) (last i : Nat) : Bool :=
  (decide ((f.getD i default).op = 55) || (decide ((f.getD i default).op = 56) && decide (i = last - 1))) && (f.take i).all (otherVar (f.getD i default))
def flowFrom (f : List Node) (last : Nat) : Nat → Nat → Bool
  | 0, _ => true
  | m + 1, i => flowAt f last i && flowFrom f last m (i + 1)
def flowOK (f : List Node) : Bool := flowFrom f (f.length - 1) (f.length - 1) 0
/-- The number, the name. -/
def headOK (o : Int) (nm : ByteArray) (ng : Bool) (nu de : List Int) : Bool :=
  (if o = 1 then natOK ng nu de else (!ng && (decide (nu.length = 0) && decide (de.length = 0)))) &&
  !((hasName o && !nameOK nm) || (!hasName o && (!noName nm && (decide (o ≠ 10) && decide (o ≠ 37)))))
/-- What an operator asks besides. -/
def switchOK (o : Int) (nm : ByteArray) (f : List Node) (a b c : Bool) : Bool :=
  if o = 10 ∨ o = 37 then nameOK nm && decide (f.length ≤ 1)
  else if o = 54 then noName nm && (decide (2 ≤ f.length) && flowOK f)
  else if o = 3 then !(a || (b || c))
  else if o = 12 then !(a || c)
  else if o = 39 then !c && (decide (f.length = 1) && (f.getD 0 default).diff)
  else true
mutual
def Node.formed : Node → Bool → Bool → Bool → Bool
  | .mk o nm ng nu de f, a, b, c => headOK o nm ng nu de && (switchOK o nm f a b c && (decide (f.length = (sortsFor o f.length).length) && (Node.formeds f (sortsFor o f.length) (a || decide (o = 12)) (b || decide (o = 39)) (c || decide (o = 54)) && tailOK o f)))
def Node.formeds : List Node → List Int → Bool → Bool → Bool → Bool
  | [], _, _, _, _ => true
  | n :: r, s, a, b, c => decide (sortOf n.op = s.getD 0 0) && (n.formed a b c && Node.formeds r s.tail a b c)
end
/-- All that formed asks behind the number and the name. -/
def Node.rest (n : Node) (a b c : Bool) : Bool := switchOK n.op n.name n.kids a b c && (decide (n.kids.length = (sortsFor n.op n.kids.length).length) && (Node.formeds n.kids (sortsFor n.op n.kids.length) (a || decide (n.op = 12)) (b || decide (n.op = 39)) (c || decide (n.op = 54)) && tailOK n.op n.kids))
end Go.Vs
end
/- tree.formed on a flow. -/
section
set_option linter.unusedVariables false
set_option linter.unusedSimpArgs false
namespace Go.Vs
open Go Go.Proofs
end Go.Vs
end
/- tree.Check: what it returns. -/
section
set_option linter.unusedVariables false
set_option linter.unusedSimpArgs false
namespace Go.Vs
open Go Go.Proofs
def Node.small (n : Node) : Bool := decide (n.count ≤ 4000) && decide (n.depth ≤ 60)
def Node.check (n : Node) (sort : Int) : Int :=
  if sort < 1 ∨ 3 < sort then 1 else if n.small = false then 2 else if sortOf n.op ≠ sort then 80 else if n.formed false false false = false then 3 else 0
end Go.Vs
end
/- Printed by a program of mine (stage1.py): the functions 52, 54, piece by piece. -/
section
set_option linter.unusedVariables false
set_option linter.unusedSimpArgs false
namespace Go.Vs
open Go Go.Proofs
noncomputable section

/-! ### tree.At -/
namespace F52
section
variable (b : Nat) (K : KT) (x0 x1 x2 x4 x5 x6 x7 x8 x12 x22 : PV) (e : Env) (S : Store)
end
end F52
/-! ### tree.Replace -/
namespace F54
section
variable (b : Nat) (K : KT) (x0 x1 x2 x3 x5 x6 x7 x8 x9 x10 x11 x12 x13 x17 x27 x41 x45 x57 : PV) (e : Env) (S : Store)
end
end F54
end
end Go.Vs
end
/- tree.root, step, At: what they return. -/
section
set_option linter.unusedVariables false
set_option linter.unusedSimpArgs false
namespace Go.Vs
open Go Go.Proofs
/-- The node at a place. -/
def Node.at : List Int → Node → Option Node
  | [], n => some n
  | p :: ps, n => if p < 0 ∨ (n.kids.length : Int) ≤ p then none else Node.at ps (n.kids.getD p.toNat default)
end Go.Vs
end
/- tree.within, with the number anywhere in the store. -/
section
set_option linter.unusedVariables false
set_option linter.unusedSimpArgs false
namespace Go.Vs
open Go Go.Proofs
end Go.Vs
end
/- tree.Replace: what it returns. -/
section
set_option linter.unusedVariables false
set_option linter.unusedSimpArgs false
namespace Go.Vs
open Go Go.Proofs
end Go.Vs
end
/- The order of trees: antisymmetric, transitive. -/
section
set_option linter.unusedVariables false
set_option linter.unusedSimpArgs false
namespace Go.Vs
open Go Go.Proofs
/-- Three comparisons, of a with b, b with c, a with c, go together. -/
def Tri (x y z : Int) : Prop := (0 < x ∨ 0 < y ∨ (z ≤ 0 ∧ (z ≠ 0 ∨ (x = 0 ∧ y = 0)))) ∧ (x < 0 ∨ y < 0 ∨ (0 ≤ z ∧ (z ≠ 0 ∨ (x = 0 ∧ y = 0))))
theorem Tri.seq {x y z x' y' z' : Int} (h : Tri x y z) (k : x = 0 → y = 0 → z = 0 → Tri x' y' z') : Tri (seqI x x') (seqI y y') (seqI z z') := by
  unfold Tri at *
  have e : ∀ u v : Int, (u = 0 ∧ seqI u v = v) ∨ (u ≠ 0 ∧ seqI u v = u) := fun u v => by
    by_cases hu : u = 0
    · left; simp [seqI, hu]
    · right; simp [seqI, hu]
  rcases e x x' with ⟨h1, e1⟩ | ⟨h1, e1⟩ <;> rcases e y y' with ⟨h2, e2⟩ | ⟨h2, e2⟩ <;> rcases e z z' with ⟨h3, e3⟩ | ⟨h3, e3⟩ <;> rw [e1, e2, e3]
  · exact k h1 h2 h3
  all_goals (clear k; omega)
/-- The results are -1, 0, 1. -/
def Small (x : Int) : Prop := -1 ≤ x ∧ x ≤ 1
theorem Small.seq {x y : Int} (h : Small x) (k : Small y) : Small (seqI x y) := by unfold seqI; split <;> assumption
end Go.Vs
end
/- Places in trees: plain laws. -/
section
set_option linter.unusedVariables false
set_option linter.unusedSimpArgs false
namespace Go.Vs
open Go Go.Proofs
/-! ### A well formed tree's nodes have sorts -/
end Go.Vs
end
/- Printed by a program of mine (stage1.py): the functions 87, 88, 90, 91, 92, 95, piece by piece. -/
section
set_option linter.unusedVariables false
set_option linter.unusedSimpArgs false
namespace Go.Vs
open Go Go.Proofs
noncomputable section

/-! ### isochroneref08.named -/
namespace F87
section
variable (b : Nat) (K : KT) (x0 x2 x3 x4 : PV) (e : Env) (S : Store)
end
end F87
/-! ### isochroneref08.natural -/
namespace F88
section
variable (b : Nat) (K : KT) (x0 x1 x2 x23 : PV) (e : Env) (S : Store)
end
end F88
/-! ### isochroneref08.kids -/
namespace F90
section
variable (b : Nat) (K : KT) (x0 x2 x3 x4 x10 x22 x28 x33 x36 x39 : PV) (e : Env) (S : Store)
end
end F90
/-! ### isochroneref08.Natural -/
namespace F91
section
variable (b : Nat) (K : KT) (x0 x1 x2 x4 x8 x21 : PV) (e : Env) (S : Store)
end
end F91
/-! ### isochroneref08.differential -/
namespace F92
section
variable (b i n n1 : Nat) (K : KT) (x0 x1 x2 x3 x4 x33 x46 x55 : PV) (e : Env) (S : Store)
end
end F92
/-! ### isochroneref08.primed -/
namespace F95
section
variable (b i n n0 : Nat) (K : KT) (x0 x1 x2 x3 x16 x21 x29 : PV) (e : Env) (S : Store)
end
end F95
end
end Go.Vs
end
/- The reference's small functions: what they return. -/
section
set_option linter.unusedVariables false
set_option linter.unusedSimpArgs false
namespace Go.Vs
open Go Go.Proofs
def hasName' (o : Int) : Bool := hasName o || (decide (o = 10) || decide (o = 37))
/-- The sorts as digits. -/
def digits (l : List Int) : ByteArray := ⟨(l.map fun d => UInt8.ofNat (48 + d.toNat)).toArray⟩
/-- The value of a natural number, -1 if it is greater than a bound. -/
def natVal (num : List Int) (most : Int) : Int := if num.length = 0 then 0 else if 1 < num.length ∨ most < num.getD 0 0 then -1 else num.getD 0 0
mutual
/-- Does a differential occur? -/
def Node.primed : Node → Bool
  | .mk o _ _ _ _ f => (decide (o = 3) || (decide (o = 12) || decide (o = 39))) || Node.primeds f
def Node.primeds : List Node → Bool
  | [] => false
  | n :: r => n.primed || Node.primeds r
end
end Go.Vs
end
/- Printed by a program of mine (stage1.py): the functions 89, 65, 37, 7, piece by piece. -/
section
set_option linter.unusedVariables false
set_option linter.unusedSimpArgs false
namespace Go.Vs
open Go Go.Proofs
noncomputable section

/-! ### isochroneref08.flow -/
namespace F89
section
variable (b i n n0 n2 : Nat) (K : KT) (x0 x1 x2 x3 x6 x7 x8 x9 x10 x31 x35 x68 x71 x87 : PV) (e : Env) (S : Store)
end
end F89
/-! ### isochroneref08.well -/
namespace F65
section
variable (b i n n0 : Nat) (K : KT) (x0 x1 x2 x3 x4 x8 x9 x10 x35 x38 x42 x59 x76 x79 x94 x98 x104 x108 x134 x136 x137 x155 x172 : PV) (e : Env) (S : Store)
end
end F65
/-! ### isochroneref08.Check -/
namespace F37
section
variable (b : Nat) (K : KT) (x0 x1 x2 x4 x5 x12 x21 x27 : PV) (e : Env) (S : Store)
end
end F37
/-! ### isochronelaw08.TreeChecks -/
namespace F7
section
variable (b : Nat) (K : KT) (x0 x1 x2 x4 x6 : PV) (e : Env) (S : Store)
end
end F7
end
end Go.Vs
end
/- The reference's flow, over well: what it returns. -/
section
set_option linter.unusedVariables false
set_option linter.unusedSimpArgs false
namespace Go.Vs
open Go Go.Proofs
/-- The sorts of a node's kids, by the reference. -/
def sortsRef (o : Int) (m : Nat) : List Int := if (o = 10 ∨ o = 37) ∧ m = 1 then [1] else kidSorts o
def tailRef (o : Int) (f : List Node) : Bool :=
  if o = 8 then decide ((f.getD 1 default).op = 1) && decide (0 < (f.getD 1 default).num.length)
  else if o = 9 then decide ((f.getD 1 default).op = 1) && decide (0 ≤ natVal (f.getD 1 default).num 20)
  else if o = 39 then (f.getD 0 default).diff
  else true
mutual
def Node.well : Node → Int → Bool → Bool → Bool
  | .mk o nm ng nu de fs, s, t, f =>
    (decide (sortOf o = s) && (decide (hasName' o = nameOK nm) && (hasName' o || noName nm))) &&
    ((if o = 1 then natOK ng nu de else (!ng && (decide (nu.length = 0) && decide (de.length = 0)))) &&
    (!((t && decide (o = 12)) || ((t || f) && decide (o = 3))) &&
    (if o = 54 then decide (2 ≤ fs.length) && (!((decide (o = 3) || (decide (o = 12) || decide (o = 39))) || Node.primeds fs) && (Node.wells fs (List.replicate (fs.length - 1) 4 ++ [2]) t f && flowOK fs))
     else decide ((sortsRef o fs.length).length = fs.length) && (Node.wells fs (sortsRef o fs.length) (t || decide (o = 12)) (f || decide (o = 39)) && tailRef o fs))))
def Node.wells : List Node → List Int → Bool → Bool → Bool
  | [], _, _, _ => true
  | n :: r, s, t, f => n.well (s.getD 0 0) t f && Node.wells r s.tail t f
end
end Go.Vs
end
/- The reference's well: what it returns. -/
section
set_option linter.unusedVariables false
set_option linter.unusedSimpArgs false
namespace Go.Vs
open Go Go.Proofs
end Go.Vs
end
/- The reference's well and Check: what they return. -/
section
set_option linter.unusedVariables false
set_option linter.unusedSimpArgs false
namespace Go.Vs
open Go Go.Proofs
end Go.Vs
end
/- The reference's Check; both agree where nothing wraps. -/
section
set_option linter.unusedVariables false
set_option linter.unusedSimpArgs false
namespace Go.Vs
open Go Go.Proofs
/-! ### Sizes and levels that don't wrap are the true ones -/
/-! ### Well formed, by both -/
end Go.Vs
end
/- tree.formed and the reference's well agree. -/
section
set_option linter.unusedVariables false
set_option linter.unusedSimpArgs false
namespace Go.Vs
open Go Go.Proofs
end Go.Vs
end
/- The check of the statements' own package comes to true. -/
section
set_option linter.unusedVariables false
namespace Go.Vs
open Go Go.Proofs
def isTrue (x : Option PV) : Bool := match x with | some (.bool b) => b | _ => false
theorem isTrue_eq {x : Option PV} (h : isTrue x = true) : x = some (.bool true) := by
  unfold isTrue at h
  split at h
  · subst h; rfl
  · cases h
end Go.Vs
end
/- TreeChecks gives true for all trees of at most 1000000000 nodes. -/
section
set_option linter.unusedVariables false
set_option linter.unusedSimpArgs false
namespace Go.Vs
open Go Go.Proofs
end Go.Vs
end
/- A law's arguments as pure values, with a bound for what they hold: the second form's bulk. -/
section
set_option linter.unusedVariables false
set_option linter.unusedSimpArgs false
namespace Go.Vs
open Go Go.RowKit Go.Proofs
open Go.Proofs.Ytnddhkcciphhkaa.Rows
section
variable {H : Type}
end
end Go.Vs
end
/- Printed by a program of mine (stage1.py): the functions 12, piece by piece. -/
section
set_option linter.unusedVariables false
set_option linter.unusedSimpArgs false
namespace Go.Vs
open Go Go.Proofs
noncomputable section

/-! ### isochronelaw08.TreeReplaces -/
namespace F12
section
variable (b : Nat) (K : KT) (x0 x1 x2 x3 x5 x6 x7 x8 x9 x10 x11 x12 x13 x14 x15 x16 x18 x26 x34 x49 x58 : PV) (e : Env) (S : Store)
end
end F12
end
end Go.Vs
end
/- TreeReplaces gives true. -/
section
set_option linter.unusedVariables false
set_option linter.unusedSimpArgs false
namespace Go.Vs
open Go Go.Proofs
end Go.Vs
end
/- TreeReplaces gives true for all arguments of bulk at most 1048576. -/
section
set_option linter.unusedVariables false
namespace Go.Vs
open Go Go.Proofs
end Go.Vs
end
/- Printed by a program of mine (stage1.py): the functions 75, 80, 53, 82, 55, 56, 11, piece by piece. -/
section
set_option linter.unusedVariables false
set_option linter.unusedSimpArgs false
namespace Go.Vs
open Go Go.Proofs
noncomputable section

/-! ### isochroneref08.whole -/
namespace F75
section
variable (b : Nat) (K : KT) (x0 x1 x2 x3 x12 : PV) (e : Env) (S : Store)
end
end F75
/-! ### isochroneref08.at -/
namespace F80
section
variable (b i n n0 : Nat) (K : KT) (x0 x1 x2 x4 x5 x6 x10 x27 : PV) (e : Env) (S : Store)
end
end F80
/-! ### isochroneref08.At -/
namespace F53
section
variable (b : Nat) (K : KT) (x0 x1 x2 x4 x5 x6 x7 x8 x12 x22 : PV) (e : Env) (S : Store)
end
end F53
/-! ### isochroneref08.Put -/
namespace F82
section
variable (b : Nat) (K : KT) (x0 x1 x2 x3 x5 x6 x7 x10 : PV) (e : Env) (S : Store)
end
end F82
/-! ### isochroneref08.Replace -/
namespace F55
section
variable (b : Nat) (K : KT) (x0 x1 x2 x3 x5 x6 x7 x8 x9 x10 x11 x12 x20 x34 x46 : PV) (e : Env) (S : Store)
end
end F55
/-! ### isochroneref08.Equal -/
namespace F56
section
variable (b : Nat) (K : KT) (x0 x1 x2 x3 x4 : PV) (e : Env) (S : Store)
end
end F56
/-! ### isochronelaw08.TreePlaces -/
namespace F11
section
variable (b : Nat) (K : KT) (x0 x1 x2 x3 x5 x6 x7 x8 x9 x10 x11 x12 x13 x14 x16 x24 : PV) (e : Env) (S : Store)
end
end F11
end
end Go.Vs
end
/- The reference's whole, at, At, Put, Replace: what they return; TreePlaces gives true. -/
section
set_option linter.unusedVariables false
set_option linter.unusedSimpArgs false
namespace Go.Vs
open Go Go.Proofs
/-! ### Put -/
end Go.Vs
end
/- TreeChecks gives true for all arguments of bulk at most 1048576. -/
section
set_option linter.unusedVariables false
namespace Go.Vs
open Go Go.Proofs
/- A tree's nodes are no more than what it holds. -/
end Go.Vs
end
/- TreePlaces gives true for all arguments of bulk at most 1048576. -/
section
set_option linter.unusedVariables false
set_option linter.unusedSimpArgs false
namespace Go.Vs
open Go Go.Proofs
end Go.Vs
end
