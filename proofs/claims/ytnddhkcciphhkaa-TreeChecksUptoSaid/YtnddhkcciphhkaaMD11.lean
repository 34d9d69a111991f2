/- Printed by a program of mine (stage1.py): the functions 66, 67, 38, 39, 40, 41, piece by piece. -/

import Derived.Test.YtnddhkcciphhkaaMD9
set_option linter.unusedVariables false
set_option linter.unusedSimpArgs false
namespace Go.Vs
open Go Go.Proofs

/-! ### tree.letter -/
namespace F66
def hint : Hint := { keep := [], loops := [], regs := [(0, [0]), (1, [2])] }
noncomputable def C (b : Nat) : Ctx := ctxL Try.prog hints b hint
noncomputable def code : Code := Try.f66.body.get rfl
noncomputable def k0 (b : Nat) : KT := endC Try.prog Try.f66
def ee0 (x0 : PV) : Env := [(0, x0)]
def ee1 (x2 : PV) : Env := [(2, x2)]
@[go_sem] theorem k0_ret1 (b : Nat) (x2 : PV) (S : Store) : k0 b .ret (ee1 x2) S = some (x2, S) := nr (by kernel_rfl)
noncomputable def c1 : Code := at0 code
noncomputable def c2 : Code := at1 code
theorem code_h : code = .seq c1 c2 := by kernel_rfl
noncomputable def c3 : Code := at0 c2
noncomputable def c4 : Code := at1 c2
theorem c2_h : c2 = .seq c3 c4 := by kernel_rfl
noncomputable def k5 (b : Nat) : KT := seqC (fun e S => execL (C b) 0 c4 (k0 b) e S) (k0 b)
@[go_sem] theorem k5_n (b : Nat) (x2 : PV) (S : Store) : k5 b .normal (ee1 x2) S =
  (k0 b) .ret (ee1 x2) S := nr ((show k5 b .normal (ee1 x2) S = execL (C b) 0 c4 (k0 b) (ee1 x2) S from seqC_n _ _ _ _).trans (execL_ret (by kernel_rfl)))
theorem k5_l (b : Nat) : seqC (fun e S => execL (C b) 0 c4 (k0 b) e S) (k0 b) = k5 b := rfl
noncomputable def k6 (b : Nat) : KT := seqC (fun e S => execL (C b) 0 c3 (k5 b) e S) (k0 b)
@[go_sem] theorem g7 (b : Nat) (K : KT) (x0 : PV) (S : Store) : execL (C b) 0 c3 K (ee0 x0) S =
  withV (some x0) fun x3 =>
    withV (evBin .geq (tyi Try.prog 5) x3 (.int .u8 97)) fun x4 =>
    withV (some x4) fun x5 =>
    withV (gval x5 true (some x0)) fun x6 =>
    withV (gval x5 true (evBin .leq (tyi Try.prog 5) x6 (.int .u8 122))) fun x7 =>
    withV (pickO x5 x7 (.bool false)) fun x8 =>
    withV (some x8) fun x9 =>
    withV (gval x9 false (some x0)) fun x10 =>
    withV (gval x9 false (evBin .geq (tyi Try.prog 5) x10 (.int .u8 65))) fun x11 =>
    withV (gval x9 false (some x11)) fun x12 =>
    withV (gval x12 true (some x0)) fun x13 =>
    withV (gval x12 true (evBin .leq (tyi Try.prog 5) x13 (.int .u8 90))) fun x14 =>
    withV (gval x9 false (pickO x12 x14 (.bool false))) fun x15 =>
    withV (pickO x9 (.bool true) x15) fun x16 =>
    withV (some x16) fun x2 =>
    K .normal (ee1 x2) S := nr (by kernel_rfl)
@[go_sem] theorem k6_n (b : Nat) (e : Env) (S : Store) : k6 b .normal e S = execL (C b) 0 c3 (k5 b) e S := nr (seqC_n _ _ _ _)
theorem k6_l (b : Nat) : seqC (fun e S => execL (C b) 0 c2 (k0 b) e S) (k0 b) = k6 b := link_seq c2_h (k5_l b)
@[go_sem] theorem g8 (b : Nat) (K : KT) (x0 : PV) (S : Store) : execL (C b) 0 c1 K (ee0 x0) S =
  withV (some (.bool false)) fun x2 =>
    K .normal (ee0 x0) S := nr (by kernel_rfl)
noncomputable def E (b : Nat) (x0 : PV) (S : Store) : RT := execL (C b) 0 code (k0 b) (ee0 x0) S
@[go_sem] theorem E_eq (b : Nat) (x0 : PV) (S : Store) : E b x0 S =
  execL (C b) 0 c1 (k6 b) (ee0 x0) S := nr ((enter_seq code_h (k6_l b)).trans (rfl))
theorem call {x0 : PV} {r : PV × Store} {v : PV} (h : E 0 x0 [] = some r) (hv : fzPV r.2 r.1 = some v) : callL Try.prog hints 66 [x0] = some v := callL_of (fn := Try.f66) (c := code) (by kernel_rfl) (by kernel_rfl) (by decide) (by kernel_rfl) (Nat.le_of_ble_eq_true (by kernel_rfl)) h hv
end F66
/-! ### isochroneref08.letter -/
namespace F67
def hint : Hint := { keep := [], loops := [], regs := [(0, [0]), (1, [2])] }
noncomputable def C (b : Nat) : Ctx := ctxL Try.prog hints b hint
noncomputable def code : Code := Try.f67.body.get rfl
noncomputable def k0 (b : Nat) : KT := endC Try.prog Try.f67
def ee0 (x0 : PV) : Env := [(0, x0)]
def ee1 (x2 : PV) : Env := [(2, x2)]
@[go_sem] theorem k0_ret1 (b : Nat) (x2 : PV) (S : Store) : k0 b .ret (ee1 x2) S = some (x2, S) := nr (by kernel_rfl)
noncomputable def c1 : Code := at0 code
noncomputable def c2 : Code := at1 code
theorem code_h : code = .seq c1 c2 := by kernel_rfl
noncomputable def c3 : Code := at0 c2
noncomputable def c4 : Code := at1 c2
theorem c2_h : c2 = .seq c3 c4 := by kernel_rfl
noncomputable def k5 (b : Nat) : KT := seqC (fun e S => execL (C b) 0 c4 (k0 b) e S) (k0 b)
@[go_sem] theorem k5_n (b : Nat) (x2 : PV) (S : Store) : k5 b .normal (ee1 x2) S =
  (k0 b) .ret (ee1 x2) S := nr ((show k5 b .normal (ee1 x2) S = execL (C b) 0 c4 (k0 b) (ee1 x2) S from seqC_n _ _ _ _).trans (execL_ret (by kernel_rfl)))
theorem k5_l (b : Nat) : seqC (fun e S => execL (C b) 0 c4 (k0 b) e S) (k0 b) = k5 b := rfl
noncomputable def k6 (b : Nat) : KT := seqC (fun e S => execL (C b) 0 c3 (k5 b) e S) (k0 b)
@[go_sem] theorem g7 (b : Nat) (K : KT) (x0 : PV) (S : Store) : execL (C b) 0 c3 K (ee0 x0) S =
  withV (some x0) fun x3 =>
    withV (evBin .geq (tyi Try.prog 5) x3 (.int .u8 97)) fun x4 =>
    withV (some x4) fun x5 =>
    withV (gval x5 true (some x0)) fun x6 =>
    withV (gval x5 true (evBin .leq (tyi Try.prog 5) x6 (.int .u8 122))) fun x7 =>
    withV (pickO x5 x7 (.bool false)) fun x8 =>
    withV (some x8) fun x9 =>
    withV (gval x9 false (some x0)) fun x10 =>
    withV (gval x9 false (evBin .geq (tyi Try.prog 5) x10 (.int .u8 65))) fun x11 =>
    withV (gval x9 false (some x11)) fun x12 =>
    withV (gval x12 true (some x0)) fun x13 =>
    withV (gval x12 true (evBin .leq (tyi Try.prog 5) x13 (.int .u8 90))) fun x14 =>
    withV (gval x9 false (pickO x12 x14 (.bool false))) fun x15 =>
    withV (pickO x9 (.bool true) x15) fun x16 =>
    withV (some x16) fun x2 =>
    K .normal (ee1 x2) S := nr (by kernel_rfl)
@[go_sem] theorem k6_n (b : Nat) (e : Env) (S : Store) : k6 b .normal e S = execL (C b) 0 c3 (k5 b) e S := nr (seqC_n _ _ _ _)
theorem k6_l (b : Nat) : seqC (fun e S => execL (C b) 0 c2 (k0 b) e S) (k0 b) = k6 b := link_seq c2_h (k5_l b)
@[go_sem] theorem g8 (b : Nat) (K : KT) (x0 : PV) (S : Store) : execL (C b) 0 c1 K (ee0 x0) S =
  withV (some (.bool false)) fun x2 =>
    K .normal (ee0 x0) S := nr (by kernel_rfl)
noncomputable def E (b : Nat) (x0 : PV) (S : Store) : RT := execL (C b) 0 code (k0 b) (ee0 x0) S
@[go_sem] theorem E_eq (b : Nat) (x0 : PV) (S : Store) : E b x0 S =
  execL (C b) 0 c1 (k6 b) (ee0 x0) S := nr ((enter_seq code_h (k6_l b)).trans (rfl))
theorem call {x0 : PV} {r : PV × Store} {v : PV} (h : E 0 x0 [] = some r) (hv : fzPV r.2 r.1 = some v) : callL Try.prog hints 67 [x0] = some v := callL_of (fn := Try.f67) (c := code) (by kernel_rfl) (by kernel_rfl) (by decide) (by kernel_rfl) (Nat.le_of_ble_eq_true (by kernel_rfl)) h hv
end F67
/-! ### tree.Name -/
namespace F38
def hint : Hint := { keep := [], loops := [(0, { live := [0, 3], after := [0], own := [], fz := [] })], regs := [(0, [0]), (1, [0, 17]), (2, [2]), (3, [0, 3]), (4, [0, 3, 21]), (5, [0, 3]), (6, [0, 3, 40]), (7, [2]), (8, [41]), (9, [41, 42]), (10, [41, 42]), (11, [41, 42]), (12, [41, 42]), (13, [2]), (14, [2])] }
noncomputable def C (b : Nat) : Ctx := ctxL Try.prog hints b hint
noncomputable def code : Code := Try.f38.body.get rfl
noncomputable def k0 (b : Nat) : KT := endC Try.prog Try.f38
def ee0 (x0 : PV) : Env := [(0, x0)]
def ee1 (x0 x3 : PV) : Env := [(0, x0), (3, x3)]
def ee2 (x0 x3 x21 : PV) : Env := [(0, x0), (3, x3), (21, x21)]
def ee3 (x0 x3 x40 : PV) : Env := [(0, x0), (3, x3), (40, x40)]
def ee4 (x0 x17 : PV) : Env := [(0, x0), (17, x17)]
def ee5 (x2 : PV) : Env := [(2, x2)]
@[go_sem] theorem k0_ret5 (b : Nat) (x2 : PV) (S : Store) : k0 b .ret (ee5 x2) S = some (x2, S) := nr (by kernel_rfl)
def ee6 (x41 : PV) : Env := [(41, x41)]
def ee7 (x41 x42 : PV) : Env := [(41, x41), (42, x42)]
noncomputable def c1 : Code := at0 code
noncomputable def c2 : Code := at1 code
theorem code_h : code = .seq c1 c2 := by kernel_rfl
noncomputable def c3 : Code := at0 c2
noncomputable def c4 : Code := at1 c2
theorem c2_h : c2 = .seq c3 c4 := by kernel_rfl
noncomputable def c5 : Code := at0 c4
noncomputable def c6 : Code := at1 c4
theorem c4_h : c4 = .seq c5 c6 := by kernel_rfl
noncomputable def c7 : Code := at0 c6
noncomputable def c8 : Code := at1 c6
theorem c6_h : c6 = .seq c7 c8 := by kernel_rfl
noncomputable def c9 : Code := at0 c8
noncomputable def c10 : Code := at1 c8
theorem c8_h : c8 = .seq c9 c10 := by kernel_rfl
noncomputable def k11 (b : Nat) : KT := seqC (fun e S => execL (C b) 0 c10 (k0 b) e S) (k0 b)
@[go_sem] theorem k11_n (b : Nat) (x2 : PV) (S : Store) : k11 b .normal (ee5 x2) S =
  (k0 b) .ret (ee5 x2) S := nr ((show k11 b .normal (ee5 x2) S = execL (C b) 0 c10 (k0 b) (ee5 x2) S from seqC_n _ _ _ _).trans (execL_ret (by kernel_rfl)))
theorem k11_l (b : Nat) : seqC (fun e S => execL (C b) 0 c10 (k0 b) e S) (k0 b) = k11 b := rfl
noncomputable def k12 (b : Nat) : KT := seqC (fun e S => execL (C b) 0 c9 (k11 b) e S) (k0 b)
@[go_sem] theorem g13 (b : Nat) (K : KT) (x41 x42 : PV) (S : Store) : execL (C b) 0 c9 K (ee7 x41 x42) S =
  withV (some (.bool true)) fun x2 =>
    K .normal (ee5 x2) S := nr (by kernel_rfl)
@[go_sem] theorem k12_n (b : Nat) (e : Env) (S : Store) : k12 b .normal e S = execL (C b) 0 c9 (k11 b) e S := nr (seqC_n _ _ _ _)
@[go_sem] theorem k12_ret (b : Nat) (e : Env) (S : Store) : k12 b .ret e S = (k0 b) .ret e S := nr (seqC_r _ _ _ _)
theorem k12_l (b : Nat) : seqC (fun e S => execL (C b) 0 c8 (k0 b) e S) (k0 b) = k12 b := link_seq c8_h (k11_l b)
noncomputable def k14 (b : Nat) : KT := seqC (fun e S => execL (C b) 0 c7 (k12 b) e S) (k0 b)
noncomputable def c15 : Code := at0 c7
noncomputable def c16 : Code := at1 c7
theorem c7_h : c7 = .seq c15 c16 := by kernel_rfl
noncomputable def k17 (b : Nat) : KT := seqC (fun e S => execL (C b) 0 c16 (k12 b) e S) (k12 b)
noncomputable def c18 : Code := atB c16
theorem c16_h : c16 = .block 2 c18 := by kernel_rfl
noncomputable def k19 (b : Nat) : KT := blockC 2 (k12 b)
@[go_sem] theorem k19_n (b : Nat) (e : Env) (S : Store) : k19 b .normal e S = (k12 b) .normal e S := nr (blockC_n _ _ _ _)
@[go_sem] theorem k19_ret (b : Nat) (e : Env) (S : Store) : k19 b .ret e S = (k12 b) .ret e S := nr (blockC_r _ _ _ _)
noncomputable def c20 : Code := at0 c18
noncomputable def c21 : Code := at1 c18
theorem c18_h : c18 = .seq c20 c21 := by kernel_rfl
noncomputable def k22 (b : Nat) : KT := seqC (fun e S => execL (C b) 2 c21 (k19 b) e S) (k19 b)
noncomputable def c23 : Code := atT c21
noncomputable def c24 : Code := atF c21
theorem c21_h : c21 = .cond (.tmp 42) c23 c24 := by kernel_rfl
noncomputable def c26 : Code := at0 c23
noncomputable def c27 : Code := at1 c23
theorem c23_h : c23 = .seq c26 c27 := by kernel_rfl
noncomputable def k28 (b : Nat) : KT := seqC (fun e S => execL (C b) 2 c27 (k19 b) e S) (k19 b)
@[go_sem] theorem k28_n (b : Nat) (x2 : PV) (S : Store) : k28 b .normal (ee5 x2) S =
  (k19 b) .ret (ee5 x2) S := nr ((show k28 b .normal (ee5 x2) S = execL (C b) 2 c27 (k19 b) (ee5 x2) S from seqC_n _ _ _ _).trans (execL_ret (by kernel_rfl)))
theorem k28_l (b : Nat) : seqC (fun e S => execL (C b) 2 c27 (k19 b) e S) (k19 b) = k28 b := rfl
@[go_sem] theorem g29 (b : Nat) (K : KT) (x41 x42 : PV) (S : Store) : execL (C b) 2 c26 K (ee7 x41 x42) S =
  withV (some (.bool false)) fun x2 =>
    K .normal (ee5 x2) S := nr (by kernel_rfl)
noncomputable def E25 (b : Nat) (x41 x42 : PV) (S : Store) : RT := execL (C b) 2 c23 (k19 b) (ee7 x41 x42) S
@[go_sem] theorem E25_eq (b : Nat) (x41 x42 : PV) (S : Store) : E25 b x41 x42 S =
  execL (C b) 2 c26 (k28 b) (ee7 x41 x42) S := nr ((enter_seq c23_h (k28_l b)).trans (rfl))
@[go_sem] theorem k22_n (b : Nat) (x41 x42 : PV) (S : Store) : k22 b .normal (ee7 x41 x42) S =
  condC x42 (E25 b x41 x42 S)
    ((k19 b) .normal (ee7 x41 x42) S) := nr ((show k22 b .normal (ee7 x41 x42) S = execL (C b) 2 c21 (k19 b) (ee7 x41 x42) S from seqC_n _ _ _ _).trans (execL_cond c21_h (rfl) (execL_skip (by kernel_rfl)) rfl))
theorem k22_l (b : Nat) : seqC (fun e S => execL (C b) 2 c21 (k19 b) e S) (k19 b) = k22 b := rfl
noncomputable def c30 : Code := at0 c20
noncomputable def c31 : Code := at1 c20
theorem c20_h : c20 = .seq c30 c31 := by kernel_rfl
noncomputable def k32 (b : Nat) : KT := seqC (fun e S => execL (C b) 2 c31 (k22 b) e S) (k22 b)
noncomputable def c33 : Code := atT c31
noncomputable def c34 : Code := atF c31
theorem c31_h : c31 = .cond (.tmp 42) c33 c34 := by kernel_rfl
noncomputable def c36 : Code := at0 c34
noncomputable def c37 : Code := at1 c34
theorem c34_h : c34 = .seq c36 c37 := by kernel_rfl
noncomputable def k38 (b : Nat) : KT := seqC (fun e S => execL (C b) 2 c37 (k22 b) e S) (k22 b)
noncomputable def c39 : Code := atT c37
noncomputable def c40 : Code := atF c37
theorem c37_h : c37 = .cond (.tmp 42) c39 c40 := by kernel_rfl
noncomputable def c42 : Code := at0 c40
noncomputable def c43 : Code := at1 c40
theorem c40_h : c40 = .seq c42 c43 := by kernel_rfl
noncomputable def k44 (b : Nat) : KT := seqC (fun e S => execL (C b) 2 c43 (k22 b) e S) (k22 b)
noncomputable def c45 : Code := atT c43
noncomputable def c46 : Code := atF c43
theorem c43_h : c43 = .cond (.tmp 42) c45 c46 := by kernel_rfl
@[go_sem] theorem g48 (b : Nat) (K : KT) (x41 x42 : PV) (S : Store) : execL (C b) 2 c46 K (ee7 x41 x42) S =
  withV (evBin .eql (tyi Try.prog 9) x41 (.str ⟨#[101, 120, 105, 115, 116, 115]⟩)) fun x46 =>
    withV (some x46) fun x42 =>
    K .normal (ee7 x41 x42) S := nr (by kernel_rfl)
noncomputable def E47 (b : Nat) (x41 x42 : PV) (S : Store) : RT := execL (C b) 2 c46 (k22 b) (ee7 x41 x42) S
@[go_sem] theorem E47_eq (b : Nat) (x41 x42 : PV) (S : Store) : E47 b x41 x42 S =
  execL (C b) 2 c46 (k22 b) (ee7 x41 x42) S := nr (rfl)
@[go_sem] theorem k44_n (b : Nat) (x41 x42 : PV) (S : Store) : k44 b .normal (ee7 x41 x42) S =
  condC x42 ((k22 b) .normal (ee7 x41 x42) S)
    (E47 b x41 x42 S) := nr ((show k44 b .normal (ee7 x41 x42) S = execL (C b) 2 c43 (k22 b) (ee7 x41 x42) S from seqC_n _ _ _ _).trans (execL_cond c43_h (execL_skip (by kernel_rfl)) (rfl) rfl))
theorem k44_l (b : Nat) : seqC (fun e S => execL (C b) 2 c43 (k22 b) e S) (k22 b) = k44 b := rfl
@[go_sem] theorem g49 (b : Nat) (K : KT) (x41 x42 : PV) (S : Store) : execL (C b) 2 c42 K (ee7 x41 x42) S =
  withV (evBin .eql (tyi Try.prog 9) x41 (.str ⟨#[102, 111, 114, 97, 108, 108]⟩)) fun x45 =>
    withV (some x45) fun x42 =>
    K .normal (ee7 x41 x42) S := nr (by kernel_rfl)
noncomputable def E41 (b : Nat) (x41 x42 : PV) (S : Store) : RT := execL (C b) 2 c40 (k22 b) (ee7 x41 x42) S
@[go_sem] theorem E41_eq (b : Nat) (x41 x42 : PV) (S : Store) : E41 b x41 x42 S =
  execL (C b) 2 c42 (k44 b) (ee7 x41 x42) S := nr ((enter_seq c40_h (k44_l b)).trans (rfl))
@[go_sem] theorem k38_n (b : Nat) (x41 x42 : PV) (S : Store) : k38 b .normal (ee7 x41 x42) S =
  condC x42 ((k22 b) .normal (ee7 x41 x42) S)
    (E41 b x41 x42 S) := nr ((show k38 b .normal (ee7 x41 x42) S = execL (C b) 2 c37 (k22 b) (ee7 x41 x42) S from seqC_n _ _ _ _).trans (execL_cond c37_h (execL_skip (by kernel_rfl)) (rfl) rfl))
theorem k38_l (b : Nat) : seqC (fun e S => execL (C b) 2 c37 (k22 b) e S) (k22 b) = k38 b := rfl
@[go_sem] theorem g50 (b : Nat) (K : KT) (x41 x42 : PV) (S : Store) : execL (C b) 2 c36 K (ee7 x41 x42) S =
  withV (evBin .eql (tyi Try.prog 9) x41 (.str ⟨#[102, 97, 108, 115, 101]⟩)) fun x44 =>
    withV (some x44) fun x42 =>
    K .normal (ee7 x41 x42) S := nr (by kernel_rfl)
noncomputable def E35 (b : Nat) (x41 x42 : PV) (S : Store) : RT := execL (C b) 2 c34 (k22 b) (ee7 x41 x42) S
@[go_sem] theorem E35_eq (b : Nat) (x41 x42 : PV) (S : Store) : E35 b x41 x42 S =
  execL (C b) 2 c36 (k38 b) (ee7 x41 x42) S := nr ((enter_seq c34_h (k38_l b)).trans (rfl))
@[go_sem] theorem k32_n (b : Nat) (x41 x42 : PV) (S : Store) : k32 b .normal (ee7 x41 x42) S =
  condC x42 ((k22 b) .normal (ee7 x41 x42) S)
    (E35 b x41 x42 S) := nr ((show k32 b .normal (ee7 x41 x42) S = execL (C b) 2 c31 (k22 b) (ee7 x41 x42) S from seqC_n _ _ _ _).trans (execL_cond c31_h (execL_skip (by kernel_rfl)) (rfl) rfl))
theorem k32_l (b : Nat) : seqC (fun e S => execL (C b) 2 c31 (k22 b) e S) (k22 b) = k32 b := rfl
@[go_sem] theorem g51 (b : Nat) (K : KT) (x41 : PV) (S : Store) : execL (C b) 2 c30 K (ee6 x41) S =
  withV (evBin .eql (tyi Try.prog 9) x41 (.str ⟨#[116, 114, 117, 101]⟩)) fun x43 =>
    withV (some x43) fun x42 =>
    K .normal (ee7 x41 x42) S := nr (by kernel_rfl)
@[go_sem] theorem k17_n (b : Nat) (x41 : PV) (S : Store) : k17 b .normal (ee6 x41) S =
  execL (C b) 2 c30 (k32 b) (ee6 x41) S := nr ((show k17 b .normal (ee6 x41) S = execL (C b) 0 c16 (k12 b) (ee6 x41) S from seqC_n _ _ _ _).trans ((show execL (C b) 0 c16 (k12 b) (ee6 x41) S = execL (C b) 2 c18 (k19 b) (ee6 x41) S from execL_block c16_h).trans ((enter_seq c18_h (k22_l b)).trans ((enter_seq c20_h (k32_l b)).trans (rfl)))))
theorem k17_l (b : Nat) : seqC (fun e S => execL (C b) 0 c16 (k12 b) e S) (k12 b) = k17 b := rfl
@[go_sem] theorem g52 (b : Nat) (K : KT) (x0 x3 x21 : PV) (S : Store) : execL (C b) 0 c15 K (ee2 x0 x3 x21) S =
  withV (some x0) fun x41 =>
    K .normal (ee6 x41) S := nr (by kernel_rfl)
@[go_sem] theorem k14_n (b : Nat) (x0 x3 x21 : PV) (S : Store) : k14 b .normal (ee2 x0 x3 x21) S =
  execL (C b) 0 c15 (k17 b) (ee2 x0 x3 x21) S := nr ((show k14 b .normal (ee2 x0 x3 x21) S = execL (C b) 0 c7 (k12 b) (ee2 x0 x3 x21) S from seqC_n _ _ _ _).trans ((enter_seq c7_h (k17_l b)).trans (rfl)))
@[go_sem] theorem k14_ret (b : Nat) (e : Env) (S : Store) : k14 b .ret e S = (k0 b) .ret e S := nr (seqC_r _ _ _ _)
theorem k14_l (b : Nat) : seqC (fun e S => execL (C b) 0 c6 (k0 b) e S) (k0 b) = k14 b := link_seq c6_h (k12_l b)
noncomputable def k53 (b : Nat) : KT := seqC (fun e S => execL (C b) 0 c5 (k14 b) e S) (k0 b)
noncomputable def c54 : Code := at0 c5
noncomputable def c55 : Code := at1 c5
theorem c5_h : c5 = .seq c54 c55 := by kernel_rfl
noncomputable def k56 (b : Nat) : KT := seqC (fun e S => execL (C b) 0 c55 (k14 b) e S) (k14 b)
noncomputable def c57 : Code := atB c55
theorem c55_h : c55 = .block 0 c57 := by kernel_rfl
noncomputable def k58 (b : Nat) : KT := blockC 0 (k14 b)
@[go_sem] theorem k58_ret (b : Nat) (e : Env) (S : Store) : k58 b .ret e S = (k14 b) .ret e S := nr (blockC_r _ _ _ _)
@[go_sem] theorem k58_exit (b : Nat) (i : Nat) (e : Env) (S : Store) : k58 b (.exit i) e S = if i = 0 then (k14 b) .normal e S else (k14 b) (.exit i) e S := nr (blockC_x _ _ _ _ _)
noncomputable def c59 : Code := atL c57
noncomputable def k60 (b n0 : Nat) : KT := afterC 0 n0 [0] (k58 b)
noncomputable def L0g (b n0 : Nat) (e : Env) (S : Store) : RT := loopL (fun K e S => execL (C b) 0 c59 K e S) (normG [0, 3] [] n0) (k60 b n0) e S
noncomputable def L0 (b n0 : Nat) (x0 x3 : PV) (S : Store) : RT := L0g b n0 (ee1 x0 x3) S
noncomputable def k61 (b n0 : Nat) : KT := stepC (normG [0, 3] [] n0) (k60 b n0) (L0g b n0)
@[go_sem] theorem k61_n (b n0 : Nat) (x0 x3 : PV) (S : Store) : k61 b n0 .normal (ee1 x0 x3) S = L0 b n0 x0 x3 (gc n0 (ee1 x0 x3) S) := nr (by kernel_rfl)
@[go_sem] theorem k61_ret (b n0 : Nat) (e : Env) (S : Store) : k61 b n0 .ret e S = (k58 b) .ret e S := nr ((show k61 b n0 .ret e S = (k60 b n0) .ret e S from stepC_r _ _ _ _ _).trans (afterC_r _ _ _ _ _ _))
@[go_sem] theorem k61_x1 (b n0 : Nat) (x0 x3 x21 : PV) (S : Store) : k61 b n0 (.exit 0) (ee2 x0 x3 x21) S = (k58 b) (.exit 0) (ee2 x0 .undef .undef) (gc n0 (ee2 x0 .undef .undef) S) := nr ((show k61 b n0 (.exit 0) (ee2 x0 x3 x21) S = (k60 b n0) (.exit 0) (ee2 x0 x3 x21) S from stepC_x _ _ _ _ _ _).trans ((show (k60 b n0) (.exit 0) (ee2 x0 x3 x21) S = _ from afterC_x _ _ _ _ _ _ _).trans (if_pos rfl)))
noncomputable def c62 : Code := at0 c59
noncomputable def c63 : Code := at1 c59
theorem c59_h : c59 = .seq c62 c63 := by kernel_rfl
noncomputable def c64 : Code := at0 c63
noncomputable def c65 : Code := at1 c63
theorem c63_h : c63 = .seq c64 c65 := by kernel_rfl
noncomputable def k66 (b n0 : Nat) : KT := seqC (fun e S => execL (C b) 0 c65 (k61 b n0) e S) (k61 b n0)
@[go_sem] theorem g67 (b : Nat) (K : KT) (x0 x3 x40 : PV) (S : Store) : execL (C b) 0 c65 K (ee3 x0 x3 x40) S =
  withV (some x3) fun x22 =>
    withV (evBin .add (tyi Try.prog 3) x22 (.int .i64 1)) fun x23 =>
    withV (some x23) fun x3 =>
    K .normal (ee1 x0 x3) S := nr (by kernel_rfl)
@[go_sem] theorem k66_n (b n0 : Nat) (e : Env) (S : Store) : k66 b n0 .normal e S = execL (C b) 0 c65 (k61 b n0) e S := nr (seqC_n _ _ _ _)
@[go_sem] theorem k66_ret (b n0 : Nat) (e : Env) (S : Store) : k66 b n0 .ret e S = (k61 b n0) .ret e S := nr (seqC_r _ _ _ _)
theorem k66_l (b n0 : Nat) : seqC (fun e S => execL (C b) 0 c65 (k61 b n0) e S) (k61 b n0) = k66 b n0 := rfl
noncomputable def k68 (b n0 : Nat) : KT := seqC (fun e S => execL (C b) 0 c64 (k66 b n0) e S) (k61 b n0)
noncomputable def c69 : Code := atB c64
theorem c64_h : c64 = .block 1 c69 := by kernel_rfl
noncomputable def k70 (b n0 : Nat) : KT := blockC 1 (k66 b n0)
@[go_sem] theorem k70_n (b n0 : Nat) (e : Env) (S : Store) : k70 b n0 .normal e S = (k66 b n0) .normal e S := nr (blockC_n _ _ _ _)
@[go_sem] theorem k70_ret (b n0 : Nat) (e : Env) (S : Store) : k70 b n0 .ret e S = (k66 b n0) .ret e S := nr (blockC_r _ _ _ _)
noncomputable def c71 : Code := at0 c69
noncomputable def c72 : Code := at1 c69
theorem c69_h : c69 = .seq c71 c72 := by kernel_rfl
noncomputable def k73 (b n0 : Nat) : KT := seqC (fun e S => execL (C b) 1 c72 (k70 b n0) e S) (k70 b n0)
noncomputable def c74 : Code := atT c72
noncomputable def c75 : Code := atF c72
theorem c72_h : c72 = .cond (.tmp 40) c74 c75 := by kernel_rfl
noncomputable def c77 : Code := at0 c74
noncomputable def c78 : Code := at1 c74
theorem c74_h : c74 = .seq c77 c78 := by kernel_rfl
noncomputable def k79 (b n0 : Nat) : KT := seqC (fun e S => execL (C b) 1 c78 (k70 b n0) e S) (k70 b n0)
@[go_sem] theorem k79_n (b n0 : Nat) (x2 : PV) (S : Store) : k79 b n0 .normal (ee5 x2) S =
  (k70 b n0) .ret (ee5 x2) S := nr ((show k79 b n0 .normal (ee5 x2) S = execL (C b) 1 c78 (k70 b n0) (ee5 x2) S from seqC_n _ _ _ _).trans (execL_ret (by kernel_rfl)))
theorem k79_l (b n0 : Nat) : seqC (fun e S => execL (C b) 1 c78 (k70 b n0) e S) (k70 b n0) = k79 b n0 := rfl
@[go_sem] theorem g80 (b : Nat) (K : KT) (x0 x3 x40 : PV) (S : Store) : execL (C b) 1 c77 K (ee3 x0 x3 x40) S =
  withV (some (.bool false)) fun x2 =>
    K .normal (ee5 x2) S := nr (by kernel_rfl)
noncomputable def E76 (b n0 : Nat) (x0 x3 x40 : PV) (S : Store) : RT := execL (C b) 1 c74 (k70 b n0) (ee3 x0 x3 x40) S
@[go_sem] theorem E76_eq (b n0 : Nat) (x0 x3 x40 : PV) (S : Store) : E76 b n0 x0 x3 x40 S =
  execL (C b) 1 c77 (k79 b n0) (ee3 x0 x3 x40) S := nr ((enter_seq c74_h (k79_l b n0)).trans (rfl))
@[go_sem] theorem k73_n (b n0 : Nat) (x0 x3 x40 : PV) (S : Store) : k73 b n0 .normal (ee3 x0 x3 x40) S =
  condC x40 (E76 b n0 x0 x3 x40 S)
    ((k70 b n0) .normal (ee3 x0 x3 x40) S) := nr ((show k73 b n0 .normal (ee3 x0 x3 x40) S = execL (C b) 1 c72 (k70 b n0) (ee3 x0 x3 x40) S from seqC_n _ _ _ _).trans (execL_cond c72_h (rfl) (execL_skip (by kernel_rfl)) rfl))
theorem k73_l (b n0 : Nat) : seqC (fun e S => execL (C b) 1 c72 (k70 b n0) e S) (k70 b n0) = k73 b n0 := rfl
@[go_sem] theorem g81 (b : Nat) (K : KT) (x0 x3 x21 : PV) (S : Store) : execL (C b) 1 c71 K (ee2 x0 x3 x21) S =
  withV (some x0) fun x24 =>
    withV (some x3) fun x25 =>
    withV (indexO Try.prog 9 x24 x25) fun x26 =>
    withN (callO (callL Try.prog hints) S 66 [x26]) S fun x27 S =>
    withV (evUn .not x27) fun x28 =>
    withV (some x28) fun x29 =>
    withV (gval x29 true (some x0)) fun x30 =>
    withV (gval x29 true (some x3)) fun x31 =>
    withV (gval x29 true (indexO Try.prog 9 x30 x31)) fun x32 =>
    withV (gval x29 true (evBin .lss (tyi Try.prog 5) x32 (.int .u8 48))) fun x33 =>
    withV (gval x29 true (some x33)) fun x34 =>
    withV (gval x34 false (some x0)) fun x35 =>
    withV (gval x34 false (some x3)) fun x36 =>
    withV (gval x34 false (indexO Try.prog 9 x35 x36)) fun x37 =>
    withV (gval x34 false (evBin .gtr (tyi Try.prog 5) x37 (.int .u8 57))) fun x38 =>
    withV (gval x29 true (pickO x34 (.bool true) x38)) fun x39 =>
    withV (pickO x29 x39 (.bool false)) fun x40 =>
    K .normal (ee3 x0 x3 x40) S := nr (by kernel_rfl)
@[go_sem] theorem k68_n (b n0 : Nat) (x0 x3 x21 : PV) (S : Store) : k68 b n0 .normal (ee2 x0 x3 x21) S =
  execL (C b) 1 c71 (k73 b n0) (ee2 x0 x3 x21) S := nr ((show k68 b n0 .normal (ee2 x0 x3 x21) S = execL (C b) 0 c64 (k66 b n0) (ee2 x0 x3 x21) S from seqC_n _ _ _ _).trans ((show execL (C b) 0 c64 (k66 b n0) (ee2 x0 x3 x21) S = execL (C b) 1 c69 (k70 b n0) (ee2 x0 x3 x21) S from execL_block c64_h).trans ((enter_seq c69_h (k73_l b n0)).trans (rfl))))
@[go_sem] theorem k68_exit (b n0 : Nat) (i : Nat) (e : Env) (S : Store) : k68 b n0 (.exit i) e S = (k61 b n0) (.exit i) e S := nr (seqC_x _ _ _ _ _)
theorem k68_l (b n0 : Nat) : seqC (fun e S => execL (C b) 0 c63 (k61 b n0) e S) (k61 b n0) = k68 b n0 := link_seq c63_h (k66_l b n0)
noncomputable def c82 : Code := at0 c62
noncomputable def c83 : Code := at1 c62
theorem c62_h : c62 = .seq c82 c83 := by kernel_rfl
noncomputable def k84 (b n0 : Nat) : KT := seqC (fun e S => execL (C b) 0 c83 (k68 b n0) e S) (k68 b n0)
noncomputable def c85 : Code := atT c83
noncomputable def c86 : Code := atF c83
theorem c83_h : c83 = .cond (.tmp 21) c85 c86 := by kernel_rfl
@[go_sem] theorem k84_n (b n0 : Nat) (x0 x3 x21 : PV) (S : Store) : k84 b n0 .normal (ee2 x0 x3 x21) S =
  condC x21 ((k68 b n0) .normal (ee2 x0 x3 x21) S)
    ((k68 b n0) (.exit 0) (ee2 x0 x3 x21) S) := nr ((show k84 b n0 .normal (ee2 x0 x3 x21) S = execL (C b) 0 c83 (k68 b n0) (ee2 x0 x3 x21) S from seqC_n _ _ _ _).trans (execL_cond c83_h (execL_skip (by kernel_rfl)) (execL_exit (by kernel_rfl)) rfl))
theorem k84_l (b n0 : Nat) : seqC (fun e S => execL (C b) 0 c83 (k68 b n0) e S) (k68 b n0) = k84 b n0 := rfl
@[go_sem] theorem g87 (b : Nat) (K : KT) (x0 x3 : PV) (S : Store) : execL (C b) 0 c82 K (ee1 x0 x3) S =
  withV (some x3) fun x18 =>
    withV (some x0) fun x19 =>
    withV (lenO (tyi Try.prog 9) x19) fun x20 =>
    withV (evBin .lss (tyi Try.prog 3) x18 x20) fun x21 =>
    K .normal (ee2 x0 x3 x21) S := nr (by kernel_rfl)
noncomputable def B0 (b n0 : Nat) (x0 x3 : PV) (S : Store) : RT := execL (C b) 0 c59 (k61 b n0) (ee1 x0 x3) S
@[go_sem] theorem B0_eq (b n0 : Nat) (x0 x3 : PV) (S : Store) : B0 b n0 x0 x3 S =
  execL (C b) 0 c82 (k84 b n0) (ee1 x0 x3) S := nr ((enter_seq c59_h (k68_l b n0)).trans ((enter_seq c62_h (k84_l b n0)).trans (rfl)))
theorem L0_step {b n0 : Nat} {x0 x3 : PV} {S : Store} {z : PV × Store} (h : B0 b n0 x0 x3 S = some z) : L0 b n0 x0 x3 S = some z := loopL_step h
theorem L0_in (b : Nat) (x0 x3 : PV) (S : Store) : execL (C b) 0 c57 (k58 b) (ee1 x0 x3) S = L0 b (List.length S) x0 x3 S := by kernel_rfl
@[go_sem] theorem k56_n (b : Nat) (x0 x3 : PV) (S : Store) : k56 b .normal (ee1 x0 x3) S =
  L0 b (List.length S) x0 x3 S := nr ((show k56 b .normal (ee1 x0 x3) S = execL (C b) 0 c55 (k14 b) (ee1 x0 x3) S from seqC_n _ _ _ _).trans ((show execL (C b) 0 c55 (k14 b) (ee1 x0 x3) S = execL (C b) 0 c57 (k58 b) (ee1 x0 x3) S from execL_block c55_h).trans (L0_in b x0 x3 S)))
theorem k56_l (b : Nat) : seqC (fun e S => execL (C b) 0 c55 (k14 b) e S) (k14 b) = k56 b := rfl
@[go_sem] theorem g89 (b : Nat) (K : KT) (x0 x17 : PV) (S : Store) : execL (C b) 0 c54 K (ee4 x0 x17) S =
  withV (some (.int .i64 0)) fun x3 =>
    K .normal (ee1 x0 x3) S := nr (by kernel_rfl)
@[go_sem] theorem k53_n (b : Nat) (x0 x17 : PV) (S : Store) : k53 b .normal (ee4 x0 x17) S =
  execL (C b) 0 c54 (k56 b) (ee4 x0 x17) S := nr ((show k53 b .normal (ee4 x0 x17) S = execL (C b) 0 c5 (k14 b) (ee4 x0 x17) S from seqC_n _ _ _ _).trans ((enter_seq c5_h (k56_l b)).trans (rfl)))
@[go_sem] theorem k53_ret (b : Nat) (e : Env) (S : Store) : k53 b .ret e S = (k0 b) .ret e S := nr (seqC_r _ _ _ _)
theorem k53_l (b : Nat) : seqC (fun e S => execL (C b) 0 c4 (k0 b) e S) (k0 b) = k53 b := link_seq c4_h (k14_l b)
noncomputable def k90 (b : Nat) : KT := seqC (fun e S => execL (C b) 0 c3 (k53 b) e S) (k0 b)
noncomputable def c91 : Code := at0 c3
noncomputable def c92 : Code := at1 c3
theorem c3_h : c3 = .seq c91 c92 := by kernel_rfl
noncomputable def k93 (b : Nat) : KT := seqC (fun e S => execL (C b) 0 c92 (k53 b) e S) (k53 b)
noncomputable def c94 : Code := atT c92
noncomputable def c95 : Code := atF c92
theorem c92_h : c92 = .cond (.tmp 17) c94 c95 := by kernel_rfl
noncomputable def c97 : Code := at0 c94
noncomputable def c98 : Code := at1 c94
theorem c94_h : c94 = .seq c97 c98 := by kernel_rfl
noncomputable def k99 (b : Nat) : KT := seqC (fun e S => execL (C b) 0 c98 (k53 b) e S) (k53 b)
@[go_sem] theorem k99_n (b : Nat) (x2 : PV) (S : Store) : k99 b .normal (ee5 x2) S =
  (k53 b) .ret (ee5 x2) S := nr ((show k99 b .normal (ee5 x2) S = execL (C b) 0 c98 (k53 b) (ee5 x2) S from seqC_n _ _ _ _).trans (execL_ret (by kernel_rfl)))
theorem k99_l (b : Nat) : seqC (fun e S => execL (C b) 0 c98 (k53 b) e S) (k53 b) = k99 b := rfl
@[go_sem] theorem g100 (b : Nat) (K : KT) (x0 x17 : PV) (S : Store) : execL (C b) 0 c97 K (ee4 x0 x17) S =
  withV (some (.bool false)) fun x2 =>
    K .normal (ee5 x2) S := nr (by kernel_rfl)
noncomputable def E96 (b : Nat) (x0 x17 : PV) (S : Store) : RT := execL (C b) 0 c94 (k53 b) (ee4 x0 x17) S
@[go_sem] theorem E96_eq (b : Nat) (x0 x17 : PV) (S : Store) : E96 b x0 x17 S =
  execL (C b) 0 c97 (k99 b) (ee4 x0 x17) S := nr ((enter_seq c94_h (k99_l b)).trans (rfl))
@[go_sem] theorem k93_n (b : Nat) (x0 x17 : PV) (S : Store) : k93 b .normal (ee4 x0 x17) S =
  condC x17 (E96 b x0 x17 S)
    ((k53 b) .normal (ee4 x0 x17) S) := nr ((show k93 b .normal (ee4 x0 x17) S = execL (C b) 0 c92 (k53 b) (ee4 x0 x17) S from seqC_n _ _ _ _).trans (execL_cond c92_h (rfl) (execL_skip (by kernel_rfl)) rfl))
theorem k93_l (b : Nat) : seqC (fun e S => execL (C b) 0 c92 (k53 b) e S) (k53 b) = k93 b := rfl
@[go_sem] theorem g101 (b : Nat) (K : KT) (x0 : PV) (S : Store) : execL (C b) 0 c91 K (ee0 x0) S =
  withV (some x0) fun x4 =>
    withV (lenO (tyi Try.prog 9) x4) fun x5 =>
    withV (evBin .eql (tyi Try.prog 3) x5 (.int .i64 0)) fun x6 =>
    withV (some x6) fun x7 =>
    withV (gval x7 false (some x0)) fun x8 =>
    withV (gval x7 false (lenO (tyi Try.prog 9) x8)) fun x9 =>
    withV (gval x7 false (evBin .gtr (tyi Try.prog 3) x9 (.int .i64 12))) fun x10 =>
    withV (pickO x7 (.bool true) x10) fun x11 =>
    withV (some x11) fun x12 =>
    withV (gval x12 false (some x0)) fun x13 =>
    withV (gval x12 false (indexO Try.prog 9 x13 (.int .i64 0))) fun x14 =>
    withN (gout x12 false (callO (callL Try.prog hints) S 66 [x14])) S fun x15 S =>
    withV (gval x12 false (evUn .not x15)) fun x16 =>
    withV (pickO x12 (.bool true) x16) fun x17 =>
    K .normal (ee4 x0 x17) S := nr (by kernel_rfl)
@[go_sem] theorem k90_n (b : Nat) (x0 : PV) (S : Store) : k90 b .normal (ee0 x0) S =
  execL (C b) 0 c91 (k93 b) (ee0 x0) S := nr ((show k90 b .normal (ee0 x0) S = execL (C b) 0 c3 (k53 b) (ee0 x0) S from seqC_n _ _ _ _).trans ((enter_seq c3_h (k93_l b)).trans (rfl)))
theorem k90_l (b : Nat) : seqC (fun e S => execL (C b) 0 c2 (k0 b) e S) (k0 b) = k90 b := link_seq c2_h (k53_l b)
@[go_sem] theorem g102 (b : Nat) (K : KT) (x0 : PV) (S : Store) : execL (C b) 0 c1 K (ee0 x0) S =
  withV (some (.bool false)) fun x2 =>
    K .normal (ee0 x0) S := nr (by kernel_rfl)
noncomputable def E (b : Nat) (x0 : PV) (S : Store) : RT := execL (C b) 0 code (k0 b) (ee0 x0) S
@[go_sem] theorem E_eq (b : Nat) (x0 : PV) (S : Store) : E b x0 S =
  execL (C b) 0 c1 (k90 b) (ee0 x0) S := nr ((enter_seq code_h (k90_l b)).trans (rfl))
theorem call {x0 : PV} {r : PV × Store} {v : PV} (h : E 0 x0 [] = some r) (hv : fzPV r.2 r.1 = some v) : callL Try.prog hints 38 [x0] = some v := callL_of (fn := Try.f38) (c := code) (by kernel_rfl) (by kernel_rfl) (by decide) (by kernel_rfl) (Nat.le_of_ble_eq_true (by kernel_rfl)) h hv
end F38
/-! ### isochroneref08.Name -/
namespace F39
def hint : Hint := { keep := [], loops := [(0, { live := [0, 3], after := [], own := [], fz := [] })], regs := [(0, [0]), (1, [0, 27]), (2, [2]), (3, [0, 3]), (4, [0, 3, 31]), (5, [0, 3]), (6, [0, 3, 54]), (7, [2]), (8, [2])] }
noncomputable def C (b : Nat) : Ctx := ctxL Try.prog hints b hint
noncomputable def code : Code := Try.f39.body.get rfl
noncomputable def k0 (b : Nat) : KT := endC Try.prog Try.f39
def ee0 (x0 : PV) : Env := [(0, x0)]
def ee1 (x0 x3 : PV) : Env := [(0, x0), (3, x3)]
def ee2 (x0 x3 x31 : PV) : Env := [(0, x0), (3, x3), (31, x31)]
def ee3 (x0 x3 x54 : PV) : Env := [(0, x0), (3, x3), (54, x54)]
def ee4 (x0 x27 : PV) : Env := [(0, x0), (27, x27)]
def ee5 (x2 : PV) : Env := [(2, x2)]
@[go_sem] theorem k0_ret5 (b : Nat) (x2 : PV) (S : Store) : k0 b .ret (ee5 x2) S = some (x2, S) := nr (by kernel_rfl)
noncomputable def c1 : Code := at0 code
noncomputable def c2 : Code := at1 code
theorem code_h : code = .seq c1 c2 := by kernel_rfl
noncomputable def c3 : Code := at0 c2
noncomputable def c4 : Code := at1 c2
theorem c2_h : c2 = .seq c3 c4 := by kernel_rfl
noncomputable def c5 : Code := at0 c4
noncomputable def c6 : Code := at1 c4
theorem c4_h : c4 = .seq c5 c6 := by kernel_rfl
noncomputable def c7 : Code := at0 c6
noncomputable def c8 : Code := at1 c6
theorem c6_h : c6 = .seq c7 c8 := by kernel_rfl
noncomputable def k9 (b : Nat) : KT := seqC (fun e S => execL (C b) 0 c8 (k0 b) e S) (k0 b)
@[go_sem] theorem k9_n (b : Nat) (x2 : PV) (S : Store) : k9 b .normal (ee5 x2) S =
  (k0 b) .ret (ee5 x2) S := nr ((show k9 b .normal (ee5 x2) S = execL (C b) 0 c8 (k0 b) (ee5 x2) S from seqC_n _ _ _ _).trans (execL_ret (by kernel_rfl)))
theorem k9_l (b : Nat) : seqC (fun e S => execL (C b) 0 c8 (k0 b) e S) (k0 b) = k9 b := rfl
noncomputable def k10 (b : Nat) : KT := seqC (fun e S => execL (C b) 0 c7 (k9 b) e S) (k0 b)
@[go_sem] theorem g11 (b : Nat) (K : KT) (x0 x3 x31 : PV) (S : Store) : execL (C b) 0 c7 K (ee2 x0 x3 x31) S =
  withV (some (.bool true)) fun x2 =>
    K .normal (ee5 x2) S := nr (by kernel_rfl)
@[go_sem] theorem k10_n (b : Nat) (e : Env) (S : Store) : k10 b .normal e S = execL (C b) 0 c7 (k9 b) e S := nr (seqC_n _ _ _ _)
@[go_sem] theorem k10_ret (b : Nat) (e : Env) (S : Store) : k10 b .ret e S = (k0 b) .ret e S := nr (seqC_r _ _ _ _)
theorem k10_l (b : Nat) : seqC (fun e S => execL (C b) 0 c6 (k0 b) e S) (k0 b) = k10 b := link_seq c6_h (k9_l b)
noncomputable def k12 (b : Nat) : KT := seqC (fun e S => execL (C b) 0 c5 (k10 b) e S) (k0 b)
noncomputable def c13 : Code := at0 c5
noncomputable def c14 : Code := at1 c5
theorem c5_h : c5 = .seq c13 c14 := by kernel_rfl
noncomputable def k15 (b : Nat) : KT := seqC (fun e S => execL (C b) 0 c14 (k10 b) e S) (k10 b)
noncomputable def c16 : Code := atB c14
theorem c14_h : c14 = .block 0 c16 := by kernel_rfl
noncomputable def k17 (b : Nat) : KT := blockC 0 (k10 b)
@[go_sem] theorem k17_ret (b : Nat) (e : Env) (S : Store) : k17 b .ret e S = (k10 b) .ret e S := nr (blockC_r _ _ _ _)
@[go_sem] theorem k17_exit (b : Nat) (i : Nat) (e : Env) (S : Store) : k17 b (.exit i) e S = if i = 0 then (k10 b) .normal e S else (k10 b) (.exit i) e S := nr (blockC_x _ _ _ _ _)
noncomputable def c18 : Code := atL c16
noncomputable def k19 (b n0 : Nat) : KT := afterC 0 n0 [] (k17 b)
noncomputable def L0g (b n0 : Nat) (e : Env) (S : Store) : RT := loopL (fun K e S => execL (C b) 0 c18 K e S) (normG [0, 3] [] n0) (k19 b n0) e S
noncomputable def L0 (b n0 : Nat) (x0 x3 : PV) (S : Store) : RT := L0g b n0 (ee1 x0 x3) S
noncomputable def k20 (b n0 : Nat) : KT := stepC (normG [0, 3] [] n0) (k19 b n0) (L0g b n0)
@[go_sem] theorem k20_n (b n0 : Nat) (x0 x3 : PV) (S : Store) : k20 b n0 .normal (ee1 x0 x3) S = L0 b n0 x0 x3 (gc n0 (ee1 x0 x3) S) := nr (by kernel_rfl)
@[go_sem] theorem k20_ret (b n0 : Nat) (e : Env) (S : Store) : k20 b n0 .ret e S = (k17 b) .ret e S := nr ((show k20 b n0 .ret e S = (k19 b n0) .ret e S from stepC_r _ _ _ _ _).trans (afterC_r _ _ _ _ _ _))
@[go_sem] theorem k20_x1 (b n0 : Nat) (x0 x3 x31 : PV) (S : Store) : k20 b n0 (.exit 0) (ee2 x0 x3 x31) S = (k17 b) (.exit 0) (ee2 .undef .undef .undef) (gc n0 (ee2 .undef .undef .undef) S) := nr ((show k20 b n0 (.exit 0) (ee2 x0 x3 x31) S = (k19 b n0) (.exit 0) (ee2 x0 x3 x31) S from stepC_x _ _ _ _ _ _).trans ((show (k19 b n0) (.exit 0) (ee2 x0 x3 x31) S = _ from afterC_x _ _ _ _ _ _ _).trans (if_pos rfl)))
noncomputable def c21 : Code := at0 c18
noncomputable def c22 : Code := at1 c18
theorem c18_h : c18 = .seq c21 c22 := by kernel_rfl
noncomputable def c23 : Code := at0 c22
noncomputable def c24 : Code := at1 c22
theorem c22_h : c22 = .seq c23 c24 := by kernel_rfl
noncomputable def k25 (b n0 : Nat) : KT := seqC (fun e S => execL (C b) 0 c24 (k20 b n0) e S) (k20 b n0)
@[go_sem] theorem g26 (b : Nat) (K : KT) (x0 x3 x54 : PV) (S : Store) : execL (C b) 0 c24 K (ee3 x0 x3 x54) S =
  withV (some x3) fun x32 =>
    withV (evBin .add (tyi Try.prog 3) x32 (.int .i64 1)) fun x33 =>
    withV (some x33) fun x3 =>
    K .normal (ee1 x0 x3) S := nr (by kernel_rfl)
@[go_sem] theorem k25_n (b n0 : Nat) (e : Env) (S : Store) : k25 b n0 .normal e S = execL (C b) 0 c24 (k20 b n0) e S := nr (seqC_n _ _ _ _)
@[go_sem] theorem k25_ret (b n0 : Nat) (e : Env) (S : Store) : k25 b n0 .ret e S = (k20 b n0) .ret e S := nr (seqC_r _ _ _ _)
theorem k25_l (b n0 : Nat) : seqC (fun e S => execL (C b) 0 c24 (k20 b n0) e S) (k20 b n0) = k25 b n0 := rfl
noncomputable def k27 (b n0 : Nat) : KT := seqC (fun e S => execL (C b) 0 c23 (k25 b n0) e S) (k20 b n0)
noncomputable def c28 : Code := atB c23
theorem c23_h : c23 = .block 1 c28 := by kernel_rfl
noncomputable def k29 (b n0 : Nat) : KT := blockC 1 (k25 b n0)
@[go_sem] theorem k29_n (b n0 : Nat) (e : Env) (S : Store) : k29 b n0 .normal e S = (k25 b n0) .normal e S := nr (blockC_n _ _ _ _)
@[go_sem] theorem k29_ret (b n0 : Nat) (e : Env) (S : Store) : k29 b n0 .ret e S = (k25 b n0) .ret e S := nr (blockC_r _ _ _ _)
noncomputable def c30 : Code := at0 c28
noncomputable def c31 : Code := at1 c28
theorem c28_h : c28 = .seq c30 c31 := by kernel_rfl
noncomputable def k32 (b n0 : Nat) : KT := seqC (fun e S => execL (C b) 1 c31 (k29 b n0) e S) (k29 b n0)
noncomputable def c33 : Code := atT c31
noncomputable def c34 : Code := atF c31
theorem c31_h : c31 = .cond (.tmp 54) c33 c34 := by kernel_rfl
noncomputable def c36 : Code := at0 c33
noncomputable def c37 : Code := at1 c33
theorem c33_h : c33 = .seq c36 c37 := by kernel_rfl
noncomputable def k38 (b n0 : Nat) : KT := seqC (fun e S => execL (C b) 1 c37 (k29 b n0) e S) (k29 b n0)
@[go_sem] theorem k38_n (b n0 : Nat) (x2 : PV) (S : Store) : k38 b n0 .normal (ee5 x2) S =
  (k29 b n0) .ret (ee5 x2) S := nr ((show k38 b n0 .normal (ee5 x2) S = execL (C b) 1 c37 (k29 b n0) (ee5 x2) S from seqC_n _ _ _ _).trans (execL_ret (by kernel_rfl)))
theorem k38_l (b n0 : Nat) : seqC (fun e S => execL (C b) 1 c37 (k29 b n0) e S) (k29 b n0) = k38 b n0 := rfl
@[go_sem] theorem g39 (b : Nat) (K : KT) (x0 x3 x54 : PV) (S : Store) : execL (C b) 1 c36 K (ee3 x0 x3 x54) S =
  withV (some (.bool false)) fun x2 =>
    K .normal (ee5 x2) S := nr (by kernel_rfl)
noncomputable def E35 (b n0 : Nat) (x0 x3 x54 : PV) (S : Store) : RT := execL (C b) 1 c33 (k29 b n0) (ee3 x0 x3 x54) S
@[go_sem] theorem E35_eq (b n0 : Nat) (x0 x3 x54 : PV) (S : Store) : E35 b n0 x0 x3 x54 S =
  execL (C b) 1 c36 (k38 b n0) (ee3 x0 x3 x54) S := nr ((enter_seq c33_h (k38_l b n0)).trans (rfl))
@[go_sem] theorem k32_n (b n0 : Nat) (x0 x3 x54 : PV) (S : Store) : k32 b n0 .normal (ee3 x0 x3 x54) S =
  condC x54 (E35 b n0 x0 x3 x54 S)
    ((k29 b n0) .normal (ee3 x0 x3 x54) S) := nr ((show k32 b n0 .normal (ee3 x0 x3 x54) S = execL (C b) 1 c31 (k29 b n0) (ee3 x0 x3 x54) S from seqC_n _ _ _ _).trans (execL_cond c31_h (rfl) (execL_skip (by kernel_rfl)) rfl))
theorem k32_l (b n0 : Nat) : seqC (fun e S => execL (C b) 1 c31 (k29 b n0) e S) (k29 b n0) = k32 b n0 := rfl
@[go_sem] theorem g40 (b : Nat) (K : KT) (x0 x3 x31 : PV) (S : Store) : execL (C b) 1 c30 K (ee2 x0 x3 x31) S =
  withV (some x0) fun x34 =>
    withV (some x3) fun x35 =>
    withV (indexO Try.prog 9 x34 x35) fun x36 =>
    withN (callO (callL Try.prog hints) S 67 [x36]) S fun x37 S =>
    withV (evUn .not x37) fun x38 =>
    withV (some x38) fun x39 =>
    withV (gval x39 true (some x3)) fun x40 =>
    withV (gval x39 true (evBin .eql (tyi Try.prog 3) x40 (.int .i64 0))) fun x41 =>
    withV (gval x39 true (some x41)) fun x42 =>
    withV (gval x42 false (some x0)) fun x43 =>
    withV (gval x42 false (some x3)) fun x44 =>
    withV (gval x42 false (indexO Try.prog 9 x43 x44)) fun x45 =>
    withV (gval x42 false (evBin .lss (tyi Try.prog 5) x45 (.int .u8 48))) fun x46 =>
    withV (gval x39 true (pickO x42 (.bool true) x46)) fun x47 =>
    withV (gval x39 true (some x47)) fun x48 =>
    withV (gval x48 false (some x0)) fun x49 =>
    withV (gval x48 false (some x3)) fun x50 =>
    withV (gval x48 false (indexO Try.prog 9 x49 x50)) fun x51 =>
    withV (gval x48 false (evBin .gtr (tyi Try.prog 5) x51 (.int .u8 57))) fun x52 =>
    withV (gval x39 true (pickO x48 (.bool true) x52)) fun x53 =>
    withV (pickO x39 x53 (.bool false)) fun x54 =>
    K .normal (ee3 x0 x3 x54) S := nr (by kernel_rfl)
@[go_sem] theorem k27_n (b n0 : Nat) (x0 x3 x31 : PV) (S : Store) : k27 b n0 .normal (ee2 x0 x3 x31) S =
  execL (C b) 1 c30 (k32 b n0) (ee2 x0 x3 x31) S := nr ((show k27 b n0 .normal (ee2 x0 x3 x31) S = execL (C b) 0 c23 (k25 b n0) (ee2 x0 x3 x31) S from seqC_n _ _ _ _).trans ((show execL (C b) 0 c23 (k25 b n0) (ee2 x0 x3 x31) S = execL (C b) 1 c28 (k29 b n0) (ee2 x0 x3 x31) S from execL_block c23_h).trans ((enter_seq c28_h (k32_l b n0)).trans (rfl))))
@[go_sem] theorem k27_exit (b n0 : Nat) (i : Nat) (e : Env) (S : Store) : k27 b n0 (.exit i) e S = (k20 b n0) (.exit i) e S := nr (seqC_x _ _ _ _ _)
theorem k27_l (b n0 : Nat) : seqC (fun e S => execL (C b) 0 c22 (k20 b n0) e S) (k20 b n0) = k27 b n0 := link_seq c22_h (k25_l b n0)
noncomputable def c41 : Code := at0 c21
noncomputable def c42 : Code := at1 c21
theorem c21_h : c21 = .seq c41 c42 := by kernel_rfl
noncomputable def k43 (b n0 : Nat) : KT := seqC (fun e S => execL (C b) 0 c42 (k27 b n0) e S) (k27 b n0)
noncomputable def c44 : Code := atT c42
noncomputable def c45 : Code := atF c42
theorem c42_h : c42 = .cond (.tmp 31) c44 c45 := by kernel_rfl
@[go_sem] theorem k43_n (b n0 : Nat) (x0 x3 x31 : PV) (S : Store) : k43 b n0 .normal (ee2 x0 x3 x31) S =
  condC x31 ((k27 b n0) .normal (ee2 x0 x3 x31) S)
    ((k27 b n0) (.exit 0) (ee2 x0 x3 x31) S) := nr ((show k43 b n0 .normal (ee2 x0 x3 x31) S = execL (C b) 0 c42 (k27 b n0) (ee2 x0 x3 x31) S from seqC_n _ _ _ _).trans (execL_cond c42_h (execL_skip (by kernel_rfl)) (execL_exit (by kernel_rfl)) rfl))
theorem k43_l (b n0 : Nat) : seqC (fun e S => execL (C b) 0 c42 (k27 b n0) e S) (k27 b n0) = k43 b n0 := rfl
@[go_sem] theorem g46 (b : Nat) (K : KT) (x0 x3 : PV) (S : Store) : execL (C b) 0 c41 K (ee1 x0 x3) S =
  withV (some x3) fun x28 =>
    withV (some x0) fun x29 =>
    withV (lenO (tyi Try.prog 9) x29) fun x30 =>
    withV (evBin .lss (tyi Try.prog 3) x28 x30) fun x31 =>
    K .normal (ee2 x0 x3 x31) S := nr (by kernel_rfl)
noncomputable def B0 (b n0 : Nat) (x0 x3 : PV) (S : Store) : RT := execL (C b) 0 c18 (k20 b n0) (ee1 x0 x3) S
@[go_sem] theorem B0_eq (b n0 : Nat) (x0 x3 : PV) (S : Store) : B0 b n0 x0 x3 S =
  execL (C b) 0 c41 (k43 b n0) (ee1 x0 x3) S := nr ((enter_seq c18_h (k27_l b n0)).trans ((enter_seq c21_h (k43_l b n0)).trans (rfl)))
theorem L0_step {b n0 : Nat} {x0 x3 : PV} {S : Store} {z : PV × Store} (h : B0 b n0 x0 x3 S = some z) : L0 b n0 x0 x3 S = some z := loopL_step h
theorem L0_in (b : Nat) (x0 x3 : PV) (S : Store) : execL (C b) 0 c16 (k17 b) (ee1 x0 x3) S = L0 b (List.length S) x0 x3 S := by kernel_rfl
@[go_sem] theorem k15_n (b : Nat) (x0 x3 : PV) (S : Store) : k15 b .normal (ee1 x0 x3) S =
  L0 b (List.length S) x0 x3 S := nr ((show k15 b .normal (ee1 x0 x3) S = execL (C b) 0 c14 (k10 b) (ee1 x0 x3) S from seqC_n _ _ _ _).trans ((show execL (C b) 0 c14 (k10 b) (ee1 x0 x3) S = execL (C b) 0 c16 (k17 b) (ee1 x0 x3) S from execL_block c14_h).trans (L0_in b x0 x3 S)))
theorem k15_l (b : Nat) : seqC (fun e S => execL (C b) 0 c14 (k10 b) e S) (k10 b) = k15 b := rfl
@[go_sem] theorem g48 (b : Nat) (K : KT) (x0 x27 : PV) (S : Store) : execL (C b) 0 c13 K (ee4 x0 x27) S =
  withV (some (.int .i64 0)) fun x3 =>
    K .normal (ee1 x0 x3) S := nr (by kernel_rfl)
@[go_sem] theorem k12_n (b : Nat) (x0 x27 : PV) (S : Store) : k12 b .normal (ee4 x0 x27) S =
  execL (C b) 0 c13 (k15 b) (ee4 x0 x27) S := nr ((show k12 b .normal (ee4 x0 x27) S = execL (C b) 0 c5 (k10 b) (ee4 x0 x27) S from seqC_n _ _ _ _).trans ((enter_seq c5_h (k15_l b)).trans (rfl)))
@[go_sem] theorem k12_ret (b : Nat) (e : Env) (S : Store) : k12 b .ret e S = (k0 b) .ret e S := nr (seqC_r _ _ _ _)
theorem k12_l (b : Nat) : seqC (fun e S => execL (C b) 0 c4 (k0 b) e S) (k0 b) = k12 b := link_seq c4_h (k10_l b)
noncomputable def k49 (b : Nat) : KT := seqC (fun e S => execL (C b) 0 c3 (k12 b) e S) (k0 b)
noncomputable def c50 : Code := at0 c3
noncomputable def c51 : Code := at1 c3
theorem c3_h : c3 = .seq c50 c51 := by kernel_rfl
noncomputable def k52 (b : Nat) : KT := seqC (fun e S => execL (C b) 0 c51 (k12 b) e S) (k12 b)
noncomputable def c53 : Code := atT c51
noncomputable def c54 : Code := atF c51
theorem c51_h : c51 = .cond (.tmp 27) c53 c54 := by kernel_rfl
noncomputable def c56 : Code := at0 c53
noncomputable def c57 : Code := at1 c53
theorem c53_h : c53 = .seq c56 c57 := by kernel_rfl
noncomputable def k58 (b : Nat) : KT := seqC (fun e S => execL (C b) 0 c57 (k12 b) e S) (k12 b)
@[go_sem] theorem k58_n (b : Nat) (x2 : PV) (S : Store) : k58 b .normal (ee5 x2) S =
  (k12 b) .ret (ee5 x2) S := nr ((show k58 b .normal (ee5 x2) S = execL (C b) 0 c57 (k12 b) (ee5 x2) S from seqC_n _ _ _ _).trans (execL_ret (by kernel_rfl)))
theorem k58_l (b : Nat) : seqC (fun e S => execL (C b) 0 c57 (k12 b) e S) (k12 b) = k58 b := rfl
@[go_sem] theorem g59 (b : Nat) (K : KT) (x0 x27 : PV) (S : Store) : execL (C b) 0 c56 K (ee4 x0 x27) S =
  withV (some (.bool false)) fun x2 =>
    K .normal (ee5 x2) S := nr (by kernel_rfl)
noncomputable def E55 (b : Nat) (x0 x27 : PV) (S : Store) : RT := execL (C b) 0 c53 (k12 b) (ee4 x0 x27) S
@[go_sem] theorem E55_eq (b : Nat) (x0 x27 : PV) (S : Store) : E55 b x0 x27 S =
  execL (C b) 0 c56 (k58 b) (ee4 x0 x27) S := nr ((enter_seq c53_h (k58_l b)).trans (rfl))
@[go_sem] theorem k52_n (b : Nat) (x0 x27 : PV) (S : Store) : k52 b .normal (ee4 x0 x27) S =
  condC x27 (E55 b x0 x27 S)
    ((k12 b) .normal (ee4 x0 x27) S) := nr ((show k52 b .normal (ee4 x0 x27) S = execL (C b) 0 c51 (k12 b) (ee4 x0 x27) S from seqC_n _ _ _ _).trans (execL_cond c51_h (rfl) (execL_skip (by kernel_rfl)) rfl))
theorem k52_l (b : Nat) : seqC (fun e S => execL (C b) 0 c51 (k12 b) e S) (k12 b) = k52 b := rfl
@[go_sem] theorem g60 (b : Nat) (K : KT) (x0 : PV) (S : Store) : execL (C b) 0 c50 K (ee0 x0) S =
  withV (some x0) fun x4 =>
    withV (lenO (tyi Try.prog 9) x4) fun x5 =>
    withV (evBin .eql (tyi Try.prog 3) x5 (.int .i64 0)) fun x6 =>
    withV (some x6) fun x7 =>
    withV (gval x7 false (some x0)) fun x8 =>
    withV (gval x7 false (lenO (tyi Try.prog 9) x8)) fun x9 =>
    withV (gval x7 false (evBin .gtr (tyi Try.prog 3) x9 (.int .i64 12))) fun x10 =>
    withV (pickO x7 (.bool true) x10) fun x11 =>
    withV (some x11) fun x12 =>
    withV (gval x12 false (some x0)) fun x13 =>
    withV (gval x12 false (evBin .eql (tyi Try.prog 9) x13 (.str ⟨#[116, 114, 117, 101]⟩))) fun x14 =>
    withV (pickO x12 (.bool true) x14) fun x15 =>
    withV (some x15) fun x16 =>
    withV (gval x16 false (some x0)) fun x17 =>
    withV (gval x16 false (evBin .eql (tyi Try.prog 9) x17 (.str ⟨#[102, 97, 108, 115, 101]⟩))) fun x18 =>
    withV (pickO x16 (.bool true) x18) fun x19 =>
    withV (some x19) fun x20 =>
    withV (gval x20 false (some x0)) fun x21 =>
    withV (gval x20 false (evBin .eql (tyi Try.prog 9) x21 (.str ⟨#[102, 111, 114, 97, 108, 108]⟩))) fun x22 =>
    withV (pickO x20 (.bool true) x22) fun x23 =>
    withV (some x23) fun x24 =>
    withV (gval x24 false (some x0)) fun x25 =>
    withV (gval x24 false (evBin .eql (tyi Try.prog 9) x25 (.str ⟨#[101, 120, 105, 115, 116, 115]⟩))) fun x26 =>
    withV (pickO x24 (.bool true) x26) fun x27 =>
    K .normal (ee4 x0 x27) S := nr (by kernel_rfl)
@[go_sem] theorem k49_n (b : Nat) (x0 : PV) (S : Store) : k49 b .normal (ee0 x0) S =
  execL (C b) 0 c50 (k52 b) (ee0 x0) S := nr ((show k49 b .normal (ee0 x0) S = execL (C b) 0 c3 (k12 b) (ee0 x0) S from seqC_n _ _ _ _).trans ((enter_seq c3_h (k52_l b)).trans (rfl)))
theorem k49_l (b : Nat) : seqC (fun e S => execL (C b) 0 c2 (k0 b) e S) (k0 b) = k49 b := link_seq c2_h (k12_l b)
@[go_sem] theorem g61 (b : Nat) (K : KT) (x0 : PV) (S : Store) : execL (C b) 0 c1 K (ee0 x0) S =
  withV (some (.bool false)) fun x2 =>
    K .normal (ee0 x0) S := nr (by kernel_rfl)
noncomputable def E (b : Nat) (x0 : PV) (S : Store) : RT := execL (C b) 0 code (k0 b) (ee0 x0) S
@[go_sem] theorem E_eq (b : Nat) (x0 : PV) (S : Store) : E b x0 S =
  execL (C b) 0 c1 (k49 b) (ee0 x0) S := nr ((enter_seq code_h (k49_l b)).trans (rfl))
theorem call {x0 : PV} {r : PV × Store} {v : PV} (h : E 0 x0 [] = some r) (hv : fzPV r.2 r.1 = some v) : callL Try.prog hints 39 [x0] = some v := callL_of (fn := Try.f39) (c := code) (by kernel_rfl) (by kernel_rfl) (by decide) (by kernel_rfl) (Nat.le_of_ble_eq_true (by kernel_rfl)) h hv
end F39
/-! ### tree.Sort -/
namespace F40
def hint : Hint := { keep := [], loops := [], regs := [(0, [0]), (1, [0, 3]), (2, [2]), (3, [0, 10]), (4, [2]), (5, [0, 17]), (6, [2]), (7, [24]), (8, [2]), (9, [2])] }
noncomputable def C (b : Nat) : Ctx := ctxL Try.prog hints b hint
noncomputable def code : Code := Try.f40.body.get rfl
noncomputable def k0 (b : Nat) : KT := endC Try.prog Try.f40
def ee0 (x0 : PV) : Env := [(0, x0)]
def ee1 (x0 x3 : PV) : Env := [(0, x0), (3, x3)]
def ee2 (x0 x10 : PV) : Env := [(0, x0), (10, x10)]
def ee3 (x0 x17 : PV) : Env := [(0, x0), (17, x17)]
def ee4 (x2 : PV) : Env := [(2, x2)]
@[go_sem] theorem k0_ret4 (b : Nat) (x2 : PV) (S : Store) : k0 b .ret (ee4 x2) S = some (x2, S) := nr (by kernel_rfl)
def ee5 (x24 : PV) : Env := [(24, x24)]
noncomputable def c1 : Code := at0 code
noncomputable def c2 : Code := at1 code
theorem code_h : code = .seq c1 c2 := by kernel_rfl
noncomputable def c3 : Code := at0 c2
noncomputable def c4 : Code := at1 c2
theorem c2_h : c2 = .seq c3 c4 := by kernel_rfl
noncomputable def c5 : Code := at0 c4
noncomputable def c6 : Code := at1 c4
theorem c4_h : c4 = .seq c5 c6 := by kernel_rfl
noncomputable def k7 (b : Nat) : KT := seqC (fun e S => execL (C b) 0 c6 (k0 b) e S) (k0 b)
@[go_sem] theorem k7_n (b : Nat) (x2 : PV) (S : Store) : k7 b .normal (ee4 x2) S =
  (k0 b) .ret (ee4 x2) S := nr ((show k7 b .normal (ee4 x2) S = execL (C b) 0 c6 (k0 b) (ee4 x2) S from seqC_n _ _ _ _).trans (execL_ret (by kernel_rfl)))
theorem k7_l (b : Nat) : seqC (fun e S => execL (C b) 0 c6 (k0 b) e S) (k0 b) = k7 b := rfl
noncomputable def k8 (b : Nat) : KT := seqC (fun e S => execL (C b) 0 c5 (k7 b) e S) (k0 b)
@[go_sem] theorem g9 (b : Nat) (K : KT) (x24 : PV) (S : Store) : execL (C b) 0 c5 K (ee5 x24) S =
  withV (some (.int .i64 0)) fun x2 =>
    K .normal (ee4 x2) S := nr (by kernel_rfl)
@[go_sem] theorem k8_n (b : Nat) (e : Env) (S : Store) : k8 b .normal e S = execL (C b) 0 c5 (k7 b) e S := nr (seqC_n _ _ _ _)
@[go_sem] theorem k8_ret (b : Nat) (e : Env) (S : Store) : k8 b .ret e S = (k0 b) .ret e S := nr (seqC_r _ _ _ _)
theorem k8_l (b : Nat) : seqC (fun e S => execL (C b) 0 c4 (k0 b) e S) (k0 b) = k8 b := link_seq c4_h (k7_l b)
noncomputable def k10 (b : Nat) : KT := seqC (fun e S => execL (C b) 0 c3 (k8 b) e S) (k0 b)
noncomputable def c11 : Code := atB c3
theorem c3_h : c3 = .block 0 c11 := by kernel_rfl
noncomputable def k12 (b : Nat) : KT := blockC 0 (k8 b)
@[go_sem] theorem k12_n (b : Nat) (e : Env) (S : Store) : k12 b .normal e S = (k8 b) .normal e S := nr (blockC_n _ _ _ _)
@[go_sem] theorem k12_ret (b : Nat) (e : Env) (S : Store) : k12 b .ret e S = (k8 b) .ret e S := nr (blockC_r _ _ _ _)
noncomputable def c13 : Code := at0 c11
noncomputable def c14 : Code := at1 c11
theorem c11_h : c11 = .seq c13 c14 := by kernel_rfl
noncomputable def k15 (b : Nat) : KT := seqC (fun e S => execL (C b) 0 c14 (k12 b) e S) (k12 b)
noncomputable def c16 : Code := atT c14
noncomputable def c17 : Code := atF c14
theorem c14_h : c14 = .cond (.tmp 3) c16 c17 := by kernel_rfl
noncomputable def c19 : Code := at0 c16
noncomputable def c20 : Code := at1 c16
theorem c16_h : c16 = .seq c19 c20 := by kernel_rfl
noncomputable def k21 (b : Nat) : KT := seqC (fun e S => execL (C b) 0 c20 (k12 b) e S) (k12 b)
@[go_sem] theorem k21_n (b : Nat) (x2 : PV) (S : Store) : k21 b .normal (ee4 x2) S =
  (k12 b) .ret (ee4 x2) S := nr ((show k21 b .normal (ee4 x2) S = execL (C b) 0 c20 (k12 b) (ee4 x2) S from seqC_n _ _ _ _).trans (execL_ret (by kernel_rfl)))
theorem k21_l (b : Nat) : seqC (fun e S => execL (C b) 0 c20 (k12 b) e S) (k12 b) = k21 b := rfl
@[go_sem] theorem g22 (b : Nat) (K : KT) (x0 x3 : PV) (S : Store) : execL (C b) 0 c19 K (ee1 x0 x3) S =
  withV (some (.int .i64 1)) fun x2 =>
    K .normal (ee4 x2) S := nr (by kernel_rfl)
noncomputable def E18 (b : Nat) (x0 x3 : PV) (S : Store) : RT := execL (C b) 0 c16 (k12 b) (ee1 x0 x3) S
@[go_sem] theorem E18_eq (b : Nat) (x0 x3 : PV) (S : Store) : E18 b x0 x3 S =
  execL (C b) 0 c19 (k21 b) (ee1 x0 x3) S := nr ((enter_seq c16_h (k21_l b)).trans (rfl))
noncomputable def c24 : Code := at0 c17
noncomputable def c25 : Code := at1 c17
theorem c17_h : c17 = .seq c24 c25 := by kernel_rfl
noncomputable def k26 (b : Nat) : KT := seqC (fun e S => execL (C b) 0 c25 (k12 b) e S) (k12 b)
noncomputable def c27 : Code := atT c25
noncomputable def c28 : Code := atF c25
theorem c25_h : c25 = .cond (.tmp 10) c27 c28 := by kernel_rfl
noncomputable def c30 : Code := at0 c27
noncomputable def c31 : Code := at1 c27
theorem c27_h : c27 = .seq c30 c31 := by kernel_rfl
noncomputable def k32 (b : Nat) : KT := seqC (fun e S => execL (C b) 0 c31 (k12 b) e S) (k12 b)
@[go_sem] theorem k32_n (b : Nat) (x2 : PV) (S : Store) : k32 b .normal (ee4 x2) S =
  (k12 b) .ret (ee4 x2) S := nr ((show k32 b .normal (ee4 x2) S = execL (C b) 0 c31 (k12 b) (ee4 x2) S from seqC_n _ _ _ _).trans (execL_ret (by kernel_rfl)))
theorem k32_l (b : Nat) : seqC (fun e S => execL (C b) 0 c31 (k12 b) e S) (k12 b) = k32 b := rfl
@[go_sem] theorem g33 (b : Nat) (K : KT) (x0 x10 : PV) (S : Store) : execL (C b) 0 c30 K (ee2 x0 x10) S =
  withV (some (.int .i64 2)) fun x2 =>
    K .normal (ee4 x2) S := nr (by kernel_rfl)
noncomputable def E29 (b : Nat) (x0 x10 : PV) (S : Store) : RT := execL (C b) 0 c27 (k12 b) (ee2 x0 x10) S
@[go_sem] theorem E29_eq (b : Nat) (x0 x10 : PV) (S : Store) : E29 b x0 x10 S =
  execL (C b) 0 c30 (k32 b) (ee2 x0 x10) S := nr ((enter_seq c27_h (k32_l b)).trans (rfl))
noncomputable def c35 : Code := at0 c28
noncomputable def c36 : Code := at1 c28
theorem c28_h : c28 = .seq c35 c36 := by kernel_rfl
noncomputable def k37 (b : Nat) : KT := seqC (fun e S => execL (C b) 0 c36 (k12 b) e S) (k12 b)
noncomputable def c38 : Code := atT c36
noncomputable def c39 : Code := atF c36
theorem c36_h : c36 = .cond (.tmp 17) c38 c39 := by kernel_rfl
noncomputable def c41 : Code := at0 c38
noncomputable def c42 : Code := at1 c38
theorem c38_h : c38 = .seq c41 c42 := by kernel_rfl
noncomputable def k43 (b : Nat) : KT := seqC (fun e S => execL (C b) 0 c42 (k12 b) e S) (k12 b)
@[go_sem] theorem k43_n (b : Nat) (x2 : PV) (S : Store) : k43 b .normal (ee4 x2) S =
  (k12 b) .ret (ee4 x2) S := nr ((show k43 b .normal (ee4 x2) S = execL (C b) 0 c42 (k12 b) (ee4 x2) S from seqC_n _ _ _ _).trans (execL_ret (by kernel_rfl)))
theorem k43_l (b : Nat) : seqC (fun e S => execL (C b) 0 c42 (k12 b) e S) (k12 b) = k43 b := rfl
@[go_sem] theorem g44 (b : Nat) (K : KT) (x0 x17 : PV) (S : Store) : execL (C b) 0 c41 K (ee3 x0 x17) S =
  withV (some (.int .i64 4)) fun x2 =>
    K .normal (ee4 x2) S := nr (by kernel_rfl)
noncomputable def E40 (b : Nat) (x0 x17 : PV) (S : Store) : RT := execL (C b) 0 c38 (k12 b) (ee3 x0 x17) S
@[go_sem] theorem E40_eq (b : Nat) (x0 x17 : PV) (S : Store) : E40 b x0 x17 S =
  execL (C b) 0 c41 (k43 b) (ee3 x0 x17) S := nr ((enter_seq c38_h (k43_l b)).trans (rfl))
noncomputable def c46 : Code := at0 c39
noncomputable def c47 : Code := at1 c39
theorem c39_h : c39 = .seq c46 c47 := by kernel_rfl
noncomputable def k48 (b : Nat) : KT := seqC (fun e S => execL (C b) 0 c47 (k12 b) e S) (k12 b)
noncomputable def c49 : Code := atT c47
noncomputable def c50 : Code := atF c47
theorem c47_h : c47 = .cond (.tmp 24) c49 c50 := by kernel_rfl
noncomputable def c52 : Code := at0 c49
noncomputable def c53 : Code := at1 c49
theorem c49_h : c49 = .seq c52 c53 := by kernel_rfl
noncomputable def k54 (b : Nat) : KT := seqC (fun e S => execL (C b) 0 c53 (k12 b) e S) (k12 b)
@[go_sem] theorem k54_n (b : Nat) (x2 : PV) (S : Store) : k54 b .normal (ee4 x2) S =
  (k12 b) .ret (ee4 x2) S := nr ((show k54 b .normal (ee4 x2) S = execL (C b) 0 c53 (k12 b) (ee4 x2) S from seqC_n _ _ _ _).trans (execL_ret (by kernel_rfl)))
theorem k54_l (b : Nat) : seqC (fun e S => execL (C b) 0 c53 (k12 b) e S) (k12 b) = k54 b := rfl
@[go_sem] theorem g55 (b : Nat) (K : KT) (x24 : PV) (S : Store) : execL (C b) 0 c52 K (ee5 x24) S =
  withV (some (.int .i64 3)) fun x2 =>
    K .normal (ee4 x2) S := nr (by kernel_rfl)
noncomputable def E51 (b : Nat) (x24 : PV) (S : Store) : RT := execL (C b) 0 c49 (k12 b) (ee5 x24) S
@[go_sem] theorem E51_eq (b : Nat) (x24 : PV) (S : Store) : E51 b x24 S =
  execL (C b) 0 c52 (k54 b) (ee5 x24) S := nr ((enter_seq c49_h (k54_l b)).trans (rfl))
@[go_sem] theorem k48_n (b : Nat) (x24 : PV) (S : Store) : k48 b .normal (ee5 x24) S =
  condC x24 (E51 b x24 S)
    ((k12 b) .normal (ee5 x24) S) := nr ((show k48 b .normal (ee5 x24) S = execL (C b) 0 c47 (k12 b) (ee5 x24) S from seqC_n _ _ _ _).trans (execL_cond c47_h (rfl) (execL_skip (by kernel_rfl)) rfl))
theorem k48_l (b : Nat) : seqC (fun e S => execL (C b) 0 c47 (k12 b) e S) (k12 b) = k48 b := rfl
@[go_sem] theorem g56 (b : Nat) (K : KT) (x0 x17 : PV) (S : Store) : execL (C b) 0 c46 K (ee3 x0 x17) S =
  withV (some x0) fun x25 =>
    withV (evBin .geq (tyi Try.prog 3) x25 (.int .i64 50)) fun x26 =>
    withV (some x26) fun x27 =>
    withV (gval x27 true (some x0)) fun x28 =>
    withV (gval x27 true (evBin .leq (tyi Try.prog 3) x28 (.int .i64 62))) fun x29 =>
    withV (pickO x27 x29 (.bool false)) fun x30 =>
    withV (some x30) fun x24 =>
    K .normal (ee5 x24) S := nr (by kernel_rfl)
noncomputable def E45 (b : Nat) (x0 x17 : PV) (S : Store) : RT := execL (C b) 0 c39 (k12 b) (ee3 x0 x17) S
@[go_sem] theorem E45_eq (b : Nat) (x0 x17 : PV) (S : Store) : E45 b x0 x17 S =
  execL (C b) 0 c46 (k48 b) (ee3 x0 x17) S := nr ((enter_seq c39_h (k48_l b)).trans (rfl))
@[go_sem] theorem k37_n (b : Nat) (x0 x17 : PV) (S : Store) : k37 b .normal (ee3 x0 x17) S =
  condC x17 (E40 b x0 x17 S)
    (E45 b x0 x17 S) := nr ((show k37 b .normal (ee3 x0 x17) S = execL (C b) 0 c36 (k12 b) (ee3 x0 x17) S from seqC_n _ _ _ _).trans (execL_cond c36_h (rfl) (rfl) rfl))
theorem k37_l (b : Nat) : seqC (fun e S => execL (C b) 0 c36 (k12 b) e S) (k12 b) = k37 b := rfl
@[go_sem] theorem g57 (b : Nat) (K : KT) (x0 x10 : PV) (S : Store) : execL (C b) 0 c35 K (ee2 x0 x10) S =
  withV (some x0) fun x18 =>
    withV (evBin .eql (tyi Try.prog 3) x18 (.int .i64 55)) fun x19 =>
    withV (some x19) fun x20 =>
    withV (gval x20 false (some x0)) fun x21 =>
    withV (gval x20 false (evBin .eql (tyi Try.prog 3) x21 (.int .i64 56))) fun x22 =>
    withV (pickO x20 (.bool true) x22) fun x23 =>
    withV (some x23) fun x17 =>
    K .normal (ee3 x0 x17) S := nr (by kernel_rfl)
noncomputable def E34 (b : Nat) (x0 x10 : PV) (S : Store) : RT := execL (C b) 0 c28 (k12 b) (ee2 x0 x10) S
@[go_sem] theorem E34_eq (b : Nat) (x0 x10 : PV) (S : Store) : E34 b x0 x10 S =
  execL (C b) 0 c35 (k37 b) (ee2 x0 x10) S := nr ((enter_seq c28_h (k37_l b)).trans (rfl))
@[go_sem] theorem k26_n (b : Nat) (x0 x10 : PV) (S : Store) : k26 b .normal (ee2 x0 x10) S =
  condC x10 (E29 b x0 x10 S)
    (E34 b x0 x10 S) := nr ((show k26 b .normal (ee2 x0 x10) S = execL (C b) 0 c25 (k12 b) (ee2 x0 x10) S from seqC_n _ _ _ _).trans (execL_cond c25_h (rfl) (rfl) rfl))
theorem k26_l (b : Nat) : seqC (fun e S => execL (C b) 0 c25 (k12 b) e S) (k12 b) = k26 b := rfl
@[go_sem] theorem g58 (b : Nat) (K : KT) (x0 x3 : PV) (S : Store) : execL (C b) 0 c24 K (ee1 x0 x3) S =
  withV (some x0) fun x11 =>
    withV (evBin .geq (tyi Try.prog 3) x11 (.int .i64 20)) fun x12 =>
    withV (some x12) fun x13 =>
    withV (gval x13 true (some x0)) fun x14 =>
    withV (gval x13 true (evBin .leq (tyi Try.prog 3) x14 (.int .i64 39))) fun x15 =>
    withV (pickO x13 x15 (.bool false)) fun x16 =>
    withV (some x16) fun x10 =>
    K .normal (ee2 x0 x10) S := nr (by kernel_rfl)
noncomputable def E23 (b : Nat) (x0 x3 : PV) (S : Store) : RT := execL (C b) 0 c17 (k12 b) (ee1 x0 x3) S
@[go_sem] theorem E23_eq (b : Nat) (x0 x3 : PV) (S : Store) : E23 b x0 x3 S =
  execL (C b) 0 c24 (k26 b) (ee1 x0 x3) S := nr ((enter_seq c17_h (k26_l b)).trans (rfl))
@[go_sem] theorem k15_n (b : Nat) (x0 x3 : PV) (S : Store) : k15 b .normal (ee1 x0 x3) S =
  condC x3 (E18 b x0 x3 S)
    (E23 b x0 x3 S) := nr ((show k15 b .normal (ee1 x0 x3) S = execL (C b) 0 c14 (k12 b) (ee1 x0 x3) S from seqC_n _ _ _ _).trans (execL_cond c14_h (rfl) (rfl) rfl))
theorem k15_l (b : Nat) : seqC (fun e S => execL (C b) 0 c14 (k12 b) e S) (k12 b) = k15 b := rfl
@[go_sem] theorem g59 (b : Nat) (K : KT) (x0 : PV) (S : Store) : execL (C b) 0 c13 K (ee0 x0) S =
  withV (some x0) fun x4 =>
    withV (evBin .geq (tyi Try.prog 3) x4 (.int .i64 1)) fun x5 =>
    withV (some x5) fun x6 =>
    withV (gval x6 true (some x0)) fun x7 =>
    withV (gval x6 true (evBin .leq (tyi Try.prog 3) x7 (.int .i64 13))) fun x8 =>
    withV (pickO x6 x8 (.bool false)) fun x9 =>
    withV (some x9) fun x3 =>
    K .normal (ee1 x0 x3) S := nr (by kernel_rfl)
@[go_sem] theorem k10_n (b : Nat) (x0 : PV) (S : Store) : k10 b .normal (ee0 x0) S =
  execL (C b) 0 c13 (k15 b) (ee0 x0) S := nr ((show k10 b .normal (ee0 x0) S = execL (C b) 0 c3 (k8 b) (ee0 x0) S from seqC_n _ _ _ _).trans ((show execL (C b) 0 c3 (k8 b) (ee0 x0) S = execL (C b) 0 c11 (k12 b) (ee0 x0) S from execL_block c3_h).trans ((enter_seq c11_h (k15_l b)).trans (rfl))))
theorem k10_l (b : Nat) : seqC (fun e S => execL (C b) 0 c2 (k0 b) e S) (k0 b) = k10 b := link_seq c2_h (k8_l b)
@[go_sem] theorem g60 (b : Nat) (K : KT) (x0 : PV) (S : Store) : execL (C b) 0 c1 K (ee0 x0) S =
  withV (some (.int .i64 0)) fun x2 =>
    K .normal (ee0 x0) S := nr (by kernel_rfl)
noncomputable def E (b : Nat) (x0 : PV) (S : Store) : RT := execL (C b) 0 code (k0 b) (ee0 x0) S
@[go_sem] theorem E_eq (b : Nat) (x0 : PV) (S : Store) : E b x0 S =
  execL (C b) 0 c1 (k10 b) (ee0 x0) S := nr ((enter_seq code_h (k10_l b)).trans (rfl))
theorem call {x0 : PV} {r : PV × Store} {v : PV} (h : E 0 x0 [] = some r) (hv : fzPV r.2 r.1 = some v) : callL Try.prog hints 40 [x0] = some v := callL_of (fn := Try.f40) (c := code) (by kernel_rfl) (by kernel_rfl) (by decide) (by kernel_rfl) (Nat.le_of_ble_eq_true (by kernel_rfl)) h hv
end F40
/-! ### isochroneref08.Sort -/
namespace F41
def hint : Hint := { keep := [], loops := [], regs := [(0, [0]), (1, [0, 3]), (2, [2]), (3, [0, 10]), (4, [2]), (5, [0, 17]), (6, [2]), (7, [24]), (8, [2]), (9, [2])] }
noncomputable def C (b : Nat) : Ctx := ctxL Try.prog hints b hint
noncomputable def code : Code := Try.f41.body.get rfl
noncomputable def k0 (b : Nat) : KT := endC Try.prog Try.f41
def ee0 (x0 : PV) : Env := [(0, x0)]
def ee1 (x0 x3 : PV) : Env := [(0, x0), (3, x3)]
def ee2 (x0 x10 : PV) : Env := [(0, x0), (10, x10)]
def ee3 (x0 x17 : PV) : Env := [(0, x0), (17, x17)]
def ee4 (x2 : PV) : Env := [(2, x2)]
@[go_sem] theorem k0_ret4 (b : Nat) (x2 : PV) (S : Store) : k0 b .ret (ee4 x2) S = some (x2, S) := nr (by kernel_rfl)
def ee5 (x24 : PV) : Env := [(24, x24)]
noncomputable def c1 : Code := at0 code
noncomputable def c2 : Code := at1 code
theorem code_h : code = .seq c1 c2 := by kernel_rfl
noncomputable def c3 : Code := at0 c2
noncomputable def c4 : Code := at1 c2
theorem c2_h : c2 = .seq c3 c4 := by kernel_rfl
noncomputable def c5 : Code := at0 c4
noncomputable def c6 : Code := at1 c4
theorem c4_h : c4 = .seq c5 c6 := by kernel_rfl
noncomputable def k7 (b : Nat) : KT := seqC (fun e S => execL (C b) 0 c6 (k0 b) e S) (k0 b)
@[go_sem] theorem k7_n (b : Nat) (x2 : PV) (S : Store) : k7 b .normal (ee4 x2) S =
  (k0 b) .ret (ee4 x2) S := nr ((show k7 b .normal (ee4 x2) S = execL (C b) 0 c6 (k0 b) (ee4 x2) S from seqC_n _ _ _ _).trans (execL_ret (by kernel_rfl)))
theorem k7_l (b : Nat) : seqC (fun e S => execL (C b) 0 c6 (k0 b) e S) (k0 b) = k7 b := rfl
noncomputable def k8 (b : Nat) : KT := seqC (fun e S => execL (C b) 0 c5 (k7 b) e S) (k0 b)
@[go_sem] theorem g9 (b : Nat) (K : KT) (x24 : PV) (S : Store) : execL (C b) 0 c5 K (ee5 x24) S =
  withV (some (.int .i64 0)) fun x2 =>
    K .normal (ee4 x2) S := nr (by kernel_rfl)
@[go_sem] theorem k8_n (b : Nat) (e : Env) (S : Store) : k8 b .normal e S = execL (C b) 0 c5 (k7 b) e S := nr (seqC_n _ _ _ _)
@[go_sem] theorem k8_ret (b : Nat) (e : Env) (S : Store) : k8 b .ret e S = (k0 b) .ret e S := nr (seqC_r _ _ _ _)
theorem k8_l (b : Nat) : seqC (fun e S => execL (C b) 0 c4 (k0 b) e S) (k0 b) = k8 b := link_seq c4_h (k7_l b)
noncomputable def k10 (b : Nat) : KT := seqC (fun e S => execL (C b) 0 c3 (k8 b) e S) (k0 b)
noncomputable def c11 : Code := atB c3
theorem c3_h : c3 = .block 0 c11 := by kernel_rfl
noncomputable def k12 (b : Nat) : KT := blockC 0 (k8 b)
@[go_sem] theorem k12_n (b : Nat) (e : Env) (S : Store) : k12 b .normal e S = (k8 b) .normal e S := nr (blockC_n _ _ _ _)
@[go_sem] theorem k12_ret (b : Nat) (e : Env) (S : Store) : k12 b .ret e S = (k8 b) .ret e S := nr (blockC_r _ _ _ _)
noncomputable def c13 : Code := at0 c11
noncomputable def c14 : Code := at1 c11
theorem c11_h : c11 = .seq c13 c14 := by kernel_rfl
noncomputable def k15 (b : Nat) : KT := seqC (fun e S => execL (C b) 0 c14 (k12 b) e S) (k12 b)
noncomputable def c16 : Code := atT c14
noncomputable def c17 : Code := atF c14
theorem c14_h : c14 = .cond (.tmp 3) c16 c17 := by kernel_rfl
noncomputable def c19 : Code := at0 c16
noncomputable def c20 : Code := at1 c16
theorem c16_h : c16 = .seq c19 c20 := by kernel_rfl
noncomputable def k21 (b : Nat) : KT := seqC (fun e S => execL (C b) 0 c20 (k12 b) e S) (k12 b)
@[go_sem] theorem k21_n (b : Nat) (x2 : PV) (S : Store) : k21 b .normal (ee4 x2) S =
  (k12 b) .ret (ee4 x2) S := nr ((show k21 b .normal (ee4 x2) S = execL (C b) 0 c20 (k12 b) (ee4 x2) S from seqC_n _ _ _ _).trans (execL_ret (by kernel_rfl)))
theorem k21_l (b : Nat) : seqC (fun e S => execL (C b) 0 c20 (k12 b) e S) (k12 b) = k21 b := rfl
@[go_sem] theorem g22 (b : Nat) (K : KT) (x0 x3 : PV) (S : Store) : execL (C b) 0 c19 K (ee1 x0 x3) S =
  withV (some (.int .i64 1)) fun x2 =>
    K .normal (ee4 x2) S := nr (by kernel_rfl)
noncomputable def E18 (b : Nat) (x0 x3 : PV) (S : Store) : RT := execL (C b) 0 c16 (k12 b) (ee1 x0 x3) S
@[go_sem] theorem E18_eq (b : Nat) (x0 x3 : PV) (S : Store) : E18 b x0 x3 S =
  execL (C b) 0 c19 (k21 b) (ee1 x0 x3) S := nr ((enter_seq c16_h (k21_l b)).trans (rfl))
noncomputable def c24 : Code := at0 c17
noncomputable def c25 : Code := at1 c17
theorem c17_h : c17 = .seq c24 c25 := by kernel_rfl
noncomputable def k26 (b : Nat) : KT := seqC (fun e S => execL (C b) 0 c25 (k12 b) e S) (k12 b)
noncomputable def c27 : Code := atT c25
noncomputable def c28 : Code := atF c25
theorem c25_h : c25 = .cond (.tmp 10) c27 c28 := by kernel_rfl
noncomputable def c30 : Code := at0 c27
noncomputable def c31 : Code := at1 c27
theorem c27_h : c27 = .seq c30 c31 := by kernel_rfl
noncomputable def k32 (b : Nat) : KT := seqC (fun e S => execL (C b) 0 c31 (k12 b) e S) (k12 b)
@[go_sem] theorem k32_n (b : Nat) (x2 : PV) (S : Store) : k32 b .normal (ee4 x2) S =
  (k12 b) .ret (ee4 x2) S := nr ((show k32 b .normal (ee4 x2) S = execL (C b) 0 c31 (k12 b) (ee4 x2) S from seqC_n _ _ _ _).trans (execL_ret (by kernel_rfl)))
theorem k32_l (b : Nat) : seqC (fun e S => execL (C b) 0 c31 (k12 b) e S) (k12 b) = k32 b := rfl
@[go_sem] theorem g33 (b : Nat) (K : KT) (x0 x10 : PV) (S : Store) : execL (C b) 0 c30 K (ee2 x0 x10) S =
  withV (some (.int .i64 2)) fun x2 =>
    K .normal (ee4 x2) S := nr (by kernel_rfl)
noncomputable def E29 (b : Nat) (x0 x10 : PV) (S : Store) : RT := execL (C b) 0 c27 (k12 b) (ee2 x0 x10) S
@[go_sem] theorem E29_eq (b : Nat) (x0 x10 : PV) (S : Store) : E29 b x0 x10 S =
  execL (C b) 0 c30 (k32 b) (ee2 x0 x10) S := nr ((enter_seq c27_h (k32_l b)).trans (rfl))
noncomputable def c35 : Code := at0 c28
noncomputable def c36 : Code := at1 c28
theorem c28_h : c28 = .seq c35 c36 := by kernel_rfl
noncomputable def k37 (b : Nat) : KT := seqC (fun e S => execL (C b) 0 c36 (k12 b) e S) (k12 b)
noncomputable def c38 : Code := atT c36
noncomputable def c39 : Code := atF c36
theorem c36_h : c36 = .cond (.tmp 17) c38 c39 := by kernel_rfl
noncomputable def c41 : Code := at0 c38
noncomputable def c42 : Code := at1 c38
theorem c38_h : c38 = .seq c41 c42 := by kernel_rfl
noncomputable def k43 (b : Nat) : KT := seqC (fun e S => execL (C b) 0 c42 (k12 b) e S) (k12 b)
@[go_sem] theorem k43_n (b : Nat) (x2 : PV) (S : Store) : k43 b .normal (ee4 x2) S =
  (k12 b) .ret (ee4 x2) S := nr ((show k43 b .normal (ee4 x2) S = execL (C b) 0 c42 (k12 b) (ee4 x2) S from seqC_n _ _ _ _).trans (execL_ret (by kernel_rfl)))
theorem k43_l (b : Nat) : seqC (fun e S => execL (C b) 0 c42 (k12 b) e S) (k12 b) = k43 b := rfl
@[go_sem] theorem g44 (b : Nat) (K : KT) (x0 x17 : PV) (S : Store) : execL (C b) 0 c41 K (ee3 x0 x17) S =
  withV (some (.int .i64 4)) fun x2 =>
    K .normal (ee4 x2) S := nr (by kernel_rfl)
noncomputable def E40 (b : Nat) (x0 x17 : PV) (S : Store) : RT := execL (C b) 0 c38 (k12 b) (ee3 x0 x17) S
@[go_sem] theorem E40_eq (b : Nat) (x0 x17 : PV) (S : Store) : E40 b x0 x17 S =
  execL (C b) 0 c41 (k43 b) (ee3 x0 x17) S := nr ((enter_seq c38_h (k43_l b)).trans (rfl))
noncomputable def c46 : Code := at0 c39
noncomputable def c47 : Code := at1 c39
theorem c39_h : c39 = .seq c46 c47 := by kernel_rfl
noncomputable def k48 (b : Nat) : KT := seqC (fun e S => execL (C b) 0 c47 (k12 b) e S) (k12 b)
noncomputable def c49 : Code := atT c47
noncomputable def c50 : Code := atF c47
theorem c47_h : c47 = .cond (.tmp 24) c49 c50 := by kernel_rfl
noncomputable def c52 : Code := at0 c49
noncomputable def c53 : Code := at1 c49
theorem c49_h : c49 = .seq c52 c53 := by kernel_rfl
noncomputable def k54 (b : Nat) : KT := seqC (fun e S => execL (C b) 0 c53 (k12 b) e S) (k12 b)
@[go_sem] theorem k54_n (b : Nat) (x2 : PV) (S : Store) : k54 b .normal (ee4 x2) S =
  (k12 b) .ret (ee4 x2) S := nr ((show k54 b .normal (ee4 x2) S = execL (C b) 0 c53 (k12 b) (ee4 x2) S from seqC_n _ _ _ _).trans (execL_ret (by kernel_rfl)))
theorem k54_l (b : Nat) : seqC (fun e S => execL (C b) 0 c53 (k12 b) e S) (k12 b) = k54 b := rfl
@[go_sem] theorem g55 (b : Nat) (K : KT) (x24 : PV) (S : Store) : execL (C b) 0 c52 K (ee5 x24) S =
  withV (some (.int .i64 3)) fun x2 =>
    K .normal (ee4 x2) S := nr (by kernel_rfl)
noncomputable def E51 (b : Nat) (x24 : PV) (S : Store) : RT := execL (C b) 0 c49 (k12 b) (ee5 x24) S
@[go_sem] theorem E51_eq (b : Nat) (x24 : PV) (S : Store) : E51 b x24 S =
  execL (C b) 0 c52 (k54 b) (ee5 x24) S := nr ((enter_seq c49_h (k54_l b)).trans (rfl))
@[go_sem] theorem k48_n (b : Nat) (x24 : PV) (S : Store) : k48 b .normal (ee5 x24) S =
  condC x24 (E51 b x24 S)
    ((k12 b) .normal (ee5 x24) S) := nr ((show k48 b .normal (ee5 x24) S = execL (C b) 0 c47 (k12 b) (ee5 x24) S from seqC_n _ _ _ _).trans (execL_cond c47_h (rfl) (execL_skip (by kernel_rfl)) rfl))
theorem k48_l (b : Nat) : seqC (fun e S => execL (C b) 0 c47 (k12 b) e S) (k12 b) = k48 b := rfl
@[go_sem] theorem g56 (b : Nat) (K : KT) (x0 x17 : PV) (S : Store) : execL (C b) 0 c46 K (ee3 x0 x17) S =
  withV (some x0) fun x25 =>
    withV (evBin .geq (tyi Try.prog 3) x25 (.int .i64 50)) fun x26 =>
    withV (some x26) fun x27 =>
    withV (gval x27 true (some x0)) fun x28 =>
    withV (gval x27 true (evBin .leq (tyi Try.prog 3) x28 (.int .i64 62))) fun x29 =>
    withV (pickO x27 x29 (.bool false)) fun x30 =>
    withV (some x30) fun x24 =>
    K .normal (ee5 x24) S := nr (by kernel_rfl)
noncomputable def E45 (b : Nat) (x0 x17 : PV) (S : Store) : RT := execL (C b) 0 c39 (k12 b) (ee3 x0 x17) S
@[go_sem] theorem E45_eq (b : Nat) (x0 x17 : PV) (S : Store) : E45 b x0 x17 S =
  execL (C b) 0 c46 (k48 b) (ee3 x0 x17) S := nr ((enter_seq c39_h (k48_l b)).trans (rfl))
@[go_sem] theorem k37_n (b : Nat) (x0 x17 : PV) (S : Store) : k37 b .normal (ee3 x0 x17) S =
  condC x17 (E40 b x0 x17 S)
    (E45 b x0 x17 S) := nr ((show k37 b .normal (ee3 x0 x17) S = execL (C b) 0 c36 (k12 b) (ee3 x0 x17) S from seqC_n _ _ _ _).trans (execL_cond c36_h (rfl) (rfl) rfl))
theorem k37_l (b : Nat) : seqC (fun e S => execL (C b) 0 c36 (k12 b) e S) (k12 b) = k37 b := rfl
@[go_sem] theorem g57 (b : Nat) (K : KT) (x0 x10 : PV) (S : Store) : execL (C b) 0 c35 K (ee2 x0 x10) S =
  withV (some x0) fun x18 =>
    withV (evBin .eql (tyi Try.prog 3) x18 (.int .i64 55)) fun x19 =>
    withV (some x19) fun x20 =>
    withV (gval x20 false (some x0)) fun x21 =>
    withV (gval x20 false (evBin .eql (tyi Try.prog 3) x21 (.int .i64 56))) fun x22 =>
    withV (pickO x20 (.bool true) x22) fun x23 =>
    withV (some x23) fun x17 =>
    K .normal (ee3 x0 x17) S := nr (by kernel_rfl)
noncomputable def E34 (b : Nat) (x0 x10 : PV) (S : Store) : RT := execL (C b) 0 c28 (k12 b) (ee2 x0 x10) S
@[go_sem] theorem E34_eq (b : Nat) (x0 x10 : PV) (S : Store) : E34 b x0 x10 S =
  execL (C b) 0 c35 (k37 b) (ee2 x0 x10) S := nr ((enter_seq c28_h (k37_l b)).trans (rfl))
@[go_sem] theorem k26_n (b : Nat) (x0 x10 : PV) (S : Store) : k26 b .normal (ee2 x0 x10) S =
  condC x10 (E29 b x0 x10 S)
    (E34 b x0 x10 S) := nr ((show k26 b .normal (ee2 x0 x10) S = execL (C b) 0 c25 (k12 b) (ee2 x0 x10) S from seqC_n _ _ _ _).trans (execL_cond c25_h (rfl) (rfl) rfl))
theorem k26_l (b : Nat) : seqC (fun e S => execL (C b) 0 c25 (k12 b) e S) (k12 b) = k26 b := rfl
@[go_sem] theorem g58 (b : Nat) (K : KT) (x0 x3 : PV) (S : Store) : execL (C b) 0 c24 K (ee1 x0 x3) S =
  withV (some x0) fun x11 =>
    withV (evBin .geq (tyi Try.prog 3) x11 (.int .i64 20)) fun x12 =>
    withV (some x12) fun x13 =>
    withV (gval x13 true (some x0)) fun x14 =>
    withV (gval x13 true (evBin .leq (tyi Try.prog 3) x14 (.int .i64 39))) fun x15 =>
    withV (pickO x13 x15 (.bool false)) fun x16 =>
    withV (some x16) fun x10 =>
    K .normal (ee2 x0 x10) S := nr (by kernel_rfl)
noncomputable def E23 (b : Nat) (x0 x3 : PV) (S : Store) : RT := execL (C b) 0 c17 (k12 b) (ee1 x0 x3) S
@[go_sem] theorem E23_eq (b : Nat) (x0 x3 : PV) (S : Store) : E23 b x0 x3 S =
  execL (C b) 0 c24 (k26 b) (ee1 x0 x3) S := nr ((enter_seq c17_h (k26_l b)).trans (rfl))
@[go_sem] theorem k15_n (b : Nat) (x0 x3 : PV) (S : Store) : k15 b .normal (ee1 x0 x3) S =
  condC x3 (E18 b x0 x3 S)
    (E23 b x0 x3 S) := nr ((show k15 b .normal (ee1 x0 x3) S = execL (C b) 0 c14 (k12 b) (ee1 x0 x3) S from seqC_n _ _ _ _).trans (execL_cond c14_h (rfl) (rfl) rfl))
theorem k15_l (b : Nat) : seqC (fun e S => execL (C b) 0 c14 (k12 b) e S) (k12 b) = k15 b := rfl
@[go_sem] theorem g59 (b : Nat) (K : KT) (x0 : PV) (S : Store) : execL (C b) 0 c13 K (ee0 x0) S =
  withV (some x0) fun x4 =>
    withV (evBin .geq (tyi Try.prog 3) x4 (.int .i64 1)) fun x5 =>
    withV (some x5) fun x6 =>
    withV (gval x6 true (some x0)) fun x7 =>
    withV (gval x6 true (evBin .leq (tyi Try.prog 3) x7 (.int .i64 13))) fun x8 =>
    withV (pickO x6 x8 (.bool false)) fun x9 =>
    withV (some x9) fun x3 =>
    K .normal (ee1 x0 x3) S := nr (by kernel_rfl)
@[go_sem] theorem k10_n (b : Nat) (x0 : PV) (S : Store) : k10 b .normal (ee0 x0) S =
  execL (C b) 0 c13 (k15 b) (ee0 x0) S := nr ((show k10 b .normal (ee0 x0) S = execL (C b) 0 c3 (k8 b) (ee0 x0) S from seqC_n _ _ _ _).trans ((show execL (C b) 0 c3 (k8 b) (ee0 x0) S = execL (C b) 0 c11 (k12 b) (ee0 x0) S from execL_block c3_h).trans ((enter_seq c11_h (k15_l b)).trans (rfl))))
theorem k10_l (b : Nat) : seqC (fun e S => execL (C b) 0 c2 (k0 b) e S) (k0 b) = k10 b := link_seq c2_h (k8_l b)
@[go_sem] theorem g60 (b : Nat) (K : KT) (x0 : PV) (S : Store) : execL (C b) 0 c1 K (ee0 x0) S =
  withV (some (.int .i64 0)) fun x2 =>
    K .normal (ee0 x0) S := nr (by kernel_rfl)
noncomputable def E (b : Nat) (x0 : PV) (S : Store) : RT := execL (C b) 0 code (k0 b) (ee0 x0) S
@[go_sem] theorem E_eq (b : Nat) (x0 : PV) (S : Store) : E b x0 S =
  execL (C b) 0 c1 (k10 b) (ee0 x0) S := nr ((enter_seq code_h (k10_l b)).trans (rfl))
theorem call {x0 : PV} {r : PV × Store} {v : PV} (h : E 0 x0 [] = some r) (hv : fzPV r.2 r.1 = some v) : callL Try.prog hints 41 [x0] = some v := callL_of (fn := Try.f41) (c := code) (by kernel_rfl) (by kernel_rfl) (by decide) (by kernel_rfl) (Nat.le_of_ble_eq_true (by kernel_rfl)) h hv
end F41
end Go.Vs
