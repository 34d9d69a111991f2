/- Printed by a program of mine (stage1.py): the functions 97, 96, 94, 84, 85, 86, 63, 36, piece by piece. -/

import Derived.Test.YtnddhkcciphhkaaMD9
set_option linter.unusedVariables false
set_option linter.unusedSimpArgs false
namespace Go.Vs
open Go Go.Proofs

/-! ### num.valid -/
namespace F97
def hint : Hint := { keep := [], loops := [], regs := [(0, [0, 1]), (1, [4])] }
noncomputable def C (b : Nat) : Ctx := ctxL Try.prog hints b hint
noncomputable def code : Code := Try.f97.body.get rfl
noncomputable def k0 (b : Nat) : KT := endC Try.prog Try.f97
def ee0 (x0 x1 : PV) : Env := [(0, x0), (1, x1)]
def ee1 (x4 : PV) : Env := [(4, x4)]
@[go_sem] theorem k0_ret1 (b : Nat) (x4 : PV) (S : Store) : k0 b .ret (ee1 x4) S = some (x4, S) := nr (by kernel_rfl)
noncomputable def c1 : Code := at0 code
noncomputable def c2 : Code := at1 code
theorem code_h : code = .seq c1 c2 := by kernel_rfl
noncomputable def c3 : Code := at0 c2
noncomputable def c4 : Code := at1 c2
theorem c2_h : c2 = .seq c3 c4 := by kernel_rfl
noncomputable def k5 (b : Nat) : KT := seqC (fun e S => execL (C b) 0 c4 (k0 b) e S) (k0 b)
@[go_sem] theorem k5_n (b : Nat) (x4 : PV) (S : Store) : k5 b .normal (ee1 x4) S =
  (k0 b) .ret (ee1 x4) S := nr ((show k5 b .normal (ee1 x4) S = execL (C b) 0 c4 (k0 b) (ee1 x4) S from seqC_n _ _ _ _).trans (execL_ret (by kernel_rfl)))
theorem k5_l (b : Nat) : seqC (fun e S => execL (C b) 0 c4 (k0 b) e S) (k0 b) = k5 b := rfl
noncomputable def k6 (b : Nat) : KT := seqC (fun e S => execL (C b) 0 c3 (k5 b) e S) (k0 b)
@[go_sem] theorem g7 (b : Nat) (K : KT) (x0 x1 : PV) (S : Store) : execL (C b) 0 c3 K (ee0 x0 x1) S =
  withV (some x0) fun x5 =>
    withV (lenO (tyi Try.prog 49) x5) fun x6 =>
    withV (some x1) fun x7 =>
    withV (evBin .leq (tyi Try.prog 3) x6 x7) fun x8 =>
    withV (some x8) fun x9 =>
    withV (gval x9 true (some x0)) fun x10 =>
    withV (gval x9 true (lenO (tyi Try.prog 49) x10)) fun x11 =>
    withV (gval x9 true (evBin .eql (tyi Try.prog 3) x11 (.int .i64 0))) fun x12 =>
    withV (gval x9 true (some x12)) fun x13 =>
    withV (gval x13 false (some x0)) fun x14 =>
    withV (gval x13 false (some x0)) fun x15 =>
    withV (gval x13 false (lenO (tyi Try.prog 49) x15)) fun x16 =>
    withV (gval x13 false (evBin .sub (tyi Try.prog 3) x16 (.int .i64 1))) fun x17 =>
    withV (gval x13 false (indexAddrO Try.prog 49 S x14 x17)) fun x18 =>
    withV (gval x13 false (evLoad (tyi Try.prog 76) S x18)) fun x19 =>
    withV (gval x13 false (evBin .neq (tyi Try.prog 76) x19 (.int .u32 0))) fun x20 =>
    withV (gval x9 true (pickO x13 (.bool true) x20)) fun x21 =>
    withV (pickO x9 x21 (.bool false)) fun x22 =>
    withV (some x22) fun x4 =>
    K .normal (ee1 x4) S := nr (by kernel_rfl)
@[go_sem] theorem k6_n (b : Nat) (e : Env) (S : Store) : k6 b .normal e S = execL (C b) 0 c3 (k5 b) e S := nr (seqC_n _ _ _ _)
theorem k6_l (b : Nat) : seqC (fun e S => execL (C b) 0 c2 (k0 b) e S) (k0 b) = k6 b := link_seq c2_h (k5_l b)
@[go_sem] theorem g8 (b : Nat) (K : KT) (x0 x1 : PV) (S : Store) : execL (C b) 0 c1 K (ee0 x0 x1) S =
  withV (some (.bool false)) fun x4 =>
    K .normal (ee0 x0 x1) S := nr (by kernel_rfl)
noncomputable def E (b : Nat) (x0 x1 : PV) (S : Store) : RT := execL (C b) 0 code (k0 b) (ee0 x0 x1) S
@[go_sem] theorem E_eq (b : Nat) (x0 x1 : PV) (S : Store) : E b x0 x1 S =
  execL (C b) 0 c1 (k6 b) (ee0 x0 x1) S := nr ((enter_seq code_h (k6_l b)).trans (rfl))
theorem call {x0 x1 : PV} {r : PV × Store} {v : PV} (h : E 0 x0 x1 [] = some r) (hv : fzPV r.2 r.1 = some v) : callL Try.prog hints 97 [x0, x1] = some v := callL_of (fn := Try.f97) (c := code) (by kernel_rfl) (by kernel_rfl) (by decide) (by kernel_rfl) (Nat.le_of_ble_eq_true (by kernel_rfl)) h hv
end F97
/-! ### num.Valid -/
namespace F96
def hint : Hint := { keep := [], loops := [], regs := [(0, [1, 2]), (1, [2, 23]), (2, [4]), (3, [2, 27]), (4, [4]), (5, [2, 54]), (6, [4]), (7, [5]), (8, [4])] }
noncomputable def C (b : Nat) : Ctx := ctxL Try.prog hints b hint
noncomputable def code : Code := Try.f96.body.get rfl
noncomputable def k0 (b : Nat) : KT := endC Try.prog Try.f96
def ee0 (x1 x2 : PV) : Env := [(1, x1), (2, x2)]
def ee1 (x2 x23 : PV) : Env := [(2, x2), (23, x23)]
def ee2 (x2 x27 : PV) : Env := [(2, x2), (27, x27)]
def ee3 (x2 x54 : PV) : Env := [(2, x2), (54, x54)]
def ee4 (x4 : PV) : Env := [(4, x4)]
@[go_sem] theorem k0_ret4 (b : Nat) (x4 : PV) (S : Store) : k0 b .ret (ee4 x4) S = some (x4, S) := nr (by kernel_rfl)
noncomputable def c1 : Code := at0 code
noncomputable def c2 : Code := at1 code
theorem code_h : code = .seq c1 c2 := by kernel_rfl
noncomputable def c3 : Code := at0 c2
noncomputable def c4 : Code := at1 c2
theorem c2_h : c2 = .seq c3 c4 := by kernel_rfl
noncomputable def c5 : Code := at0 c4
noncomputable def c6 : Code := at1 c4
theorem c4_h : c4 = .seq c5 c6 := by kernel_rfl
noncomputable def c7 : Code := at0 c6
noncomputable def c8 : Code := at1 c6
theorem c6_h : c6 = .seq c7 c8 := by kernel_rfl
noncomputable def c9 : Code := at0 c8
noncomputable def c10 : Code := at1 c8
theorem c8_h : c8 = .seq c9 c10 := by kernel_rfl
noncomputable def c11 : Code := at0 c10
noncomputable def c12 : Code := at1 c10
theorem c10_h : c10 = .seq c11 c12 := by kernel_rfl
noncomputable def k13 (b : Nat) : KT := seqC (fun e S => execL (C b) 0 c12 (k0 b) e S) (k0 b)
theorem k13_l (b : Nat) : seqC (fun e S => execL (C b) 0 c12 (k0 b) e S) (k0 b) = k13 b := rfl
noncomputable def k14 (b : Nat) : KT := seqC (fun e S => execL (C b) 0 c11 (k13 b) e S) (k0 b)
theorem k14_l (b : Nat) : seqC (fun e S => execL (C b) 0 c10 (k0 b) e S) (k0 b) = k14 b := link_seq c10_h (k13_l b)
noncomputable def k16 (b : Nat) : KT := seqC (fun e S => execL (C b) 0 c9 (k14 b) e S) (k0 b)
@[go_sem] theorem k16_ret (b : Nat) (e : Env) (S : Store) : k16 b .ret e S = (k0 b) .ret e S := nr (seqC_r _ _ _ _)
theorem k16_l (b : Nat) : seqC (fun e S => execL (C b) 0 c8 (k0 b) e S) (k0 b) = k16 b := link_seq c8_h (k14_l b)
noncomputable def k18 (b : Nat) : KT := seqC (fun e S => execL (C b) 0 c7 (k16 b) e S) (k0 b)
noncomputable def c19 : Code := at0 c7
noncomputable def c20 : Code := at1 c7
theorem c7_h : c7 = .seq c19 c20 := by kernel_rfl
noncomputable def k21 (b : Nat) : KT := seqC (fun e S => execL (C b) 0 c20 (k16 b) e S) (k16 b)
noncomputable def c22 : Code := atT c20
noncomputable def c23 : Code := atF c20
theorem c20_h : c20 = .cond (.tmp 54) c22 c23 := by kernel_rfl
noncomputable def c25 : Code := at0 c22
noncomputable def c26 : Code := at1 c22
theorem c22_h : c22 = .seq c25 c26 := by kernel_rfl
noncomputable def k27 (b : Nat) : KT := seqC (fun e S => execL (C b) 0 c26 (k16 b) e S) (k16 b)
@[go_sem] theorem k27_n (b : Nat) (x4 : PV) (S : Store) : k27 b .normal (ee4 x4) S =
  (k16 b) .ret (ee4 x4) S := nr ((show k27 b .normal (ee4 x4) S = execL (C b) 0 c26 (k16 b) (ee4 x4) S from seqC_n _ _ _ _).trans (execL_ret (by kernel_rfl)))
theorem k27_l (b : Nat) : seqC (fun e S => execL (C b) 0 c26 (k16 b) e S) (k16 b) = k27 b := rfl
@[go_sem] theorem g28 (b : Nat) (K : KT) (x2 x54 : PV) (S : Store) : execL (C b) 0 c25 K (ee3 x2 x54) S =
  withV (some (.bool true)) fun x4 =>
    K .normal (ee4 x4) S := nr (by kernel_rfl)
noncomputable def E24 (b : Nat) (x2 x54 : PV) (S : Store) : RT := execL (C b) 0 c22 (k16 b) (ee3 x2 x54) S
@[go_sem] theorem E24_eq (b : Nat) (x2 x54 : PV) (S : Store) : E24 b x2 x54 S =
  execL (C b) 0 c25 (k27 b) (ee3 x2 x54) S := nr ((enter_seq c22_h (k27_l b)).trans (rfl))
@[go_sem] theorem k21_n (b : Nat) (x2 x54 : PV) (S : Store) : k21 b .normal (ee3 x2 x54) S =
  condC x54 (E24 b x2 x54 S)
    ((k16 b) .normal (ee3 x2 x54) S) := nr ((show k21 b .normal (ee3 x2 x54) S = execL (C b) 0 c20 (k16 b) (ee3 x2 x54) S from seqC_n _ _ _ _).trans (execL_cond c20_h (rfl) (execL_skip (by kernel_rfl)) rfl))
theorem k21_l (b : Nat) : seqC (fun e S => execL (C b) 0 c20 (k16 b) e S) (k16 b) = k21 b := rfl
@[go_sem] theorem g29 (b : Nat) (K : KT) (x2 x27 : PV) (S : Store) : execL (C b) 0 c19 K (ee2 x2 x27) S =
  withV (evFieldAddr (tyi Try.prog 51) 2 x2) fun x44 =>
    withV (evLoad (tyi Try.prog 49) S x44) fun x45 =>
    withV (lenO (tyi Try.prog 49) x45) fun x46 =>
    withV (evBin .eql (tyi Try.prog 3) x46 (.int .i64 1)) fun x47 =>
    withV (some x47) fun x48 =>
    withV (gval x48 true (evFieldAddr (tyi Try.prog 51) 2 x2)) fun x49 =>
    withV (gval x48 true (evLoad (tyi Try.prog 49) S x49)) fun x50 =>
    withV (gval x48 true (indexAddrO Try.prog 49 S x50 (.int .i64 0))) fun x51 =>
    withV (gval x48 true (evLoad (tyi Try.prog 76) S x51)) fun x52 =>
    withV (gval x48 true (evBin .eql (tyi Try.prog 76) x52 (.int .u32 1))) fun x53 =>
    withV (pickO x48 x53 (.bool false)) fun x54 =>
    K .normal (ee3 x2 x54) S := nr (by kernel_rfl)
@[go_sem] theorem k18_n (b : Nat) (x2 x27 : PV) (S : Store) : k18 b .normal (ee2 x2 x27) S =
  execL (C b) 0 c19 (k21 b) (ee2 x2 x27) S := nr ((show k18 b .normal (ee2 x2 x27) S = execL (C b) 0 c7 (k16 b) (ee2 x2 x27) S from seqC_n _ _ _ _).trans ((enter_seq c7_h (k21_l b)).trans (rfl)))
@[go_sem] theorem k18_ret (b : Nat) (e : Env) (S : Store) : k18 b .ret e S = (k0 b) .ret e S := nr (seqC_r _ _ _ _)
theorem k18_l (b : Nat) : seqC (fun e S => execL (C b) 0 c6 (k0 b) e S) (k0 b) = k18 b := link_seq c6_h (k16_l b)
noncomputable def k30 (b : Nat) : KT := seqC (fun e S => execL (C b) 0 c5 (k18 b) e S) (k0 b)
noncomputable def c31 : Code := at0 c5
noncomputable def c32 : Code := at1 c5
theorem c5_h : c5 = .seq c31 c32 := by kernel_rfl
noncomputable def k33 (b : Nat) : KT := seqC (fun e S => execL (C b) 0 c32 (k18 b) e S) (k18 b)
noncomputable def c34 : Code := atT c32
noncomputable def c35 : Code := atF c32
theorem c32_h : c32 = .cond (.tmp 27) c34 c35 := by kernel_rfl
noncomputable def c37 : Code := at0 c34
noncomputable def c38 : Code := at1 c34
theorem c34_h : c34 = .seq c37 c38 := by kernel_rfl
noncomputable def k39 (b : Nat) : KT := seqC (fun e S => execL (C b) 0 c38 (k18 b) e S) (k18 b)
@[go_sem] theorem k39_n (b : Nat) (x4 : PV) (S : Store) : k39 b .normal (ee4 x4) S =
  (k18 b) .ret (ee4 x4) S := nr ((show k39 b .normal (ee4 x4) S = execL (C b) 0 c38 (k18 b) (ee4 x4) S from seqC_n _ _ _ _).trans (execL_ret (by kernel_rfl)))
theorem k39_l (b : Nat) : seqC (fun e S => execL (C b) 0 c38 (k18 b) e S) (k18 b) = k39 b := rfl
@[go_sem] theorem g40 (b : Nat) (K : KT) (x2 x27 : PV) (S : Store) : execL (C b) 0 c37 K (ee2 x2 x27) S =
  withV (evFieldAddr (tyi Try.prog 51) 0 x2) fun x28 =>
    withV (evLoad (tyi Try.prog 4) S x28) fun x29 =>
    withV (evUn .not x29) fun x30 =>
    withV (some x30) fun x31 =>
    withV (gval x31 true (evFieldAddr (tyi Try.prog 51) 2 x2)) fun x32 =>
    withV (gval x31 true (evLoad (tyi Try.prog 49) S x32)) fun x33 =>
    withV (gval x31 true (lenO (tyi Try.prog 49) x33)) fun x34 =>
    withV (gval x31 true (evBin .eql (tyi Try.prog 3) x34 (.int .i64 1))) fun x35 =>
    withV (pickO x31 x35 (.bool false)) fun x36 =>
    withV (some x36) fun x37 =>
    withV (gval x37 true (evFieldAddr (tyi Try.prog 51) 2 x2)) fun x38 =>
    withV (gval x37 true (evLoad (tyi Try.prog 49) S x38)) fun x39 =>
    withV (gval x37 true (indexAddrO Try.prog 49 S x39 (.int .i64 0))) fun x40 =>
    withV (gval x37 true (evLoad (tyi Try.prog 76) S x40)) fun x41 =>
    withV (gval x37 true (evBin .eql (tyi Try.prog 76) x41 (.int .u32 1))) fun x42 =>
    withV (pickO x37 x42 (.bool false)) fun x43 =>
    withV (some x43) fun x4 =>
    K .normal (ee4 x4) S := nr (by kernel_rfl)
noncomputable def E36 (b : Nat) (x2 x27 : PV) (S : Store) : RT := execL (C b) 0 c34 (k18 b) (ee2 x2 x27) S
@[go_sem] theorem E36_eq (b : Nat) (x2 x27 : PV) (S : Store) : E36 b x2 x27 S =
  execL (C b) 0 c37 (k39 b) (ee2 x2 x27) S := nr ((enter_seq c34_h (k39_l b)).trans (rfl))
@[go_sem] theorem k33_n (b : Nat) (x2 x27 : PV) (S : Store) : k33 b .normal (ee2 x2 x27) S =
  condC x27 (E36 b x2 x27 S)
    ((k18 b) .normal (ee2 x2 x27) S) := nr ((show k33 b .normal (ee2 x2 x27) S = execL (C b) 0 c32 (k18 b) (ee2 x2 x27) S from seqC_n _ _ _ _).trans (execL_cond c32_h (rfl) (execL_skip (by kernel_rfl)) rfl))
theorem k33_l (b : Nat) : seqC (fun e S => execL (C b) 0 c32 (k18 b) e S) (k18 b) = k33 b := rfl
@[go_sem] theorem g41 (b : Nat) (K : KT) (x2 x23 : PV) (S : Store) : execL (C b) 0 c31 K (ee1 x2 x23) S =
  withV (evFieldAddr (tyi Try.prog 51) 1 x2) fun x24 =>
    withV (evLoad (tyi Try.prog 49) S x24) fun x25 =>
    withV (lenO (tyi Try.prog 49) x25) fun x26 =>
    withV (evBin .eql (tyi Try.prog 3) x26 (.int .i64 0)) fun x27 =>
    K .normal (ee2 x2 x27) S := nr (by kernel_rfl)
@[go_sem] theorem k30_n (b : Nat) (x2 x23 : PV) (S : Store) : k30 b .normal (ee1 x2 x23) S =
  execL (C b) 0 c31 (k33 b) (ee1 x2 x23) S := nr ((show k30 b .normal (ee1 x2 x23) S = execL (C b) 0 c5 (k18 b) (ee1 x2 x23) S from seqC_n _ _ _ _).trans ((enter_seq c5_h (k33_l b)).trans (rfl)))
@[go_sem] theorem k30_ret (b : Nat) (e : Env) (S : Store) : k30 b .ret e S = (k0 b) .ret e S := nr (seqC_r _ _ _ _)
theorem k30_l (b : Nat) : seqC (fun e S => execL (C b) 0 c4 (k0 b) e S) (k0 b) = k30 b := link_seq c4_h (k18_l b)
noncomputable def k42 (b : Nat) : KT := seqC (fun e S => execL (C b) 0 c3 (k30 b) e S) (k0 b)
noncomputable def c43 : Code := at0 c3
noncomputable def c44 : Code := at1 c3
theorem c3_h : c3 = .seq c43 c44 := by kernel_rfl
noncomputable def k45 (b : Nat) : KT := seqC (fun e S => execL (C b) 0 c44 (k30 b) e S) (k30 b)
noncomputable def c46 : Code := atT c44
noncomputable def c47 : Code := atF c44
theorem c44_h : c44 = .cond (.tmp 23) c46 c47 := by kernel_rfl
noncomputable def c49 : Code := at0 c46
noncomputable def c50 : Code := at1 c46
theorem c46_h : c46 = .seq c49 c50 := by kernel_rfl
noncomputable def k51 (b : Nat) : KT := seqC (fun e S => execL (C b) 0 c50 (k30 b) e S) (k30 b)
@[go_sem] theorem k51_n (b : Nat) (x4 : PV) (S : Store) : k51 b .normal (ee4 x4) S =
  (k30 b) .ret (ee4 x4) S := nr ((show k51 b .normal (ee4 x4) S = execL (C b) 0 c50 (k30 b) (ee4 x4) S from seqC_n _ _ _ _).trans (execL_ret (by kernel_rfl)))
theorem k51_l (b : Nat) : seqC (fun e S => execL (C b) 0 c50 (k30 b) e S) (k30 b) = k51 b := rfl
@[go_sem] theorem g52 (b : Nat) (K : KT) (x2 x23 : PV) (S : Store) : execL (C b) 0 c49 K (ee1 x2 x23) S =
  withV (some (.bool false)) fun x4 =>
    K .normal (ee4 x4) S := nr (by kernel_rfl)
noncomputable def E48 (b : Nat) (x2 x23 : PV) (S : Store) : RT := execL (C b) 0 c46 (k30 b) (ee1 x2 x23) S
@[go_sem] theorem E48_eq (b : Nat) (x2 x23 : PV) (S : Store) : E48 b x2 x23 S =
  execL (C b) 0 c49 (k51 b) (ee1 x2 x23) S := nr ((enter_seq c46_h (k51_l b)).trans (rfl))
@[go_sem] theorem k45_n (b : Nat) (x2 x23 : PV) (S : Store) : k45 b .normal (ee1 x2 x23) S =
  condC x23 (E48 b x2 x23 S)
    ((k30 b) .normal (ee1 x2 x23) S) := nr ((show k45 b .normal (ee1 x2 x23) S = execL (C b) 0 c44 (k30 b) (ee1 x2 x23) S from seqC_n _ _ _ _).trans (execL_cond c44_h (rfl) (execL_skip (by kernel_rfl)) rfl))
theorem k45_l (b : Nat) : seqC (fun e S => execL (C b) 0 c44 (k30 b) e S) (k30 b) = k45 b := rfl
@[go_sem] theorem g53 (b : Nat) (K : KT) (x1 x2 : PV) (S : Store) : execL (C b) 0 c43 K (ee0 x1 x2) S =
  withV (evFieldAddr (tyi Try.prog 51) 1 x2) fun x6 =>
    withV (evLoad (tyi Try.prog 49) S x6) fun x7 =>
    withV (some x1) fun x8 =>
    withN (callO (callL Try.prog hints) S 97 [x7, x8]) S fun x9 S =>
    withV (evUn .not x9) fun x10 =>
    withV (some x10) fun x11 =>
    withV (gval x11 false (evFieldAddr (tyi Try.prog 51) 2 x2)) fun x12 =>
    withV (gval x11 false (evLoad (tyi Try.prog 49) S x12)) fun x13 =>
    withV (gval x11 false (some x1)) fun x14 =>
    withN (gout x11 false (callO (callL Try.prog hints) S 97 [x13, x14])) S fun x15 S =>
    withV (gval x11 false (evUn .not x15)) fun x16 =>
    withV (pickO x11 (.bool true) x16) fun x17 =>
    withV (some x17) fun x18 =>
    withV (gval x18 false (evFieldAddr (tyi Try.prog 51) 2 x2)) fun x19 =>
    withV (gval x18 false (evLoad (tyi Try.prog 49) S x19)) fun x20 =>
    withV (gval x18 false (lenO (tyi Try.prog 49) x20)) fun x21 =>
    withV (gval x18 false (evBin .eql (tyi Try.prog 3) x21 (.int .i64 0))) fun x22 =>
    withV (pickO x18 (.bool true) x22) fun x23 =>
    K .normal (ee1 x2 x23) S := nr (by kernel_rfl)
@[go_sem] theorem k42_n (b : Nat) (x1 x2 : PV) (S : Store) : k42 b .normal (ee0 x1 x2) S =
  execL (C b) 0 c43 (k45 b) (ee0 x1 x2) S := nr ((show k42 b .normal (ee0 x1 x2) S = execL (C b) 0 c3 (k30 b) (ee0 x1 x2) S from seqC_n _ _ _ _).trans ((enter_seq c3_h (k45_l b)).trans (rfl)))
theorem k42_l (b : Nat) : seqC (fun e S => execL (C b) 0 c2 (k0 b) e S) (k0 b) = k42 b := link_seq c2_h (k30_l b)
@[go_sem] theorem g54 (b : Nat) (K : KT) (x0 x1 : PV) (S : Store) : execL (C b) 0 c1 K [(0, x0), (1, x1)] S =
  withN (boxed S (List.length S) (TI.size (tyi Try.prog 51)) x0) S fun x2 S =>
    withV (some (.bool false)) fun x4 =>
    K .normal (ee0 x1 x2) S := nr (by kernel_rfl)
noncomputable def E (b : Nat) (x0 x1 : PV) (S : Store) : RT := execL (C b) 0 code (k0 b) [(0, x0), (1, x1)] S
@[go_sem] theorem E_eq (b : Nat) (x0 x1 : PV) (S : Store) : E b x0 x1 S =
  execL (C b) 0 c1 (k42 b) [(0, x0), (1, x1)] S := nr ((enter_seq code_h (k42_l b)).trans (rfl))
theorem call {x0 x1 : PV} {r : PV × Store} {v : PV} (h : E 0 x0 x1 [] = some r) (hv : fzPV r.2 r.1 = some v) : callL Try.prog hints 96 [x0, x1] = some v := callL_of (fn := Try.f96) (c := code) (by kernel_rfl) (by kernel_rfl) (by decide) (by kernel_rfl) (Nat.le_of_ble_eq_true (by kernel_rfl)) h hv
end F96
/-! ### rat.Valid -/
namespace F94
def hint : Hint := { keep := [], loops := [], regs := [(0, [1]), (1, [2])] }
noncomputable def C (b : Nat) : Ctx := ctxL Try.prog hints b hint
noncomputable def code : Code := Try.f94.body.get rfl
noncomputable def k0 (b : Nat) : KT := endC Try.prog Try.f94
def ee0 (x1 : PV) : Env := [(1, x1)]
def ee1 (x2 : PV) : Env := [(2, x2)]
@[go_sem] theorem k0_ret1 (b : Nat) (x2 : PV) (S : Store) : k0 b .ret (ee1 x2) S = some (x2, S) := nr (by kernel_rfl)
noncomputable def c1 : Code := at0 code
noncomputable def c2 : Code := at1 code
theorem code_h : code = .seq c1 c2 := by kernel_rfl
noncomputable def c3 : Code := at0 c2
noncomputable def c4 : Code := at1 c2
theorem c2_h : c2 = .seq c3 c4 := by kernel_rfl
noncomputable def k5 (b : Nat) : KT := seqC (fun e S => execL (C b) 0 c4 (k0 b) e S) (k0 b)
@[go_sem] theorem k5_n (b : Nat) (x2 : PV) (S : Store) : k5 b .normal (ee1 x2) S =
  (k0 b) .ret (ee1 x2) S := nr ((show k5 b .normal (ee1 x2) S = execL (C b) 0 c4 (k0 b) (ee1 x2) S from seqC_n _ _ _ _).trans (execL_ret (by kernel_rfl)))
theorem k5_l (b : Nat) : seqC (fun e S => execL (C b) 0 c4 (k0 b) e S) (k0 b) = k5 b := rfl
noncomputable def k6 (b : Nat) : KT := seqC (fun e S => execL (C b) 0 c3 (k5 b) e S) (k0 b)
@[go_sem] theorem g7 (b : Nat) (K : KT) (x1 : PV) (S : Store) : execL (C b) 0 c3 K (ee0 x1) S =
  withV (evLoad (tyi Try.prog 51) S x1) fun x3 =>
    withN (callO (callL Try.prog hints) S 96 [x3, (.int .i64 4096)]) S fun x4 S =>
    withV (some x4) fun x2 =>
    K .normal (ee1 x2) S := nr (by kernel_rfl)
@[go_sem] theorem k6_n (b : Nat) (e : Env) (S : Store) : k6 b .normal e S = execL (C b) 0 c3 (k5 b) e S := nr (seqC_n _ _ _ _)
theorem k6_l (b : Nat) : seqC (fun e S => execL (C b) 0 c2 (k0 b) e S) (k0 b) = k6 b := link_seq c2_h (k5_l b)
@[go_sem] theorem g8 (b : Nat) (K : KT) (x0 : PV) (S : Store) : execL (C b) 0 c1 K [(0, x0)] S =
  withN (boxed S (List.length S) (TI.size (tyi Try.prog 51)) x0) S fun x1 S =>
    withV (some (.bool false)) fun x2 =>
    K .normal (ee0 x1) S := nr (by kernel_rfl)
noncomputable def E (b : Nat) (x0 : PV) (S : Store) : RT := execL (C b) 0 code (k0 b) [(0, x0)] S
@[go_sem] theorem E_eq (b : Nat) (x0 : PV) (S : Store) : E b x0 S =
  execL (C b) 0 c1 (k6 b) [(0, x0)] S := nr ((enter_seq code_h (k6_l b)).trans (rfl))
theorem call {x0 : PV} {r : PV × Store} {v : PV} (h : E 0 x0 [] = some r) (hv : fzPV r.2 r.1 = some v) : callL Try.prog hints 94 [x0] = some v := callL_of (fn := Try.f94) (c := code) (by kernel_rfl) (by kernel_rfl) (by decide) (by kernel_rfl) (Nat.le_of_ble_eq_true (by kernel_rfl)) h hv
end F94
/-! ### tree.natural -/
namespace F84
def hint : Hint := { keep := [], loops := [], regs := [(0, [1]), (1, [2])] }
noncomputable def C (b : Nat) : Ctx := ctxL Try.prog hints b hint
noncomputable def code : Code := Try.f84.body.get rfl
noncomputable def k0 (b : Nat) : KT := endC Try.prog Try.f84
def ee0 (x1 : PV) : Env := [(1, x1)]
def ee1 (x2 : PV) : Env := [(2, x2)]
@[go_sem] theorem k0_ret1 (b : Nat) (x2 : PV) (S : Store) : k0 b .ret (ee1 x2) S = some (x2, S) := nr (by kernel_rfl)
noncomputable def c1 : Code := at0 code
noncomputable def c2 : Code := at1 code
theorem code_h : code = .seq c1 c2 := by kernel_rfl
noncomputable def c3 : Code := at0 c2
noncomputable def c4 : Code := at1 c2
theorem c2_h : c2 = .seq c3 c4 := by kernel_rfl
noncomputable def k5 (b : Nat) : KT := seqC (fun e S => execL (C b) 0 c4 (k0 b) e S) (k0 b)
@[go_sem] theorem k5_n (b : Nat) (x2 : PV) (S : Store) : k5 b .normal (ee1 x2) S =
  (k0 b) .ret (ee1 x2) S := nr ((show k5 b .normal (ee1 x2) S = execL (C b) 0 c4 (k0 b) (ee1 x2) S from seqC_n _ _ _ _).trans (execL_ret (by kernel_rfl)))
theorem k5_l (b : Nat) : seqC (fun e S => execL (C b) 0 c4 (k0 b) e S) (k0 b) = k5 b := rfl
noncomputable def k6 (b : Nat) : KT := seqC (fun e S => execL (C b) 0 c3 (k5 b) e S) (k0 b)
@[go_sem] theorem g7 (b : Nat) (K : KT) (x1 : PV) (S : Store) : execL (C b) 0 c3 K (ee0 x1) S =
  withV (evFieldAddr (tyi Try.prog 51) 0 x1) fun x3 =>
    withV (evLoad (tyi Try.prog 4) S x3) fun x4 =>
    withV (evUn .not x4) fun x5 =>
    withV (some x5) fun x6 =>
    withV (gval x6 true (evFieldAddr (tyi Try.prog 51) 2 x1)) fun x7 =>
    withV (gval x6 true (evLoad (tyi Try.prog 49) S x7)) fun x8 =>
    withV (gval x6 true (lenO (tyi Try.prog 49) x8)) fun x9 =>
    withV (gval x6 true (evBin .eql (tyi Try.prog 3) x9 (.int .i64 1))) fun x10 =>
    withV (pickO x6 x10 (.bool false)) fun x11 =>
    withV (some x11) fun x12 =>
    withV (gval x12 true (evFieldAddr (tyi Try.prog 51) 2 x1)) fun x13 =>
    withV (gval x12 true (evLoad (tyi Try.prog 49) S x13)) fun x14 =>
    withV (gval x12 true (indexAddrO Try.prog 49 S x14 (.int .i64 0))) fun x15 =>
    withV (gval x12 true (evLoad (tyi Try.prog 76) S x15)) fun x16 =>
    withV (gval x12 true (evBin .eql (tyi Try.prog 76) x16 (.int .u32 1))) fun x17 =>
    withV (pickO x12 x17 (.bool false)) fun x18 =>
    withV (some x18) fun x19 =>
    withV (gval x19 true (evFieldAddr (tyi Try.prog 51) 1 x1)) fun x20 =>
    withV (gval x19 true (evLoad (tyi Try.prog 49) S x20)) fun x21 =>
    withV (gval x19 true (lenO (tyi Try.prog 49) x21)) fun x22 =>
    withV (gval x19 true (evBin .leq (tyi Try.prog 3) x22 (.int .i64 20))) fun x23 =>
    withV (pickO x19 x23 (.bool false)) fun x24 =>
    withV (some x24) fun x25 =>
    withV (gval x25 true (evLoad (tyi Try.prog 51) S x1)) fun x26 =>
    withN (gout x25 true (callO (callL Try.prog hints) S 94 [x26])) S fun x27 S =>
    withV (pickO x25 x27 (.bool false)) fun x28 =>
    withV (some x28) fun x2 =>
    K .normal (ee1 x2) S := nr (by kernel_rfl)
@[go_sem] theorem k6_n (b : Nat) (e : Env) (S : Store) : k6 b .normal e S = execL (C b) 0 c3 (k5 b) e S := nr (seqC_n _ _ _ _)
theorem k6_l (b : Nat) : seqC (fun e S => execL (C b) 0 c2 (k0 b) e S) (k0 b) = k6 b := link_seq c2_h (k5_l b)
@[go_sem] theorem g8 (b : Nat) (K : KT) (x0 : PV) (S : Store) : execL (C b) 0 c1 K [(0, x0)] S =
  withN (boxed S (List.length S) (TI.size (tyi Try.prog 51)) x0) S fun x1 S =>
    withV (some (.bool false)) fun x2 =>
    K .normal (ee0 x1) S := nr (by kernel_rfl)
noncomputable def E (b : Nat) (x0 : PV) (S : Store) : RT := execL (C b) 0 code (k0 b) [(0, x0)] S
@[go_sem] theorem E_eq (b : Nat) (x0 : PV) (S : Store) : E b x0 S =
  execL (C b) 0 c1 (k6 b) [(0, x0)] S := nr ((enter_seq code_h (k6_l b)).trans (rfl))
theorem call {x0 : PV} {r : PV × Store} {v : PV} (h : E 0 x0 [] = some r) (hv : fzPV r.2 r.1 = some v) : callL Try.prog hints 84 [x0] = some v := callL_of (fn := Try.f84) (c := code) (by kernel_rfl) (by kernel_rfl) (by decide) (by kernel_rfl) (Nat.le_of_ble_eq_true (by kernel_rfl)) h hv
end F84
/-! ### tree.shape -/
namespace F85
def hint : Hint := { keep := [], loops := [], regs := [(0, [0]), (1, [0, 4]), (2, [0, 4, 5]), (3, [0, 4, 5]), (4, [0, 4, 5]), (5, [0, 4, 5]), (6, [2, 3]), (7, [0, 4, 10]), (8, [0, 4, 10]), (9, [0, 4, 10]), (10, [0, 4, 10]), (11, [0, 4, 10]), (12, [0, 4, 10]), (13, [0, 4, 10]), (14, [0, 4, 10]), (15, [2, 3]), (16, [0, 4, 19]), (17, [0, 4, 19]), (18, [0, 4, 19]), (19, [0, 4, 19]), (20, [0, 4, 19]), (21, [0, 4, 19]), (22, [0, 4, 19]), (23, [27]), (24, [27, 28]), (25, [27, 28]), (26, [2, 3]), (27, [27, 32]), (28, [27, 32]), (29, [2, 3]), (30, [2, 3]), (31, [4, 37]), (32, [4, 37]), (33, [4, 37]), (34, [4, 37]), (35, [4, 37]), (36, [4, 37]), (37, [4, 37]), (38, [4, 37]), (39, [4, 37]), (40, [4, 37]), (41, [4, 37]), (42, [2, 3]), (43, [4, 50]), (44, [4, 50]), (45, [4, 50]), (46, [4, 50]), (47, [2, 3]), (48, [4, 56]), (49, [4, 56]), (50, [2, 3]), (51, [4, 60]), (52, [4, 60]), (53, [2, 3]), (54, [4, 64]), (55, [4, 64]), (56, [4, 64]), (57, [2, 3]), (58, [4, 69]), (59, [4, 69]), (60, [2, 3]), (61, [2, 3])] }
noncomputable def C (b : Nat) : Ctx := ctxL Try.prog hints b hint
noncomputable def code : Code := Try.f85.body.get rfl
noncomputable def k0 (b : Nat) : KT := endC Try.prog Try.f85
def ee0 (x0 : PV) : Env := [(0, x0)]
def ee1 (x0 x4 : PV) : Env := [(0, x0), (4, x4)]
def ee2 (x0 x4 x5 : PV) : Env := [(0, x0), (4, x4), (5, x5)]
def ee3 (x0 x4 x10 : PV) : Env := [(0, x0), (4, x4), (10, x10)]
def ee4 (x0 x4 x19 : PV) : Env := [(0, x0), (4, x4), (19, x19)]
def ee5 (x2 x3 : PV) : Env := [(2, x2), (3, x3)]
@[go_sem] theorem k0_ret5 (b : Nat) (x2 x3 : PV) (S : Store) : k0 b .ret (ee5 x2 x3) S = some ((.tup [x2, x3]), S) := nr (by kernel_rfl)
def ee6 (x4 x37 : PV) : Env := [(4, x4), (37, x37)]
def ee7 (x4 x50 : PV) : Env := [(4, x4), (50, x50)]
def ee8 (x4 x56 : PV) : Env := [(4, x4), (56, x56)]
def ee9 (x4 x60 : PV) : Env := [(4, x4), (60, x60)]
def ee10 (x4 x64 : PV) : Env := [(4, x4), (64, x64)]
def ee11 (x4 x69 : PV) : Env := [(4, x4), (69, x69)]
def ee12 (x27 : PV) : Env := [(27, x27)]
def ee13 (x27 x28 : PV) : Env := [(27, x27), (28, x28)]
def ee14 (x27 x32 : PV) : Env := [(27, x27), (32, x32)]
noncomputable def c1 : Code := at0 code
noncomputable def c2 : Code := at1 code
theorem code_h : code = .seq c1 c2 := by kernel_rfl
noncomputable def c3 : Code := at0 c2
noncomputable def c4 : Code := at1 c2
theorem c2_h : c2 = .seq c3 c4 := by kernel_rfl
noncomputable def c5 : Code := at0 c4
noncomputable def c6 : Code := at1 c4
theorem c4_h : c4 = .seq c5 c6 := by kernel_rfl
noncomputable def k7 (b : Nat) : KT := seqC (fun e S => execL (C b) 0 c6 (k0 b) e S) (k0 b)
@[go_sem] theorem k7_n (b : Nat) (x2 x3 : PV) (S : Store) : k7 b .normal (ee5 x2 x3) S =
  (k0 b) .ret (ee5 x2 x3) S := nr ((show k7 b .normal (ee5 x2 x3) S = execL (C b) 0 c6 (k0 b) (ee5 x2 x3) S from seqC_n _ _ _ _).trans (execL_ret (by kernel_rfl)))
theorem k7_l (b : Nat) : seqC (fun e S => execL (C b) 0 c6 (k0 b) e S) (k0 b) = k7 b := rfl
noncomputable def k8 (b : Nat) : KT := seqC (fun e S => execL (C b) 0 c5 (k7 b) e S) (k0 b)
@[go_sem] theorem g9 (b : Nat) (K : KT) (x4 x69 : PV) (S : Store) : execL (C b) 0 c5 K (ee11 x4 x69) S =
  withV (some (.bool false)) fun x2 =>
    withV (some (.sl [] true)) fun x3 =>
    K .normal (ee5 x2 x3) S := nr (by kernel_rfl)
@[go_sem] theorem k8_n (b : Nat) (e : Env) (S : Store) : k8 b .normal e S = execL (C b) 0 c5 (k7 b) e S := nr (seqC_n _ _ _ _)
@[go_sem] theorem k8_ret (b : Nat) (e : Env) (S : Store) : k8 b .ret e S = (k0 b) .ret e S := nr (seqC_r _ _ _ _)
theorem k8_l (b : Nat) : seqC (fun e S => execL (C b) 0 c4 (k0 b) e S) (k0 b) = k8 b := link_seq c4_h (k7_l b)
noncomputable def k10 (b : Nat) : KT := seqC (fun e S => execL (C b) 0 c3 (k8 b) e S) (k0 b)
noncomputable def c11 : Code := at0 c3
noncomputable def c12 : Code := at1 c3
theorem c3_h : c3 = .seq c11 c12 := by kernel_rfl
noncomputable def k13 (b : Nat) : KT := seqC (fun e S => execL (C b) 0 c12 (k8 b) e S) (k8 b)
noncomputable def c14 : Code := atB c12
theorem c12_h : c12 = .block 0 c14 := by kernel_rfl
noncomputable def k15 (b : Nat) : KT := blockC 0 (k8 b)
@[go_sem] theorem k15_n (b : Nat) (e : Env) (S : Store) : k15 b .normal e S = (k8 b) .normal e S := nr (blockC_n _ _ _ _)
@[go_sem] theorem k15_ret (b : Nat) (e : Env) (S : Store) : k15 b .ret e S = (k8 b) .ret e S := nr (blockC_r _ _ _ _)
noncomputable def c16 : Code := at0 c14
noncomputable def c17 : Code := at1 c14
theorem c14_h : c14 = .seq c16 c17 := by kernel_rfl
noncomputable def k18 (b : Nat) : KT := seqC (fun e S => execL (C b) 0 c17 (k15 b) e S) (k15 b)
noncomputable def c19 : Code := atT c17
noncomputable def c20 : Code := atF c17
theorem c17_h : c17 = .cond (.tmp 5) c19 c20 := by kernel_rfl
noncomputable def c22 : Code := at0 c19
noncomputable def c23 : Code := at1 c19
theorem c19_h : c19 = .seq c22 c23 := by kernel_rfl
noncomputable def k24 (b : Nat) : KT := seqC (fun e S => execL (C b) 0 c23 (k15 b) e S) (k15 b)
@[go_sem] theorem k24_n (b : Nat) (x2 x3 : PV) (S : Store) : k24 b .normal (ee5 x2 x3) S =
  (k15 b) .ret (ee5 x2 x3) S := nr ((show k24 b .normal (ee5 x2 x3) S = execL (C b) 0 c23 (k15 b) (ee5 x2 x3) S from seqC_n _ _ _ _).trans (execL_ret (by kernel_rfl)))
theorem k24_l (b : Nat) : seqC (fun e S => execL (C b) 0 c23 (k15 b) e S) (k15 b) = k24 b := rfl
@[go_sem] theorem g25 (b : Nat) (K : KT) (x0 x4 x5 : PV) (S : Store) : execL (C b) 0 c22 K (ee2 x0 x4 x5) S =
  withV (some (.bool false)) fun x2 =>
    withV (some (.sl [] true)) fun x3 =>
    K .normal (ee5 x2 x3) S := nr (by kernel_rfl)
noncomputable def E21 (b : Nat) (x0 x4 x5 : PV) (S : Store) : RT := execL (C b) 0 c19 (k15 b) (ee2 x0 x4 x5) S
@[go_sem] theorem E21_eq (b : Nat) (x0 x4 x5 : PV) (S : Store) : E21 b x0 x4 x5 S =
  execL (C b) 0 c22 (k24 b) (ee2 x0 x4 x5) S := nr ((enter_seq c19_h (k24_l b)).trans (rfl))
noncomputable def c27 : Code := at0 c20
noncomputable def c28 : Code := at1 c20
theorem c20_h : c20 = .seq c27 c28 := by kernel_rfl
noncomputable def k29 (b : Nat) : KT := seqC (fun e S => execL (C b) 0 c28 (k15 b) e S) (k15 b)
noncomputable def c30 : Code := atT c28
noncomputable def c31 : Code := atF c28
theorem c28_h : c28 = .cond (.tmp 10) c30 c31 := by kernel_rfl
noncomputable def c33 : Code := at0 c30
noncomputable def c34 : Code := at1 c30
theorem c30_h : c30 = .seq c33 c34 := by kernel_rfl
noncomputable def k35 (b : Nat) : KT := seqC (fun e S => execL (C b) 0 c34 (k15 b) e S) (k15 b)
@[go_sem] theorem k35_n (b : Nat) (x2 x3 : PV) (S : Store) : k35 b .normal (ee5 x2 x3) S =
  (k15 b) .ret (ee5 x2 x3) S := nr ((show k35 b .normal (ee5 x2 x3) S = execL (C b) 0 c34 (k15 b) (ee5 x2 x3) S from seqC_n _ _ _ _).trans (execL_ret (by kernel_rfl)))
theorem k35_l (b : Nat) : seqC (fun e S => execL (C b) 0 c34 (k15 b) e S) (k15 b) = k35 b := rfl
@[go_sem] theorem g36 (b : Nat) (K : KT) (x0 x4 x10 : PV) (S : Store) : execL (C b) 0 c33 K (ee3 x0 x4 x10) S =
  withV (some (.bool true)) fun x2 =>
    withV (some (.sl [] true)) fun x3 =>
    K .normal (ee5 x2 x3) S := nr (by kernel_rfl)
noncomputable def E32 (b : Nat) (x0 x4 x10 : PV) (S : Store) : RT := execL (C b) 0 c30 (k15 b) (ee3 x0 x4 x10) S
@[go_sem] theorem E32_eq (b : Nat) (x0 x4 x10 : PV) (S : Store) : E32 b x0 x4 x10 S =
  execL (C b) 0 c33 (k35 b) (ee3 x0 x4 x10) S := nr ((enter_seq c30_h (k35_l b)).trans (rfl))
noncomputable def c38 : Code := at0 c31
noncomputable def c39 : Code := at1 c31
theorem c31_h : c31 = .seq c38 c39 := by kernel_rfl
noncomputable def k40 (b : Nat) : KT := seqC (fun e S => execL (C b) 0 c39 (k15 b) e S) (k15 b)
noncomputable def c41 : Code := atT c39
noncomputable def c42 : Code := atF c39
theorem c39_h : c39 = .cond (.tmp 19) c41 c42 := by kernel_rfl
noncomputable def c44 : Code := at0 c41
noncomputable def c45 : Code := at1 c41
theorem c41_h : c41 = .seq c44 c45 := by kernel_rfl
noncomputable def c46 : Code := at0 c45
noncomputable def c47 : Code := at1 c45
theorem c45_h : c45 = .seq c46 c47 := by kernel_rfl
noncomputable def k48 (b : Nat) : KT := seqC (fun e S => execL (C b) 0 c47 (k15 b) e S) (k15 b)
@[go_sem] theorem k48_n (b : Nat) (x2 x3 : PV) (S : Store) : k48 b .normal (ee5 x2 x3) S =
  (k15 b) .ret (ee5 x2 x3) S := nr ((show k48 b .normal (ee5 x2 x3) S = execL (C b) 0 c47 (k15 b) (ee5 x2 x3) S from seqC_n _ _ _ _).trans (execL_ret (by kernel_rfl)))
theorem k48_l (b : Nat) : seqC (fun e S => execL (C b) 0 c47 (k15 b) e S) (k15 b) = k48 b := rfl
noncomputable def k49 (b : Nat) : KT := seqC (fun e S => execL (C b) 0 c46 (k48 b) e S) (k15 b)
@[go_sem] theorem g50 (b : Nat) (K : KT) (x27 x32 : PV) (S : Store) : execL (C b) 0 c46 K (ee14 x27 x32) S =
  withN (buildSliceO Try.prog 22 (List.length S) 1 [0] [PV.cells (.int .i64 2)]) S fun x36 S =>
    withV (some (.bool false)) fun x2 =>
    withV (some x36) fun x3 =>
    K .normal (ee5 x2 x3) S := nr (by kernel_rfl)
@[go_sem] theorem k49_n (b : Nat) (e : Env) (S : Store) : k49 b .normal e S = execL (C b) 0 c46 (k48 b) e S := nr (seqC_n _ _ _ _)
@[go_sem] theorem k49_ret (b : Nat) (e : Env) (S : Store) : k49 b .ret e S = (k15 b) .ret e S := nr (seqC_r _ _ _ _)
theorem k49_l (b : Nat) : seqC (fun e S => execL (C b) 0 c45 (k15 b) e S) (k15 b) = k49 b := link_seq c45_h (k48_l b)
noncomputable def c51 : Code := at0 c44
noncomputable def c52 : Code := at1 c44
theorem c44_h : c44 = .seq c51 c52 := by kernel_rfl
noncomputable def k53 (b : Nat) : KT := seqC (fun e S => execL (C b) 0 c52 (k49 b) e S) (k49 b)
noncomputable def c54 : Code := atB c52
theorem c52_h : c52 = .block 1 c54 := by kernel_rfl
noncomputable def k55 (b : Nat) : KT := blockC 1 (k49 b)
@[go_sem] theorem k55_n (b : Nat) (e : Env) (S : Store) : k55 b .normal e S = (k49 b) .normal e S := nr (blockC_n _ _ _ _)
@[go_sem] theorem k55_ret (b : Nat) (e : Env) (S : Store) : k55 b .ret e S = (k49 b) .ret e S := nr (blockC_r _ _ _ _)
noncomputable def c56 : Code := at0 c54
noncomputable def c57 : Code := at1 c54
theorem c54_h : c54 = .seq c56 c57 := by kernel_rfl
noncomputable def k58 (b : Nat) : KT := seqC (fun e S => execL (C b) 1 c57 (k55 b) e S) (k55 b)
noncomputable def c59 : Code := atT c57
noncomputable def c60 : Code := atF c57
theorem c57_h : c57 = .cond (.tmp 28) c59 c60 := by kernel_rfl
noncomputable def c62 : Code := at0 c59
noncomputable def c63 : Code := at1 c59
theorem c59_h : c59 = .seq c62 c63 := by kernel_rfl
noncomputable def k64 (b : Nat) : KT := seqC (fun e S => execL (C b) 1 c63 (k55 b) e S) (k55 b)
@[go_sem] theorem k64_n (b : Nat) (x2 x3 : PV) (S : Store) : k64 b .normal (ee5 x2 x3) S =
  (k55 b) .ret (ee5 x2 x3) S := nr ((show k64 b .normal (ee5 x2 x3) S = execL (C b) 1 c63 (k55 b) (ee5 x2 x3) S from seqC_n _ _ _ _).trans (execL_ret (by kernel_rfl)))
theorem k64_l (b : Nat) : seqC (fun e S => execL (C b) 1 c63 (k55 b) e S) (k55 b) = k64 b := rfl
@[go_sem] theorem g65 (b : Nat) (K : KT) (x27 x28 : PV) (S : Store) : execL (C b) 1 c62 K (ee13 x27 x28) S =
  withN (buildSliceO Try.prog 22 (List.length S) 1 [0] [PV.cells (.int .i64 1)]) S fun x31 S =>
    withV (some (.bool false)) fun x2 =>
    withV (some x31) fun x3 =>
    K .normal (ee5 x2 x3) S := nr (by kernel_rfl)
noncomputable def E61 (b : Nat) (x27 x28 : PV) (S : Store) : RT := execL (C b) 1 c59 (k55 b) (ee13 x27 x28) S
@[go_sem] theorem E61_eq (b : Nat) (x27 x28 : PV) (S : Store) : E61 b x27 x28 S =
  execL (C b) 1 c62 (k64 b) (ee13 x27 x28) S := nr ((enter_seq c59_h (k64_l b)).trans (rfl))
noncomputable def c67 : Code := at0 c60
noncomputable def c68 : Code := at1 c60
theorem c60_h : c60 = .seq c67 c68 := by kernel_rfl
noncomputable def k69 (b : Nat) : KT := seqC (fun e S => execL (C b) 1 c68 (k55 b) e S) (k55 b)
noncomputable def c70 : Code := atT c68
noncomputable def c71 : Code := atF c68
theorem c68_h : c68 = .cond (.tmp 32) c70 c71 := by kernel_rfl
noncomputable def c73 : Code := at0 c70
noncomputable def c74 : Code := at1 c70
theorem c70_h : c70 = .seq c73 c74 := by kernel_rfl
noncomputable def k75 (b : Nat) : KT := seqC (fun e S => execL (C b) 1 c74 (k55 b) e S) (k55 b)
@[go_sem] theorem k75_n (b : Nat) (x2 x3 : PV) (S : Store) : k75 b .normal (ee5 x2 x3) S =
  (k55 b) .ret (ee5 x2 x3) S := nr ((show k75 b .normal (ee5 x2 x3) S = execL (C b) 1 c74 (k55 b) (ee5 x2 x3) S from seqC_n _ _ _ _).trans (execL_ret (by kernel_rfl)))
theorem k75_l (b : Nat) : seqC (fun e S => execL (C b) 1 c74 (k55 b) e S) (k55 b) = k75 b := rfl
@[go_sem] theorem g76 (b : Nat) (K : KT) (x27 x32 : PV) (S : Store) : execL (C b) 1 c73 K (ee14 x27 x32) S =
  withN (buildSliceO Try.prog 22 (List.length S) 1 [0] [PV.cells (.int .i64 3)]) S fun x35 S =>
    withV (some (.bool false)) fun x2 =>
    withV (some x35) fun x3 =>
    K .normal (ee5 x2 x3) S := nr (by kernel_rfl)
noncomputable def E72 (b : Nat) (x27 x32 : PV) (S : Store) : RT := execL (C b) 1 c70 (k55 b) (ee14 x27 x32) S
@[go_sem] theorem E72_eq (b : Nat) (x27 x32 : PV) (S : Store) : E72 b x27 x32 S =
  execL (C b) 1 c73 (k75 b) (ee14 x27 x32) S := nr ((enter_seq c70_h (k75_l b)).trans (rfl))
@[go_sem] theorem k69_n (b : Nat) (x27 x32 : PV) (S : Store) : k69 b .normal (ee14 x27 x32) S =
  condC x32 (E72 b x27 x32 S)
    ((k55 b) .normal (ee14 x27 x32) S) := nr ((show k69 b .normal (ee14 x27 x32) S = execL (C b) 1 c68 (k55 b) (ee14 x27 x32) S from seqC_n _ _ _ _).trans (execL_cond c68_h (rfl) (execL_skip (by kernel_rfl)) rfl))
theorem k69_l (b : Nat) : seqC (fun e S => execL (C b) 1 c68 (k55 b) e S) (k55 b) = k69 b := rfl
noncomputable def c77 : Code := at0 c67
noncomputable def c78 : Code := at1 c67
theorem c67_h : c67 = .seq c77 c78 := by kernel_rfl
noncomputable def k79 (b : Nat) : KT := seqC (fun e S => execL (C b) 1 c78 (k69 b) e S) (k69 b)
noncomputable def c80 : Code := atT c78
noncomputable def c81 : Code := atF c78
theorem c78_h : c78 = .cond (.tmp 32) c80 c81 := by kernel_rfl
@[go_sem] theorem g83 (b : Nat) (K : KT) (x27 x32 : PV) (S : Store) : execL (C b) 1 c81 K (ee14 x27 x32) S =
  withV (evBin .eql (tyi Try.prog 3) x27 (.int .i64 60)) fun x34 =>
    withV (some x34) fun x32 =>
    K .normal (ee14 x27 x32) S := nr (by kernel_rfl)
noncomputable def E82 (b : Nat) (x27 x32 : PV) (S : Store) : RT := execL (C b) 1 c81 (k69 b) (ee14 x27 x32) S
@[go_sem] theorem E82_eq (b : Nat) (x27 x32 : PV) (S : Store) : E82 b x27 x32 S =
  execL (C b) 1 c81 (k69 b) (ee14 x27 x32) S := nr (rfl)
@[go_sem] theorem k79_n (b : Nat) (x27 x32 : PV) (S : Store) : k79 b .normal (ee14 x27 x32) S =
  condC x32 ((k69 b) .normal (ee14 x27 x32) S)
    (E82 b x27 x32 S) := nr ((show k79 b .normal (ee14 x27 x32) S = execL (C b) 1 c78 (k69 b) (ee14 x27 x32) S from seqC_n _ _ _ _).trans (execL_cond c78_h (execL_skip (by kernel_rfl)) (rfl) rfl))
theorem k79_l (b : Nat) : seqC (fun e S => execL (C b) 1 c78 (k69 b) e S) (k69 b) = k79 b := rfl
@[go_sem] theorem g84 (b : Nat) (K : KT) (x27 x28 : PV) (S : Store) : execL (C b) 1 c77 K (ee13 x27 x28) S =
  withV (evBin .eql (tyi Try.prog 3) x27 (.int .i64 59)) fun x33 =>
    withV (some x33) fun x32 =>
    K .normal (ee14 x27 x32) S := nr (by kernel_rfl)
noncomputable def E66 (b : Nat) (x27 x28 : PV) (S : Store) : RT := execL (C b) 1 c60 (k55 b) (ee13 x27 x28) S
@[go_sem] theorem E66_eq (b : Nat) (x27 x28 : PV) (S : Store) : E66 b x27 x28 S =
  execL (C b) 1 c77 (k79 b) (ee13 x27 x28) S := nr ((enter_seq c60_h (k69_l b)).trans ((enter_seq c67_h (k79_l b)).trans (rfl)))
@[go_sem] theorem k58_n (b : Nat) (x27 x28 : PV) (S : Store) : k58 b .normal (ee13 x27 x28) S =
  condC x28 (E61 b x27 x28 S)
    (E66 b x27 x28 S) := nr ((show k58 b .normal (ee13 x27 x28) S = execL (C b) 1 c57 (k55 b) (ee13 x27 x28) S from seqC_n _ _ _ _).trans (execL_cond c57_h (rfl) (rfl) rfl))
theorem k58_l (b : Nat) : seqC (fun e S => execL (C b) 1 c57 (k55 b) e S) (k55 b) = k58 b := rfl
noncomputable def c85 : Code := at0 c56
noncomputable def c86 : Code := at1 c56
theorem c56_h : c56 = .seq c85 c86 := by kernel_rfl
noncomputable def k87 (b : Nat) : KT := seqC (fun e S => execL (C b) 1 c86 (k58 b) e S) (k58 b)
noncomputable def c88 : Code := atT c86
noncomputable def c89 : Code := atF c86
theorem c86_h : c86 = .cond (.tmp 28) c88 c89 := by kernel_rfl
@[go_sem] theorem g91 (b : Nat) (K : KT) (x27 x28 : PV) (S : Store) : execL (C b) 1 c89 K (ee13 x27 x28) S =
  withV (evBin .eql (tyi Try.prog 3) x27 (.int .i64 12)) fun x30 =>
    withV (some x30) fun x28 =>
    K .normal (ee13 x27 x28) S := nr (by kernel_rfl)
noncomputable def E90 (b : Nat) (x27 x28 : PV) (S : Store) : RT := execL (C b) 1 c89 (k58 b) (ee13 x27 x28) S
@[go_sem] theorem E90_eq (b : Nat) (x27 x28 : PV) (S : Store) : E90 b x27 x28 S =
  execL (C b) 1 c89 (k58 b) (ee13 x27 x28) S := nr (rfl)
@[go_sem] theorem k87_n (b : Nat) (x27 x28 : PV) (S : Store) : k87 b .normal (ee13 x27 x28) S =
  condC x28 ((k58 b) .normal (ee13 x27 x28) S)
    (E90 b x27 x28 S) := nr ((show k87 b .normal (ee13 x27 x28) S = execL (C b) 1 c86 (k58 b) (ee13 x27 x28) S from seqC_n _ _ _ _).trans (execL_cond c86_h (execL_skip (by kernel_rfl)) (rfl) rfl))
theorem k87_l (b : Nat) : seqC (fun e S => execL (C b) 1 c86 (k58 b) e S) (k58 b) = k87 b := rfl
@[go_sem] theorem g92 (b : Nat) (K : KT) (x27 : PV) (S : Store) : execL (C b) 1 c85 K (ee12 x27) S =
  withV (evBin .eql (tyi Try.prog 3) x27 (.int .i64 4)) fun x29 =>
    withV (some x29) fun x28 =>
    K .normal (ee13 x27 x28) S := nr (by kernel_rfl)
@[go_sem] theorem k53_n (b : Nat) (x27 : PV) (S : Store) : k53 b .normal (ee12 x27) S =
  execL (C b) 1 c85 (k87 b) (ee12 x27) S := nr ((show k53 b .normal (ee12 x27) S = execL (C b) 0 c52 (k49 b) (ee12 x27) S from seqC_n _ _ _ _).trans ((show execL (C b) 0 c52 (k49 b) (ee12 x27) S = execL (C b) 1 c54 (k55 b) (ee12 x27) S from execL_block c52_h).trans ((enter_seq c54_h (k58_l b)).trans ((enter_seq c56_h (k87_l b)).trans (rfl)))))
theorem k53_l (b : Nat) : seqC (fun e S => execL (C b) 0 c52 (k49 b) e S) (k49 b) = k53 b := rfl
@[go_sem] theorem g93 (b : Nat) (K : KT) (x0 x4 x19 : PV) (S : Store) : execL (C b) 0 c51 K (ee4 x0 x4 x19) S =
  withV (some x0) fun x27 =>
    K .normal (ee12 x27) S := nr (by kernel_rfl)
noncomputable def E43 (b : Nat) (x0 x4 x19 : PV) (S : Store) : RT := execL (C b) 0 c41 (k15 b) (ee4 x0 x4 x19) S
@[go_sem] theorem E43_eq (b : Nat) (x0 x4 x19 : PV) (S : Store) : E43 b x0 x4 x19 S =
  execL (C b) 0 c51 (k53 b) (ee4 x0 x4 x19) S := nr ((enter_seq c41_h (k49_l b)).trans ((enter_seq c44_h (k53_l b)).trans (rfl)))
noncomputable def c95 : Code := at0 c42
noncomputable def c96 : Code := at1 c42
theorem c42_h : c42 = .seq c95 c96 := by kernel_rfl
noncomputable def k97 (b : Nat) : KT := seqC (fun e S => execL (C b) 0 c96 (k15 b) e S) (k15 b)
noncomputable def c98 : Code := atT c96
noncomputable def c99 : Code := atF c96
theorem c96_h : c96 = .cond (.tmp 37) c98 c99 := by kernel_rfl
noncomputable def c101 : Code := at0 c98
noncomputable def c102 : Code := at1 c98
theorem c98_h : c98 = .seq c101 c102 := by kernel_rfl
noncomputable def k103 (b : Nat) : KT := seqC (fun e S => execL (C b) 0 c102 (k15 b) e S) (k15 b)
@[go_sem] theorem k103_n (b : Nat) (x2 x3 : PV) (S : Store) : k103 b .normal (ee5 x2 x3) S =
  (k15 b) .ret (ee5 x2 x3) S := nr ((show k103 b .normal (ee5 x2 x3) S = execL (C b) 0 c102 (k15 b) (ee5 x2 x3) S from seqC_n _ _ _ _).trans (execL_ret (by kernel_rfl)))
theorem k103_l (b : Nat) : seqC (fun e S => execL (C b) 0 c102 (k15 b) e S) (k15 b) = k103 b := rfl
@[go_sem] theorem g104 (b : Nat) (K : KT) (x4 x37 : PV) (S : Store) : execL (C b) 0 c101 K (ee6 x4 x37) S =
  withN (buildSliceO Try.prog 22 (List.length S) 2 [0, 1] [PV.cells (.int .i64 1), PV.cells (.int .i64 1)]) S fun x49 S =>
    withV (some (.bool false)) fun x2 =>
    withV (some x49) fun x3 =>
    K .normal (ee5 x2 x3) S := nr (by kernel_rfl)
noncomputable def E100 (b : Nat) (x4 x37 : PV) (S : Store) : RT := execL (C b) 0 c98 (k15 b) (ee6 x4 x37) S
@[go_sem] theorem E100_eq (b : Nat) (x4 x37 : PV) (S : Store) : E100 b x4 x37 S =
  execL (C b) 0 c101 (k103 b) (ee6 x4 x37) S := nr ((enter_seq c98_h (k103_l b)).trans (rfl))
noncomputable def c106 : Code := at0 c99
noncomputable def c107 : Code := at1 c99
theorem c99_h : c99 = .seq c106 c107 := by kernel_rfl
noncomputable def k108 (b : Nat) : KT := seqC (fun e S => execL (C b) 0 c107 (k15 b) e S) (k15 b)
noncomputable def c109 : Code := atT c107
noncomputable def c110 : Code := atF c107
theorem c107_h : c107 = .cond (.tmp 50) c109 c110 := by kernel_rfl
noncomputable def c112 : Code := at0 c109
noncomputable def c113 : Code := at1 c109
theorem c109_h : c109 = .seq c112 c113 := by kernel_rfl
noncomputable def k114 (b : Nat) : KT := seqC (fun e S => execL (C b) 0 c113 (k15 b) e S) (k15 b)
@[go_sem] theorem k114_n (b : Nat) (x2 x3 : PV) (S : Store) : k114 b .normal (ee5 x2 x3) S =
  (k15 b) .ret (ee5 x2 x3) S := nr ((show k114 b .normal (ee5 x2 x3) S = execL (C b) 0 c113 (k15 b) (ee5 x2 x3) S from seqC_n _ _ _ _).trans (execL_ret (by kernel_rfl)))
theorem k114_l (b : Nat) : seqC (fun e S => execL (C b) 0 c113 (k15 b) e S) (k15 b) = k114 b := rfl
@[go_sem] theorem g115 (b : Nat) (K : KT) (x4 x50 : PV) (S : Store) : execL (C b) 0 c112 K (ee7 x4 x50) S =
  withN (buildSliceO Try.prog 22 (List.length S) 2 [0, 1] [PV.cells (.int .i64 2), PV.cells (.int .i64 2)]) S fun x55 S =>
    withV (some (.bool false)) fun x2 =>
    withV (some x55) fun x3 =>
    K .normal (ee5 x2 x3) S := nr (by kernel_rfl)
noncomputable def E111 (b : Nat) (x4 x50 : PV) (S : Store) : RT := execL (C b) 0 c109 (k15 b) (ee7 x4 x50) S
@[go_sem] theorem E111_eq (b : Nat) (x4 x50 : PV) (S : Store) : E111 b x4 x50 S =
  execL (C b) 0 c112 (k114 b) (ee7 x4 x50) S := nr ((enter_seq c109_h (k114_l b)).trans (rfl))
noncomputable def c117 : Code := at0 c110
noncomputable def c118 : Code := at1 c110
theorem c110_h : c110 = .seq c117 c118 := by kernel_rfl
noncomputable def k119 (b : Nat) : KT := seqC (fun e S => execL (C b) 0 c118 (k15 b) e S) (k15 b)
noncomputable def c120 : Code := atT c118
noncomputable def c121 : Code := atF c118
theorem c118_h : c118 = .cond (.tmp 56) c120 c121 := by kernel_rfl
noncomputable def c123 : Code := at0 c120
noncomputable def c124 : Code := at1 c120
theorem c120_h : c120 = .seq c123 c124 := by kernel_rfl
noncomputable def k125 (b : Nat) : KT := seqC (fun e S => execL (C b) 0 c124 (k15 b) e S) (k15 b)
@[go_sem] theorem k125_n (b : Nat) (x2 x3 : PV) (S : Store) : k125 b .normal (ee5 x2 x3) S =
  (k15 b) .ret (ee5 x2 x3) S := nr ((show k125 b .normal (ee5 x2 x3) S = execL (C b) 0 c124 (k15 b) (ee5 x2 x3) S from seqC_n _ _ _ _).trans (execL_ret (by kernel_rfl)))
theorem k125_l (b : Nat) : seqC (fun e S => execL (C b) 0 c124 (k15 b) e S) (k15 b) = k125 b := rfl
@[go_sem] theorem g126 (b : Nat) (K : KT) (x4 x56 : PV) (S : Store) : execL (C b) 0 c123 K (ee8 x4 x56) S =
  withN (buildSliceO Try.prog 22 (List.length S) 1 [0] [PV.cells (.int .i64 2)]) S fun x59 S =>
    withV (some (.bool true)) fun x2 =>
    withV (some x59) fun x3 =>
    K .normal (ee5 x2 x3) S := nr (by kernel_rfl)
noncomputable def E122 (b : Nat) (x4 x56 : PV) (S : Store) : RT := execL (C b) 0 c120 (k15 b) (ee8 x4 x56) S
@[go_sem] theorem E122_eq (b : Nat) (x4 x56 : PV) (S : Store) : E122 b x4 x56 S =
  execL (C b) 0 c123 (k125 b) (ee8 x4 x56) S := nr ((enter_seq c120_h (k125_l b)).trans (rfl))
noncomputable def c128 : Code := at0 c121
noncomputable def c129 : Code := at1 c121
theorem c121_h : c121 = .seq c128 c129 := by kernel_rfl
noncomputable def k130 (b : Nat) : KT := seqC (fun e S => execL (C b) 0 c129 (k15 b) e S) (k15 b)
noncomputable def c131 : Code := atT c129
noncomputable def c132 : Code := atF c129
theorem c129_h : c129 = .cond (.tmp 60) c131 c132 := by kernel_rfl
noncomputable def c134 : Code := at0 c131
noncomputable def c135 : Code := at1 c131
theorem c131_h : c131 = .seq c134 c135 := by kernel_rfl
noncomputable def k136 (b : Nat) : KT := seqC (fun e S => execL (C b) 0 c135 (k15 b) e S) (k15 b)
@[go_sem] theorem k136_n (b : Nat) (x2 x3 : PV) (S : Store) : k136 b .normal (ee5 x2 x3) S =
  (k15 b) .ret (ee5 x2 x3) S := nr ((show k136 b .normal (ee5 x2 x3) S = execL (C b) 0 c135 (k15 b) (ee5 x2 x3) S from seqC_n _ _ _ _).trans (execL_ret (by kernel_rfl)))
theorem k136_l (b : Nat) : seqC (fun e S => execL (C b) 0 c135 (k15 b) e S) (k15 b) = k136 b := rfl
@[go_sem] theorem g137 (b : Nat) (K : KT) (x4 x60 : PV) (S : Store) : execL (C b) 0 c134 K (ee9 x4 x60) S =
  withN (buildSliceO Try.prog 22 (List.length S) 2 [0, 1] [PV.cells (.int .i64 3), PV.cells (.int .i64 2)]) S fun x63 S =>
    withV (some (.bool false)) fun x2 =>
    withV (some x63) fun x3 =>
    K .normal (ee5 x2 x3) S := nr (by kernel_rfl)
noncomputable def E133 (b : Nat) (x4 x60 : PV) (S : Store) : RT := execL (C b) 0 c131 (k15 b) (ee9 x4 x60) S
@[go_sem] theorem E133_eq (b : Nat) (x4 x60 : PV) (S : Store) : E133 b x4 x60 S =
  execL (C b) 0 c134 (k136 b) (ee9 x4 x60) S := nr ((enter_seq c131_h (k136_l b)).trans (rfl))
noncomputable def c139 : Code := at0 c132
noncomputable def c140 : Code := at1 c132
theorem c132_h : c132 = .seq c139 c140 := by kernel_rfl
noncomputable def k141 (b : Nat) : KT := seqC (fun e S => execL (C b) 0 c140 (k15 b) e S) (k15 b)
noncomputable def c142 : Code := atT c140
noncomputable def c143 : Code := atF c140
theorem c140_h : c140 = .cond (.tmp 64) c142 c143 := by kernel_rfl
noncomputable def c145 : Code := at0 c142
noncomputable def c146 : Code := at1 c142
theorem c142_h : c142 = .seq c145 c146 := by kernel_rfl
noncomputable def k147 (b : Nat) : KT := seqC (fun e S => execL (C b) 0 c146 (k15 b) e S) (k15 b)
@[go_sem] theorem k147_n (b : Nat) (x2 x3 : PV) (S : Store) : k147 b .normal (ee5 x2 x3) S =
  (k15 b) .ret (ee5 x2 x3) S := nr ((show k147 b .normal (ee5 x2 x3) S = execL (C b) 0 c146 (k15 b) (ee5 x2 x3) S from seqC_n _ _ _ _).trans (execL_ret (by kernel_rfl)))
theorem k147_l (b : Nat) : seqC (fun e S => execL (C b) 0 c146 (k15 b) e S) (k15 b) = k147 b := rfl
@[go_sem] theorem g148 (b : Nat) (K : KT) (x4 x64 : PV) (S : Store) : execL (C b) 0 c145 K (ee10 x4 x64) S =
  withN (buildSliceO Try.prog 22 (List.length S) 1 [0] [PV.cells (.int .i64 1)]) S fun x68 S =>
    withV (some (.bool true)) fun x2 =>
    withV (some x68) fun x3 =>
    K .normal (ee5 x2 x3) S := nr (by kernel_rfl)
noncomputable def E144 (b : Nat) (x4 x64 : PV) (S : Store) : RT := execL (C b) 0 c142 (k15 b) (ee10 x4 x64) S
@[go_sem] theorem E144_eq (b : Nat) (x4 x64 : PV) (S : Store) : E144 b x4 x64 S =
  execL (C b) 0 c145 (k147 b) (ee10 x4 x64) S := nr ((enter_seq c142_h (k147_l b)).trans (rfl))
noncomputable def c150 : Code := at0 c143
noncomputable def c151 : Code := at1 c143
theorem c143_h : c143 = .seq c150 c151 := by kernel_rfl
noncomputable def k152 (b : Nat) : KT := seqC (fun e S => execL (C b) 0 c151 (k15 b) e S) (k15 b)
noncomputable def c153 : Code := atT c151
noncomputable def c154 : Code := atF c151
theorem c151_h : c151 = .cond (.tmp 69) c153 c154 := by kernel_rfl
noncomputable def c156 : Code := at0 c153
noncomputable def c157 : Code := at1 c153
theorem c153_h : c153 = .seq c156 c157 := by kernel_rfl
noncomputable def k158 (b : Nat) : KT := seqC (fun e S => execL (C b) 0 c157 (k15 b) e S) (k15 b)
@[go_sem] theorem k158_n (b : Nat) (x2 x3 : PV) (S : Store) : k158 b .normal (ee5 x2 x3) S =
  (k15 b) .ret (ee5 x2 x3) S := nr ((show k158 b .normal (ee5 x2 x3) S = execL (C b) 0 c157 (k15 b) (ee5 x2 x3) S from seqC_n _ _ _ _).trans (execL_ret (by kernel_rfl)))
theorem k158_l (b : Nat) : seqC (fun e S => execL (C b) 0 c157 (k15 b) e S) (k15 b) = k158 b := rfl
@[go_sem] theorem g159 (b : Nat) (K : KT) (x4 x69 : PV) (S : Store) : execL (C b) 0 c156 K (ee11 x4 x69) S =
  withN (buildSliceO Try.prog 22 (List.length S) 2 [0, 1] [PV.cells (.int .i64 3), PV.cells (.int .i64 3)]) S fun x72 S =>
    withV (some (.bool false)) fun x2 =>
    withV (some x72) fun x3 =>
    K .normal (ee5 x2 x3) S := nr (by kernel_rfl)
noncomputable def E155 (b : Nat) (x4 x69 : PV) (S : Store) : RT := execL (C b) 0 c153 (k15 b) (ee11 x4 x69) S
@[go_sem] theorem E155_eq (b : Nat) (x4 x69 : PV) (S : Store) : E155 b x4 x69 S =
  execL (C b) 0 c156 (k158 b) (ee11 x4 x69) S := nr ((enter_seq c153_h (k158_l b)).trans (rfl))
@[go_sem] theorem k152_n (b : Nat) (x4 x69 : PV) (S : Store) : k152 b .normal (ee11 x4 x69) S =
  condC x69 (E155 b x4 x69 S)
    ((k15 b) .normal (ee11 x4 x69) S) := nr ((show k152 b .normal (ee11 x4 x69) S = execL (C b) 0 c151 (k15 b) (ee11 x4 x69) S from seqC_n _ _ _ _).trans (execL_cond c151_h (rfl) (execL_skip (by kernel_rfl)) rfl))
theorem k152_l (b : Nat) : seqC (fun e S => execL (C b) 0 c151 (k15 b) e S) (k15 b) = k152 b := rfl
noncomputable def c160 : Code := at0 c150
noncomputable def c161 : Code := at1 c150
theorem c150_h : c150 = .seq c160 c161 := by kernel_rfl
noncomputable def k162 (b : Nat) : KT := seqC (fun e S => execL (C b) 0 c161 (k152 b) e S) (k152 b)
noncomputable def c163 : Code := atT c161
noncomputable def c164 : Code := atF c161
theorem c161_h : c161 = .cond (.tmp 69) c163 c164 := by kernel_rfl
@[go_sem] theorem g166 (b : Nat) (K : KT) (x4 x69 : PV) (S : Store) : execL (C b) 0 c164 K (ee11 x4 x69) S =
  withV (evBin .eql (tyi Try.prog 3) x4 (.int .i64 58)) fun x71 =>
    withV (some x71) fun x69 =>
    K .normal (ee11 x4 x69) S := nr (by kernel_rfl)
noncomputable def E165 (b : Nat) (x4 x69 : PV) (S : Store) : RT := execL (C b) 0 c164 (k152 b) (ee11 x4 x69) S
@[go_sem] theorem E165_eq (b : Nat) (x4 x69 : PV) (S : Store) : E165 b x4 x69 S =
  execL (C b) 0 c164 (k152 b) (ee11 x4 x69) S := nr (rfl)
@[go_sem] theorem k162_n (b : Nat) (x4 x69 : PV) (S : Store) : k162 b .normal (ee11 x4 x69) S =
  condC x69 ((k152 b) .normal (ee11 x4 x69) S)
    (E165 b x4 x69 S) := nr ((show k162 b .normal (ee11 x4 x69) S = execL (C b) 0 c161 (k152 b) (ee11 x4 x69) S from seqC_n _ _ _ _).trans (execL_cond c161_h (execL_skip (by kernel_rfl)) (rfl) rfl))
theorem k162_l (b : Nat) : seqC (fun e S => execL (C b) 0 c161 (k152 b) e S) (k152 b) = k162 b := rfl
@[go_sem] theorem g167 (b : Nat) (K : KT) (x4 x64 : PV) (S : Store) : execL (C b) 0 c160 K (ee10 x4 x64) S =
  withV (evBin .eql (tyi Try.prog 3) x4 (.int .i64 57)) fun x70 =>
    withV (some x70) fun x69 =>
    K .normal (ee11 x4 x69) S := nr (by kernel_rfl)
noncomputable def E149 (b : Nat) (x4 x64 : PV) (S : Store) : RT := execL (C b) 0 c143 (k15 b) (ee10 x4 x64) S
@[go_sem] theorem E149_eq (b : Nat) (x4 x64 : PV) (S : Store) : E149 b x4 x64 S =
  execL (C b) 0 c160 (k162 b) (ee10 x4 x64) S := nr ((enter_seq c143_h (k152_l b)).trans ((enter_seq c150_h (k162_l b)).trans (rfl)))
@[go_sem] theorem k141_n (b : Nat) (x4 x64 : PV) (S : Store) : k141 b .normal (ee10 x4 x64) S =
  condC x64 (E144 b x4 x64 S)
    (E149 b x4 x64 S) := nr ((show k141 b .normal (ee10 x4 x64) S = execL (C b) 0 c140 (k15 b) (ee10 x4 x64) S from seqC_n _ _ _ _).trans (execL_cond c140_h (rfl) (rfl) rfl))
theorem k141_l (b : Nat) : seqC (fun e S => execL (C b) 0 c140 (k15 b) e S) (k15 b) = k141 b := rfl
noncomputable def c168 : Code := at0 c139
noncomputable def c169 : Code := at1 c139
theorem c139_h : c139 = .seq c168 c169 := by kernel_rfl
noncomputable def k170 (b : Nat) : KT := seqC (fun e S => execL (C b) 0 c169 (k141 b) e S) (k141 b)
noncomputable def c171 : Code := atT c169
noncomputable def c172 : Code := atF c169
theorem c169_h : c169 = .cond (.tmp 64) c171 c172 := by kernel_rfl
noncomputable def c174 : Code := at0 c172
noncomputable def c175 : Code := at1 c172
theorem c172_h : c172 = .seq c174 c175 := by kernel_rfl
noncomputable def k176 (b : Nat) : KT := seqC (fun e S => execL (C b) 0 c175 (k141 b) e S) (k141 b)
noncomputable def c177 : Code := atT c175
noncomputable def c178 : Code := atF c175
theorem c175_h : c175 = .cond (.tmp 64) c177 c178 := by kernel_rfl
@[go_sem] theorem g180 (b : Nat) (K : KT) (x4 x64 : PV) (S : Store) : execL (C b) 0 c178 K (ee10 x4 x64) S =
  withV (evBin .eql (tyi Try.prog 3) x4 (.int .i64 55)) fun x67 =>
    withV (some x67) fun x64 =>
    K .normal (ee10 x4 x64) S := nr (by kernel_rfl)
noncomputable def E179 (b : Nat) (x4 x64 : PV) (S : Store) : RT := execL (C b) 0 c178 (k141 b) (ee10 x4 x64) S
@[go_sem] theorem E179_eq (b : Nat) (x4 x64 : PV) (S : Store) : E179 b x4 x64 S =
  execL (C b) 0 c178 (k141 b) (ee10 x4 x64) S := nr (rfl)
@[go_sem] theorem k176_n (b : Nat) (x4 x64 : PV) (S : Store) : k176 b .normal (ee10 x4 x64) S =
  condC x64 ((k141 b) .normal (ee10 x4 x64) S)
    (E179 b x4 x64 S) := nr ((show k176 b .normal (ee10 x4 x64) S = execL (C b) 0 c175 (k141 b) (ee10 x4 x64) S from seqC_n _ _ _ _).trans (execL_cond c175_h (execL_skip (by kernel_rfl)) (rfl) rfl))
theorem k176_l (b : Nat) : seqC (fun e S => execL (C b) 0 c175 (k141 b) e S) (k141 b) = k176 b := rfl
@[go_sem] theorem g181 (b : Nat) (K : KT) (x4 x64 : PV) (S : Store) : execL (C b) 0 c174 K (ee10 x4 x64) S =
  withV (evBin .eql (tyi Try.prog 3) x4 (.int .i64 51)) fun x66 =>
    withV (some x66) fun x64 =>
    K .normal (ee10 x4 x64) S := nr (by kernel_rfl)
noncomputable def E173 (b : Nat) (x4 x64 : PV) (S : Store) : RT := execL (C b) 0 c172 (k141 b) (ee10 x4 x64) S
@[go_sem] theorem E173_eq (b : Nat) (x4 x64 : PV) (S : Store) : E173 b x4 x64 S =
  execL (C b) 0 c174 (k176 b) (ee10 x4 x64) S := nr ((enter_seq c172_h (k176_l b)).trans (rfl))
@[go_sem] theorem k170_n (b : Nat) (x4 x64 : PV) (S : Store) : k170 b .normal (ee10 x4 x64) S =
  condC x64 ((k141 b) .normal (ee10 x4 x64) S)
    (E173 b x4 x64 S) := nr ((show k170 b .normal (ee10 x4 x64) S = execL (C b) 0 c169 (k141 b) (ee10 x4 x64) S from seqC_n _ _ _ _).trans (execL_cond c169_h (execL_skip (by kernel_rfl)) (rfl) rfl))
theorem k170_l (b : Nat) : seqC (fun e S => execL (C b) 0 c169 (k141 b) e S) (k141 b) = k170 b := rfl
@[go_sem] theorem g182 (b : Nat) (K : KT) (x4 x60 : PV) (S : Store) : execL (C b) 0 c168 K (ee9 x4 x60) S =
  withV (evBin .eql (tyi Try.prog 3) x4 (.int .i64 50)) fun x65 =>
    withV (some x65) fun x64 =>
    K .normal (ee10 x4 x64) S := nr (by kernel_rfl)
noncomputable def E138 (b : Nat) (x4 x60 : PV) (S : Store) : RT := execL (C b) 0 c132 (k15 b) (ee9 x4 x60) S
@[go_sem] theorem E138_eq (b : Nat) (x4 x60 : PV) (S : Store) : E138 b x4 x60 S =
  execL (C b) 0 c168 (k170 b) (ee9 x4 x60) S := nr ((enter_seq c132_h (k141_l b)).trans ((enter_seq c139_h (k170_l b)).trans (rfl)))
@[go_sem] theorem k130_n (b : Nat) (x4 x60 : PV) (S : Store) : k130 b .normal (ee9 x4 x60) S =
  condC x60 (E133 b x4 x60 S)
    (E138 b x4 x60 S) := nr ((show k130 b .normal (ee9 x4 x60) S = execL (C b) 0 c129 (k15 b) (ee9 x4 x60) S from seqC_n _ _ _ _).trans (execL_cond c129_h (rfl) (rfl) rfl))
theorem k130_l (b : Nat) : seqC (fun e S => execL (C b) 0 c129 (k15 b) e S) (k15 b) = k130 b := rfl
noncomputable def c183 : Code := at0 c128
noncomputable def c184 : Code := at1 c128
theorem c128_h : c128 = .seq c183 c184 := by kernel_rfl
noncomputable def k185 (b : Nat) : KT := seqC (fun e S => execL (C b) 0 c184 (k130 b) e S) (k130 b)
noncomputable def c186 : Code := atT c184
noncomputable def c187 : Code := atF c184
theorem c184_h : c184 = .cond (.tmp 60) c186 c187 := by kernel_rfl
@[go_sem] theorem g189 (b : Nat) (K : KT) (x4 x60 : PV) (S : Store) : execL (C b) 0 c187 K (ee9 x4 x60) S =
  withV (evBin .eql (tyi Try.prog 3) x4 (.int .i64 36)) fun x62 =>
    withV (some x62) fun x60 =>
    K .normal (ee9 x4 x60) S := nr (by kernel_rfl)
noncomputable def E188 (b : Nat) (x4 x60 : PV) (S : Store) : RT := execL (C b) 0 c187 (k130 b) (ee9 x4 x60) S
@[go_sem] theorem E188_eq (b : Nat) (x4 x60 : PV) (S : Store) : E188 b x4 x60 S =
  execL (C b) 0 c187 (k130 b) (ee9 x4 x60) S := nr (rfl)
@[go_sem] theorem k185_n (b : Nat) (x4 x60 : PV) (S : Store) : k185 b .normal (ee9 x4 x60) S =
  condC x60 ((k130 b) .normal (ee9 x4 x60) S)
    (E188 b x4 x60 S) := nr ((show k185 b .normal (ee9 x4 x60) S = execL (C b) 0 c184 (k130 b) (ee9 x4 x60) S from seqC_n _ _ _ _).trans (execL_cond c184_h (execL_skip (by kernel_rfl)) (rfl) rfl))
theorem k185_l (b : Nat) : seqC (fun e S => execL (C b) 0 c184 (k130 b) e S) (k130 b) = k185 b := rfl
@[go_sem] theorem g190 (b : Nat) (K : KT) (x4 x56 : PV) (S : Store) : execL (C b) 0 c183 K (ee8 x4 x56) S =
  withV (evBin .eql (tyi Try.prog 3) x4 (.int .i64 35)) fun x61 =>
    withV (some x61) fun x60 =>
    K .normal (ee9 x4 x60) S := nr (by kernel_rfl)
noncomputable def E127 (b : Nat) (x4 x56 : PV) (S : Store) : RT := execL (C b) 0 c121 (k15 b) (ee8 x4 x56) S
@[go_sem] theorem E127_eq (b : Nat) (x4 x56 : PV) (S : Store) : E127 b x4 x56 S =
  execL (C b) 0 c183 (k185 b) (ee8 x4 x56) S := nr ((enter_seq c121_h (k130_l b)).trans ((enter_seq c128_h (k185_l b)).trans (rfl)))
@[go_sem] theorem k119_n (b : Nat) (x4 x56 : PV) (S : Store) : k119 b .normal (ee8 x4 x56) S =
  condC x56 (E122 b x4 x56 S)
    (E127 b x4 x56 S) := nr ((show k119 b .normal (ee8 x4 x56) S = execL (C b) 0 c118 (k15 b) (ee8 x4 x56) S from seqC_n _ _ _ _).trans (execL_cond c118_h (rfl) (rfl) rfl))
theorem k119_l (b : Nat) : seqC (fun e S => execL (C b) 0 c118 (k15 b) e S) (k15 b) = k119 b := rfl
noncomputable def c191 : Code := at0 c117
noncomputable def c192 : Code := at1 c117
theorem c117_h : c117 = .seq c191 c192 := by kernel_rfl
noncomputable def k193 (b : Nat) : KT := seqC (fun e S => execL (C b) 0 c192 (k119 b) e S) (k119 b)
noncomputable def c194 : Code := atT c192
noncomputable def c195 : Code := atF c192
theorem c192_h : c192 = .cond (.tmp 56) c194 c195 := by kernel_rfl
@[go_sem] theorem g197 (b : Nat) (K : KT) (x4 x56 : PV) (S : Store) : execL (C b) 0 c195 K (ee8 x4 x56) S =
  withV (evBin .eql (tyi Try.prog 3) x4 (.int .i64 34)) fun x58 =>
    withV (some x58) fun x56 =>
    K .normal (ee8 x4 x56) S := nr (by kernel_rfl)
noncomputable def E196 (b : Nat) (x4 x56 : PV) (S : Store) : RT := execL (C b) 0 c195 (k119 b) (ee8 x4 x56) S
@[go_sem] theorem E196_eq (b : Nat) (x4 x56 : PV) (S : Store) : E196 b x4 x56 S =
  execL (C b) 0 c195 (k119 b) (ee8 x4 x56) S := nr (rfl)
@[go_sem] theorem k193_n (b : Nat) (x4 x56 : PV) (S : Store) : k193 b .normal (ee8 x4 x56) S =
  condC x56 ((k119 b) .normal (ee8 x4 x56) S)
    (E196 b x4 x56 S) := nr ((show k193 b .normal (ee8 x4 x56) S = execL (C b) 0 c192 (k119 b) (ee8 x4 x56) S from seqC_n _ _ _ _).trans (execL_cond c192_h (execL_skip (by kernel_rfl)) (rfl) rfl))
theorem k193_l (b : Nat) : seqC (fun e S => execL (C b) 0 c192 (k119 b) e S) (k119 b) = k193 b := rfl
@[go_sem] theorem g198 (b : Nat) (K : KT) (x4 x50 : PV) (S : Store) : execL (C b) 0 c191 K (ee7 x4 x50) S =
  withV (evBin .eql (tyi Try.prog 3) x4 (.int .i64 33)) fun x57 =>
    withV (some x57) fun x56 =>
    K .normal (ee8 x4 x56) S := nr (by kernel_rfl)
noncomputable def E116 (b : Nat) (x4 x50 : PV) (S : Store) : RT := execL (C b) 0 c110 (k15 b) (ee7 x4 x50) S
@[go_sem] theorem E116_eq (b : Nat) (x4 x50 : PV) (S : Store) : E116 b x4 x50 S =
  execL (C b) 0 c191 (k193 b) (ee7 x4 x50) S := nr ((enter_seq c110_h (k119_l b)).trans ((enter_seq c117_h (k193_l b)).trans (rfl)))
@[go_sem] theorem k108_n (b : Nat) (x4 x50 : PV) (S : Store) : k108 b .normal (ee7 x4 x50) S =
  condC x50 (E111 b x4 x50 S)
    (E116 b x4 x50 S) := nr ((show k108 b .normal (ee7 x4 x50) S = execL (C b) 0 c107 (k15 b) (ee7 x4 x50) S from seqC_n _ _ _ _).trans (execL_cond c107_h (rfl) (rfl) rfl))
theorem k108_l (b : Nat) : seqC (fun e S => execL (C b) 0 c107 (k15 b) e S) (k15 b) = k108 b := rfl
noncomputable def c199 : Code := at0 c106
noncomputable def c200 : Code := at1 c106
theorem c106_h : c106 = .seq c199 c200 := by kernel_rfl
noncomputable def k201 (b : Nat) : KT := seqC (fun e S => execL (C b) 0 c200 (k108 b) e S) (k108 b)
noncomputable def c202 : Code := atT c200
noncomputable def c203 : Code := atF c200
theorem c200_h : c200 = .cond (.tmp 50) c202 c203 := by kernel_rfl
noncomputable def c205 : Code := at0 c203
noncomputable def c206 : Code := at1 c203
theorem c203_h : c203 = .seq c205 c206 := by kernel_rfl
noncomputable def k207 (b : Nat) : KT := seqC (fun e S => execL (C b) 0 c206 (k108 b) e S) (k108 b)
noncomputable def c208 : Code := atT c206
noncomputable def c209 : Code := atF c206
theorem c206_h : c206 = .cond (.tmp 50) c208 c209 := by kernel_rfl
noncomputable def c211 : Code := at0 c209
noncomputable def c212 : Code := at1 c209
theorem c209_h : c209 = .seq c211 c212 := by kernel_rfl
noncomputable def k213 (b : Nat) : KT := seqC (fun e S => execL (C b) 0 c212 (k108 b) e S) (k108 b)
noncomputable def c214 : Code := atT c212
noncomputable def c215 : Code := atF c212
theorem c212_h : c212 = .cond (.tmp 50) c214 c215 := by kernel_rfl
@[go_sem] theorem g217 (b : Nat) (K : KT) (x4 x50 : PV) (S : Store) : execL (C b) 0 c215 K (ee7 x4 x50) S =
  withV (evBin .eql (tyi Try.prog 3) x4 (.int .i64 32)) fun x54 =>
    withV (some x54) fun x50 =>
    K .normal (ee7 x4 x50) S := nr (by kernel_rfl)
noncomputable def E216 (b : Nat) (x4 x50 : PV) (S : Store) : RT := execL (C b) 0 c215 (k108 b) (ee7 x4 x50) S
@[go_sem] theorem E216_eq (b : Nat) (x4 x50 : PV) (S : Store) : E216 b x4 x50 S =
  execL (C b) 0 c215 (k108 b) (ee7 x4 x50) S := nr (rfl)
@[go_sem] theorem k213_n (b : Nat) (x4 x50 : PV) (S : Store) : k213 b .normal (ee7 x4 x50) S =
  condC x50 ((k108 b) .normal (ee7 x4 x50) S)
    (E216 b x4 x50 S) := nr ((show k213 b .normal (ee7 x4 x50) S = execL (C b) 0 c212 (k108 b) (ee7 x4 x50) S from seqC_n _ _ _ _).trans (execL_cond c212_h (execL_skip (by kernel_rfl)) (rfl) rfl))
theorem k213_l (b : Nat) : seqC (fun e S => execL (C b) 0 c212 (k108 b) e S) (k108 b) = k213 b := rfl
@[go_sem] theorem g218 (b : Nat) (K : KT) (x4 x50 : PV) (S : Store) : execL (C b) 0 c211 K (ee7 x4 x50) S =
  withV (evBin .eql (tyi Try.prog 3) x4 (.int .i64 31)) fun x53 =>
    withV (some x53) fun x50 =>
    K .normal (ee7 x4 x50) S := nr (by kernel_rfl)
noncomputable def E210 (b : Nat) (x4 x50 : PV) (S : Store) : RT := execL (C b) 0 c209 (k108 b) (ee7 x4 x50) S
@[go_sem] theorem E210_eq (b : Nat) (x4 x50 : PV) (S : Store) : E210 b x4 x50 S =
  execL (C b) 0 c211 (k213 b) (ee7 x4 x50) S := nr ((enter_seq c209_h (k213_l b)).trans (rfl))
@[go_sem] theorem k207_n (b : Nat) (x4 x50 : PV) (S : Store) : k207 b .normal (ee7 x4 x50) S =
  condC x50 ((k108 b) .normal (ee7 x4 x50) S)
    (E210 b x4 x50 S) := nr ((show k207 b .normal (ee7 x4 x50) S = execL (C b) 0 c206 (k108 b) (ee7 x4 x50) S from seqC_n _ _ _ _).trans (execL_cond c206_h (execL_skip (by kernel_rfl)) (rfl) rfl))
theorem k207_l (b : Nat) : seqC (fun e S => execL (C b) 0 c206 (k108 b) e S) (k108 b) = k207 b := rfl
@[go_sem] theorem g219 (b : Nat) (K : KT) (x4 x50 : PV) (S : Store) : execL (C b) 0 c205 K (ee7 x4 x50) S =
  withV (evBin .eql (tyi Try.prog 3) x4 (.int .i64 30)) fun x52 =>
    withV (some x52) fun x50 =>
    K .normal (ee7 x4 x50) S := nr (by kernel_rfl)
noncomputable def E204 (b : Nat) (x4 x50 : PV) (S : Store) : RT := execL (C b) 0 c203 (k108 b) (ee7 x4 x50) S
@[go_sem] theorem E204_eq (b : Nat) (x4 x50 : PV) (S : Store) : E204 b x4 x50 S =
  execL (C b) 0 c205 (k207 b) (ee7 x4 x50) S := nr ((enter_seq c203_h (k207_l b)).trans (rfl))
@[go_sem] theorem k201_n (b : Nat) (x4 x50 : PV) (S : Store) : k201 b .normal (ee7 x4 x50) S =
  condC x50 ((k108 b) .normal (ee7 x4 x50) S)
    (E204 b x4 x50 S) := nr ((show k201 b .normal (ee7 x4 x50) S = execL (C b) 0 c200 (k108 b) (ee7 x4 x50) S from seqC_n _ _ _ _).trans (execL_cond c200_h (execL_skip (by kernel_rfl)) (rfl) rfl))
theorem k201_l (b : Nat) : seqC (fun e S => execL (C b) 0 c200 (k108 b) e S) (k108 b) = k201 b := rfl
@[go_sem] theorem g220 (b : Nat) (K : KT) (x4 x37 : PV) (S : Store) : execL (C b) 0 c199 K (ee6 x4 x37) S =
  withV (evBin .eql (tyi Try.prog 3) x4 (.int .i64 29)) fun x51 =>
    withV (some x51) fun x50 =>
    K .normal (ee7 x4 x50) S := nr (by kernel_rfl)
noncomputable def E105 (b : Nat) (x4 x37 : PV) (S : Store) : RT := execL (C b) 0 c99 (k15 b) (ee6 x4 x37) S
@[go_sem] theorem E105_eq (b : Nat) (x4 x37 : PV) (S : Store) : E105 b x4 x37 S =
  execL (C b) 0 c199 (k201 b) (ee6 x4 x37) S := nr ((enter_seq c99_h (k108_l b)).trans ((enter_seq c106_h (k201_l b)).trans (rfl)))
@[go_sem] theorem k97_n (b : Nat) (x4 x37 : PV) (S : Store) : k97 b .normal (ee6 x4 x37) S =
  condC x37 (E100 b x4 x37 S)
    (E105 b x4 x37 S) := nr ((show k97 b .normal (ee6 x4 x37) S = execL (C b) 0 c96 (k15 b) (ee6 x4 x37) S from seqC_n _ _ _ _).trans (execL_cond c96_h (rfl) (rfl) rfl))
theorem k97_l (b : Nat) : seqC (fun e S => execL (C b) 0 c96 (k15 b) e S) (k15 b) = k97 b := rfl
noncomputable def c221 : Code := at0 c95
noncomputable def c222 : Code := at1 c95
theorem c95_h : c95 = .seq c221 c222 := by kernel_rfl
noncomputable def k223 (b : Nat) : KT := seqC (fun e S => execL (C b) 0 c222 (k97 b) e S) (k97 b)
noncomputable def c224 : Code := atT c222
noncomputable def c225 : Code := atF c222
theorem c222_h : c222 = .cond (.tmp 37) c224 c225 := by kernel_rfl
noncomputable def c227 : Code := at0 c225
noncomputable def c228 : Code := at1 c225
theorem c225_h : c225 = .seq c227 c228 := by kernel_rfl
noncomputable def k229 (b : Nat) : KT := seqC (fun e S => execL (C b) 0 c228 (k97 b) e S) (k97 b)
noncomputable def c230 : Code := atT c228
noncomputable def c231 : Code := atF c228
theorem c228_h : c228 = .cond (.tmp 37) c230 c231 := by kernel_rfl
noncomputable def c233 : Code := at0 c231
noncomputable def c234 : Code := at1 c231
theorem c231_h : c231 = .seq c233 c234 := by kernel_rfl
noncomputable def k235 (b : Nat) : KT := seqC (fun e S => execL (C b) 0 c234 (k97 b) e S) (k97 b)
noncomputable def c236 : Code := atT c234
noncomputable def c237 : Code := atF c234
theorem c234_h : c234 = .cond (.tmp 37) c236 c237 := by kernel_rfl
noncomputable def c239 : Code := at0 c237
noncomputable def c240 : Code := at1 c237
theorem c237_h : c237 = .seq c239 c240 := by kernel_rfl
noncomputable def k241 (b : Nat) : KT := seqC (fun e S => execL (C b) 0 c240 (k97 b) e S) (k97 b)
noncomputable def c242 : Code := atT c240
noncomputable def c243 : Code := atF c240
theorem c240_h : c240 = .cond (.tmp 37) c242 c243 := by kernel_rfl
noncomputable def c245 : Code := at0 c243
noncomputable def c246 : Code := at1 c243
theorem c243_h : c243 = .seq c245 c246 := by kernel_rfl
noncomputable def k247 (b : Nat) : KT := seqC (fun e S => execL (C b) 0 c246 (k97 b) e S) (k97 b)
noncomputable def c248 : Code := atT c246
noncomputable def c249 : Code := atF c246
theorem c246_h : c246 = .cond (.tmp 37) c248 c249 := by kernel_rfl
noncomputable def c251 : Code := at0 c249
noncomputable def c252 : Code := at1 c249
theorem c249_h : c249 = .seq c251 c252 := by kernel_rfl
noncomputable def k253 (b : Nat) : KT := seqC (fun e S => execL (C b) 0 c252 (k97 b) e S) (k97 b)
noncomputable def c254 : Code := atT c252
noncomputable def c255 : Code := atF c252
theorem c252_h : c252 = .cond (.tmp 37) c254 c255 := by kernel_rfl
noncomputable def c257 : Code := at0 c255
noncomputable def c258 : Code := at1 c255
theorem c255_h : c255 = .seq c257 c258 := by kernel_rfl
noncomputable def k259 (b : Nat) : KT := seqC (fun e S => execL (C b) 0 c258 (k97 b) e S) (k97 b)
noncomputable def c260 : Code := atT c258
noncomputable def c261 : Code := atF c258
theorem c258_h : c258 = .cond (.tmp 37) c260 c261 := by kernel_rfl
noncomputable def c263 : Code := at0 c261
noncomputable def c264 : Code := at1 c261
theorem c261_h : c261 = .seq c263 c264 := by kernel_rfl
noncomputable def k265 (b : Nat) : KT := seqC (fun e S => execL (C b) 0 c264 (k97 b) e S) (k97 b)
noncomputable def c266 : Code := atT c264
noncomputable def c267 : Code := atF c264
theorem c264_h : c264 = .cond (.tmp 37) c266 c267 := by kernel_rfl
noncomputable def c269 : Code := at0 c267
noncomputable def c270 : Code := at1 c267
theorem c267_h : c267 = .seq c269 c270 := by kernel_rfl
noncomputable def k271 (b : Nat) : KT := seqC (fun e S => execL (C b) 0 c270 (k97 b) e S) (k97 b)
noncomputable def c272 : Code := atT c270
noncomputable def c273 : Code := atF c270
theorem c270_h : c270 = .cond (.tmp 37) c272 c273 := by kernel_rfl
noncomputable def c275 : Code := at0 c273
noncomputable def c276 : Code := at1 c273
theorem c273_h : c273 = .seq c275 c276 := by kernel_rfl
noncomputable def k277 (b : Nat) : KT := seqC (fun e S => execL (C b) 0 c276 (k97 b) e S) (k97 b)
noncomputable def c278 : Code := atT c276
noncomputable def c279 : Code := atF c276
theorem c276_h : c276 = .cond (.tmp 37) c278 c279 := by kernel_rfl
@[go_sem] theorem g281 (b : Nat) (K : KT) (x4 x37 : PV) (S : Store) : execL (C b) 0 c279 K (ee6 x4 x37) S =
  withV (evBin .eql (tyi Try.prog 3) x4 (.int .i64 27)) fun x48 =>
    withV (some x48) fun x37 =>
    K .normal (ee6 x4 x37) S := nr (by kernel_rfl)
noncomputable def E280 (b : Nat) (x4 x37 : PV) (S : Store) : RT := execL (C b) 0 c279 (k97 b) (ee6 x4 x37) S
@[go_sem] theorem E280_eq (b : Nat) (x4 x37 : PV) (S : Store) : E280 b x4 x37 S =
  execL (C b) 0 c279 (k97 b) (ee6 x4 x37) S := nr (rfl)
@[go_sem] theorem k277_n (b : Nat) (x4 x37 : PV) (S : Store) : k277 b .normal (ee6 x4 x37) S =
  condC x37 ((k97 b) .normal (ee6 x4 x37) S)
    (E280 b x4 x37 S) := nr ((show k277 b .normal (ee6 x4 x37) S = execL (C b) 0 c276 (k97 b) (ee6 x4 x37) S from seqC_n _ _ _ _).trans (execL_cond c276_h (execL_skip (by kernel_rfl)) (rfl) rfl))
theorem k277_l (b : Nat) : seqC (fun e S => execL (C b) 0 c276 (k97 b) e S) (k97 b) = k277 b := rfl
@[go_sem] theorem g282 (b : Nat) (K : KT) (x4 x37 : PV) (S : Store) : execL (C b) 0 c275 K (ee6 x4 x37) S =
  withV (evBin .eql (tyi Try.prog 3) x4 (.int .i64 26)) fun x47 =>
    withV (some x47) fun x37 =>
    K .normal (ee6 x4 x37) S := nr (by kernel_rfl)
noncomputable def E274 (b : Nat) (x4 x37 : PV) (S : Store) : RT := execL (C b) 0 c273 (k97 b) (ee6 x4 x37) S
@[go_sem] theorem E274_eq (b : Nat) (x4 x37 : PV) (S : Store) : E274 b x4 x37 S =
  execL (C b) 0 c275 (k277 b) (ee6 x4 x37) S := nr ((enter_seq c273_h (k277_l b)).trans (rfl))
@[go_sem] theorem k271_n (b : Nat) (x4 x37 : PV) (S : Store) : k271 b .normal (ee6 x4 x37) S =
  condC x37 ((k97 b) .normal (ee6 x4 x37) S)
    (E274 b x4 x37 S) := nr ((show k271 b .normal (ee6 x4 x37) S = execL (C b) 0 c270 (k97 b) (ee6 x4 x37) S from seqC_n _ _ _ _).trans (execL_cond c270_h (execL_skip (by kernel_rfl)) (rfl) rfl))
theorem k271_l (b : Nat) : seqC (fun e S => execL (C b) 0 c270 (k97 b) e S) (k97 b) = k271 b := rfl
@[go_sem] theorem g283 (b : Nat) (K : KT) (x4 x37 : PV) (S : Store) : execL (C b) 0 c269 K (ee6 x4 x37) S =
  withV (evBin .eql (tyi Try.prog 3) x4 (.int .i64 25)) fun x46 =>
    withV (some x46) fun x37 =>
    K .normal (ee6 x4 x37) S := nr (by kernel_rfl)
noncomputable def E268 (b : Nat) (x4 x37 : PV) (S : Store) : RT := execL (C b) 0 c267 (k97 b) (ee6 x4 x37) S
@[go_sem] theorem E268_eq (b : Nat) (x4 x37 : PV) (S : Store) : E268 b x4 x37 S =
  execL (C b) 0 c269 (k271 b) (ee6 x4 x37) S := nr ((enter_seq c267_h (k271_l b)).trans (rfl))
@[go_sem] theorem k265_n (b : Nat) (x4 x37 : PV) (S : Store) : k265 b .normal (ee6 x4 x37) S =
  condC x37 ((k97 b) .normal (ee6 x4 x37) S)
    (E268 b x4 x37 S) := nr ((show k265 b .normal (ee6 x4 x37) S = execL (C b) 0 c264 (k97 b) (ee6 x4 x37) S from seqC_n _ _ _ _).trans (execL_cond c264_h (execL_skip (by kernel_rfl)) (rfl) rfl))
theorem k265_l (b : Nat) : seqC (fun e S => execL (C b) 0 c264 (k97 b) e S) (k97 b) = k265 b := rfl
@[go_sem] theorem g284 (b : Nat) (K : KT) (x4 x37 : PV) (S : Store) : execL (C b) 0 c263 K (ee6 x4 x37) S =
  withV (evBin .eql (tyi Try.prog 3) x4 (.int .i64 24)) fun x45 =>
    withV (some x45) fun x37 =>
    K .normal (ee6 x4 x37) S := nr (by kernel_rfl)
noncomputable def E262 (b : Nat) (x4 x37 : PV) (S : Store) : RT := execL (C b) 0 c261 (k97 b) (ee6 x4 x37) S
@[go_sem] theorem E262_eq (b : Nat) (x4 x37 : PV) (S : Store) : E262 b x4 x37 S =
  execL (C b) 0 c263 (k265 b) (ee6 x4 x37) S := nr ((enter_seq c261_h (k265_l b)).trans (rfl))
@[go_sem] theorem k259_n (b : Nat) (x4 x37 : PV) (S : Store) : k259 b .normal (ee6 x4 x37) S =
  condC x37 ((k97 b) .normal (ee6 x4 x37) S)
    (E262 b x4 x37 S) := nr ((show k259 b .normal (ee6 x4 x37) S = execL (C b) 0 c258 (k97 b) (ee6 x4 x37) S from seqC_n _ _ _ _).trans (execL_cond c258_h (execL_skip (by kernel_rfl)) (rfl) rfl))
theorem k259_l (b : Nat) : seqC (fun e S => execL (C b) 0 c258 (k97 b) e S) (k97 b) = k259 b := rfl
@[go_sem] theorem g285 (b : Nat) (K : KT) (x4 x37 : PV) (S : Store) : execL (C b) 0 c257 K (ee6 x4 x37) S =
  withV (evBin .eql (tyi Try.prog 3) x4 (.int .i64 23)) fun x44 =>
    withV (some x44) fun x37 =>
    K .normal (ee6 x4 x37) S := nr (by kernel_rfl)
noncomputable def E256 (b : Nat) (x4 x37 : PV) (S : Store) : RT := execL (C b) 0 c255 (k97 b) (ee6 x4 x37) S
@[go_sem] theorem E256_eq (b : Nat) (x4 x37 : PV) (S : Store) : E256 b x4 x37 S =
  execL (C b) 0 c257 (k259 b) (ee6 x4 x37) S := nr ((enter_seq c255_h (k259_l b)).trans (rfl))
@[go_sem] theorem k253_n (b : Nat) (x4 x37 : PV) (S : Store) : k253 b .normal (ee6 x4 x37) S =
  condC x37 ((k97 b) .normal (ee6 x4 x37) S)
    (E256 b x4 x37 S) := nr ((show k253 b .normal (ee6 x4 x37) S = execL (C b) 0 c252 (k97 b) (ee6 x4 x37) S from seqC_n _ _ _ _).trans (execL_cond c252_h (execL_skip (by kernel_rfl)) (rfl) rfl))
theorem k253_l (b : Nat) : seqC (fun e S => execL (C b) 0 c252 (k97 b) e S) (k97 b) = k253 b := rfl
@[go_sem] theorem g286 (b : Nat) (K : KT) (x4 x37 : PV) (S : Store) : execL (C b) 0 c251 K (ee6 x4 x37) S =
  withV (evBin .eql (tyi Try.prog 3) x4 (.int .i64 22)) fun x43 =>
    withV (some x43) fun x37 =>
    K .normal (ee6 x4 x37) S := nr (by kernel_rfl)
noncomputable def E250 (b : Nat) (x4 x37 : PV) (S : Store) : RT := execL (C b) 0 c249 (k97 b) (ee6 x4 x37) S
@[go_sem] theorem E250_eq (b : Nat) (x4 x37 : PV) (S : Store) : E250 b x4 x37 S =
  execL (C b) 0 c251 (k253 b) (ee6 x4 x37) S := nr ((enter_seq c249_h (k253_l b)).trans (rfl))
@[go_sem] theorem k247_n (b : Nat) (x4 x37 : PV) (S : Store) : k247 b .normal (ee6 x4 x37) S =
  condC x37 ((k97 b) .normal (ee6 x4 x37) S)
    (E250 b x4 x37 S) := nr ((show k247 b .normal (ee6 x4 x37) S = execL (C b) 0 c246 (k97 b) (ee6 x4 x37) S from seqC_n _ _ _ _).trans (execL_cond c246_h (execL_skip (by kernel_rfl)) (rfl) rfl))
theorem k247_l (b : Nat) : seqC (fun e S => execL (C b) 0 c246 (k97 b) e S) (k97 b) = k247 b := rfl
@[go_sem] theorem g287 (b : Nat) (K : KT) (x4 x37 : PV) (S : Store) : execL (C b) 0 c245 K (ee6 x4 x37) S =
  withV (evBin .eql (tyi Try.prog 3) x4 (.int .i64 9)) fun x42 =>
    withV (some x42) fun x37 =>
    K .normal (ee6 x4 x37) S := nr (by kernel_rfl)
noncomputable def E244 (b : Nat) (x4 x37 : PV) (S : Store) : RT := execL (C b) 0 c243 (k97 b) (ee6 x4 x37) S
@[go_sem] theorem E244_eq (b : Nat) (x4 x37 : PV) (S : Store) : E244 b x4 x37 S =
  execL (C b) 0 c245 (k247 b) (ee6 x4 x37) S := nr ((enter_seq c243_h (k247_l b)).trans (rfl))
@[go_sem] theorem k241_n (b : Nat) (x4 x37 : PV) (S : Store) : k241 b .normal (ee6 x4 x37) S =
  condC x37 ((k97 b) .normal (ee6 x4 x37) S)
    (E244 b x4 x37 S) := nr ((show k241 b .normal (ee6 x4 x37) S = execL (C b) 0 c240 (k97 b) (ee6 x4 x37) S from seqC_n _ _ _ _).trans (execL_cond c240_h (execL_skip (by kernel_rfl)) (rfl) rfl))
theorem k241_l (b : Nat) : seqC (fun e S => execL (C b) 0 c240 (k97 b) e S) (k97 b) = k241 b := rfl
@[go_sem] theorem g288 (b : Nat) (K : KT) (x4 x37 : PV) (S : Store) : execL (C b) 0 c239 K (ee6 x4 x37) S =
  withV (evBin .eql (tyi Try.prog 3) x4 (.int .i64 8)) fun x41 =>
    withV (some x41) fun x37 =>
    K .normal (ee6 x4 x37) S := nr (by kernel_rfl)
noncomputable def E238 (b : Nat) (x4 x37 : PV) (S : Store) : RT := execL (C b) 0 c237 (k97 b) (ee6 x4 x37) S
@[go_sem] theorem E238_eq (b : Nat) (x4 x37 : PV) (S : Store) : E238 b x4 x37 S =
  execL (C b) 0 c239 (k241 b) (ee6 x4 x37) S := nr ((enter_seq c237_h (k241_l b)).trans (rfl))
@[go_sem] theorem k235_n (b : Nat) (x4 x37 : PV) (S : Store) : k235 b .normal (ee6 x4 x37) S =
  condC x37 ((k97 b) .normal (ee6 x4 x37) S)
    (E238 b x4 x37 S) := nr ((show k235 b .normal (ee6 x4 x37) S = execL (C b) 0 c234 (k97 b) (ee6 x4 x37) S from seqC_n _ _ _ _).trans (execL_cond c234_h (execL_skip (by kernel_rfl)) (rfl) rfl))
theorem k235_l (b : Nat) : seqC (fun e S => execL (C b) 0 c234 (k97 b) e S) (k97 b) = k235 b := rfl
@[go_sem] theorem g289 (b : Nat) (K : KT) (x4 x37 : PV) (S : Store) : execL (C b) 0 c233 K (ee6 x4 x37) S =
  withV (evBin .eql (tyi Try.prog 3) x4 (.int .i64 7)) fun x40 =>
    withV (some x40) fun x37 =>
    K .normal (ee6 x4 x37) S := nr (by kernel_rfl)
noncomputable def E232 (b : Nat) (x4 x37 : PV) (S : Store) : RT := execL (C b) 0 c231 (k97 b) (ee6 x4 x37) S
@[go_sem] theorem E232_eq (b : Nat) (x4 x37 : PV) (S : Store) : E232 b x4 x37 S =
  execL (C b) 0 c233 (k235 b) (ee6 x4 x37) S := nr ((enter_seq c231_h (k235_l b)).trans (rfl))
@[go_sem] theorem k229_n (b : Nat) (x4 x37 : PV) (S : Store) : k229 b .normal (ee6 x4 x37) S =
  condC x37 ((k97 b) .normal (ee6 x4 x37) S)
    (E232 b x4 x37 S) := nr ((show k229 b .normal (ee6 x4 x37) S = execL (C b) 0 c228 (k97 b) (ee6 x4 x37) S from seqC_n _ _ _ _).trans (execL_cond c228_h (execL_skip (by kernel_rfl)) (rfl) rfl))
theorem k229_l (b : Nat) : seqC (fun e S => execL (C b) 0 c228 (k97 b) e S) (k97 b) = k229 b := rfl
@[go_sem] theorem g290 (b : Nat) (K : KT) (x4 x37 : PV) (S : Store) : execL (C b) 0 c227 K (ee6 x4 x37) S =
  withV (evBin .eql (tyi Try.prog 3) x4 (.int .i64 6)) fun x39 =>
    withV (some x39) fun x37 =>
    K .normal (ee6 x4 x37) S := nr (by kernel_rfl)
noncomputable def E226 (b : Nat) (x4 x37 : PV) (S : Store) : RT := execL (C b) 0 c225 (k97 b) (ee6 x4 x37) S
@[go_sem] theorem E226_eq (b : Nat) (x4 x37 : PV) (S : Store) : E226 b x4 x37 S =
  execL (C b) 0 c227 (k229 b) (ee6 x4 x37) S := nr ((enter_seq c225_h (k229_l b)).trans (rfl))
@[go_sem] theorem k223_n (b : Nat) (x4 x37 : PV) (S : Store) : k223 b .normal (ee6 x4 x37) S =
  condC x37 ((k97 b) .normal (ee6 x4 x37) S)
    (E226 b x4 x37 S) := nr ((show k223 b .normal (ee6 x4 x37) S = execL (C b) 0 c222 (k97 b) (ee6 x4 x37) S from seqC_n _ _ _ _).trans (execL_cond c222_h (execL_skip (by kernel_rfl)) (rfl) rfl))
theorem k223_l (b : Nat) : seqC (fun e S => execL (C b) 0 c222 (k97 b) e S) (k97 b) = k223 b := rfl
@[go_sem] theorem g291 (b : Nat) (K : KT) (x0 x4 x19 : PV) (S : Store) : execL (C b) 0 c221 K (ee4 x0 x4 x19) S =
  withV (evBin .eql (tyi Try.prog 3) x4 (.int .i64 5)) fun x38 =>
    withV (some x38) fun x37 =>
    K .normal (ee6 x4 x37) S := nr (by kernel_rfl)
noncomputable def E94 (b : Nat) (x0 x4 x19 : PV) (S : Store) : RT := execL (C b) 0 c42 (k15 b) (ee4 x0 x4 x19) S
@[go_sem] theorem E94_eq (b : Nat) (x0 x4 x19 : PV) (S : Store) : E94 b x0 x4 x19 S =
  execL (C b) 0 c221 (k223 b) (ee4 x0 x4 x19) S := nr ((enter_seq c42_h (k97_l b)).trans ((enter_seq c95_h (k223_l b)).trans (rfl)))
@[go_sem] theorem k40_n (b : Nat) (x0 x4 x19 : PV) (S : Store) : k40 b .normal (ee4 x0 x4 x19) S =
  condC x19 (E43 b x0 x4 x19 S)
    (E94 b x0 x4 x19 S) := nr ((show k40 b .normal (ee4 x0 x4 x19) S = execL (C b) 0 c39 (k15 b) (ee4 x0 x4 x19) S from seqC_n _ _ _ _).trans (execL_cond c39_h (rfl) (rfl) rfl))
theorem k40_l (b : Nat) : seqC (fun e S => execL (C b) 0 c39 (k15 b) e S) (k15 b) = k40 b := rfl
noncomputable def c292 : Code := at0 c38
noncomputable def c293 : Code := at1 c38
theorem c38_h : c38 = .seq c292 c293 := by kernel_rfl
noncomputable def k294 (b : Nat) : KT := seqC (fun e S => execL (C b) 0 c293 (k40 b) e S) (k40 b)
noncomputable def c295 : Code := atT c293
noncomputable def c296 : Code := atF c293
theorem c293_h : c293 = .cond (.tmp 19) c295 c296 := by kernel_rfl
noncomputable def c298 : Code := at0 c296
noncomputable def c299 : Code := at1 c296
theorem c296_h : c296 = .seq c298 c299 := by kernel_rfl
noncomputable def k300 (b : Nat) : KT := seqC (fun e S => execL (C b) 0 c299 (k40 b) e S) (k40 b)
noncomputable def c301 : Code := atT c299
noncomputable def c302 : Code := atF c299
theorem c299_h : c299 = .cond (.tmp 19) c301 c302 := by kernel_rfl
noncomputable def c304 : Code := at0 c302
noncomputable def c305 : Code := at1 c302
theorem c302_h : c302 = .seq c304 c305 := by kernel_rfl
noncomputable def k306 (b : Nat) : KT := seqC (fun e S => execL (C b) 0 c305 (k40 b) e S) (k40 b)
noncomputable def c307 : Code := atT c305
noncomputable def c308 : Code := atF c305
theorem c305_h : c305 = .cond (.tmp 19) c307 c308 := by kernel_rfl
noncomputable def c310 : Code := at0 c308
noncomputable def c311 : Code := at1 c308
theorem c308_h : c308 = .seq c310 c311 := by kernel_rfl
noncomputable def k312 (b : Nat) : KT := seqC (fun e S => execL (C b) 0 c311 (k40 b) e S) (k40 b)
noncomputable def c313 : Code := atT c311
noncomputable def c314 : Code := atF c311
theorem c311_h : c311 = .cond (.tmp 19) c313 c314 := by kernel_rfl
noncomputable def c316 : Code := at0 c314
noncomputable def c317 : Code := at1 c314
theorem c314_h : c314 = .seq c316 c317 := by kernel_rfl
noncomputable def k318 (b : Nat) : KT := seqC (fun e S => execL (C b) 0 c317 (k40 b) e S) (k40 b)
noncomputable def c319 : Code := atT c317
noncomputable def c320 : Code := atF c317
theorem c317_h : c317 = .cond (.tmp 19) c319 c320 := by kernel_rfl
noncomputable def c322 : Code := at0 c320
noncomputable def c323 : Code := at1 c320
theorem c320_h : c320 = .seq c322 c323 := by kernel_rfl
noncomputable def k324 (b : Nat) : KT := seqC (fun e S => execL (C b) 0 c323 (k40 b) e S) (k40 b)
noncomputable def c325 : Code := atT c323
noncomputable def c326 : Code := atF c323
theorem c323_h : c323 = .cond (.tmp 19) c325 c326 := by kernel_rfl
@[go_sem] theorem g328 (b : Nat) (K : KT) (x0 x4 x19 : PV) (S : Store) : execL (C b) 0 c326 K (ee4 x0 x4 x19) S =
  withV (evBin .eql (tyi Try.prog 3) x4 (.int .i64 60)) fun x26 =>
    withV (some x26) fun x19 =>
    K .normal (ee4 x0 x4 x19) S := nr (by kernel_rfl)
noncomputable def E327 (b : Nat) (x0 x4 x19 : PV) (S : Store) : RT := execL (C b) 0 c326 (k40 b) (ee4 x0 x4 x19) S
@[go_sem] theorem E327_eq (b : Nat) (x0 x4 x19 : PV) (S : Store) : E327 b x0 x4 x19 S =
  execL (C b) 0 c326 (k40 b) (ee4 x0 x4 x19) S := nr (rfl)
@[go_sem] theorem k324_n (b : Nat) (x0 x4 x19 : PV) (S : Store) : k324 b .normal (ee4 x0 x4 x19) S =
  condC x19 ((k40 b) .normal (ee4 x0 x4 x19) S)
    (E327 b x0 x4 x19 S) := nr ((show k324 b .normal (ee4 x0 x4 x19) S = execL (C b) 0 c323 (k40 b) (ee4 x0 x4 x19) S from seqC_n _ _ _ _).trans (execL_cond c323_h (execL_skip (by kernel_rfl)) (rfl) rfl))
theorem k324_l (b : Nat) : seqC (fun e S => execL (C b) 0 c323 (k40 b) e S) (k40 b) = k324 b := rfl
@[go_sem] theorem g329 (b : Nat) (K : KT) (x0 x4 x19 : PV) (S : Store) : execL (C b) 0 c322 K (ee4 x0 x4 x19) S =
  withV (evBin .eql (tyi Try.prog 3) x4 (.int .i64 59)) fun x25 =>
    withV (some x25) fun x19 =>
    K .normal (ee4 x0 x4 x19) S := nr (by kernel_rfl)
noncomputable def E321 (b : Nat) (x0 x4 x19 : PV) (S : Store) : RT := execL (C b) 0 c320 (k40 b) (ee4 x0 x4 x19) S
@[go_sem] theorem E321_eq (b : Nat) (x0 x4 x19 : PV) (S : Store) : E321 b x0 x4 x19 S =
  execL (C b) 0 c322 (k324 b) (ee4 x0 x4 x19) S := nr ((enter_seq c320_h (k324_l b)).trans (rfl))
@[go_sem] theorem k318_n (b : Nat) (x0 x4 x19 : PV) (S : Store) : k318 b .normal (ee4 x0 x4 x19) S =
  condC x19 ((k40 b) .normal (ee4 x0 x4 x19) S)
    (E321 b x0 x4 x19 S) := nr ((show k318 b .normal (ee4 x0 x4 x19) S = execL (C b) 0 c317 (k40 b) (ee4 x0 x4 x19) S from seqC_n _ _ _ _).trans (execL_cond c317_h (execL_skip (by kernel_rfl)) (rfl) rfl))
theorem k318_l (b : Nat) : seqC (fun e S => execL (C b) 0 c317 (k40 b) e S) (k40 b) = k318 b := rfl
@[go_sem] theorem g330 (b : Nat) (K : KT) (x0 x4 x19 : PV) (S : Store) : execL (C b) 0 c316 K (ee4 x0 x4 x19) S =
  withV (evBin .eql (tyi Try.prog 3) x4 (.int .i64 39)) fun x24 =>
    withV (some x24) fun x19 =>
    K .normal (ee4 x0 x4 x19) S := nr (by kernel_rfl)
noncomputable def E315 (b : Nat) (x0 x4 x19 : PV) (S : Store) : RT := execL (C b) 0 c314 (k40 b) (ee4 x0 x4 x19) S
@[go_sem] theorem E315_eq (b : Nat) (x0 x4 x19 : PV) (S : Store) : E315 b x0 x4 x19 S =
  execL (C b) 0 c316 (k318 b) (ee4 x0 x4 x19) S := nr ((enter_seq c314_h (k318_l b)).trans (rfl))
@[go_sem] theorem k312_n (b : Nat) (x0 x4 x19 : PV) (S : Store) : k312 b .normal (ee4 x0 x4 x19) S =
  condC x19 ((k40 b) .normal (ee4 x0 x4 x19) S)
    (E315 b x0 x4 x19 S) := nr ((show k312 b .normal (ee4 x0 x4 x19) S = execL (C b) 0 c311 (k40 b) (ee4 x0 x4 x19) S from seqC_n _ _ _ _).trans (execL_cond c311_h (execL_skip (by kernel_rfl)) (rfl) rfl))
theorem k312_l (b : Nat) : seqC (fun e S => execL (C b) 0 c311 (k40 b) e S) (k40 b) = k312 b := rfl
@[go_sem] theorem g331 (b : Nat) (K : KT) (x0 x4 x19 : PV) (S : Store) : execL (C b) 0 c310 K (ee4 x0 x4 x19) S =
  withV (evBin .eql (tyi Try.prog 3) x4 (.int .i64 28)) fun x23 =>
    withV (some x23) fun x19 =>
    K .normal (ee4 x0 x4 x19) S := nr (by kernel_rfl)
noncomputable def E309 (b : Nat) (x0 x4 x19 : PV) (S : Store) : RT := execL (C b) 0 c308 (k40 b) (ee4 x0 x4 x19) S
@[go_sem] theorem E309_eq (b : Nat) (x0 x4 x19 : PV) (S : Store) : E309 b x0 x4 x19 S =
  execL (C b) 0 c310 (k312 b) (ee4 x0 x4 x19) S := nr ((enter_seq c308_h (k312_l b)).trans (rfl))
@[go_sem] theorem k306_n (b : Nat) (x0 x4 x19 : PV) (S : Store) : k306 b .normal (ee4 x0 x4 x19) S =
  condC x19 ((k40 b) .normal (ee4 x0 x4 x19) S)
    (E309 b x0 x4 x19 S) := nr ((show k306 b .normal (ee4 x0 x4 x19) S = execL (C b) 0 c305 (k40 b) (ee4 x0 x4 x19) S from seqC_n _ _ _ _).trans (execL_cond c305_h (execL_skip (by kernel_rfl)) (rfl) rfl))
theorem k306_l (b : Nat) : seqC (fun e S => execL (C b) 0 c305 (k40 b) e S) (k40 b) = k306 b := rfl
@[go_sem] theorem g332 (b : Nat) (K : KT) (x0 x4 x19 : PV) (S : Store) : execL (C b) 0 c304 K (ee4 x0 x4 x19) S =
  withV (evBin .eql (tyi Try.prog 3) x4 (.int .i64 53)) fun x22 =>
    withV (some x22) fun x19 =>
    K .normal (ee4 x0 x4 x19) S := nr (by kernel_rfl)
noncomputable def E303 (b : Nat) (x0 x4 x19 : PV) (S : Store) : RT := execL (C b) 0 c302 (k40 b) (ee4 x0 x4 x19) S
@[go_sem] theorem E303_eq (b : Nat) (x0 x4 x19 : PV) (S : Store) : E303 b x0 x4 x19 S =
  execL (C b) 0 c304 (k306 b) (ee4 x0 x4 x19) S := nr ((enter_seq c302_h (k306_l b)).trans (rfl))
@[go_sem] theorem k300_n (b : Nat) (x0 x4 x19 : PV) (S : Store) : k300 b .normal (ee4 x0 x4 x19) S =
  condC x19 ((k40 b) .normal (ee4 x0 x4 x19) S)
    (E303 b x0 x4 x19 S) := nr ((show k300 b .normal (ee4 x0 x4 x19) S = execL (C b) 0 c299 (k40 b) (ee4 x0 x4 x19) S from seqC_n _ _ _ _).trans (execL_cond c299_h (execL_skip (by kernel_rfl)) (rfl) rfl))
theorem k300_l (b : Nat) : seqC (fun e S => execL (C b) 0 c299 (k40 b) e S) (k40 b) = k300 b := rfl
@[go_sem] theorem g333 (b : Nat) (K : KT) (x0 x4 x19 : PV) (S : Store) : execL (C b) 0 c298 K (ee4 x0 x4 x19) S =
  withV (evBin .eql (tyi Try.prog 3) x4 (.int .i64 12)) fun x21 =>
    withV (some x21) fun x19 =>
    K .normal (ee4 x0 x4 x19) S := nr (by kernel_rfl)
noncomputable def E297 (b : Nat) (x0 x4 x19 : PV) (S : Store) : RT := execL (C b) 0 c296 (k40 b) (ee4 x0 x4 x19) S
@[go_sem] theorem E297_eq (b : Nat) (x0 x4 x19 : PV) (S : Store) : E297 b x0 x4 x19 S =
  execL (C b) 0 c298 (k300 b) (ee4 x0 x4 x19) S := nr ((enter_seq c296_h (k300_l b)).trans (rfl))
@[go_sem] theorem k294_n (b : Nat) (x0 x4 x19 : PV) (S : Store) : k294 b .normal (ee4 x0 x4 x19) S =
  condC x19 ((k40 b) .normal (ee4 x0 x4 x19) S)
    (E297 b x0 x4 x19 S) := nr ((show k294 b .normal (ee4 x0 x4 x19) S = execL (C b) 0 c293 (k40 b) (ee4 x0 x4 x19) S from seqC_n _ _ _ _).trans (execL_cond c293_h (execL_skip (by kernel_rfl)) (rfl) rfl))
theorem k294_l (b : Nat) : seqC (fun e S => execL (C b) 0 c293 (k40 b) e S) (k40 b) = k294 b := rfl
@[go_sem] theorem g334 (b : Nat) (K : KT) (x0 x4 x10 : PV) (S : Store) : execL (C b) 0 c292 K (ee3 x0 x4 x10) S =
  withV (evBin .eql (tyi Try.prog 3) x4 (.int .i64 4)) fun x20 =>
    withV (some x20) fun x19 =>
    K .normal (ee4 x0 x4 x19) S := nr (by kernel_rfl)
noncomputable def E37 (b : Nat) (x0 x4 x10 : PV) (S : Store) : RT := execL (C b) 0 c31 (k15 b) (ee3 x0 x4 x10) S
@[go_sem] theorem E37_eq (b : Nat) (x0 x4 x10 : PV) (S : Store) : E37 b x0 x4 x10 S =
  execL (C b) 0 c292 (k294 b) (ee3 x0 x4 x10) S := nr ((enter_seq c31_h (k40_l b)).trans ((enter_seq c38_h (k294_l b)).trans (rfl)))
@[go_sem] theorem k29_n (b : Nat) (x0 x4 x10 : PV) (S : Store) : k29 b .normal (ee3 x0 x4 x10) S =
  condC x10 (E32 b x0 x4 x10 S)
    (E37 b x0 x4 x10 S) := nr ((show k29 b .normal (ee3 x0 x4 x10) S = execL (C b) 0 c28 (k15 b) (ee3 x0 x4 x10) S from seqC_n _ _ _ _).trans (execL_cond c28_h (rfl) (rfl) rfl))
theorem k29_l (b : Nat) : seqC (fun e S => execL (C b) 0 c28 (k15 b) e S) (k15 b) = k29 b := rfl
noncomputable def c335 : Code := at0 c27
noncomputable def c336 : Code := at1 c27
theorem c27_h : c27 = .seq c335 c336 := by kernel_rfl
noncomputable def k337 (b : Nat) : KT := seqC (fun e S => execL (C b) 0 c336 (k29 b) e S) (k29 b)
noncomputable def c338 : Code := atT c336
noncomputable def c339 : Code := atF c336
theorem c336_h : c336 = .cond (.tmp 10) c338 c339 := by kernel_rfl
noncomputable def c341 : Code := at0 c339
noncomputable def c342 : Code := at1 c339
theorem c339_h : c339 = .seq c341 c342 := by kernel_rfl
noncomputable def k343 (b : Nat) : KT := seqC (fun e S => execL (C b) 0 c342 (k29 b) e S) (k29 b)
noncomputable def c344 : Code := atT c342
noncomputable def c345 : Code := atF c342
theorem c342_h : c342 = .cond (.tmp 10) c344 c345 := by kernel_rfl
noncomputable def c347 : Code := at0 c345
noncomputable def c348 : Code := at1 c345
theorem c345_h : c345 = .seq c347 c348 := by kernel_rfl
noncomputable def k349 (b : Nat) : KT := seqC (fun e S => execL (C b) 0 c348 (k29 b) e S) (k29 b)
noncomputable def c350 : Code := atT c348
noncomputable def c351 : Code := atF c348
theorem c348_h : c348 = .cond (.tmp 10) c350 c351 := by kernel_rfl
noncomputable def c353 : Code := at0 c351
noncomputable def c354 : Code := at1 c351
theorem c351_h : c351 = .seq c353 c354 := by kernel_rfl
noncomputable def k355 (b : Nat) : KT := seqC (fun e S => execL (C b) 0 c354 (k29 b) e S) (k29 b)
noncomputable def c356 : Code := atT c354
noncomputable def c357 : Code := atF c354
theorem c354_h : c354 = .cond (.tmp 10) c356 c357 := by kernel_rfl
noncomputable def c359 : Code := at0 c357
noncomputable def c360 : Code := at1 c357
theorem c357_h : c357 = .seq c359 c360 := by kernel_rfl
noncomputable def k361 (b : Nat) : KT := seqC (fun e S => execL (C b) 0 c360 (k29 b) e S) (k29 b)
noncomputable def c362 : Code := atT c360
noncomputable def c363 : Code := atF c360
theorem c360_h : c360 = .cond (.tmp 10) c362 c363 := by kernel_rfl
noncomputable def c365 : Code := at0 c363
noncomputable def c366 : Code := at1 c363
theorem c363_h : c363 = .seq c365 c366 := by kernel_rfl
noncomputable def k367 (b : Nat) : KT := seqC (fun e S => execL (C b) 0 c366 (k29 b) e S) (k29 b)
noncomputable def c368 : Code := atT c366
noncomputable def c369 : Code := atF c366
theorem c366_h : c366 = .cond (.tmp 10) c368 c369 := by kernel_rfl
noncomputable def c371 : Code := at0 c369
noncomputable def c372 : Code := at1 c369
theorem c369_h : c369 = .seq c371 c372 := by kernel_rfl
noncomputable def k373 (b : Nat) : KT := seqC (fun e S => execL (C b) 0 c372 (k29 b) e S) (k29 b)
noncomputable def c374 : Code := atT c372
noncomputable def c375 : Code := atF c372
theorem c372_h : c372 = .cond (.tmp 10) c374 c375 := by kernel_rfl
@[go_sem] theorem g377 (b : Nat) (K : KT) (x0 x4 x10 : PV) (S : Store) : execL (C b) 0 c375 K (ee3 x0 x4 x10) S =
  withV (evBin .eql (tyi Try.prog 3) x4 (.int .i64 62)) fun x18 =>
    withV (some x18) fun x10 =>
    K .normal (ee3 x0 x4 x10) S := nr (by kernel_rfl)
noncomputable def E376 (b : Nat) (x0 x4 x10 : PV) (S : Store) : RT := execL (C b) 0 c375 (k29 b) (ee3 x0 x4 x10) S
@[go_sem] theorem E376_eq (b : Nat) (x0 x4 x10 : PV) (S : Store) : E376 b x0 x4 x10 S =
  execL (C b) 0 c375 (k29 b) (ee3 x0 x4 x10) S := nr (rfl)
@[go_sem] theorem k373_n (b : Nat) (x0 x4 x10 : PV) (S : Store) : k373 b .normal (ee3 x0 x4 x10) S =
  condC x10 ((k29 b) .normal (ee3 x0 x4 x10) S)
    (E376 b x0 x4 x10 S) := nr ((show k373 b .normal (ee3 x0 x4 x10) S = execL (C b) 0 c372 (k29 b) (ee3 x0 x4 x10) S from seqC_n _ _ _ _).trans (execL_cond c372_h (execL_skip (by kernel_rfl)) (rfl) rfl))
theorem k373_l (b : Nat) : seqC (fun e S => execL (C b) 0 c372 (k29 b) e S) (k29 b) = k373 b := rfl
@[go_sem] theorem g378 (b : Nat) (K : KT) (x0 x4 x10 : PV) (S : Store) : execL (C b) 0 c371 K (ee3 x0 x4 x10) S =
  withV (evBin .eql (tyi Try.prog 3) x4 (.int .i64 61)) fun x17 =>
    withV (some x17) fun x10 =>
    K .normal (ee3 x0 x4 x10) S := nr (by kernel_rfl)
noncomputable def E370 (b : Nat) (x0 x4 x10 : PV) (S : Store) : RT := execL (C b) 0 c369 (k29 b) (ee3 x0 x4 x10) S
@[go_sem] theorem E370_eq (b : Nat) (x0 x4 x10 : PV) (S : Store) : E370 b x0 x4 x10 S =
  execL (C b) 0 c371 (k373 b) (ee3 x0 x4 x10) S := nr ((enter_seq c369_h (k373_l b)).trans (rfl))
@[go_sem] theorem k367_n (b : Nat) (x0 x4 x10 : PV) (S : Store) : k367 b .normal (ee3 x0 x4 x10) S =
  condC x10 ((k29 b) .normal (ee3 x0 x4 x10) S)
    (E370 b x0 x4 x10 S) := nr ((show k367 b .normal (ee3 x0 x4 x10) S = execL (C b) 0 c366 (k29 b) (ee3 x0 x4 x10) S from seqC_n _ _ _ _).trans (execL_cond c366_h (execL_skip (by kernel_rfl)) (rfl) rfl))
theorem k367_l (b : Nat) : seqC (fun e S => execL (C b) 0 c366 (k29 b) e S) (k29 b) = k367 b := rfl
@[go_sem] theorem g379 (b : Nat) (K : KT) (x0 x4 x10 : PV) (S : Store) : execL (C b) 0 c365 K (ee3 x0 x4 x10) S =
  withV (evBin .eql (tyi Try.prog 3) x4 (.int .i64 56)) fun x16 =>
    withV (some x16) fun x10 =>
    K .normal (ee3 x0 x4 x10) S := nr (by kernel_rfl)
noncomputable def E364 (b : Nat) (x0 x4 x10 : PV) (S : Store) : RT := execL (C b) 0 c363 (k29 b) (ee3 x0 x4 x10) S
@[go_sem] theorem E364_eq (b : Nat) (x0 x4 x10 : PV) (S : Store) : E364 b x0 x4 x10 S =
  execL (C b) 0 c365 (k367 b) (ee3 x0 x4 x10) S := nr ((enter_seq c363_h (k367_l b)).trans (rfl))
@[go_sem] theorem k361_n (b : Nat) (x0 x4 x10 : PV) (S : Store) : k361 b .normal (ee3 x0 x4 x10) S =
  condC x10 ((k29 b) .normal (ee3 x0 x4 x10) S)
    (E364 b x0 x4 x10 S) := nr ((show k361 b .normal (ee3 x0 x4 x10) S = execL (C b) 0 c360 (k29 b) (ee3 x0 x4 x10) S from seqC_n _ _ _ _).trans (execL_cond c360_h (execL_skip (by kernel_rfl)) (rfl) rfl))
theorem k361_l (b : Nat) : seqC (fun e S => execL (C b) 0 c360 (k29 b) e S) (k29 b) = k361 b := rfl
@[go_sem] theorem g380 (b : Nat) (K : KT) (x0 x4 x10 : PV) (S : Store) : execL (C b) 0 c359 K (ee3 x0 x4 x10) S =
  withV (evBin .eql (tyi Try.prog 3) x4 (.int .i64 52)) fun x15 =>
    withV (some x15) fun x10 =>
    K .normal (ee3 x0 x4 x10) S := nr (by kernel_rfl)
noncomputable def E358 (b : Nat) (x0 x4 x10 : PV) (S : Store) : RT := execL (C b) 0 c357 (k29 b) (ee3 x0 x4 x10) S
@[go_sem] theorem E358_eq (b : Nat) (x0 x4 x10 : PV) (S : Store) : E358 b x0 x4 x10 S =
  execL (C b) 0 c359 (k361 b) (ee3 x0 x4 x10) S := nr ((enter_seq c357_h (k361_l b)).trans (rfl))
@[go_sem] theorem k355_n (b : Nat) (x0 x4 x10 : PV) (S : Store) : k355 b .normal (ee3 x0 x4 x10) S =
  condC x10 ((k29 b) .normal (ee3 x0 x4 x10) S)
    (E358 b x0 x4 x10 S) := nr ((show k355 b .normal (ee3 x0 x4 x10) S = execL (C b) 0 c354 (k29 b) (ee3 x0 x4 x10) S from seqC_n _ _ _ _).trans (execL_cond c354_h (execL_skip (by kernel_rfl)) (rfl) rfl))
theorem k355_l (b : Nat) : seqC (fun e S => execL (C b) 0 c354 (k29 b) e S) (k29 b) = k355 b := rfl
@[go_sem] theorem g381 (b : Nat) (K : KT) (x0 x4 x10 : PV) (S : Store) : execL (C b) 0 c353 K (ee3 x0 x4 x10) S =
  withV (evBin .eql (tyi Try.prog 3) x4 (.int .i64 38)) fun x14 =>
    withV (some x14) fun x10 =>
    K .normal (ee3 x0 x4 x10) S := nr (by kernel_rfl)
noncomputable def E352 (b : Nat) (x0 x4 x10 : PV) (S : Store) : RT := execL (C b) 0 c351 (k29 b) (ee3 x0 x4 x10) S
@[go_sem] theorem E352_eq (b : Nat) (x0 x4 x10 : PV) (S : Store) : E352 b x0 x4 x10 S =
  execL (C b) 0 c353 (k355 b) (ee3 x0 x4 x10) S := nr ((enter_seq c351_h (k355_l b)).trans (rfl))
@[go_sem] theorem k349_n (b : Nat) (x0 x4 x10 : PV) (S : Store) : k349 b .normal (ee3 x0 x4 x10) S =
  condC x10 ((k29 b) .normal (ee3 x0 x4 x10) S)
    (E352 b x0 x4 x10 S) := nr ((show k349 b .normal (ee3 x0 x4 x10) S = execL (C b) 0 c348 (k29 b) (ee3 x0 x4 x10) S from seqC_n _ _ _ _).trans (execL_cond c348_h (execL_skip (by kernel_rfl)) (rfl) rfl))
theorem k349_l (b : Nat) : seqC (fun e S => execL (C b) 0 c348 (k29 b) e S) (k29 b) = k349 b := rfl
@[go_sem] theorem g382 (b : Nat) (K : KT) (x0 x4 x10 : PV) (S : Store) : execL (C b) 0 c347 K (ee3 x0 x4 x10) S =
  withV (evBin .eql (tyi Try.prog 3) x4 (.int .i64 11)) fun x13 =>
    withV (some x13) fun x10 =>
    K .normal (ee3 x0 x4 x10) S := nr (by kernel_rfl)
noncomputable def E346 (b : Nat) (x0 x4 x10 : PV) (S : Store) : RT := execL (C b) 0 c345 (k29 b) (ee3 x0 x4 x10) S
@[go_sem] theorem E346_eq (b : Nat) (x0 x4 x10 : PV) (S : Store) : E346 b x0 x4 x10 S =
  execL (C b) 0 c347 (k349 b) (ee3 x0 x4 x10) S := nr ((enter_seq c345_h (k349_l b)).trans (rfl))
@[go_sem] theorem k343_n (b : Nat) (x0 x4 x10 : PV) (S : Store) : k343 b .normal (ee3 x0 x4 x10) S =
  condC x10 ((k29 b) .normal (ee3 x0 x4 x10) S)
    (E346 b x0 x4 x10 S) := nr ((show k343 b .normal (ee3 x0 x4 x10) S = execL (C b) 0 c342 (k29 b) (ee3 x0 x4 x10) S from seqC_n _ _ _ _).trans (execL_cond c342_h (execL_skip (by kernel_rfl)) (rfl) rfl))
theorem k343_l (b : Nat) : seqC (fun e S => execL (C b) 0 c342 (k29 b) e S) (k29 b) = k343 b := rfl
@[go_sem] theorem g383 (b : Nat) (K : KT) (x0 x4 x10 : PV) (S : Store) : execL (C b) 0 c341 K (ee3 x0 x4 x10) S =
  withV (evBin .eql (tyi Try.prog 3) x4 (.int .i64 3)) fun x12 =>
    withV (some x12) fun x10 =>
    K .normal (ee3 x0 x4 x10) S := nr (by kernel_rfl)
noncomputable def E340 (b : Nat) (x0 x4 x10 : PV) (S : Store) : RT := execL (C b) 0 c339 (k29 b) (ee3 x0 x4 x10) S
@[go_sem] theorem E340_eq (b : Nat) (x0 x4 x10 : PV) (S : Store) : E340 b x0 x4 x10 S =
  execL (C b) 0 c341 (k343 b) (ee3 x0 x4 x10) S := nr ((enter_seq c339_h (k343_l b)).trans (rfl))
@[go_sem] theorem k337_n (b : Nat) (x0 x4 x10 : PV) (S : Store) : k337 b .normal (ee3 x0 x4 x10) S =
  condC x10 ((k29 b) .normal (ee3 x0 x4 x10) S)
    (E340 b x0 x4 x10 S) := nr ((show k337 b .normal (ee3 x0 x4 x10) S = execL (C b) 0 c336 (k29 b) (ee3 x0 x4 x10) S from seqC_n _ _ _ _).trans (execL_cond c336_h (execL_skip (by kernel_rfl)) (rfl) rfl))
theorem k337_l (b : Nat) : seqC (fun e S => execL (C b) 0 c336 (k29 b) e S) (k29 b) = k337 b := rfl
@[go_sem] theorem g384 (b : Nat) (K : KT) (x0 x4 x5 : PV) (S : Store) : execL (C b) 0 c335 K (ee2 x0 x4 x5) S =
  withV (evBin .eql (tyi Try.prog 3) x4 (.int .i64 2)) fun x11 =>
    withV (some x11) fun x10 =>
    K .normal (ee3 x0 x4 x10) S := nr (by kernel_rfl)
noncomputable def E26 (b : Nat) (x0 x4 x5 : PV) (S : Store) : RT := execL (C b) 0 c20 (k15 b) (ee2 x0 x4 x5) S
@[go_sem] theorem E26_eq (b : Nat) (x0 x4 x5 : PV) (S : Store) : E26 b x0 x4 x5 S =
  execL (C b) 0 c335 (k337 b) (ee2 x0 x4 x5) S := nr ((enter_seq c20_h (k29_l b)).trans ((enter_seq c27_h (k337_l b)).trans (rfl)))
@[go_sem] theorem k18_n (b : Nat) (x0 x4 x5 : PV) (S : Store) : k18 b .normal (ee2 x0 x4 x5) S =
  condC x5 (E21 b x0 x4 x5 S)
    (E26 b x0 x4 x5 S) := nr ((show k18 b .normal (ee2 x0 x4 x5) S = execL (C b) 0 c17 (k15 b) (ee2 x0 x4 x5) S from seqC_n _ _ _ _).trans (execL_cond c17_h (rfl) (rfl) rfl))
theorem k18_l (b : Nat) : seqC (fun e S => execL (C b) 0 c17 (k15 b) e S) (k15 b) = k18 b := rfl
noncomputable def c385 : Code := at0 c16
noncomputable def c386 : Code := at1 c16
theorem c16_h : c16 = .seq c385 c386 := by kernel_rfl
noncomputable def k387 (b : Nat) : KT := seqC (fun e S => execL (C b) 0 c386 (k18 b) e S) (k18 b)
noncomputable def c388 : Code := atT c386
noncomputable def c389 : Code := atF c386
theorem c386_h : c386 = .cond (.tmp 5) c388 c389 := by kernel_rfl
noncomputable def c391 : Code := at0 c389
noncomputable def c392 : Code := at1 c389
theorem c389_h : c389 = .seq c391 c392 := by kernel_rfl
noncomputable def k393 (b : Nat) : KT := seqC (fun e S => execL (C b) 0 c392 (k18 b) e S) (k18 b)
noncomputable def c394 : Code := atT c392
noncomputable def c395 : Code := atF c392
theorem c392_h : c392 = .cond (.tmp 5) c394 c395 := by kernel_rfl
noncomputable def c397 : Code := at0 c395
noncomputable def c398 : Code := at1 c395
theorem c395_h : c395 = .seq c397 c398 := by kernel_rfl
noncomputable def k399 (b : Nat) : KT := seqC (fun e S => execL (C b) 0 c398 (k18 b) e S) (k18 b)
noncomputable def c400 : Code := atT c398
noncomputable def c401 : Code := atF c398
theorem c398_h : c398 = .cond (.tmp 5) c400 c401 := by kernel_rfl
@[go_sem] theorem g403 (b : Nat) (K : KT) (x0 x4 x5 : PV) (S : Store) : execL (C b) 0 c401 K (ee2 x0 x4 x5) S =
  withV (evBin .eql (tyi Try.prog 3) x4 (.int .i64 21)) fun x9 =>
    withV (some x9) fun x5 =>
    K .normal (ee2 x0 x4 x5) S := nr (by kernel_rfl)
noncomputable def E402 (b : Nat) (x0 x4 x5 : PV) (S : Store) : RT := execL (C b) 0 c401 (k18 b) (ee2 x0 x4 x5) S
@[go_sem] theorem E402_eq (b : Nat) (x0 x4 x5 : PV) (S : Store) : E402 b x0 x4 x5 S =
  execL (C b) 0 c401 (k18 b) (ee2 x0 x4 x5) S := nr (rfl)
@[go_sem] theorem k399_n (b : Nat) (x0 x4 x5 : PV) (S : Store) : k399 b .normal (ee2 x0 x4 x5) S =
  condC x5 ((k18 b) .normal (ee2 x0 x4 x5) S)
    (E402 b x0 x4 x5 S) := nr ((show k399 b .normal (ee2 x0 x4 x5) S = execL (C b) 0 c398 (k18 b) (ee2 x0 x4 x5) S from seqC_n _ _ _ _).trans (execL_cond c398_h (execL_skip (by kernel_rfl)) (rfl) rfl))
theorem k399_l (b : Nat) : seqC (fun e S => execL (C b) 0 c398 (k18 b) e S) (k18 b) = k399 b := rfl
@[go_sem] theorem g404 (b : Nat) (K : KT) (x0 x4 x5 : PV) (S : Store) : execL (C b) 0 c397 K (ee2 x0 x4 x5) S =
  withV (evBin .eql (tyi Try.prog 3) x4 (.int .i64 20)) fun x8 =>
    withV (some x8) fun x5 =>
    K .normal (ee2 x0 x4 x5) S := nr (by kernel_rfl)
noncomputable def E396 (b : Nat) (x0 x4 x5 : PV) (S : Store) : RT := execL (C b) 0 c395 (k18 b) (ee2 x0 x4 x5) S
@[go_sem] theorem E396_eq (b : Nat) (x0 x4 x5 : PV) (S : Store) : E396 b x0 x4 x5 S =
  execL (C b) 0 c397 (k399 b) (ee2 x0 x4 x5) S := nr ((enter_seq c395_h (k399_l b)).trans (rfl))
@[go_sem] theorem k393_n (b : Nat) (x0 x4 x5 : PV) (S : Store) : k393 b .normal (ee2 x0 x4 x5) S =
  condC x5 ((k18 b) .normal (ee2 x0 x4 x5) S)
    (E396 b x0 x4 x5 S) := nr ((show k393 b .normal (ee2 x0 x4 x5) S = execL (C b) 0 c392 (k18 b) (ee2 x0 x4 x5) S from seqC_n _ _ _ _).trans (execL_cond c392_h (execL_skip (by kernel_rfl)) (rfl) rfl))
theorem k393_l (b : Nat) : seqC (fun e S => execL (C b) 0 c392 (k18 b) e S) (k18 b) = k393 b := rfl
@[go_sem] theorem g405 (b : Nat) (K : KT) (x0 x4 x5 : PV) (S : Store) : execL (C b) 0 c391 K (ee2 x0 x4 x5) S =
  withV (evBin .eql (tyi Try.prog 3) x4 (.int .i64 13)) fun x7 =>
    withV (some x7) fun x5 =>
    K .normal (ee2 x0 x4 x5) S := nr (by kernel_rfl)
noncomputable def E390 (b : Nat) (x0 x4 x5 : PV) (S : Store) : RT := execL (C b) 0 c389 (k18 b) (ee2 x0 x4 x5) S
@[go_sem] theorem E390_eq (b : Nat) (x0 x4 x5 : PV) (S : Store) : E390 b x0 x4 x5 S =
  execL (C b) 0 c391 (k393 b) (ee2 x0 x4 x5) S := nr ((enter_seq c389_h (k393_l b)).trans (rfl))
@[go_sem] theorem k387_n (b : Nat) (x0 x4 x5 : PV) (S : Store) : k387 b .normal (ee2 x0 x4 x5) S =
  condC x5 ((k18 b) .normal (ee2 x0 x4 x5) S)
    (E390 b x0 x4 x5 S) := nr ((show k387 b .normal (ee2 x0 x4 x5) S = execL (C b) 0 c386 (k18 b) (ee2 x0 x4 x5) S from seqC_n _ _ _ _).trans (execL_cond c386_h (execL_skip (by kernel_rfl)) (rfl) rfl))
theorem k387_l (b : Nat) : seqC (fun e S => execL (C b) 0 c386 (k18 b) e S) (k18 b) = k387 b := rfl
@[go_sem] theorem g406 (b : Nat) (K : KT) (x0 x4 : PV) (S : Store) : execL (C b) 0 c385 K (ee1 x0 x4) S =
  withV (evBin .eql (tyi Try.prog 3) x4 (.int .i64 1)) fun x6 =>
    withV (some x6) fun x5 =>
    K .normal (ee2 x0 x4 x5) S := nr (by kernel_rfl)
@[go_sem] theorem k13_n (b : Nat) (x0 x4 : PV) (S : Store) : k13 b .normal (ee1 x0 x4) S =
  execL (C b) 0 c385 (k387 b) (ee1 x0 x4) S := nr ((show k13 b .normal (ee1 x0 x4) S = execL (C b) 0 c12 (k8 b) (ee1 x0 x4) S from seqC_n _ _ _ _).trans ((show execL (C b) 0 c12 (k8 b) (ee1 x0 x4) S = execL (C b) 0 c14 (k15 b) (ee1 x0 x4) S from execL_block c12_h).trans ((enter_seq c14_h (k18_l b)).trans ((enter_seq c16_h (k387_l b)).trans (rfl)))))
theorem k13_l (b : Nat) : seqC (fun e S => execL (C b) 0 c12 (k8 b) e S) (k8 b) = k13 b := rfl
@[go_sem] theorem g407 (b : Nat) (K : KT) (x0 : PV) (S : Store) : execL (C b) 0 c11 K (ee0 x0) S =
  withV (some x0) fun x4 =>
    K .normal (ee1 x0 x4) S := nr (by kernel_rfl)
@[go_sem] theorem k10_n (b : Nat) (x0 : PV) (S : Store) : k10 b .normal (ee0 x0) S =
  execL (C b) 0 c11 (k13 b) (ee0 x0) S := nr ((show k10 b .normal (ee0 x0) S = execL (C b) 0 c3 (k8 b) (ee0 x0) S from seqC_n _ _ _ _).trans ((enter_seq c3_h (k13_l b)).trans (rfl)))
theorem k10_l (b : Nat) : seqC (fun e S => execL (C b) 0 c2 (k0 b) e S) (k0 b) = k10 b := link_seq c2_h (k8_l b)
@[go_sem] theorem g408 (b : Nat) (K : KT) (x0 : PV) (S : Store) : execL (C b) 0 c1 K (ee0 x0) S =
  withV (some (.bool false)) fun x2 =>
    withV (some (.sl [] true)) fun x3 =>
    K .normal (ee0 x0) S := nr (by kernel_rfl)
noncomputable def E (b : Nat) (x0 : PV) (S : Store) : RT := execL (C b) 0 code (k0 b) (ee0 x0) S
@[go_sem] theorem E_eq (b : Nat) (x0 : PV) (S : Store) : E b x0 S =
  execL (C b) 0 c1 (k10 b) (ee0 x0) S := nr ((enter_seq code_h (k10_l b)).trans (rfl))
theorem call {x0 : PV} {r : PV × Store} {v : PV} (h : E 0 x0 [] = some r) (hv : fzPV r.2 r.1 = some v) : callL Try.prog hints 85 [x0] = some v := callL_of (fn := Try.f85) (c := code) (by kernel_rfl) (by kernel_rfl) (by decide) (by kernel_rfl) (Nat.le_of_ble_eq_true (by kernel_rfl)) h hv
end F85
/-! ### tree.differentiable -/
namespace F86
def hint : Hint := { keep := [], loops := [(1, { live := [22, 23, 24], after := [], own := [], fz := [] })], regs := [(0, [1]), (1, [1, 6]), (2, [1, 6, 7]), (3, [1, 6, 7]), (4, [1, 6, 7]), (5, [1, 6, 7]), (6, [1, 6, 7]), (7, [1, 6, 7]), (8, [1, 6, 7]), (9, [1, 6, 7]), (10, [1, 6, 7]), (11, [1, 6, 7]), (12, [2]), (13, [1, 6, 18]), (14, [1, 6, 18]), (15, [22, 23, 24]), (16, [22, 23, 24, 25]), (17, [4, 22, 23, 24]), (18, [22, 23, 24, 30]), (19, [2]), (20, [22, 23, 24]), (21, [2]), (22, [2])] }
noncomputable def C (b : Nat) : Ctx := ctxL Try.prog hints b hint
noncomputable def code : Code := Try.f86.body.get rfl
noncomputable def k0 (b : Nat) : KT := endC Try.prog Try.f86
def ee0 (x1 : PV) : Env := [(1, x1)]
def ee1 (x1 x6 : PV) : Env := [(1, x1), (6, x6)]
def ee2 (x1 x6 x7 : PV) : Env := [(1, x1), (6, x6), (7, x7)]
def ee3 (x1 x6 x18 : PV) : Env := [(1, x1), (6, x6), (18, x18)]
def ee4 (x2 : PV) : Env := [(2, x2)]
@[go_sem] theorem k0_ret4 (b : Nat) (x2 : PV) (S : Store) : k0 b .ret (ee4 x2) S = some (x2, S) := nr (by kernel_rfl)
def ee5 (x4 x22 x23 x24 : PV) : Env := [(4, x4), (22, x22), (23, x23), (24, x24)]
def ee6 (x22 x23 x24 : PV) : Env := [(22, x22), (23, x23), (24, x24)]
@[go_sem] theorem gc_ee6 (n : Nat) (x22 x23 x24 : PV) (S : Store) : gc n (ee6 x22 x23 x24) S = gc n [(22, x22), (23, x23), (24, x24)] S := nr (rfl)
def ee7 (x22 x23 x24 x25 : PV) : Env := [(22, x22), (23, x23), (24, x24), (25, x25)]
@[go_sem] theorem gc_ee7 (n : Nat) (x22 x23 x24 x25 : PV) (S : Store) : gc n (ee7 x22 x23 x24 x25) S = gc n [(22, x22), (23, x23), (24, x24), (25, x25)] S := nr (rfl)
def ee8 (x22 x23 x24 x30 : PV) : Env := [(22, x22), (23, x23), (24, x24), (30, x30)]
noncomputable def c1 : Code := at0 code
noncomputable def c2 : Code := at1 code
theorem code_h : code = .seq c1 c2 := by kernel_rfl
noncomputable def c3 : Code := at0 c2
noncomputable def c4 : Code := at1 c2
theorem c2_h : c2 = .seq c3 c4 := by kernel_rfl
noncomputable def c5 : Code := at0 c4
noncomputable def c6 : Code := at1 c4
theorem c4_h : c4 = .seq c5 c6 := by kernel_rfl
noncomputable def k7 (b : Nat) : KT := seqC (fun e S => execL (C b) 0 c6 (k0 b) e S) (k0 b)
@[go_sem] theorem k7_n (b : Nat) (x2 : PV) (S : Store) : k7 b .normal (ee4 x2) S =
  (k0 b) .ret (ee4 x2) S := nr ((show k7 b .normal (ee4 x2) S = execL (C b) 0 c6 (k0 b) (ee4 x2) S from seqC_n _ _ _ _).trans (execL_ret (by kernel_rfl)))
theorem k7_l (b : Nat) : seqC (fun e S => execL (C b) 0 c6 (k0 b) e S) (k0 b) = k7 b := rfl
noncomputable def k8 (b : Nat) : KT := seqC (fun e S => execL (C b) 0 c5 (k7 b) e S) (k0 b)
@[go_sem] theorem g9 (b : Nat) (K : KT) (x1 x6 x18 : PV) (S : Store) : execL (C b) 0 c5 K (ee3 x1 x6 x18) S =
  withV (some (.bool false)) fun x2 =>
    K .normal (ee4 x2) S := nr (by kernel_rfl)
@[go_sem] theorem k8_n (b : Nat) (e : Env) (S : Store) : k8 b .normal e S = execL (C b) 0 c5 (k7 b) e S := nr (seqC_n _ _ _ _)
@[go_sem] theorem k8_ret (b : Nat) (e : Env) (S : Store) : k8 b .ret e S = (k0 b) .ret e S := nr (seqC_r _ _ _ _)
theorem k8_l (b : Nat) : seqC (fun e S => execL (C b) 0 c4 (k0 b) e S) (k0 b) = k8 b := link_seq c4_h (k7_l b)
noncomputable def k10 (b : Nat) : KT := seqC (fun e S => execL (C b) 0 c3 (k8 b) e S) (k0 b)
noncomputable def c11 : Code := at0 c3
noncomputable def c12 : Code := at1 c3
theorem c3_h : c3 = .seq c11 c12 := by kernel_rfl
noncomputable def k13 (b : Nat) : KT := seqC (fun e S => execL (C b) 0 c12 (k8 b) e S) (k8 b)
noncomputable def c14 : Code := atB c12
theorem c12_h : c12 = .block 0 c14 := by kernel_rfl
noncomputable def k15 (b : Nat) : KT := blockC 0 (k8 b)
@[go_sem] theorem k15_n (b : Nat) (e : Env) (S : Store) : k15 b .normal e S = (k8 b) .normal e S := nr (blockC_n _ _ _ _)
@[go_sem] theorem k15_ret (b : Nat) (e : Env) (S : Store) : k15 b .ret e S = (k8 b) .ret e S := nr (blockC_r _ _ _ _)
noncomputable def c16 : Code := at0 c14
noncomputable def c17 : Code := at1 c14
theorem c14_h : c14 = .seq c16 c17 := by kernel_rfl
noncomputable def k18 (b : Nat) : KT := seqC (fun e S => execL (C b) 0 c17 (k15 b) e S) (k15 b)
noncomputable def c19 : Code := atT c17
noncomputable def c20 : Code := atF c17
theorem c17_h : c17 = .cond (.tmp 7) c19 c20 := by kernel_rfl
noncomputable def c22 : Code := at0 c19
noncomputable def c23 : Code := at1 c19
theorem c19_h : c19 = .seq c22 c23 := by kernel_rfl
noncomputable def k24 (b : Nat) : KT := seqC (fun e S => execL (C b) 0 c23 (k15 b) e S) (k15 b)
@[go_sem] theorem k24_n (b : Nat) (x2 : PV) (S : Store) : k24 b .normal (ee4 x2) S =
  (k15 b) .ret (ee4 x2) S := nr ((show k24 b .normal (ee4 x2) S = execL (C b) 0 c23 (k15 b) (ee4 x2) S from seqC_n _ _ _ _).trans (execL_ret (by kernel_rfl)))
theorem k24_l (b : Nat) : seqC (fun e S => execL (C b) 0 c23 (k15 b) e S) (k15 b) = k24 b := rfl
@[go_sem] theorem g25 (b : Nat) (K : KT) (x1 x6 x7 : PV) (S : Store) : execL (C b) 0 c22 K (ee2 x1 x6 x7) S =
  withV (some (.bool true)) fun x2 =>
    K .normal (ee4 x2) S := nr (by kernel_rfl)
noncomputable def E21 (b : Nat) (x1 x6 x7 : PV) (S : Store) : RT := execL (C b) 0 c19 (k15 b) (ee2 x1 x6 x7) S
@[go_sem] theorem E21_eq (b : Nat) (x1 x6 x7 : PV) (S : Store) : E21 b x1 x6 x7 S =
  execL (C b) 0 c22 (k24 b) (ee2 x1 x6 x7) S := nr ((enter_seq c19_h (k24_l b)).trans (rfl))
noncomputable def c27 : Code := at0 c20
noncomputable def c28 : Code := at1 c20
theorem c20_h : c20 = .seq c27 c28 := by kernel_rfl
noncomputable def k29 (b : Nat) : KT := seqC (fun e S => execL (C b) 0 c28 (k15 b) e S) (k15 b)
noncomputable def c30 : Code := atT c28
noncomputable def c31 : Code := atF c28
theorem c28_h : c28 = .cond (.tmp 18) c30 c31 := by kernel_rfl
noncomputable def c33 : Code := at0 c30
noncomputable def c34 : Code := at1 c30
theorem c30_h : c30 = .seq c33 c34 := by kernel_rfl
noncomputable def c35 : Code := at0 c34
noncomputable def c36 : Code := at1 c34
theorem c34_h : c34 = .seq c35 c36 := by kernel_rfl
noncomputable def k37 (b : Nat) : KT := seqC (fun e S => execL (C b) 0 c36 (k15 b) e S) (k15 b)
@[go_sem] theorem k37_n (b : Nat) (x2 : PV) (S : Store) : k37 b .normal (ee4 x2) S =
  (k15 b) .ret (ee4 x2) S := nr ((show k37 b .normal (ee4 x2) S = execL (C b) 0 c36 (k15 b) (ee4 x2) S from seqC_n _ _ _ _).trans (execL_ret (by kernel_rfl)))
theorem k37_l (b : Nat) : seqC (fun e S => execL (C b) 0 c36 (k15 b) e S) (k15 b) = k37 b := rfl
noncomputable def k38 (b : Nat) : KT := seqC (fun e S => execL (C b) 0 c35 (k37 b) e S) (k15 b)
@[go_sem] theorem g39 (b : Nat) (K : KT) (x22 x23 x24 x25 : PV) (S : Store) : execL (C b) 0 c35 K (ee7 x22 x23 x24 x25) S =
  withV (some (.bool true)) fun x2 =>
    K .normal (ee4 x2) S := nr (by kernel_rfl)
@[go_sem] theorem k38_n (b : Nat) (e : Env) (S : Store) : k38 b .normal e S = execL (C b) 0 c35 (k37 b) e S := nr (seqC_n _ _ _ _)
@[go_sem] theorem k38_ret (b : Nat) (e : Env) (S : Store) : k38 b .ret e S = (k15 b) .ret e S := nr (seqC_r _ _ _ _)
theorem k38_l (b : Nat) : seqC (fun e S => execL (C b) 0 c34 (k15 b) e S) (k15 b) = k38 b := link_seq c34_h (k37_l b)
noncomputable def c40 : Code := at0 c33
noncomputable def c41 : Code := at1 c33
theorem c33_h : c33 = .seq c40 c41 := by kernel_rfl
noncomputable def k42 (b : Nat) : KT := seqC (fun e S => execL (C b) 0 c41 (k38 b) e S) (k38 b)
noncomputable def c43 : Code := atB c41
theorem c41_h : c41 = .block 1 c43 := by kernel_rfl
noncomputable def k44 (b : Nat) : KT := blockC 1 (k38 b)
@[go_sem] theorem k44_ret (b : Nat) (e : Env) (S : Store) : k44 b .ret e S = (k38 b) .ret e S := nr (blockC_r _ _ _ _)
@[go_sem] theorem k44_exit (b : Nat) (i : Nat) (e : Env) (S : Store) : k44 b (.exit i) e S = if i = 1 then (k38 b) .normal e S else (k38 b) (.exit i) e S := nr (blockC_x _ _ _ _ _)
noncomputable def c45 : Code := atL c43
noncomputable def k46 (b n1 : Nat) : KT := afterC 1 n1 [] (k44 b)
noncomputable def L1g (b n1 : Nat) (e : Env) (S : Store) : RT := loopL (fun K e S => execL (C b) 1 c45 K e S) (normG [22, 23, 24] [] n1) (k46 b n1) e S
noncomputable def L1 (b n1 : Nat) (x22 x23 x24 : PV) (S : Store) : RT := L1g b n1 (ee6 x22 x23 x24) S
noncomputable def k47 (b n1 : Nat) : KT := stepC (normG [22, 23, 24] [] n1) (k46 b n1) (L1g b n1)
@[go_sem] theorem k47_n (b n1 : Nat) (x22 x23 x24 : PV) (S : Store) : k47 b n1 .normal (ee6 x22 x23 x24) S = L1 b n1 x22 x23 x24 (gc n1 (ee6 x22 x23 x24) S) := nr (by kernel_rfl)
@[go_sem] theorem k47_ret (b n1 : Nat) (e : Env) (S : Store) : k47 b n1 .ret e S = (k44 b) .ret e S := nr ((show k47 b n1 .ret e S = (k46 b n1) .ret e S from stepC_r _ _ _ _ _).trans (afterC_r _ _ _ _ _ _))
@[go_sem] theorem k47_x1 (b n1 : Nat) (x22 x23 x24 x25 : PV) (S : Store) : k47 b n1 (.exit 1) (ee7 x22 x23 x24 x25) S = (k44 b) (.exit 1) (ee7 .undef .undef .undef .undef) (gc n1 (ee7 .undef .undef .undef .undef) S) := nr ((show k47 b n1 (.exit 1) (ee7 x22 x23 x24 x25) S = (k46 b n1) (.exit 1) (ee7 x22 x23 x24 x25) S from stepC_x _ _ _ _ _ _).trans ((show (k46 b n1) (.exit 1) (ee7 x22 x23 x24 x25) S = _ from afterC_x _ _ _ _ _ _ _).trans (if_pos rfl)))
noncomputable def c48 : Code := at0 c45
noncomputable def c49 : Code := at1 c45
theorem c45_h : c45 = .seq c48 c49 := by kernel_rfl
noncomputable def c50 : Code := at0 c49
noncomputable def c51 : Code := at1 c49
theorem c49_h : c49 = .seq c50 c51 := by kernel_rfl
noncomputable def c52 : Code := at0 c51
noncomputable def c53 : Code := at1 c51
theorem c51_h : c51 = .seq c52 c53 := by kernel_rfl
noncomputable def k54 (b n1 : Nat) : KT := seqC (fun e S => execL (C b) 1 c53 (k47 b n1) e S) (k47 b n1)
@[go_sem] theorem g55 (b : Nat) (K : KT) (x22 x23 x24 x30 : PV) (S : Store) : execL (C b) 1 c53 K (ee8 x22 x23 x24 x30) S =
  withV (evBin .add (tyi Try.prog 3) x24 (.int .i64 1)) fun x31 =>
    withV (some x31) fun x24 =>
    K .normal (ee6 x22 x23 x24) S := nr (by kernel_rfl)
@[go_sem] theorem k54_n (b n1 : Nat) (e : Env) (S : Store) : k54 b n1 .normal e S = execL (C b) 1 c53 (k47 b n1) e S := nr (seqC_n _ _ _ _)
@[go_sem] theorem k54_ret (b n1 : Nat) (e : Env) (S : Store) : k54 b n1 .ret e S = (k47 b n1) .ret e S := nr (seqC_r _ _ _ _)
theorem k54_l (b n1 : Nat) : seqC (fun e S => execL (C b) 1 c53 (k47 b n1) e S) (k47 b n1) = k54 b n1 := rfl
noncomputable def k56 (b n1 : Nat) : KT := seqC (fun e S => execL (C b) 1 c52 (k54 b n1) e S) (k47 b n1)
noncomputable def c57 : Code := atB c52
theorem c52_h : c52 = .block 2 c57 := by kernel_rfl
noncomputable def k58 (b n1 : Nat) : KT := blockC 2 (k54 b n1)
@[go_sem] theorem k58_n (b n1 : Nat) (e : Env) (S : Store) : k58 b n1 .normal e S = (k54 b n1) .normal e S := nr (blockC_n _ _ _ _)
@[go_sem] theorem k58_ret (b n1 : Nat) (e : Env) (S : Store) : k58 b n1 .ret e S = (k54 b n1) .ret e S := nr (blockC_r _ _ _ _)
noncomputable def c59 : Code := at0 c57
noncomputable def c60 : Code := at1 c57
theorem c57_h : c57 = .seq c59 c60 := by kernel_rfl
noncomputable def c61 : Code := at0 c60
noncomputable def c62 : Code := at1 c60
theorem c60_h : c60 = .seq c61 c62 := by kernel_rfl
noncomputable def k63 (b n1 : Nat) : KT := seqC (fun e S => execL (C b) 2 c62 (k58 b n1) e S) (k58 b n1)
noncomputable def c64 : Code := atT c62
noncomputable def c65 : Code := atF c62
theorem c62_h : c62 = .cond (.tmp 30) c64 c65 := by kernel_rfl
noncomputable def c67 : Code := at0 c64
noncomputable def c68 : Code := at1 c64
theorem c64_h : c64 = .seq c67 c68 := by kernel_rfl
noncomputable def k69 (b n1 : Nat) : KT := seqC (fun e S => execL (C b) 2 c68 (k58 b n1) e S) (k58 b n1)
@[go_sem] theorem k69_n (b n1 : Nat) (x2 : PV) (S : Store) : k69 b n1 .normal (ee4 x2) S =
  (k58 b n1) .ret (ee4 x2) S := nr ((show k69 b n1 .normal (ee4 x2) S = execL (C b) 2 c68 (k58 b n1) (ee4 x2) S from seqC_n _ _ _ _).trans (execL_ret (by kernel_rfl)))
theorem k69_l (b n1 : Nat) : seqC (fun e S => execL (C b) 2 c68 (k58 b n1) e S) (k58 b n1) = k69 b n1 := rfl
@[go_sem] theorem g70 (b : Nat) (K : KT) (x22 x23 x24 x30 : PV) (S : Store) : execL (C b) 2 c67 K (ee8 x22 x23 x24 x30) S =
  withV (some (.bool false)) fun x2 =>
    K .normal (ee4 x2) S := nr (by kernel_rfl)
noncomputable def E66 (b n1 : Nat) (x22 x23 x24 x30 : PV) (S : Store) : RT := execL (C b) 2 c64 (k58 b n1) (ee8 x22 x23 x24 x30) S
@[go_sem] theorem E66_eq (b n1 : Nat) (x22 x23 x24 x30 : PV) (S : Store) : E66 b n1 x22 x23 x24 x30 S =
  execL (C b) 2 c67 (k69 b n1) (ee8 x22 x23 x24 x30) S := nr ((enter_seq c64_h (k69_l b n1)).trans (rfl))
@[go_sem] theorem k63_n (b n1 : Nat) (x22 x23 x24 x30 : PV) (S : Store) : k63 b n1 .normal (ee8 x22 x23 x24 x30) S =
  condC x30 (E66 b n1 x22 x23 x24 x30 S)
    ((k58 b n1) .normal (ee8 x22 x23 x24 x30) S) := nr ((show k63 b n1 .normal (ee8 x22 x23 x24 x30) S = execL (C b) 2 c62 (k58 b n1) (ee8 x22 x23 x24 x30) S from seqC_n _ _ _ _).trans (execL_cond c62_h (rfl) (execL_skip (by kernel_rfl)) rfl))
theorem k63_l (b n1 : Nat) : seqC (fun e S => execL (C b) 2 c62 (k58 b n1) e S) (k58 b n1) = k63 b n1 := rfl
noncomputable def k71 (b n1 : Nat) : KT := seqC (fun e S => execL (C b) 2 c61 (k63 b n1) e S) (k58 b n1)
@[go_sem] theorem g72 (b : Nat) (K : KT) (x4 x22 x23 x24 : PV) (S : Store) : execL (C b) 2 c61 K (ee5 x4 x22 x23 x24) S =
  withV (evLoad (tyi Try.prog 54) S x4) fun x28 =>
    withN (callO (callL Try.prog hints) S 86 [x28]) S fun x29 S =>
    withV (evUn .not x29) fun x30 =>
    K .normal (ee8 x22 x23 x24 x30) S := nr (by kernel_rfl)
@[go_sem] theorem k71_n (b n1 : Nat) (e : Env) (S : Store) : k71 b n1 .normal e S = execL (C b) 2 c61 (k63 b n1) e S := nr (seqC_n _ _ _ _)
theorem k71_l (b n1 : Nat) : seqC (fun e S => execL (C b) 2 c60 (k58 b n1) e S) (k58 b n1) = k71 b n1 := link_seq c60_h (k63_l b n1)
@[go_sem] theorem g73 (b : Nat) (K : KT) (x22 x23 x24 x25 : PV) (S : Store) : execL (C b) 2 c59 K (ee7 x22 x23 x24 x25) S =
  withV (indexAddrO Try.prog 52 S x22 x24) fun x26 =>
    withV (evLoad (tyi Try.prog 54) S x26) fun x27 =>
    withN (allocO (tyi Try.prog 54) (List.length S)) S fun x4 S =>
    withS (storeE (tyi Try.prog 54) S x4 x27) fun _u S =>
    K .normal (ee5 x4 x22 x23 x24) S := nr (by kernel_rfl)
@[go_sem] theorem k56_n (b n1 : Nat) (x22 x23 x24 x25 : PV) (S : Store) : k56 b n1 .normal (ee7 x22 x23 x24 x25) S =
  execL (C b) 2 c59 (k71 b n1) (ee7 x22 x23 x24 x25) S := nr ((show k56 b n1 .normal (ee7 x22 x23 x24 x25) S = execL (C b) 1 c52 (k54 b n1) (ee7 x22 x23 x24 x25) S from seqC_n _ _ _ _).trans ((show execL (C b) 1 c52 (k54 b n1) (ee7 x22 x23 x24 x25) S = execL (C b) 2 c57 (k58 b n1) (ee7 x22 x23 x24 x25) S from execL_block c52_h).trans ((enter_seq c57_h (k71_l b n1)).trans (rfl))))
@[go_sem] theorem k56_exit (b n1 : Nat) (i : Nat) (e : Env) (S : Store) : k56 b n1 (.exit i) e S = (k47 b n1) (.exit i) e S := nr (seqC_x _ _ _ _ _)
theorem k56_l (b n1 : Nat) : seqC (fun e S => execL (C b) 1 c51 (k47 b n1) e S) (k47 b n1) = k56 b n1 := link_seq c51_h (k54_l b n1)
noncomputable def k74 (b n1 : Nat) : KT := seqC (fun e S => execL (C b) 1 c50 (k56 b n1) e S) (k47 b n1)
noncomputable def c75 : Code := atT c50
noncomputable def c76 : Code := atF c50
theorem c50_h : c50 = .cond (.tmp 25) c75 c76 := by kernel_rfl
@[go_sem] theorem k74_n (b n1 : Nat) (x22 x23 x24 x25 : PV) (S : Store) : k74 b n1 .normal (ee7 x22 x23 x24 x25) S =
  condC x25 ((k56 b n1) .normal (ee7 x22 x23 x24 x25) S)
    ((k56 b n1) (.exit 1) (ee7 x22 x23 x24 x25) S) := nr ((show k74 b n1 .normal (ee7 x22 x23 x24 x25) S = execL (C b) 1 c50 (k56 b n1) (ee7 x22 x23 x24 x25) S from seqC_n _ _ _ _).trans (execL_cond c50_h (execL_skip (by kernel_rfl)) (execL_exit (by kernel_rfl)) rfl))
theorem k74_l (b n1 : Nat) : seqC (fun e S => execL (C b) 1 c49 (k47 b n1) e S) (k47 b n1) = k74 b n1 := link_seq c49_h (k56_l b n1)
@[go_sem] theorem g77 (b : Nat) (K : KT) (x22 x23 x24 : PV) (S : Store) : execL (C b) 1 c48 K (ee6 x22 x23 x24) S =
  withV (evBin .lss (tyi Try.prog 3) x24 x23) fun x25 =>
    K .normal (ee7 x22 x23 x24 x25) S := nr (by kernel_rfl)
noncomputable def B1 (b n1 : Nat) (x22 x23 x24 : PV) (S : Store) : RT := execL (C b) 1 c45 (k47 b n1) (ee6 x22 x23 x24) S
@[go_sem] theorem B1_eq (b n1 : Nat) (x22 x23 x24 : PV) (S : Store) : B1 b n1 x22 x23 x24 S =
  execL (C b) 1 c48 (k74 b n1) (ee6 x22 x23 x24) S := nr ((enter_seq c45_h (k74_l b n1)).trans (rfl))
theorem L1_step {b n1 : Nat} {x22 x23 x24 : PV} {S : Store} {z : PV × Store} (h : B1 b n1 x22 x23 x24 S = some z) : L1 b n1 x22 x23 x24 S = some z := loopL_step h
theorem L1_in (b : Nat) (x22 x23 x24 : PV) (S : Store) : execL (C b) 1 c43 (k44 b) (ee6 x22 x23 x24) S = L1 b (List.length S) x22 x23 x24 S := by kernel_rfl
@[go_sem] theorem k42_n (b : Nat) (x22 x23 x24 : PV) (S : Store) : k42 b .normal (ee6 x22 x23 x24) S =
  L1 b (List.length S) x22 x23 x24 S := nr ((show k42 b .normal (ee6 x22 x23 x24) S = execL (C b) 0 c41 (k38 b) (ee6 x22 x23 x24) S from seqC_n _ _ _ _).trans ((show execL (C b) 0 c41 (k38 b) (ee6 x22 x23 x24) S = execL (C b) 1 c43 (k44 b) (ee6 x22 x23 x24) S from execL_block c41_h).trans (L1_in b x22 x23 x24 S)))
theorem k42_l (b : Nat) : seqC (fun e S => execL (C b) 0 c41 (k38 b) e S) (k38 b) = k42 b := rfl
@[go_sem] theorem g79 (b : Nat) (K : KT) (x1 x6 x18 : PV) (S : Store) : execL (C b) 0 c40 K (ee3 x1 x6 x18) S =
  withV (evFieldAddr (tyi Try.prog 54) 3 x1) fun x21 =>
    withV (evLoad (tyi Try.prog 52) S x21) fun x22 =>
    withV (lenO (tyi Try.prog 52) x22) fun x23 =>
    withV (some (.int .i64 0)) fun x24 =>
    K .normal (ee6 x22 x23 x24) S := nr (by kernel_rfl)
noncomputable def E32 (b : Nat) (x1 x6 x18 : PV) (S : Store) : RT := execL (C b) 0 c30 (k15 b) (ee3 x1 x6 x18) S
@[go_sem] theorem E32_eq (b : Nat) (x1 x6 x18 : PV) (S : Store) : E32 b x1 x6 x18 S =
  execL (C b) 0 c40 (k42 b) (ee3 x1 x6 x18) S := nr ((enter_seq c30_h (k38_l b)).trans ((enter_seq c33_h (k42_l b)).trans (rfl)))
@[go_sem] theorem k29_n (b : Nat) (x1 x6 x18 : PV) (S : Store) : k29 b .normal (ee3 x1 x6 x18) S =
  condC x18 (E32 b x1 x6 x18 S)
    ((k15 b) .normal (ee3 x1 x6 x18) S) := nr ((show k29 b .normal (ee3 x1 x6 x18) S = execL (C b) 0 c28 (k15 b) (ee3 x1 x6 x18) S from seqC_n _ _ _ _).trans (execL_cond c28_h (rfl) (execL_skip (by kernel_rfl)) rfl))
theorem k29_l (b : Nat) : seqC (fun e S => execL (C b) 0 c28 (k15 b) e S) (k15 b) = k29 b := rfl
noncomputable def c80 : Code := at0 c27
noncomputable def c81 : Code := at1 c27
theorem c27_h : c27 = .seq c80 c81 := by kernel_rfl
noncomputable def k82 (b : Nat) : KT := seqC (fun e S => execL (C b) 0 c81 (k29 b) e S) (k29 b)
noncomputable def c83 : Code := atT c81
noncomputable def c84 : Code := atF c81
theorem c81_h : c81 = .cond (.tmp 18) c83 c84 := by kernel_rfl
@[go_sem] theorem g86 (b : Nat) (K : KT) (x1 x6 x18 : PV) (S : Store) : execL (C b) 0 c84 K (ee3 x1 x6 x18) S =
  withV (evBin .eql (tyi Try.prog 3) x6 (.int .i64 30)) fun x20 =>
    withV (some x20) fun x18 =>
    K .normal (ee3 x1 x6 x18) S := nr (by kernel_rfl)
noncomputable def E85 (b : Nat) (x1 x6 x18 : PV) (S : Store) : RT := execL (C b) 0 c84 (k29 b) (ee3 x1 x6 x18) S
@[go_sem] theorem E85_eq (b : Nat) (x1 x6 x18 : PV) (S : Store) : E85 b x1 x6 x18 S =
  execL (C b) 0 c84 (k29 b) (ee3 x1 x6 x18) S := nr (rfl)
@[go_sem] theorem k82_n (b : Nat) (x1 x6 x18 : PV) (S : Store) : k82 b .normal (ee3 x1 x6 x18) S =
  condC x18 ((k29 b) .normal (ee3 x1 x6 x18) S)
    (E85 b x1 x6 x18 S) := nr ((show k82 b .normal (ee3 x1 x6 x18) S = execL (C b) 0 c81 (k29 b) (ee3 x1 x6 x18) S from seqC_n _ _ _ _).trans (execL_cond c81_h (execL_skip (by kernel_rfl)) (rfl) rfl))
theorem k82_l (b : Nat) : seqC (fun e S => execL (C b) 0 c81 (k29 b) e S) (k29 b) = k82 b := rfl
@[go_sem] theorem g87 (b : Nat) (K : KT) (x1 x6 x7 : PV) (S : Store) : execL (C b) 0 c80 K (ee2 x1 x6 x7) S =
  withV (evBin .eql (tyi Try.prog 3) x6 (.int .i64 29)) fun x19 =>
    withV (some x19) fun x18 =>
    K .normal (ee3 x1 x6 x18) S := nr (by kernel_rfl)
noncomputable def E26 (b : Nat) (x1 x6 x7 : PV) (S : Store) : RT := execL (C b) 0 c20 (k15 b) (ee2 x1 x6 x7) S
@[go_sem] theorem E26_eq (b : Nat) (x1 x6 x7 : PV) (S : Store) : E26 b x1 x6 x7 S =
  execL (C b) 0 c80 (k82 b) (ee2 x1 x6 x7) S := nr ((enter_seq c20_h (k29_l b)).trans ((enter_seq c27_h (k82_l b)).trans (rfl)))
@[go_sem] theorem k18_n (b : Nat) (x1 x6 x7 : PV) (S : Store) : k18 b .normal (ee2 x1 x6 x7) S =
  condC x7 (E21 b x1 x6 x7 S)
    (E26 b x1 x6 x7 S) := nr ((show k18 b .normal (ee2 x1 x6 x7) S = execL (C b) 0 c17 (k15 b) (ee2 x1 x6 x7) S from seqC_n _ _ _ _).trans (execL_cond c17_h (rfl) (rfl) rfl))
theorem k18_l (b : Nat) : seqC (fun e S => execL (C b) 0 c17 (k15 b) e S) (k15 b) = k18 b := rfl
noncomputable def c88 : Code := at0 c16
noncomputable def c89 : Code := at1 c16
theorem c16_h : c16 = .seq c88 c89 := by kernel_rfl
noncomputable def k90 (b : Nat) : KT := seqC (fun e S => execL (C b) 0 c89 (k18 b) e S) (k18 b)
noncomputable def c91 : Code := atT c89
noncomputable def c92 : Code := atF c89
theorem c89_h : c89 = .cond (.tmp 7) c91 c92 := by kernel_rfl
noncomputable def c94 : Code := at0 c92
noncomputable def c95 : Code := at1 c92
theorem c92_h : c92 = .seq c94 c95 := by kernel_rfl
noncomputable def k96 (b : Nat) : KT := seqC (fun e S => execL (C b) 0 c95 (k18 b) e S) (k18 b)
noncomputable def c97 : Code := atT c95
noncomputable def c98 : Code := atF c95
theorem c95_h : c95 = .cond (.tmp 7) c97 c98 := by kernel_rfl
noncomputable def c100 : Code := at0 c98
noncomputable def c101 : Code := at1 c98
theorem c98_h : c98 = .seq c100 c101 := by kernel_rfl
noncomputable def k102 (b : Nat) : KT := seqC (fun e S => execL (C b) 0 c101 (k18 b) e S) (k18 b)
noncomputable def c103 : Code := atT c101
noncomputable def c104 : Code := atF c101
theorem c101_h : c101 = .cond (.tmp 7) c103 c104 := by kernel_rfl
noncomputable def c106 : Code := at0 c104
noncomputable def c107 : Code := at1 c104
theorem c104_h : c104 = .seq c106 c107 := by kernel_rfl
noncomputable def k108 (b : Nat) : KT := seqC (fun e S => execL (C b) 0 c107 (k18 b) e S) (k18 b)
noncomputable def c109 : Code := atT c107
noncomputable def c110 : Code := atF c107
theorem c107_h : c107 = .cond (.tmp 7) c109 c110 := by kernel_rfl
noncomputable def c112 : Code := at0 c110
noncomputable def c113 : Code := at1 c110
theorem c110_h : c110 = .seq c112 c113 := by kernel_rfl
noncomputable def k114 (b : Nat) : KT := seqC (fun e S => execL (C b) 0 c113 (k18 b) e S) (k18 b)
noncomputable def c115 : Code := atT c113
noncomputable def c116 : Code := atF c113
theorem c113_h : c113 = .cond (.tmp 7) c115 c116 := by kernel_rfl
noncomputable def c118 : Code := at0 c116
noncomputable def c119 : Code := at1 c116
theorem c116_h : c116 = .seq c118 c119 := by kernel_rfl
noncomputable def k120 (b : Nat) : KT := seqC (fun e S => execL (C b) 0 c119 (k18 b) e S) (k18 b)
noncomputable def c121 : Code := atT c119
noncomputable def c122 : Code := atF c119
theorem c119_h : c119 = .cond (.tmp 7) c121 c122 := by kernel_rfl
noncomputable def c124 : Code := at0 c122
noncomputable def c125 : Code := at1 c122
theorem c122_h : c122 = .seq c124 c125 := by kernel_rfl
noncomputable def k126 (b : Nat) : KT := seqC (fun e S => execL (C b) 0 c125 (k18 b) e S) (k18 b)
noncomputable def c127 : Code := atT c125
noncomputable def c128 : Code := atF c125
theorem c125_h : c125 = .cond (.tmp 7) c127 c128 := by kernel_rfl
noncomputable def c130 : Code := at0 c128
noncomputable def c131 : Code := at1 c128
theorem c128_h : c128 = .seq c130 c131 := by kernel_rfl
noncomputable def k132 (b : Nat) : KT := seqC (fun e S => execL (C b) 0 c131 (k18 b) e S) (k18 b)
noncomputable def c133 : Code := atT c131
noncomputable def c134 : Code := atF c131
theorem c131_h : c131 = .cond (.tmp 7) c133 c134 := by kernel_rfl
noncomputable def c136 : Code := at0 c134
noncomputable def c137 : Code := at1 c134
theorem c134_h : c134 = .seq c136 c137 := by kernel_rfl
noncomputable def k138 (b : Nat) : KT := seqC (fun e S => execL (C b) 0 c137 (k18 b) e S) (k18 b)
noncomputable def c139 : Code := atT c137
noncomputable def c140 : Code := atF c137
theorem c137_h : c137 = .cond (.tmp 7) c139 c140 := by kernel_rfl
@[go_sem] theorem g142 (b : Nat) (K : KT) (x1 x6 x7 : PV) (S : Store) : execL (C b) 0 c140 K (ee2 x1 x6 x7) S =
  withV (evBin .eql (tyi Try.prog 3) x6 (.int .i64 38)) fun x17 =>
    withV (some x17) fun x7 =>
    K .normal (ee2 x1 x6 x7) S := nr (by kernel_rfl)
noncomputable def E141 (b : Nat) (x1 x6 x7 : PV) (S : Store) : RT := execL (C b) 0 c140 (k18 b) (ee2 x1 x6 x7) S
@[go_sem] theorem E141_eq (b : Nat) (x1 x6 x7 : PV) (S : Store) : E141 b x1 x6 x7 S =
  execL (C b) 0 c140 (k18 b) (ee2 x1 x6 x7) S := nr (rfl)
@[go_sem] theorem k138_n (b : Nat) (x1 x6 x7 : PV) (S : Store) : k138 b .normal (ee2 x1 x6 x7) S =
  condC x7 ((k18 b) .normal (ee2 x1 x6 x7) S)
    (E141 b x1 x6 x7 S) := nr ((show k138 b .normal (ee2 x1 x6 x7) S = execL (C b) 0 c137 (k18 b) (ee2 x1 x6 x7) S from seqC_n _ _ _ _).trans (execL_cond c137_h (execL_skip (by kernel_rfl)) (rfl) rfl))
theorem k138_l (b : Nat) : seqC (fun e S => execL (C b) 0 c137 (k18 b) e S) (k18 b) = k138 b := rfl
@[go_sem] theorem g143 (b : Nat) (K : KT) (x1 x6 x7 : PV) (S : Store) : execL (C b) 0 c136 K (ee2 x1 x6 x7) S =
  withV (evBin .eql (tyi Try.prog 3) x6 (.int .i64 37)) fun x16 =>
    withV (some x16) fun x7 =>
    K .normal (ee2 x1 x6 x7) S := nr (by kernel_rfl)
noncomputable def E135 (b : Nat) (x1 x6 x7 : PV) (S : Store) : RT := execL (C b) 0 c134 (k18 b) (ee2 x1 x6 x7) S
@[go_sem] theorem E135_eq (b : Nat) (x1 x6 x7 : PV) (S : Store) : E135 b x1 x6 x7 S =
  execL (C b) 0 c136 (k138 b) (ee2 x1 x6 x7) S := nr ((enter_seq c134_h (k138_l b)).trans (rfl))
@[go_sem] theorem k132_n (b : Nat) (x1 x6 x7 : PV) (S : Store) : k132 b .normal (ee2 x1 x6 x7) S =
  condC x7 ((k18 b) .normal (ee2 x1 x6 x7) S)
    (E135 b x1 x6 x7 S) := nr ((show k132 b .normal (ee2 x1 x6 x7) S = execL (C b) 0 c131 (k18 b) (ee2 x1 x6 x7) S from seqC_n _ _ _ _).trans (execL_cond c131_h (execL_skip (by kernel_rfl)) (rfl) rfl))
theorem k132_l (b : Nat) : seqC (fun e S => execL (C b) 0 c131 (k18 b) e S) (k18 b) = k132 b := rfl
@[go_sem] theorem g144 (b : Nat) (K : KT) (x1 x6 x7 : PV) (S : Store) : execL (C b) 0 c130 K (ee2 x1 x6 x7) S =
  withV (evBin .eql (tyi Try.prog 3) x6 (.int .i64 27)) fun x15 =>
    withV (some x15) fun x7 =>
    K .normal (ee2 x1 x6 x7) S := nr (by kernel_rfl)
noncomputable def E129 (b : Nat) (x1 x6 x7 : PV) (S : Store) : RT := execL (C b) 0 c128 (k18 b) (ee2 x1 x6 x7) S
@[go_sem] theorem E129_eq (b : Nat) (x1 x6 x7 : PV) (S : Store) : E129 b x1 x6 x7 S =
  execL (C b) 0 c130 (k132 b) (ee2 x1 x6 x7) S := nr ((enter_seq c128_h (k132_l b)).trans (rfl))
@[go_sem] theorem k126_n (b : Nat) (x1 x6 x7 : PV) (S : Store) : k126 b .normal (ee2 x1 x6 x7) S =
  condC x7 ((k18 b) .normal (ee2 x1 x6 x7) S)
    (E129 b x1 x6 x7 S) := nr ((show k126 b .normal (ee2 x1 x6 x7) S = execL (C b) 0 c125 (k18 b) (ee2 x1 x6 x7) S from seqC_n _ _ _ _).trans (execL_cond c125_h (execL_skip (by kernel_rfl)) (rfl) rfl))
theorem k126_l (b : Nat) : seqC (fun e S => execL (C b) 0 c125 (k18 b) e S) (k18 b) = k126 b := rfl
@[go_sem] theorem g145 (b : Nat) (K : KT) (x1 x6 x7 : PV) (S : Store) : execL (C b) 0 c124 K (ee2 x1 x6 x7) S =
  withV (evBin .eql (tyi Try.prog 3) x6 (.int .i64 26)) fun x14 =>
    withV (some x14) fun x7 =>
    K .normal (ee2 x1 x6 x7) S := nr (by kernel_rfl)
noncomputable def E123 (b : Nat) (x1 x6 x7 : PV) (S : Store) : RT := execL (C b) 0 c122 (k18 b) (ee2 x1 x6 x7) S
@[go_sem] theorem E123_eq (b : Nat) (x1 x6 x7 : PV) (S : Store) : E123 b x1 x6 x7 S =
  execL (C b) 0 c124 (k126 b) (ee2 x1 x6 x7) S := nr ((enter_seq c122_h (k126_l b)).trans (rfl))
@[go_sem] theorem k120_n (b : Nat) (x1 x6 x7 : PV) (S : Store) : k120 b .normal (ee2 x1 x6 x7) S =
  condC x7 ((k18 b) .normal (ee2 x1 x6 x7) S)
    (E123 b x1 x6 x7 S) := nr ((show k120 b .normal (ee2 x1 x6 x7) S = execL (C b) 0 c119 (k18 b) (ee2 x1 x6 x7) S from seqC_n _ _ _ _).trans (execL_cond c119_h (execL_skip (by kernel_rfl)) (rfl) rfl))
theorem k120_l (b : Nat) : seqC (fun e S => execL (C b) 0 c119 (k18 b) e S) (k18 b) = k120 b := rfl
@[go_sem] theorem g146 (b : Nat) (K : KT) (x1 x6 x7 : PV) (S : Store) : execL (C b) 0 c118 K (ee2 x1 x6 x7) S =
  withV (evBin .eql (tyi Try.prog 3) x6 (.int .i64 25)) fun x13 =>
    withV (some x13) fun x7 =>
    K .normal (ee2 x1 x6 x7) S := nr (by kernel_rfl)
noncomputable def E117 (b : Nat) (x1 x6 x7 : PV) (S : Store) : RT := execL (C b) 0 c116 (k18 b) (ee2 x1 x6 x7) S
@[go_sem] theorem E117_eq (b : Nat) (x1 x6 x7 : PV) (S : Store) : E117 b x1 x6 x7 S =
  execL (C b) 0 c118 (k120 b) (ee2 x1 x6 x7) S := nr ((enter_seq c116_h (k120_l b)).trans (rfl))
@[go_sem] theorem k114_n (b : Nat) (x1 x6 x7 : PV) (S : Store) : k114 b .normal (ee2 x1 x6 x7) S =
  condC x7 ((k18 b) .normal (ee2 x1 x6 x7) S)
    (E117 b x1 x6 x7 S) := nr ((show k114 b .normal (ee2 x1 x6 x7) S = execL (C b) 0 c113 (k18 b) (ee2 x1 x6 x7) S from seqC_n _ _ _ _).trans (execL_cond c113_h (execL_skip (by kernel_rfl)) (rfl) rfl))
theorem k114_l (b : Nat) : seqC (fun e S => execL (C b) 0 c113 (k18 b) e S) (k18 b) = k114 b := rfl
@[go_sem] theorem g147 (b : Nat) (K : KT) (x1 x6 x7 : PV) (S : Store) : execL (C b) 0 c112 K (ee2 x1 x6 x7) S =
  withV (evBin .eql (tyi Try.prog 3) x6 (.int .i64 24)) fun x12 =>
    withV (some x12) fun x7 =>
    K .normal (ee2 x1 x6 x7) S := nr (by kernel_rfl)
noncomputable def E111 (b : Nat) (x1 x6 x7 : PV) (S : Store) : RT := execL (C b) 0 c110 (k18 b) (ee2 x1 x6 x7) S
@[go_sem] theorem E111_eq (b : Nat) (x1 x6 x7 : PV) (S : Store) : E111 b x1 x6 x7 S =
  execL (C b) 0 c112 (k114 b) (ee2 x1 x6 x7) S := nr ((enter_seq c110_h (k114_l b)).trans (rfl))
@[go_sem] theorem k108_n (b : Nat) (x1 x6 x7 : PV) (S : Store) : k108 b .normal (ee2 x1 x6 x7) S =
  condC x7 ((k18 b) .normal (ee2 x1 x6 x7) S)
    (E111 b x1 x6 x7 S) := nr ((show k108 b .normal (ee2 x1 x6 x7) S = execL (C b) 0 c107 (k18 b) (ee2 x1 x6 x7) S from seqC_n _ _ _ _).trans (execL_cond c107_h (execL_skip (by kernel_rfl)) (rfl) rfl))
theorem k108_l (b : Nat) : seqC (fun e S => execL (C b) 0 c107 (k18 b) e S) (k18 b) = k108 b := rfl
@[go_sem] theorem g148 (b : Nat) (K : KT) (x1 x6 x7 : PV) (S : Store) : execL (C b) 0 c106 K (ee2 x1 x6 x7) S =
  withV (evBin .eql (tyi Try.prog 3) x6 (.int .i64 23)) fun x11 =>
    withV (some x11) fun x7 =>
    K .normal (ee2 x1 x6 x7) S := nr (by kernel_rfl)
noncomputable def E105 (b : Nat) (x1 x6 x7 : PV) (S : Store) : RT := execL (C b) 0 c104 (k18 b) (ee2 x1 x6 x7) S
@[go_sem] theorem E105_eq (b : Nat) (x1 x6 x7 : PV) (S : Store) : E105 b x1 x6 x7 S =
  execL (C b) 0 c106 (k108 b) (ee2 x1 x6 x7) S := nr ((enter_seq c104_h (k108_l b)).trans (rfl))
@[go_sem] theorem k102_n (b : Nat) (x1 x6 x7 : PV) (S : Store) : k102 b .normal (ee2 x1 x6 x7) S =
  condC x7 ((k18 b) .normal (ee2 x1 x6 x7) S)
    (E105 b x1 x6 x7 S) := nr ((show k102 b .normal (ee2 x1 x6 x7) S = execL (C b) 0 c101 (k18 b) (ee2 x1 x6 x7) S from seqC_n _ _ _ _).trans (execL_cond c101_h (execL_skip (by kernel_rfl)) (rfl) rfl))
theorem k102_l (b : Nat) : seqC (fun e S => execL (C b) 0 c101 (k18 b) e S) (k18 b) = k102 b := rfl
@[go_sem] theorem g149 (b : Nat) (K : KT) (x1 x6 x7 : PV) (S : Store) : execL (C b) 0 c100 K (ee2 x1 x6 x7) S =
  withV (evBin .eql (tyi Try.prog 3) x6 (.int .i64 22)) fun x10 =>
    withV (some x10) fun x7 =>
    K .normal (ee2 x1 x6 x7) S := nr (by kernel_rfl)
noncomputable def E99 (b : Nat) (x1 x6 x7 : PV) (S : Store) : RT := execL (C b) 0 c98 (k18 b) (ee2 x1 x6 x7) S
@[go_sem] theorem E99_eq (b : Nat) (x1 x6 x7 : PV) (S : Store) : E99 b x1 x6 x7 S =
  execL (C b) 0 c100 (k102 b) (ee2 x1 x6 x7) S := nr ((enter_seq c98_h (k102_l b)).trans (rfl))
@[go_sem] theorem k96_n (b : Nat) (x1 x6 x7 : PV) (S : Store) : k96 b .normal (ee2 x1 x6 x7) S =
  condC x7 ((k18 b) .normal (ee2 x1 x6 x7) S)
    (E99 b x1 x6 x7 S) := nr ((show k96 b .normal (ee2 x1 x6 x7) S = execL (C b) 0 c95 (k18 b) (ee2 x1 x6 x7) S from seqC_n _ _ _ _).trans (execL_cond c95_h (execL_skip (by kernel_rfl)) (rfl) rfl))
theorem k96_l (b : Nat) : seqC (fun e S => execL (C b) 0 c95 (k18 b) e S) (k18 b) = k96 b := rfl
@[go_sem] theorem g150 (b : Nat) (K : KT) (x1 x6 x7 : PV) (S : Store) : execL (C b) 0 c94 K (ee2 x1 x6 x7) S =
  withV (evBin .eql (tyi Try.prog 3) x6 (.int .i64 21)) fun x9 =>
    withV (some x9) fun x7 =>
    K .normal (ee2 x1 x6 x7) S := nr (by kernel_rfl)
noncomputable def E93 (b : Nat) (x1 x6 x7 : PV) (S : Store) : RT := execL (C b) 0 c92 (k18 b) (ee2 x1 x6 x7) S
@[go_sem] theorem E93_eq (b : Nat) (x1 x6 x7 : PV) (S : Store) : E93 b x1 x6 x7 S =
  execL (C b) 0 c94 (k96 b) (ee2 x1 x6 x7) S := nr ((enter_seq c92_h (k96_l b)).trans (rfl))
@[go_sem] theorem k90_n (b : Nat) (x1 x6 x7 : PV) (S : Store) : k90 b .normal (ee2 x1 x6 x7) S =
  condC x7 ((k18 b) .normal (ee2 x1 x6 x7) S)
    (E93 b x1 x6 x7 S) := nr ((show k90 b .normal (ee2 x1 x6 x7) S = execL (C b) 0 c89 (k18 b) (ee2 x1 x6 x7) S from seqC_n _ _ _ _).trans (execL_cond c89_h (execL_skip (by kernel_rfl)) (rfl) rfl))
theorem k90_l (b : Nat) : seqC (fun e S => execL (C b) 0 c89 (k18 b) e S) (k18 b) = k90 b := rfl
@[go_sem] theorem g151 (b : Nat) (K : KT) (x1 x6 : PV) (S : Store) : execL (C b) 0 c88 K (ee1 x1 x6) S =
  withV (evBin .eql (tyi Try.prog 3) x6 (.int .i64 20)) fun x8 =>
    withV (some x8) fun x7 =>
    K .normal (ee2 x1 x6 x7) S := nr (by kernel_rfl)
@[go_sem] theorem k13_n (b : Nat) (x1 x6 : PV) (S : Store) : k13 b .normal (ee1 x1 x6) S =
  execL (C b) 0 c88 (k90 b) (ee1 x1 x6) S := nr ((show k13 b .normal (ee1 x1 x6) S = execL (C b) 0 c12 (k8 b) (ee1 x1 x6) S from seqC_n _ _ _ _).trans ((show execL (C b) 0 c12 (k8 b) (ee1 x1 x6) S = execL (C b) 0 c14 (k15 b) (ee1 x1 x6) S from execL_block c12_h).trans ((enter_seq c14_h (k18_l b)).trans ((enter_seq c16_h (k90_l b)).trans (rfl)))))
theorem k13_l (b : Nat) : seqC (fun e S => execL (C b) 0 c12 (k8 b) e S) (k8 b) = k13 b := rfl
@[go_sem] theorem g152 (b : Nat) (K : KT) (x1 : PV) (S : Store) : execL (C b) 0 c11 K (ee0 x1) S =
  withV (evFieldAddr (tyi Try.prog 54) 0 x1) fun x5 =>
    withV (evLoad (tyi Try.prog 3) S x5) fun x6 =>
    K .normal (ee1 x1 x6) S := nr (by kernel_rfl)
@[go_sem] theorem k10_n (b : Nat) (x1 : PV) (S : Store) : k10 b .normal (ee0 x1) S =
  execL (C b) 0 c11 (k13 b) (ee0 x1) S := nr ((show k10 b .normal (ee0 x1) S = execL (C b) 0 c3 (k8 b) (ee0 x1) S from seqC_n _ _ _ _).trans ((enter_seq c3_h (k13_l b)).trans (rfl)))
theorem k10_l (b : Nat) : seqC (fun e S => execL (C b) 0 c2 (k0 b) e S) (k0 b) = k10 b := link_seq c2_h (k8_l b)
@[go_sem] theorem g153 (b : Nat) (K : KT) (x0 : PV) (S : Store) : execL (C b) 0 c1 K [(0, x0)] S =
  withN (boxed S (List.length S) (TI.size (tyi Try.prog 54)) x0) S fun x1 S =>
    withV (some (.bool false)) fun x2 =>
    K .normal (ee0 x1) S := nr (by kernel_rfl)
noncomputable def E (b : Nat) (x0 : PV) (S : Store) : RT := execL (C b) 0 code (k0 b) [(0, x0)] S
@[go_sem] theorem E_eq (b : Nat) (x0 : PV) (S : Store) : E b x0 S =
  execL (C b) 0 c1 (k10 b) [(0, x0)] S := nr ((enter_seq code_h (k10_l b)).trans (rfl))
theorem call {x0 : PV} {r : PV × Store} {v : PV} (h : E 0 x0 [] = some r) (hv : fzPV r.2 r.1 = some v) : callL Try.prog hints 86 [x0] = some v := callL_of (fn := Try.f86) (c := code) (by kernel_rfl) (by kernel_rfl) (by decide) (by kernel_rfl) (Nat.le_of_ble_eq_true (by kernel_rfl)) h hv
end F86
/-! ### tree.within -/
namespace F63
def hint : Hint := { keep := [], loops := [(0, { live := [1, 2, 23, 24, 25], after := [], own := [], fz := [] })], regs := [(0, [1, 2, 3]), (1, [1, 2, 3]), (2, [1, 2, 3, 21]), (3, [6]), (4, [1, 2, 23, 24, 25]), (5, [1, 2, 23, 24, 25, 26]), (6, [1, 2, 8, 23, 24, 25]), (7, [1, 2, 23, 24, 25, 34]), (8, [6]), (9, [1, 2, 23, 24, 25]), (10, [6])] }
noncomputable def C (b : Nat) : Ctx := ctxL Try.prog hints b hint
noncomputable def code : Code := Try.f63.body.get rfl
noncomputable def k0 (b : Nat) : KT := endC Try.prog Try.f63
def ee0 (x1 x2 x3 : PV) : Env := [(1, x1), (2, x2), (3, x3)]
def ee1 (x1 x2 x3 x21 : PV) : Env := [(1, x1), (2, x2), (3, x3), (21, x21)]
def ee2 (x1 x2 x8 x23 x24 x25 : PV) : Env := [(1, x1), (2, x2), (8, x8), (23, x23), (24, x24), (25, x25)]
def ee3 (x1 x2 x23 x24 x25 : PV) : Env := [(1, x1), (2, x2), (23, x23), (24, x24), (25, x25)]
@[go_sem] theorem gc_ee3 (n : Nat) (x1 x2 x23 x24 x25 : PV) (S : Store) : gc n (ee3 x1 x2 x23 x24 x25) S = gc n [(1, x1), (2, x2), (23, x23), (24, x24), (25, x25)] S := nr (rfl)
def ee4 (x1 x2 x23 x24 x25 x26 : PV) : Env := [(1, x1), (2, x2), (23, x23), (24, x24), (25, x25), (26, x26)]
@[go_sem] theorem gc_ee4 (n : Nat) (x1 x2 x23 x24 x25 x26 : PV) (S : Store) : gc n (ee4 x1 x2 x23 x24 x25 x26) S = gc n [(1, x1), (2, x2), (23, x23), (24, x24), (25, x25), (26, x26)] S := nr (rfl)
def ee5 (x1 x2 x23 x24 x25 x34 : PV) : Env := [(1, x1), (2, x2), (23, x23), (24, x24), (25, x25), (34, x34)]
def ee6 (x6 : PV) : Env := [(6, x6)]
@[go_sem] theorem k0_ret6 (b : Nat) (x6 : PV) (S : Store) : k0 b .ret (ee6 x6) S = some (x6, S) := nr (by kernel_rfl)
noncomputable def c1 : Code := at0 code
noncomputable def c2 : Code := at1 code
theorem code_h : code = .seq c1 c2 := by kernel_rfl
noncomputable def c3 : Code := at0 c2
noncomputable def c4 : Code := at1 c2
theorem c2_h : c2 = .seq c3 c4 := by kernel_rfl
noncomputable def c5 : Code := at0 c4
noncomputable def c6 : Code := at1 c4
theorem c4_h : c4 = .seq c5 c6 := by kernel_rfl
noncomputable def c7 : Code := at0 c6
noncomputable def c8 : Code := at1 c6
theorem c6_h : c6 = .seq c7 c8 := by kernel_rfl
noncomputable def c9 : Code := at0 c8
noncomputable def c10 : Code := at1 c8
theorem c8_h : c8 = .seq c9 c10 := by kernel_rfl
noncomputable def k11 (b : Nat) : KT := seqC (fun e S => execL (C b) 0 c10 (k0 b) e S) (k0 b)
@[go_sem] theorem k11_n (b : Nat) (x6 : PV) (S : Store) : k11 b .normal (ee6 x6) S =
  (k0 b) .ret (ee6 x6) S := nr ((show k11 b .normal (ee6 x6) S = execL (C b) 0 c10 (k0 b) (ee6 x6) S from seqC_n _ _ _ _).trans (execL_ret (by kernel_rfl)))
theorem k11_l (b : Nat) : seqC (fun e S => execL (C b) 0 c10 (k0 b) e S) (k0 b) = k11 b := rfl
noncomputable def k12 (b : Nat) : KT := seqC (fun e S => execL (C b) 0 c9 (k11 b) e S) (k0 b)
@[go_sem] theorem g13 (b : Nat) (K : KT) (x1 x2 x23 x24 x25 x26 : PV) (S : Store) : execL (C b) 0 c9 K (ee4 x1 x2 x23 x24 x25 x26) S =
  withV (some (.bool true)) fun x6 =>
    K .normal (ee6 x6) S := nr (by kernel_rfl)
@[go_sem] theorem k12_n (b : Nat) (e : Env) (S : Store) : k12 b .normal e S = execL (C b) 0 c9 (k11 b) e S := nr (seqC_n _ _ _ _)
@[go_sem] theorem k12_ret (b : Nat) (e : Env) (S : Store) : k12 b .ret e S = (k0 b) .ret e S := nr (seqC_r _ _ _ _)
theorem k12_l (b : Nat) : seqC (fun e S => execL (C b) 0 c8 (k0 b) e S) (k0 b) = k12 b := link_seq c8_h (k11_l b)
noncomputable def k14 (b : Nat) : KT := seqC (fun e S => execL (C b) 0 c7 (k12 b) e S) (k0 b)
noncomputable def c15 : Code := at0 c7
noncomputable def c16 : Code := at1 c7
theorem c7_h : c7 = .seq c15 c16 := by kernel_rfl
noncomputable def k17 (b : Nat) : KT := seqC (fun e S => execL (C b) 0 c16 (k12 b) e S) (k12 b)
noncomputable def c18 : Code := atB c16
theorem c16_h : c16 = .block 0 c18 := by kernel_rfl
noncomputable def k19 (b : Nat) : KT := blockC 0 (k12 b)
@[go_sem] theorem k19_ret (b : Nat) (e : Env) (S : Store) : k19 b .ret e S = (k12 b) .ret e S := nr (blockC_r _ _ _ _)
@[go_sem] theorem k19_exit (b : Nat) (i : Nat) (e : Env) (S : Store) : k19 b (.exit i) e S = if i = 0 then (k12 b) .normal e S else (k12 b) (.exit i) e S := nr (blockC_x _ _ _ _ _)
noncomputable def c20 : Code := atL c18
noncomputable def k21 (b n0 : Nat) : KT := afterC 0 n0 [] (k19 b)
noncomputable def L0g (b n0 : Nat) (e : Env) (S : Store) : RT := loopL (fun K e S => execL (C b) 0 c20 K e S) (normG [1, 2, 23, 24, 25] [] n0) (k21 b n0) e S
noncomputable def L0 (b n0 : Nat) (x1 x2 x23 x24 x25 : PV) (S : Store) : RT := L0g b n0 (ee3 x1 x2 x23 x24 x25) S
noncomputable def k22 (b n0 : Nat) : KT := stepC (normG [1, 2, 23, 24, 25] [] n0) (k21 b n0) (L0g b n0)
@[go_sem] theorem k22_n (b n0 : Nat) (x1 x2 x23 x24 x25 : PV) (S : Store) : k22 b n0 .normal (ee3 x1 x2 x23 x24 x25) S = L0 b n0 x1 x2 x23 x24 x25 (gc n0 (ee3 x1 x2 x23 x24 x25) S) := nr (by kernel_rfl)
@[go_sem] theorem k22_ret (b n0 : Nat) (e : Env) (S : Store) : k22 b n0 .ret e S = (k19 b) .ret e S := nr ((show k22 b n0 .ret e S = (k21 b n0) .ret e S from stepC_r _ _ _ _ _).trans (afterC_r _ _ _ _ _ _))
@[go_sem] theorem k22_x1 (b n0 : Nat) (x1 x2 x23 x24 x25 x26 : PV) (S : Store) : k22 b n0 (.exit 0) (ee4 x1 x2 x23 x24 x25 x26) S = (k19 b) (.exit 0) (ee4 .undef .undef .undef .undef .undef .undef) (gc n0 (ee4 .undef .undef .undef .undef .undef .undef) S) := nr ((show k22 b n0 (.exit 0) (ee4 x1 x2 x23 x24 x25 x26) S = (k21 b n0) (.exit 0) (ee4 x1 x2 x23 x24 x25 x26) S from stepC_x _ _ _ _ _ _).trans ((show (k21 b n0) (.exit 0) (ee4 x1 x2 x23 x24 x25 x26) S = _ from afterC_x _ _ _ _ _ _ _).trans (if_pos rfl)))
noncomputable def c23 : Code := at0 c20
noncomputable def c24 : Code := at1 c20
theorem c20_h : c20 = .seq c23 c24 := by kernel_rfl
noncomputable def c25 : Code := at0 c24
noncomputable def c26 : Code := at1 c24
theorem c24_h : c24 = .seq c25 c26 := by kernel_rfl
noncomputable def c27 : Code := at0 c26
noncomputable def c28 : Code := at1 c26
theorem c26_h : c26 = .seq c27 c28 := by kernel_rfl
noncomputable def k29 (b n0 : Nat) : KT := seqC (fun e S => execL (C b) 0 c28 (k22 b n0) e S) (k22 b n0)
@[go_sem] theorem g30 (b : Nat) (K : KT) (x1 x2 x23 x24 x25 x34 : PV) (S : Store) : execL (C b) 0 c28 K (ee5 x1 x2 x23 x24 x25 x34) S =
  withV (evBin .add (tyi Try.prog 3) x25 (.int .i64 1)) fun x35 =>
    withV (some x35) fun x25 =>
    K .normal (ee3 x1 x2 x23 x24 x25) S := nr (by kernel_rfl)
@[go_sem] theorem k29_n (b n0 : Nat) (e : Env) (S : Store) : k29 b n0 .normal e S = execL (C b) 0 c28 (k22 b n0) e S := nr (seqC_n _ _ _ _)
@[go_sem] theorem k29_ret (b n0 : Nat) (e : Env) (S : Store) : k29 b n0 .ret e S = (k22 b n0) .ret e S := nr (seqC_r _ _ _ _)
theorem k29_l (b n0 : Nat) : seqC (fun e S => execL (C b) 0 c28 (k22 b n0) e S) (k22 b n0) = k29 b n0 := rfl
noncomputable def k31 (b n0 : Nat) : KT := seqC (fun e S => execL (C b) 0 c27 (k29 b n0) e S) (k22 b n0)
noncomputable def c32 : Code := atB c27
theorem c27_h : c27 = .block 1 c32 := by kernel_rfl
noncomputable def k33 (b n0 : Nat) : KT := blockC 1 (k29 b n0)
@[go_sem] theorem k33_n (b n0 : Nat) (e : Env) (S : Store) : k33 b n0 .normal e S = (k29 b n0) .normal e S := nr (blockC_n _ _ _ _)
@[go_sem] theorem k33_ret (b n0 : Nat) (e : Env) (S : Store) : k33 b n0 .ret e S = (k29 b n0) .ret e S := nr (blockC_r _ _ _ _)
noncomputable def c34 : Code := at0 c32
noncomputable def c35 : Code := at1 c32
theorem c32_h : c32 = .seq c34 c35 := by kernel_rfl
noncomputable def c36 : Code := at0 c35
noncomputable def c37 : Code := at1 c35
theorem c35_h : c35 = .seq c36 c37 := by kernel_rfl
noncomputable def k38 (b n0 : Nat) : KT := seqC (fun e S => execL (C b) 1 c37 (k33 b n0) e S) (k33 b n0)
noncomputable def c39 : Code := atT c37
noncomputable def c40 : Code := atF c37
theorem c37_h : c37 = .cond (.tmp 34) c39 c40 := by kernel_rfl
noncomputable def c42 : Code := at0 c39
noncomputable def c43 : Code := at1 c39
theorem c39_h : c39 = .seq c42 c43 := by kernel_rfl
noncomputable def k44 (b n0 : Nat) : KT := seqC (fun e S => execL (C b) 1 c43 (k33 b n0) e S) (k33 b n0)
@[go_sem] theorem k44_n (b n0 : Nat) (x6 : PV) (S : Store) : k44 b n0 .normal (ee6 x6) S =
  (k33 b n0) .ret (ee6 x6) S := nr ((show k44 b n0 .normal (ee6 x6) S = execL (C b) 1 c43 (k33 b n0) (ee6 x6) S from seqC_n _ _ _ _).trans (execL_ret (by kernel_rfl)))
theorem k44_l (b n0 : Nat) : seqC (fun e S => execL (C b) 1 c43 (k33 b n0) e S) (k33 b n0) = k44 b n0 := rfl
@[go_sem] theorem g45 (b : Nat) (K : KT) (x1 x2 x23 x24 x25 x34 : PV) (S : Store) : execL (C b) 1 c42 K (ee5 x1 x2 x23 x24 x25 x34) S =
  withV (some (.bool false)) fun x6 =>
    K .normal (ee6 x6) S := nr (by kernel_rfl)
noncomputable def E41 (b n0 : Nat) (x1 x2 x23 x24 x25 x34 : PV) (S : Store) : RT := execL (C b) 1 c39 (k33 b n0) (ee5 x1 x2 x23 x24 x25 x34) S
@[go_sem] theorem E41_eq (b n0 : Nat) (x1 x2 x23 x24 x25 x34 : PV) (S : Store) : E41 b n0 x1 x2 x23 x24 x25 x34 S =
  execL (C b) 1 c42 (k44 b n0) (ee5 x1 x2 x23 x24 x25 x34) S := nr ((enter_seq c39_h (k44_l b n0)).trans (rfl))
@[go_sem] theorem k38_n (b n0 : Nat) (x1 x2 x23 x24 x25 x34 : PV) (S : Store) : k38 b n0 .normal (ee5 x1 x2 x23 x24 x25 x34) S =
  condC x34 (E41 b n0 x1 x2 x23 x24 x25 x34 S)
    ((k33 b n0) .normal (ee5 x1 x2 x23 x24 x25 x34) S) := nr ((show k38 b n0 .normal (ee5 x1 x2 x23 x24 x25 x34) S = execL (C b) 1 c37 (k33 b n0) (ee5 x1 x2 x23 x24 x25 x34) S from seqC_n _ _ _ _).trans (execL_cond c37_h (rfl) (execL_skip (by kernel_rfl)) rfl))
theorem k38_l (b n0 : Nat) : seqC (fun e S => execL (C b) 1 c37 (k33 b n0) e S) (k33 b n0) = k38 b n0 := rfl
noncomputable def k46 (b n0 : Nat) : KT := seqC (fun e S => execL (C b) 1 c36 (k38 b n0) e S) (k33 b n0)
@[go_sem] theorem g47 (b : Nat) (K : KT) (x1 x2 x8 x23 x24 x25 : PV) (S : Store) : execL (C b) 1 c36 K (ee2 x1 x2 x8 x23 x24 x25) S =
  withV (evLoad (tyi Try.prog 54) S x8) fun x29 =>
    withV (some x1) fun x30 =>
    withV (some x2) fun x31 =>
    withV (evBin .sub (tyi Try.prog 3) x31 (.int .i64 1)) fun x32 =>
    withS (callE (C b) S 63 [x29, x30, x32]) fun x33 S =>
    withV (evUn .not x33) fun x34 =>
    K .normal (ee5 x1 x2 x23 x24 x25 x34) S := nr (by kernel_rfl)
@[go_sem] theorem k46_n (b n0 : Nat) (e : Env) (S : Store) : k46 b n0 .normal e S = execL (C b) 1 c36 (k38 b n0) e S := nr (seqC_n _ _ _ _)
theorem k46_l (b n0 : Nat) : seqC (fun e S => execL (C b) 1 c35 (k33 b n0) e S) (k33 b n0) = k46 b n0 := link_seq c35_h (k38_l b n0)
@[go_sem] theorem g48 (b : Nat) (K : KT) (x1 x2 x23 x24 x25 x26 : PV) (S : Store) : execL (C b) 1 c34 K (ee4 x1 x2 x23 x24 x25 x26) S =
  withV (indexAddrO Try.prog 52 S x23 x25) fun x27 =>
    withV (evLoad (tyi Try.prog 54) S x27) fun x28 =>
    withN (allocO (tyi Try.prog 54) (List.length S)) S fun x8 S =>
    withS (storeE (tyi Try.prog 54) S x8 x28) fun _u S =>
    K .normal (ee2 x1 x2 x8 x23 x24 x25) S := nr (by kernel_rfl)
@[go_sem] theorem k31_n (b n0 : Nat) (x1 x2 x23 x24 x25 x26 : PV) (S : Store) : k31 b n0 .normal (ee4 x1 x2 x23 x24 x25 x26) S =
  execL (C b) 1 c34 (k46 b n0) (ee4 x1 x2 x23 x24 x25 x26) S := nr ((show k31 b n0 .normal (ee4 x1 x2 x23 x24 x25 x26) S = execL (C b) 0 c27 (k29 b n0) (ee4 x1 x2 x23 x24 x25 x26) S from seqC_n _ _ _ _).trans ((show execL (C b) 0 c27 (k29 b n0) (ee4 x1 x2 x23 x24 x25 x26) S = execL (C b) 1 c32 (k33 b n0) (ee4 x1 x2 x23 x24 x25 x26) S from execL_block c27_h).trans ((enter_seq c32_h (k46_l b n0)).trans (rfl))))
@[go_sem] theorem k31_exit (b n0 : Nat) (i : Nat) (e : Env) (S : Store) : k31 b n0 (.exit i) e S = (k22 b n0) (.exit i) e S := nr (seqC_x _ _ _ _ _)
theorem k31_l (b n0 : Nat) : seqC (fun e S => execL (C b) 0 c26 (k22 b n0) e S) (k22 b n0) = k31 b n0 := link_seq c26_h (k29_l b n0)
noncomputable def k49 (b n0 : Nat) : KT := seqC (fun e S => execL (C b) 0 c25 (k31 b n0) e S) (k22 b n0)
noncomputable def c50 : Code := atT c25
noncomputable def c51 : Code := atF c25
theorem c25_h : c25 = .cond (.tmp 26) c50 c51 := by kernel_rfl
@[go_sem] theorem k49_n (b n0 : Nat) (x1 x2 x23 x24 x25 x26 : PV) (S : Store) : k49 b n0 .normal (ee4 x1 x2 x23 x24 x25 x26) S =
  condC x26 ((k31 b n0) .normal (ee4 x1 x2 x23 x24 x25 x26) S)
    ((k31 b n0) (.exit 0) (ee4 x1 x2 x23 x24 x25 x26) S) := nr ((show k49 b n0 .normal (ee4 x1 x2 x23 x24 x25 x26) S = execL (C b) 0 c25 (k31 b n0) (ee4 x1 x2 x23 x24 x25 x26) S from seqC_n _ _ _ _).trans (execL_cond c25_h (execL_skip (by kernel_rfl)) (execL_exit (by kernel_rfl)) rfl))
theorem k49_l (b n0 : Nat) : seqC (fun e S => execL (C b) 0 c24 (k22 b n0) e S) (k22 b n0) = k49 b n0 := link_seq c24_h (k31_l b n0)
@[go_sem] theorem g52 (b : Nat) (K : KT) (x1 x2 x23 x24 x25 : PV) (S : Store) : execL (C b) 0 c23 K (ee3 x1 x2 x23 x24 x25) S =
  withV (evBin .lss (tyi Try.prog 3) x25 x24) fun x26 =>
    K .normal (ee4 x1 x2 x23 x24 x25 x26) S := nr (by kernel_rfl)
noncomputable def B0 (b n0 : Nat) (x1 x2 x23 x24 x25 : PV) (S : Store) : RT := execL (C b) 0 c20 (k22 b n0) (ee3 x1 x2 x23 x24 x25) S
@[go_sem] theorem B0_eq (b n0 : Nat) (x1 x2 x23 x24 x25 : PV) (S : Store) : B0 b n0 x1 x2 x23 x24 x25 S =
  execL (C b) 0 c23 (k49 b n0) (ee3 x1 x2 x23 x24 x25) S := nr ((enter_seq c20_h (k49_l b n0)).trans (rfl))
theorem L0_step {b n0 : Nat} {x1 x2 x23 x24 x25 : PV} {S : Store} {z : PV × Store} (h : B0 b n0 x1 x2 x23 x24 x25 S = some z) : L0 b n0 x1 x2 x23 x24 x25 S = some z := loopL_step h
theorem L0_in (b : Nat) (x1 x2 x23 x24 x25 : PV) (S : Store) : execL (C b) 0 c18 (k19 b) (ee3 x1 x2 x23 x24 x25) S = L0 b (List.length S) x1 x2 x23 x24 x25 S := by kernel_rfl
@[go_sem] theorem k17_n (b : Nat) (x1 x2 x23 x24 x25 : PV) (S : Store) : k17 b .normal (ee3 x1 x2 x23 x24 x25) S =
  L0 b (List.length S) x1 x2 x23 x24 x25 S := nr ((show k17 b .normal (ee3 x1 x2 x23 x24 x25) S = execL (C b) 0 c16 (k12 b) (ee3 x1 x2 x23 x24 x25) S from seqC_n _ _ _ _).trans ((show execL (C b) 0 c16 (k12 b) (ee3 x1 x2 x23 x24 x25) S = execL (C b) 0 c18 (k19 b) (ee3 x1 x2 x23 x24 x25) S from execL_block c16_h).trans (L0_in b x1 x2 x23 x24 x25 S)))
theorem k17_l (b : Nat) : seqC (fun e S => execL (C b) 0 c16 (k12 b) e S) (k12 b) = k17 b := rfl
@[go_sem] theorem g54 (b : Nat) (K : KT) (x1 x2 x3 x21 : PV) (S : Store) : execL (C b) 0 c15 K (ee1 x1 x2 x3 x21) S =
  withV (evFieldAddr (tyi Try.prog 54) 3 x3) fun x22 =>
    withV (evLoad (tyi Try.prog 52) S x22) fun x23 =>
    withV (lenO (tyi Try.prog 52) x23) fun x24 =>
    withV (some (.int .i64 0)) fun x25 =>
    K .normal (ee3 x1 x2 x23 x24 x25) S := nr (by kernel_rfl)
@[go_sem] theorem k14_n (b : Nat) (x1 x2 x3 x21 : PV) (S : Store) : k14 b .normal (ee1 x1 x2 x3 x21) S =
  execL (C b) 0 c15 (k17 b) (ee1 x1 x2 x3 x21) S := nr ((show k14 b .normal (ee1 x1 x2 x3 x21) S = execL (C b) 0 c7 (k12 b) (ee1 x1 x2 x3 x21) S from seqC_n _ _ _ _).trans ((enter_seq c7_h (k17_l b)).trans (rfl)))
@[go_sem] theorem k14_ret (b : Nat) (e : Env) (S : Store) : k14 b .ret e S = (k0 b) .ret e S := nr (seqC_r _ _ _ _)
theorem k14_l (b : Nat) : seqC (fun e S => execL (C b) 0 c6 (k0 b) e S) (k0 b) = k14 b := link_seq c6_h (k12_l b)
noncomputable def k55 (b : Nat) : KT := seqC (fun e S => execL (C b) 0 c5 (k14 b) e S) (k0 b)
noncomputable def c56 : Code := at0 c5
noncomputable def c57 : Code := at1 c5
theorem c5_h : c5 = .seq c56 c57 := by kernel_rfl
noncomputable def k58 (b : Nat) : KT := seqC (fun e S => execL (C b) 0 c57 (k14 b) e S) (k14 b)
noncomputable def c59 : Code := atT c57
noncomputable def c60 : Code := atF c57
theorem c57_h : c57 = .cond (.tmp 21) c59 c60 := by kernel_rfl
noncomputable def c62 : Code := at0 c59
noncomputable def c63 : Code := at1 c59
theorem c59_h : c59 = .seq c62 c63 := by kernel_rfl
noncomputable def k64 (b : Nat) : KT := seqC (fun e S => execL (C b) 0 c63 (k14 b) e S) (k14 b)
@[go_sem] theorem k64_n (b : Nat) (x6 : PV) (S : Store) : k64 b .normal (ee6 x6) S =
  (k14 b) .ret (ee6 x6) S := nr ((show k64 b .normal (ee6 x6) S = execL (C b) 0 c63 (k14 b) (ee6 x6) S from seqC_n _ _ _ _).trans (execL_ret (by kernel_rfl)))
theorem k64_l (b : Nat) : seqC (fun e S => execL (C b) 0 c63 (k14 b) e S) (k14 b) = k64 b := rfl
@[go_sem] theorem g65 (b : Nat) (K : KT) (x1 x2 x3 x21 : PV) (S : Store) : execL (C b) 0 c62 K (ee1 x1 x2 x3 x21) S =
  withV (some (.bool false)) fun x6 =>
    K .normal (ee6 x6) S := nr (by kernel_rfl)
noncomputable def E61 (b : Nat) (x1 x2 x3 x21 : PV) (S : Store) : RT := execL (C b) 0 c59 (k14 b) (ee1 x1 x2 x3 x21) S
@[go_sem] theorem E61_eq (b : Nat) (x1 x2 x3 x21 : PV) (S : Store) : E61 b x1 x2 x3 x21 S =
  execL (C b) 0 c62 (k64 b) (ee1 x1 x2 x3 x21) S := nr ((enter_seq c59_h (k64_l b)).trans (rfl))
@[go_sem] theorem k58_n (b : Nat) (x1 x2 x3 x21 : PV) (S : Store) : k58 b .normal (ee1 x1 x2 x3 x21) S =
  condC x21 (E61 b x1 x2 x3 x21 S)
    ((k14 b) .normal (ee1 x1 x2 x3 x21) S) := nr ((show k58 b .normal (ee1 x1 x2 x3 x21) S = execL (C b) 0 c57 (k14 b) (ee1 x1 x2 x3 x21) S from seqC_n _ _ _ _).trans (execL_cond c57_h (rfl) (execL_skip (by kernel_rfl)) rfl))
theorem k58_l (b : Nat) : seqC (fun e S => execL (C b) 0 c57 (k14 b) e S) (k14 b) = k58 b := rfl
@[go_sem] theorem g66 (b : Nat) (K : KT) (x1 x2 x3 : PV) (S : Store) : execL (C b) 0 c56 K (ee0 x1 x2 x3) S =
  withV (some x1) fun x14 =>
    withV (nilCheckO x14) fun x15 =>
    withV (evLoad (tyi Try.prog 3) S x15) fun x16 =>
    withV (evBin .lss (tyi Try.prog 3) x16 (.int .i64 0)) fun x17 =>
    withV (some x17) fun x18 =>
    withV (gval x18 false (some x2)) fun x19 =>
    withV (gval x18 false (evBin .leq (tyi Try.prog 3) x19 (.int .i64 0))) fun x20 =>
    withV (pickO x18 (.bool true) x20) fun x21 =>
    K .normal (ee1 x1 x2 x3 x21) S := nr (by kernel_rfl)
@[go_sem] theorem k55_n (b : Nat) (x1 x2 x3 : PV) (S : Store) : k55 b .normal (ee0 x1 x2 x3) S =
  execL (C b) 0 c56 (k58 b) (ee0 x1 x2 x3) S := nr ((show k55 b .normal (ee0 x1 x2 x3) S = execL (C b) 0 c5 (k14 b) (ee0 x1 x2 x3) S from seqC_n _ _ _ _).trans ((enter_seq c5_h (k58_l b)).trans (rfl)))
theorem k55_l (b : Nat) : seqC (fun e S => execL (C b) 0 c4 (k0 b) e S) (k0 b) = k55 b := link_seq c4_h (k14_l b)
noncomputable def k67 (b : Nat) : KT := seqC (fun e S => execL (C b) 0 c3 (k55 b) e S) (k0 b)
@[go_sem] theorem g68 (b : Nat) (K : KT) (x1 x2 x3 : PV) (S : Store) : execL (C b) 0 c3 K (ee0 x1 x2 x3) S =
  withV (some x1) fun x9 =>
    withV (nilCheckO x9) fun x10 =>
    withV (evLoad (tyi Try.prog 3) S x10) fun x11 =>
    withV (evBin .sub (tyi Try.prog 3) x11 (.int .i64 1)) fun x12 =>
    withV (nilCheckO x9) fun x13 =>
    withS (storeE (tyi Try.prog 3) S x13 x12) fun _u S =>
    K .normal (ee0 x1 x2 x3) S := nr (by kernel_rfl)
@[go_sem] theorem k67_n (b : Nat) (e : Env) (S : Store) : k67 b .normal e S = execL (C b) 0 c3 (k55 b) e S := nr (seqC_n _ _ _ _)
theorem k67_l (b : Nat) : seqC (fun e S => execL (C b) 0 c2 (k0 b) e S) (k0 b) = k67 b := link_seq c2_h (k55_l b)
@[go_sem] theorem g69 (b : Nat) (K : KT) (x0 x1 x2 : PV) (S : Store) : execL (C b) 0 c1 K [(0, x0), (1, x1), (2, x2)] S =
  withN (boxed S (List.length S) (TI.size (tyi Try.prog 54)) x0) S fun x3 S =>
    withV (some (.bool false)) fun x6 =>
    K .normal (ee0 x1 x2 x3) S := nr (by kernel_rfl)
noncomputable def E (b : Nat) (x0 x1 x2 : PV) (S : Store) : RT := execL (C b) 0 code (k0 b) [(0, x0), (1, x1), (2, x2)] S
@[go_sem] theorem E_eq (b : Nat) (x0 x1 x2 : PV) (S : Store) : E b x0 x1 x2 S =
  execL (C b) 0 c1 (k67 b) [(0, x0), (1, x1), (2, x2)] S := nr ((enter_seq code_h (k67_l b)).trans (rfl))
theorem callR {x0 x1 x2 : PV} {S : Store} {r : PV × Store} (h : E S.length x0 x1 x2 S = some r) : callRL Try.prog hints 63 [x0, x1, x2] S = some r := callRL_of (fn := Try.f63) (c := code) (by kernel_rfl) (by kernel_rfl) (by decide) (by kernel_rfl) (Nat.le_of_ble_eq_true (by kernel_rfl)) h
end F63
/-! ### tree.Check -/
namespace F36
def hint : Hint := { keep := [], loops := [], regs := [(0, [1, 2]), (1, [1, 2, 11]), (2, [4]), (3, [1, 2, 5]), (4, [1, 2, 14]), (5, [4]), (6, [2, 19]), (7, [4]), (8, [23]), (9, [4]), (10, [4])] }
noncomputable def C (b : Nat) : Ctx := ctxL Try.prog hints b hint
noncomputable def code : Code := Try.f36.body.get rfl
noncomputable def k0 (b : Nat) : KT := endC Try.prog Try.f36
def ee0 (x1 x2 : PV) : Env := [(1, x1), (2, x2)]
def ee1 (x1 x2 x5 : PV) : Env := [(1, x1), (2, x2), (5, x5)]
def ee2 (x1 x2 x11 : PV) : Env := [(1, x1), (2, x2), (11, x11)]
def ee3 (x1 x2 x14 : PV) : Env := [(1, x1), (2, x2), (14, x14)]
def ee4 (x2 x19 : PV) : Env := [(2, x2), (19, x19)]
def ee5 (x4 : PV) : Env := [(4, x4)]
@[go_sem] theorem k0_ret5 (b : Nat) (x4 : PV) (S : Store) : k0 b .ret (ee5 x4) S = some (x4, S) := nr (by kernel_rfl)
def ee6 (x23 : PV) : Env := [(23, x23)]
noncomputable def c1 : Code := at0 code
noncomputable def c2 : Code := at1 code
theorem code_h : code = .seq c1 c2 := by kernel_rfl
noncomputable def c3 : Code := at0 c2
noncomputable def c4 : Code := at1 c2
theorem c2_h : c2 = .seq c3 c4 := by kernel_rfl
noncomputable def c5 : Code := at0 c4
noncomputable def c6 : Code := at1 c4
theorem c4_h : c4 = .seq c5 c6 := by kernel_rfl
noncomputable def c7 : Code := at0 c6
noncomputable def c8 : Code := at1 c6
theorem c6_h : c6 = .seq c7 c8 := by kernel_rfl
noncomputable def c9 : Code := at0 c8
noncomputable def c10 : Code := at1 c8
theorem c8_h : c8 = .seq c9 c10 := by kernel_rfl
noncomputable def c11 : Code := at0 c10
noncomputable def c12 : Code := at1 c10
theorem c10_h : c10 = .seq c11 c12 := by kernel_rfl
noncomputable def c13 : Code := at0 c12
noncomputable def c14 : Code := at1 c12
theorem c12_h : c12 = .seq c13 c14 := by kernel_rfl
noncomputable def k15 (b : Nat) : KT := seqC (fun e S => execL (C b) 0 c14 (k0 b) e S) (k0 b)
@[go_sem] theorem k15_n (b : Nat) (x4 : PV) (S : Store) : k15 b .normal (ee5 x4) S =
  (k0 b) .ret (ee5 x4) S := nr ((show k15 b .normal (ee5 x4) S = execL (C b) 0 c14 (k0 b) (ee5 x4) S from seqC_n _ _ _ _).trans (execL_ret (by kernel_rfl)))
theorem k15_l (b : Nat) : seqC (fun e S => execL (C b) 0 c14 (k0 b) e S) (k0 b) = k15 b := rfl
noncomputable def k16 (b : Nat) : KT := seqC (fun e S => execL (C b) 0 c13 (k15 b) e S) (k0 b)
@[go_sem] theorem g17 (b : Nat) (K : KT) (x23 : PV) (S : Store) : execL (C b) 0 c13 K (ee6 x23) S =
  withV (some (.int .i64 0)) fun x4 =>
    K .normal (ee5 x4) S := nr (by kernel_rfl)
@[go_sem] theorem k16_n (b : Nat) (e : Env) (S : Store) : k16 b .normal e S = execL (C b) 0 c13 (k15 b) e S := nr (seqC_n _ _ _ _)
@[go_sem] theorem k16_ret (b : Nat) (e : Env) (S : Store) : k16 b .ret e S = (k0 b) .ret e S := nr (seqC_r _ _ _ _)
theorem k16_l (b : Nat) : seqC (fun e S => execL (C b) 0 c12 (k0 b) e S) (k0 b) = k16 b := link_seq c12_h (k15_l b)
noncomputable def k18 (b : Nat) : KT := seqC (fun e S => execL (C b) 0 c11 (k16 b) e S) (k0 b)
noncomputable def c19 : Code := at0 c11
noncomputable def c20 : Code := at1 c11
theorem c11_h : c11 = .seq c19 c20 := by kernel_rfl
noncomputable def k21 (b : Nat) : KT := seqC (fun e S => execL (C b) 0 c20 (k16 b) e S) (k16 b)
noncomputable def c22 : Code := atT c20
noncomputable def c23 : Code := atF c20
theorem c20_h : c20 = .cond (.tmp 23) c22 c23 := by kernel_rfl
noncomputable def c25 : Code := at0 c22
noncomputable def c26 : Code := at1 c22
theorem c22_h : c22 = .seq c25 c26 := by kernel_rfl
noncomputable def k27 (b : Nat) : KT := seqC (fun e S => execL (C b) 0 c26 (k16 b) e S) (k16 b)
@[go_sem] theorem k27_n (b : Nat) (x4 : PV) (S : Store) : k27 b .normal (ee5 x4) S =
  (k16 b) .ret (ee5 x4) S := nr ((show k27 b .normal (ee5 x4) S = execL (C b) 0 c26 (k16 b) (ee5 x4) S from seqC_n _ _ _ _).trans (execL_ret (by kernel_rfl)))
theorem k27_l (b : Nat) : seqC (fun e S => execL (C b) 0 c26 (k16 b) e S) (k16 b) = k27 b := rfl
@[go_sem] theorem g28 (b : Nat) (K : KT) (x23 : PV) (S : Store) : execL (C b) 0 c25 K (ee6 x23) S =
  withV (some (.int .i64 3)) fun x4 =>
    K .normal (ee5 x4) S := nr (by kernel_rfl)
noncomputable def E24 (b : Nat) (x23 : PV) (S : Store) : RT := execL (C b) 0 c22 (k16 b) (ee6 x23) S
@[go_sem] theorem E24_eq (b : Nat) (x23 : PV) (S : Store) : E24 b x23 S =
  execL (C b) 0 c25 (k27 b) (ee6 x23) S := nr ((enter_seq c22_h (k27_l b)).trans (rfl))
@[go_sem] theorem k21_n (b : Nat) (x23 : PV) (S : Store) : k21 b .normal (ee6 x23) S =
  condC x23 (E24 b x23 S)
    ((k16 b) .normal (ee6 x23) S) := nr ((show k21 b .normal (ee6 x23) S = execL (C b) 0 c20 (k16 b) (ee6 x23) S from seqC_n _ _ _ _).trans (execL_cond c20_h (rfl) (execL_skip (by kernel_rfl)) rfl))
theorem k21_l (b : Nat) : seqC (fun e S => execL (C b) 0 c20 (k16 b) e S) (k16 b) = k21 b := rfl
@[go_sem] theorem g29 (b : Nat) (K : KT) (x2 x19 : PV) (S : Store) : execL (C b) 0 c19 K (ee4 x2 x19) S =
  withV (evLoad (tyi Try.prog 54) S x2) fun x20 =>
    withV (buildO (tyi Try.prog 81) []) fun x21 =>
    withN (callO (callL Try.prog hints) S 64 [x20, x21]) S fun x22 S =>
    withV (evUn .not x22) fun x23 =>
    K .normal (ee6 x23) S := nr (by kernel_rfl)
@[go_sem] theorem k18_n (b : Nat) (x2 x19 : PV) (S : Store) : k18 b .normal (ee4 x2 x19) S =
  execL (C b) 0 c19 (k21 b) (ee4 x2 x19) S := nr ((show k18 b .normal (ee4 x2 x19) S = execL (C b) 0 c11 (k16 b) (ee4 x2 x19) S from seqC_n _ _ _ _).trans ((enter_seq c11_h (k21_l b)).trans (rfl)))
@[go_sem] theorem k18_ret (b : Nat) (e : Env) (S : Store) : k18 b .ret e S = (k0 b) .ret e S := nr (seqC_r _ _ _ _)
theorem k18_l (b : Nat) : seqC (fun e S => execL (C b) 0 c10 (k0 b) e S) (k0 b) = k18 b := link_seq c10_h (k16_l b)
noncomputable def k30 (b : Nat) : KT := seqC (fun e S => execL (C b) 0 c9 (k18 b) e S) (k0 b)
noncomputable def c31 : Code := at0 c9
noncomputable def c32 : Code := at1 c9
theorem c9_h : c9 = .seq c31 c32 := by kernel_rfl
noncomputable def k33 (b : Nat) : KT := seqC (fun e S => execL (C b) 0 c32 (k18 b) e S) (k18 b)
noncomputable def c34 : Code := atT c32
noncomputable def c35 : Code := atF c32
theorem c32_h : c32 = .cond (.tmp 19) c34 c35 := by kernel_rfl
noncomputable def c37 : Code := at0 c34
noncomputable def c38 : Code := at1 c34
theorem c34_h : c34 = .seq c37 c38 := by kernel_rfl
noncomputable def k39 (b : Nat) : KT := seqC (fun e S => execL (C b) 0 c38 (k18 b) e S) (k18 b)
@[go_sem] theorem k39_n (b : Nat) (x4 : PV) (S : Store) : k39 b .normal (ee5 x4) S =
  (k18 b) .ret (ee5 x4) S := nr ((show k39 b .normal (ee5 x4) S = execL (C b) 0 c38 (k18 b) (ee5 x4) S from seqC_n _ _ _ _).trans (execL_ret (by kernel_rfl)))
theorem k39_l (b : Nat) : seqC (fun e S => execL (C b) 0 c38 (k18 b) e S) (k18 b) = k39 b := rfl
@[go_sem] theorem g40 (b : Nat) (K : KT) (x2 x19 : PV) (S : Store) : execL (C b) 0 c37 K (ee4 x2 x19) S =
  withV (some (.int .i64 80)) fun x4 =>
    K .normal (ee5 x4) S := nr (by kernel_rfl)
noncomputable def E36 (b : Nat) (x2 x19 : PV) (S : Store) : RT := execL (C b) 0 c34 (k18 b) (ee4 x2 x19) S
@[go_sem] theorem E36_eq (b : Nat) (x2 x19 : PV) (S : Store) : E36 b x2 x19 S =
  execL (C b) 0 c37 (k39 b) (ee4 x2 x19) S := nr ((enter_seq c34_h (k39_l b)).trans (rfl))
@[go_sem] theorem k33_n (b : Nat) (x2 x19 : PV) (S : Store) : k33 b .normal (ee4 x2 x19) S =
  condC x19 (E36 b x2 x19 S)
    ((k18 b) .normal (ee4 x2 x19) S) := nr ((show k33 b .normal (ee4 x2 x19) S = execL (C b) 0 c32 (k18 b) (ee4 x2 x19) S from seqC_n _ _ _ _).trans (execL_cond c32_h (rfl) (execL_skip (by kernel_rfl)) rfl))
theorem k33_l (b : Nat) : seqC (fun e S => execL (C b) 0 c32 (k18 b) e S) (k18 b) = k33 b := rfl
@[go_sem] theorem g41 (b : Nat) (K : KT) (x1 x2 x14 : PV) (S : Store) : execL (C b) 0 c31 K (ee3 x1 x2 x14) S =
  withV (evFieldAddr (tyi Try.prog 54) 0 x2) fun x15 =>
    withV (evLoad (tyi Try.prog 3) S x15) fun x16 =>
    withN (callO (callL Try.prog hints) S 40 [x16]) S fun x17 S =>
    withV (some x1) fun x18 =>
    withV (evBin .neq (tyi Try.prog 3) x17 x18) fun x19 =>
    K .normal (ee4 x2 x19) S := nr (by kernel_rfl)
@[go_sem] theorem k30_n (b : Nat) (x1 x2 x14 : PV) (S : Store) : k30 b .normal (ee3 x1 x2 x14) S =
  execL (C b) 0 c31 (k33 b) (ee3 x1 x2 x14) S := nr ((show k30 b .normal (ee3 x1 x2 x14) S = execL (C b) 0 c9 (k18 b) (ee3 x1 x2 x14) S from seqC_n _ _ _ _).trans ((enter_seq c9_h (k33_l b)).trans (rfl)))
@[go_sem] theorem k30_ret (b : Nat) (e : Env) (S : Store) : k30 b .ret e S = (k0 b) .ret e S := nr (seqC_r _ _ _ _)
theorem k30_l (b : Nat) : seqC (fun e S => execL (C b) 0 c8 (k0 b) e S) (k0 b) = k30 b := link_seq c8_h (k18_l b)
noncomputable def k42 (b : Nat) : KT := seqC (fun e S => execL (C b) 0 c7 (k30 b) e S) (k0 b)
noncomputable def c43 : Code := at0 c7
noncomputable def c44 : Code := at1 c7
theorem c7_h : c7 = .seq c43 c44 := by kernel_rfl
noncomputable def k45 (b : Nat) : KT := seqC (fun e S => execL (C b) 0 c44 (k30 b) e S) (k30 b)
noncomputable def c46 : Code := atT c44
noncomputable def c47 : Code := atF c44
theorem c44_h : c44 = .cond (.tmp 14) c46 c47 := by kernel_rfl
noncomputable def c49 : Code := at0 c46
noncomputable def c50 : Code := at1 c46
theorem c46_h : c46 = .seq c49 c50 := by kernel_rfl
noncomputable def k51 (b : Nat) : KT := seqC (fun e S => execL (C b) 0 c50 (k30 b) e S) (k30 b)
@[go_sem] theorem k51_n (b : Nat) (x4 : PV) (S : Store) : k51 b .normal (ee5 x4) S =
  (k30 b) .ret (ee5 x4) S := nr ((show k51 b .normal (ee5 x4) S = execL (C b) 0 c50 (k30 b) (ee5 x4) S from seqC_n _ _ _ _).trans (execL_ret (by kernel_rfl)))
theorem k51_l (b : Nat) : seqC (fun e S => execL (C b) 0 c50 (k30 b) e S) (k30 b) = k51 b := rfl
@[go_sem] theorem g52 (b : Nat) (K : KT) (x1 x2 x14 : PV) (S : Store) : execL (C b) 0 c49 K (ee3 x1 x2 x14) S =
  withV (some (.int .i64 2)) fun x4 =>
    K .normal (ee5 x4) S := nr (by kernel_rfl)
noncomputable def E48 (b : Nat) (x1 x2 x14 : PV) (S : Store) : RT := execL (C b) 0 c46 (k30 b) (ee3 x1 x2 x14) S
@[go_sem] theorem E48_eq (b : Nat) (x1 x2 x14 : PV) (S : Store) : E48 b x1 x2 x14 S =
  execL (C b) 0 c49 (k51 b) (ee3 x1 x2 x14) S := nr ((enter_seq c46_h (k51_l b)).trans (rfl))
@[go_sem] theorem k45_n (b : Nat) (x1 x2 x14 : PV) (S : Store) : k45 b .normal (ee3 x1 x2 x14) S =
  condC x14 (E48 b x1 x2 x14 S)
    ((k30 b) .normal (ee3 x1 x2 x14) S) := nr ((show k45 b .normal (ee3 x1 x2 x14) S = execL (C b) 0 c44 (k30 b) (ee3 x1 x2 x14) S from seqC_n _ _ _ _).trans (execL_cond c44_h (rfl) (execL_skip (by kernel_rfl)) rfl))
theorem k45_l (b : Nat) : seqC (fun e S => execL (C b) 0 c44 (k30 b) e S) (k30 b) = k45 b := rfl
@[go_sem] theorem g53 (b : Nat) (K : KT) (x1 x2 x5 : PV) (S : Store) : execL (C b) 0 c43 K (ee1 x1 x2 x5) S =
  withV (evLoad (tyi Try.prog 54) S x2) fun x12 =>
    withS (callE (C b) S 63 [x12, x5, (.int .i64 60)]) fun x13 S =>
    withV (evUn .not x13) fun x14 =>
    K .normal (ee3 x1 x2 x14) S := nr (by kernel_rfl)
@[go_sem] theorem k42_n (b : Nat) (x1 x2 x5 : PV) (S : Store) : k42 b .normal (ee1 x1 x2 x5) S =
  execL (C b) 0 c43 (k45 b) (ee1 x1 x2 x5) S := nr ((show k42 b .normal (ee1 x1 x2 x5) S = execL (C b) 0 c7 (k30 b) (ee1 x1 x2 x5) S from seqC_n _ _ _ _).trans ((enter_seq c7_h (k45_l b)).trans (rfl)))
theorem k42_l (b : Nat) : seqC (fun e S => execL (C b) 0 c6 (k0 b) e S) (k0 b) = k42 b := link_seq c6_h (k30_l b)
noncomputable def k54 (b : Nat) : KT := seqC (fun e S => execL (C b) 0 c5 (k42 b) e S) (k0 b)
@[go_sem] theorem g55 (b : Nat) (K : KT) (x1 x2 x11 : PV) (S : Store) : execL (C b) 0 c5 K (ee2 x1 x2 x11) S =
  withN (allocO (tyi Try.prog 3) (List.length S)) S fun x5 S =>
    withS (storeE (tyi Try.prog 3) S x5 (.int .i64 4000)) fun _u S =>
    K .normal (ee1 x1 x2 x5) S := nr (by kernel_rfl)
@[go_sem] theorem k54_n (b : Nat) (e : Env) (S : Store) : k54 b .normal e S = execL (C b) 0 c5 (k42 b) e S := nr (seqC_n _ _ _ _)
@[go_sem] theorem k54_ret (b : Nat) (e : Env) (S : Store) : k54 b .ret e S = (k0 b) .ret e S := nr (seqC_r _ _ _ _)
theorem k54_l (b : Nat) : seqC (fun e S => execL (C b) 0 c4 (k0 b) e S) (k0 b) = k54 b := link_seq c4_h (k42_l b)
noncomputable def k56 (b : Nat) : KT := seqC (fun e S => execL (C b) 0 c3 (k54 b) e S) (k0 b)
noncomputable def c57 : Code := at0 c3
noncomputable def c58 : Code := at1 c3
theorem c3_h : c3 = .seq c57 c58 := by kernel_rfl
noncomputable def k59 (b : Nat) : KT := seqC (fun e S => execL (C b) 0 c58 (k54 b) e S) (k54 b)
noncomputable def c60 : Code := atT c58
noncomputable def c61 : Code := atF c58
theorem c58_h : c58 = .cond (.tmp 11) c60 c61 := by kernel_rfl
noncomputable def c63 : Code := at0 c60
noncomputable def c64 : Code := at1 c60
theorem c60_h : c60 = .seq c63 c64 := by kernel_rfl
noncomputable def k65 (b : Nat) : KT := seqC (fun e S => execL (C b) 0 c64 (k54 b) e S) (k54 b)
@[go_sem] theorem k65_n (b : Nat) (x4 : PV) (S : Store) : k65 b .normal (ee5 x4) S =
  (k54 b) .ret (ee5 x4) S := nr ((show k65 b .normal (ee5 x4) S = execL (C b) 0 c64 (k54 b) (ee5 x4) S from seqC_n _ _ _ _).trans (execL_ret (by kernel_rfl)))
theorem k65_l (b : Nat) : seqC (fun e S => execL (C b) 0 c64 (k54 b) e S) (k54 b) = k65 b := rfl
@[go_sem] theorem g66 (b : Nat) (K : KT) (x1 x2 x11 : PV) (S : Store) : execL (C b) 0 c63 K (ee2 x1 x2 x11) S =
  withV (some (.int .i64 1)) fun x4 =>
    K .normal (ee5 x4) S := nr (by kernel_rfl)
noncomputable def E62 (b : Nat) (x1 x2 x11 : PV) (S : Store) : RT := execL (C b) 0 c60 (k54 b) (ee2 x1 x2 x11) S
@[go_sem] theorem E62_eq (b : Nat) (x1 x2 x11 : PV) (S : Store) : E62 b x1 x2 x11 S =
  execL (C b) 0 c63 (k65 b) (ee2 x1 x2 x11) S := nr ((enter_seq c60_h (k65_l b)).trans (rfl))
@[go_sem] theorem k59_n (b : Nat) (x1 x2 x11 : PV) (S : Store) : k59 b .normal (ee2 x1 x2 x11) S =
  condC x11 (E62 b x1 x2 x11 S)
    ((k54 b) .normal (ee2 x1 x2 x11) S) := nr ((show k59 b .normal (ee2 x1 x2 x11) S = execL (C b) 0 c58 (k54 b) (ee2 x1 x2 x11) S from seqC_n _ _ _ _).trans (execL_cond c58_h (rfl) (execL_skip (by kernel_rfl)) rfl))
theorem k59_l (b : Nat) : seqC (fun e S => execL (C b) 0 c58 (k54 b) e S) (k54 b) = k59 b := rfl
@[go_sem] theorem g67 (b : Nat) (K : KT) (x1 x2 : PV) (S : Store) : execL (C b) 0 c57 K (ee0 x1 x2) S =
  withV (some x1) fun x6 =>
    withV (evBin .lss (tyi Try.prog 3) x6 (.int .i64 1)) fun x7 =>
    withV (some x7) fun x8 =>
    withV (gval x8 false (some x1)) fun x9 =>
    withV (gval x8 false (evBin .gtr (tyi Try.prog 3) x9 (.int .i64 3))) fun x10 =>
    withV (pickO x8 (.bool true) x10) fun x11 =>
    K .normal (ee2 x1 x2 x11) S := nr (by kernel_rfl)
@[go_sem] theorem k56_n (b : Nat) (x1 x2 : PV) (S : Store) : k56 b .normal (ee0 x1 x2) S =
  execL (C b) 0 c57 (k59 b) (ee0 x1 x2) S := nr ((show k56 b .normal (ee0 x1 x2) S = execL (C b) 0 c3 (k54 b) (ee0 x1 x2) S from seqC_n _ _ _ _).trans ((enter_seq c3_h (k59_l b)).trans (rfl)))
theorem k56_l (b : Nat) : seqC (fun e S => execL (C b) 0 c2 (k0 b) e S) (k0 b) = k56 b := link_seq c2_h (k54_l b)
@[go_sem] theorem g68 (b : Nat) (K : KT) (x0 x1 : PV) (S : Store) : execL (C b) 0 c1 K [(0, x0), (1, x1)] S =
  withN (boxed S (List.length S) (TI.size (tyi Try.prog 54)) x0) S fun x2 S =>
    withV (some (.int .i64 0)) fun x4 =>
    K .normal (ee0 x1 x2) S := nr (by kernel_rfl)
noncomputable def E (b : Nat) (x0 x1 : PV) (S : Store) : RT := execL (C b) 0 code (k0 b) [(0, x0), (1, x1)] S
@[go_sem] theorem E_eq (b : Nat) (x0 x1 : PV) (S : Store) : E b x0 x1 S =
  execL (C b) 0 c1 (k56 b) [(0, x0), (1, x1)] S := nr ((enter_seq code_h (k56_l b)).trans (rfl))
theorem call {x0 x1 : PV} {r : PV × Store} {v : PV} (h : E 0 x0 x1 [] = some r) (hv : fzPV r.2 r.1 = some v) : callL Try.prog hints 36 [x0, x1] = some v := callL_of (fn := Try.f36) (c := code) (by kernel_rfl) (by kernel_rfl) (by decide) (by kernel_rfl) (Nat.le_of_ble_eq_true (by kernel_rfl)) h hv
end F36
end Go.Vs
