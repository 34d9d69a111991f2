/- Printed by a program of mine (stage1.py): the functions 97, 96, 94, 84, 85, 86, 63, 36, piece by piece. -/

import Derived.Test.YtnddhkcciphhkaaMQ9
set_option linter.unusedVariables false
set_option linter.unusedSimpArgs false
namespace Go.Vs
open Go Go.Proofs
noncomputable section

/-! ### num.valid -/
namespace F97
section
variable (b : Nat) (K : KT) (x0 x1 x4 : PV) (e : Env) (S : Store)
noncomputable def hint : Hint := { keep := [], loops := [], regs := [(0, [0, 1]), (1, [4])] }
noncomputable def C (b : Nat) : Ctx := ctxL Try.prog hints b hint
noncomputable def code : Code := Try.f97.body.get rfl
noncomputable def k0 (b : Nat) : KT := endC Try.prog Try.f97
def ee0 (x0 x1 : PV) : Env := [(0, x0), (1, x1)]
def ee1 (x4 : PV) : Env := [(4, x4)]
def c1 : Code := at0 code
def c2 : Code := at1 code
def c3 : Code := at0 c2
def c4 : Code := at1 c2
def k5 (b : Nat) : KT := seqC (fun e S => execL (C b) 0 c4 (k0 b) e S) (k0 b)
@[go_sem] theorem k5_n : k5 b .normal (ee1 x4) S =
  (k0 b) .ret (ee1 x4) S := nr (seqN (execL_ret (by kernel_rfl)))
def k6 (b : Nat) : KT := seqC (fun e S => execL (C b) 0 c2 (k0 b) e S) (k0 b)
@[go_sem] theorem g7 : execL (C b) 0 c3 K (ee0 x0 x1) S =
  withV (some x0) fun x5 =>
    withV (lenO (tyi Try.prog 49) x5) fun x6 =>
    withV (some x1) fun x7 =>
    withV (evBin .leq (tyi Try.prog 3) x6 x7) fun x8 =>
    withV (some x8) fun x9 =>
    withV (gval x9 true (some x0)) fun x10 =>
    withV (gval x9 true (lenO (tyi Try.prog 49) x10)) fun x11 =>
    withV (gval x9 true (evBin .eql (tyi Try.prog 3) x11 (.int .i64 0))) fun x12 =>
    withV (gval x9 true (some x12)) fun x13 =>
    withV (gval x13 false (some x0)) fun x14 =>
    withV (gval x13 false (some x0)) fun x15 =>
    withV (gval x13 false (lenO (tyi Try.prog 49) x15)) fun x16 =>
    withV (gval x13 false (evBin .sub (tyi Try.prog 3) x16 (.int .i64 1))) fun x17 =>
    withV (gval x13 false (indexAddrO Try.prog 49 S x14 x17)) fun x18 =>
    withV (gval x13 false (evLoad (tyi Try.prog 76) S x18)) fun x19 =>
    withV (gval x13 false (evBin .neq (tyi Try.prog 76) x19 (.int .u32 0))) fun x20 =>
    withV (gval x9 true (pickO x13 (.bool true) x20)) fun x21 =>
    withV (pickO x9 x21 (.bool false)) fun x22 =>
    withV (some x22) fun x4 =>
    K .normal (ee1 x4) S := nr (by kernel_rfl)
@[go_sem] theorem k6_n : k6 b .normal e S = execL (C b) 0 c3 (k5 b) e S := nr (seqN (enterS (by kernel_rfl)))
@[go_sem] theorem g8 : execL (C b) 0 c1 K (ee0 x0 x1) S =
  withV (some (.bool false)) fun x4 =>
    K .normal (ee0 x0 x1) S := nr (by kernel_rfl)
def E (b : Nat) (x0 x1 : PV) (S : Store) : RT := execL (C b) 0 code (k0 b) (ee0 x0 x1) S
@[go_sem] theorem E_eq : E b x0 x1 S =
  execL (C b) 0 c1 (k6 b) (ee0 x0 x1) S := nr (enterS (by kernel_rfl))
@[go_sem] theorem k0_ret1 : k0 b .ret (ee1 x4) S = some (x4, S) := nr (by kernel_rfl)
theorem call {x0 x1 : PV} {r : PV × Store} {v : PV} (h : E 0 x0 x1 [] = some r) (hv : fzPV r.2 r.1 = some v) : callL Try.prog hints 97 [x0, x1] = some v := callL_of (fn := Try.f97) (c := code) (by kernel_rfl) (by kernel_rfl) (by decide) (by kernel_rfl) (Nat.le_of_ble_eq_true (by kernel_rfl)) h hv
end
end F97
/-! ### num.Valid -/
namespace F96
section
variable (b : Nat) (K : KT) (x0 x1 x2 x4 x5 x23 x27 x54 : PV) (e : Env) (S : Store)
noncomputable def hint : Hint := { keep := [], loops := [], regs := [(0, [1, 2]), (1, [2, 23]), (2, [4]), (3, [2, 27]), (4, [4]), (5, [2, 54]), (6, [4]), (7, [5]), (8, [4])] }
noncomputable def C (b : Nat) : Ctx := ctxL Try.prog hints b hint
noncomputable def code : Code := Try.f96.body.get rfl
noncomputable def k0 (b : Nat) : KT := endC Try.prog Try.f96
def ee0 (x1 x2 : PV) : Env := [(1, x1), (2, x2)]
def ee1 (x2 x23 : PV) : Env := [(2, x2), (23, x23)]
def ee2 (x2 x27 : PV) : Env := [(2, x2), (27, x27)]
def ee3 (x2 x54 : PV) : Env := [(2, x2), (54, x54)]
def ee4 (x4 : PV) : Env := [(4, x4)]
def c1 : Code := at0 code
def c2 : Code := at1 code
def c3 : Code := at0 c2
def c4 : Code := at1 c2
def c5 : Code := at0 c4
def c6 : Code := at1 c4
def c7 : Code := at0 c6
def c8 : Code := at1 c6
def k16 (b : Nat) : KT := seqC (fun e S => execL (C b) 0 c8 (k0 b) e S) (k0 b)
@[go_sem] theorem k16_ret : k16 b .ret e S = (k0 b) .ret e S := nr (seqC_r _ _ _ _)
def k18 (b : Nat) : KT := seqC (fun e S => execL (C b) 0 c6 (k0 b) e S) (k0 b)
def c19 : Code := at0 c7
def c20 : Code := at1 c7
def k21 (b : Nat) : KT := seqC (fun e S => execL (C b) 0 c20 (k16 b) e S) (k16 b)
def c22 : Code := atT c20
def c25 : Code := at0 c22
def c26 : Code := at1 c22
def k27 (b : Nat) : KT := seqC (fun e S => execL (C b) 0 c26 (k16 b) e S) (k16 b)
@[go_sem] theorem k27_n : k27 b .normal (ee4 x4) S =
  (k16 b) .ret (ee4 x4) S := nr (seqN (execL_ret (by kernel_rfl)))
@[go_sem] theorem g28 : execL (C b) 0 c25 K (ee3 x2 x54) S =
  withV (some (.bool true)) fun x4 =>
    K .normal (ee4 x4) S := nr (by kernel_rfl)
@[go_sem] theorem k21_n : k21 b .normal (ee3 x2 x54) S =
  condC x54 (execL (C b) 0 c25 (k27 b) (ee3 x2 x54) S)
    ((k16 b) .normal (ee3 x2 x54) S) := nr (seqN (condE (t := 54) (by kernel_rfl) (enterS (by kernel_rfl)) (execL_skip (by kernel_rfl)) rfl))
@[go_sem] theorem g29 : execL (C b) 0 c19 K (ee2 x2 x27) S =
  withV (evFieldAddr (tyi Try.prog 51) 2 x2) fun x44 =>
    withV (evLoad (tyi Try.prog 49) S x44) fun x45 =>
    withV (lenO (tyi Try.prog 49) x45) fun x46 =>
    withV (evBin .eql (tyi Try.prog 3) x46 (.int .i64 1)) fun x47 =>
    withV (some x47) fun x48 =>
    withV (gval x48 true (evFieldAddr (tyi Try.prog 51) 2 x2)) fun x49 =>
    withV (gval x48 true (evLoad (tyi Try.prog 49) S x49)) fun x50 =>
    withV (gval x48 true (indexAddrO Try.prog 49 S x50 (.int .i64 0))) fun x51 =>
    withV (gval x48 true (evLoad (tyi Try.prog 76) S x51)) fun x52 =>
    withV (gval x48 true (evBin .eql (tyi Try.prog 76) x52 (.int .u32 1))) fun x53 =>
    withV (pickO x48 x53 (.bool false)) fun x54 =>
    K .normal (ee3 x2 x54) S := nr (by kernel_rfl)
@[go_sem] theorem k18_n : k18 b .normal (ee2 x2 x27) S =
  execL (C b) 0 c19 (k21 b) (ee2 x2 x27) S := nr (seqN ((enterS (by kernel_rfl)).trans (enterS (by kernel_rfl))))
@[go_sem] theorem k18_ret : k18 b .ret e S = (k0 b) .ret e S := nr (seqC_r _ _ _ _)
def k30 (b : Nat) : KT := seqC (fun e S => execL (C b) 0 c4 (k0 b) e S) (k0 b)
def c31 : Code := at0 c5
def c32 : Code := at1 c5
def k33 (b : Nat) : KT := seqC (fun e S => execL (C b) 0 c32 (k18 b) e S) (k18 b)
def c34 : Code := atT c32
def c37 : Code := at0 c34
def c38 : Code := at1 c34
def k39 (b : Nat) : KT := seqC (fun e S => execL (C b) 0 c38 (k18 b) e S) (k18 b)
@[go_sem] theorem k39_n : k39 b .normal (ee4 x4) S =
  (k18 b) .ret (ee4 x4) S := nr (seqN (execL_ret (by kernel_rfl)))
@[go_sem] theorem g40 : execL (C b) 0 c37 K (ee2 x2 x27) S =
  withV (evFieldAddr (tyi Try.prog 51) 0 x2) fun x28 =>
    withV (evLoad (tyi Try.prog 4) S x28) fun x29 =>
    withV (evUn .not x29) fun x30 =>
    withV (some x30) fun x31 =>
    withV (gval x31 true (evFieldAddr (tyi Try.prog 51) 2 x2)) fun x32 =>
    withV (gval x31 true (evLoad (tyi Try.prog 49) S x32)) fun x33 =>
    withV (gval x31 true (lenO (tyi Try.prog 49) x33)) fun x34 =>
    withV (gval x31 true (evBin .eql (tyi Try.prog 3) x34 (.int .i64 1))) fun x35 =>
    withV (pickO x31 x35 (.bool false)) fun x36 =>
    withV (some x36) fun x37 =>
    withV (gval x37 true (evFieldAddr (tyi Try.prog 51) 2 x2)) fun x38 =>
    withV (gval x37 true (evLoad (tyi Try.prog 49) S x38)) fun x39 =>
    withV (gval x37 true (indexAddrO Try.prog 49 S x39 (.int .i64 0))) fun x40 =>
    withV (gval x37 true (evLoad (tyi Try.prog 76) S x40)) fun x41 =>
    withV (gval x37 true (evBin .eql (tyi Try.prog 76) x41 (.int .u32 1))) fun x42 =>
    withV (pickO x37 x42 (.bool false)) fun x43 =>
    withV (some x43) fun x4 =>
    K .normal (ee4 x4) S := nr (by kernel_rfl)
@[go_sem] theorem k33_n : k33 b .normal (ee2 x2 x27) S =
  condC x27 (execL (C b) 0 c37 (k39 b) (ee2 x2 x27) S)
    ((k18 b) .normal (ee2 x2 x27) S) := nr (seqN (condE (t := 27) (by kernel_rfl) (enterS (by kernel_rfl)) (execL_skip (by kernel_rfl)) rfl))
@[go_sem] theorem g41 : execL (C b) 0 c31 K (ee1 x2 x23) S =
  withV (evFieldAddr (tyi Try.prog 51) 1 x2) fun x24 =>
    withV (evLoad (tyi Try.prog 49) S x24) fun x25 =>
    withV (lenO (tyi Try.prog 49) x25) fun x26 =>
    withV (evBin .eql (tyi Try.prog 3) x26 (.int .i64 0)) fun x27 =>
    K .normal (ee2 x2 x27) S := nr (by kernel_rfl)
@[go_sem] theorem k30_n : k30 b .normal (ee1 x2 x23) S =
  execL (C b) 0 c31 (k33 b) (ee1 x2 x23) S := nr (seqN ((enterS (by kernel_rfl)).trans (enterS (by kernel_rfl))))
@[go_sem] theorem k30_ret : k30 b .ret e S = (k0 b) .ret e S := nr (seqC_r _ _ _ _)
def k42 (b : Nat) : KT := seqC (fun e S => execL (C b) 0 c2 (k0 b) e S) (k0 b)
def c43 : Code := at0 c3
def c44 : Code := at1 c3
def k45 (b : Nat) : KT := seqC (fun e S => execL (C b) 0 c44 (k30 b) e S) (k30 b)
def c46 : Code := atT c44
def c49 : Code := at0 c46
def c50 : Code := at1 c46
def k51 (b : Nat) : KT := seqC (fun e S => execL (C b) 0 c50 (k30 b) e S) (k30 b)
@[go_sem] theorem k51_n : k51 b .normal (ee4 x4) S =
  (k30 b) .ret (ee4 x4) S := nr (seqN (execL_ret (by kernel_rfl)))
@[go_sem] theorem g52 : execL (C b) 0 c49 K (ee1 x2 x23) S =
  withV (some (.bool false)) fun x4 =>
    K .normal (ee4 x4) S := nr (by kernel_rfl)
@[go_sem] theorem k45_n : k45 b .normal (ee1 x2 x23) S =
  condC x23 (execL (C b) 0 c49 (k51 b) (ee1 x2 x23) S)
    ((k30 b) .normal (ee1 x2 x23) S) := nr (seqN (condE (t := 23) (by kernel_rfl) (enterS (by kernel_rfl)) (execL_skip (by kernel_rfl)) rfl))
@[go_sem] theorem g53 : execL (C b) 0 c43 K (ee0 x1 x2) S =
  withV (evFieldAddr (tyi Try.prog 51) 1 x2) fun x6 =>
    withV (evLoad (tyi Try.prog 49) S x6) fun x7 =>
    withV (some x1) fun x8 =>
    withN (callO (callL Try.prog hints) S 97 [x7, x8]) S fun x9 S =>
    withV (evUn .not x9) fun x10 =>
    withV (some x10) fun x11 =>
    withV (gval x11 false (evFieldAddr (tyi Try.prog 51) 2 x2)) fun x12 =>
    withV (gval x11 false (evLoad (tyi Try.prog 49) S x12)) fun x13 =>
    withV (gval x11 false (some x1)) fun x14 =>
    withN (gout x11 false (callO (callL Try.prog hints) S 97 [x13, x14])) S fun x15 S =>
    withV (gval x11 false (evUn .not x15)) fun x16 =>
    withV (pickO x11 (.bool true) x16) fun x17 =>
    withV (some x17) fun x18 =>
    withV (gval x18 false (evFieldAddr (tyi Try.prog 51) 2 x2)) fun x19 =>
    withV (gval x18 false (evLoad (tyi Try.prog 49) S x19)) fun x20 =>
    withV (gval x18 false (lenO (tyi Try.prog 49) x20)) fun x21 =>
    withV (gval x18 false (evBin .eql (tyi Try.prog 3) x21 (.int .i64 0))) fun x22 =>
    withV (pickO x18 (.bool true) x22) fun x23 =>
    K .normal (ee1 x2 x23) S := nr (by kernel_rfl)
@[go_sem] theorem k42_n : k42 b .normal (ee0 x1 x2) S =
  execL (C b) 0 c43 (k45 b) (ee0 x1 x2) S := nr (seqN ((enterS (by kernel_rfl)).trans (enterS (by kernel_rfl))))
@[go_sem] theorem g54 : execL (C b) 0 c1 K [(0, x0), (1, x1)] S =
  withN (boxed S (List.length S) (TI.size (tyi Try.prog 51)) x0) S fun x2 S =>
    withV (some (.bool false)) fun x4 =>
    K .normal (ee0 x1 x2) S := nr (by kernel_rfl)
def E (b : Nat) (x0 x1 : PV) (S : Store) : RT := execL (C b) 0 code (k0 b) [(0, x0), (1, x1)] S
@[go_sem] theorem E_eq : E b x0 x1 S =
  execL (C b) 0 c1 (k42 b) [(0, x0), (1, x1)] S := nr (enterS (by kernel_rfl))
@[go_sem] theorem k0_ret4 : k0 b .ret (ee4 x4) S = some (x4, S) := nr (by kernel_rfl)
theorem call {x0 x1 : PV} {r : PV × Store} {v : PV} (h : E 0 x0 x1 [] = some r) (hv : fzPV r.2 r.1 = some v) : callL Try.prog hints 96 [x0, x1] = some v := callL_of (fn := Try.f96) (c := code) (by kernel_rfl) (by kernel_rfl) (by decide) (by kernel_rfl) (Nat.le_of_ble_eq_true (by kernel_rfl)) h hv
end
end F96
/-! ### rat.Valid -/
namespace F94
section
variable (b : Nat) (K : KT) (x0 x1 x2 : PV) (e : Env) (S : Store)
noncomputable def hint : Hint := { keep := [], loops := [], regs := [(0, [1]), (1, [2])] }
noncomputable def C (b : Nat) : Ctx := ctxL Try.prog hints b hint
noncomputable def code : Code := Try.f94.body.get rfl
noncomputable def k0 (b : Nat) : KT := endC Try.prog Try.f94
def ee0 (x1 : PV) : Env := [(1, x1)]
def ee1 (x2 : PV) : Env := [(2, x2)]
def c1 : Code := at0 code
def c2 : Code := at1 code
def c3 : Code := at0 c2
def c4 : Code := at1 c2
def k5 (b : Nat) : KT := seqC (fun e S => execL (C b) 0 c4 (k0 b) e S) (k0 b)
@[go_sem] theorem k5_n : k5 b .normal (ee1 x2) S =
  (k0 b) .ret (ee1 x2) S := nr (seqN (execL_ret (by kernel_rfl)))
def k6 (b : Nat) : KT := seqC (fun e S => execL (C b) 0 c2 (k0 b) e S) (k0 b)
@[go_sem] theorem g7 : execL (C b) 0 c3 K (ee0 x1) S =
  withV (evLoad (tyi Try.prog 51) S x1) fun x3 =>
    withN (callO (callL Try.prog hints) S 96 [x3, (.int .i64 4096)]) S fun x4 S =>
    withV (some x4) fun x2 =>
    K .normal (ee1 x2) S := nr (by kernel_rfl)
@[go_sem] theorem k6_n : k6 b .normal e S = execL (C b) 0 c3 (k5 b) e S := nr (seqN (enterS (by kernel_rfl)))
@[go_sem] theorem g8 : execL (C b) 0 c1 K [(0, x0)] S =
  withN (boxed S (List.length S) (TI.size (tyi Try.prog 51)) x0) S fun x1 S =>
    withV (some (.bool false)) fun x2 =>
    K .normal (ee0 x1) S := nr (by kernel_rfl)
def E (b : Nat) (x0 : PV) (S : Store) : RT := execL (C b) 0 code (k0 b) [(0, x0)] S
@[go_sem] theorem E_eq : E b x0 S =
  execL (C b) 0 c1 (k6 b) [(0, x0)] S := nr (enterS (by kernel_rfl))
@[go_sem] theorem k0_ret1 : k0 b .ret (ee1 x2) S = some (x2, S) := nr (by kernel_rfl)
theorem call {x0 : PV} {r : PV × Store} {v : PV} (h : E 0 x0 [] = some r) (hv : fzPV r.2 r.1 = some v) : callL Try.prog hints 94 [x0] = some v := callL_of (fn := Try.f94) (c := code) (by kernel_rfl) (by kernel_rfl) (by decide) (by kernel_rfl) (Nat.le_of_ble_eq_true (by kernel_rfl)) h hv
end
end F94
/-! ### tree.natural -/
namespace F84
section
variable (b : Nat) (K : KT) (x0 x1 x2 : PV) (e : Env) (S : Store)
noncomputable def hint : Hint := { keep := [], loops := [], regs := [(0, [1]), (1, [2])] }
noncomputable def C (b : Nat) : Ctx := ctxL Try.prog hints b hint
noncomputable def code : Code := Try.f84.body.get rfl
noncomputable def k0 (b : Nat) : KT := endC Try.prog Try.f84
def ee0 (x1 : PV) : Env := [(1, x1)]
def ee1 (x2 : PV) : Env := [(2, x2)]
def c1 : Code := at0 code
def c2 : Code := at1 code
def c3 : Code := at0 c2
def c4 : Code := at1 c2
def k5 (b : Nat) : KT := seqC (fun e S => execL (C b) 0 c4 (k0 b) e S) (k0 b)
@[go_sem] theorem k5_n : k5 b .normal (ee1 x2) S =
  (k0 b) .ret (ee1 x2) S := nr (seqN (execL_ret (by kernel_rfl)))
def k6 (b : Nat) : KT := seqC (fun e S => execL (C b) 0 c2 (k0 b) e S) (k0 b)
@[go_sem] theorem g7 : execL (C b) 0 c3 K (ee0 x1) S =
  withV (evFieldAddr (tyi Try.prog 51) 0 x1) fun x3 =>
    withV (evLoad (tyi Try.prog 4) S x3) fun x4 =>
    withV (evUn .not x4) fun x5 =>
    withV (some x5) fun x6 =>
    withV (gval x6 true (evFieldAddr (tyi Try.prog 51) 2 x1)) fun x7 =>
    withV (gval x6 true (evLoad (tyi Try.prog 49) S x7)) fun x8 =>
    withV (gval x6 true (lenO (tyi Try.prog 49) x8)) fun x9 =>
    withV (gval x6 true (evBin .eql (tyi Try.prog 3) x9 (.int .i64 1))) fun x10 =>
    withV (pickO x6 x10 (.bool false)) fun x11 =>
    withV (some x11) fun x12 =>
    withV (gval x12 true (evFieldAddr (tyi Try.prog 51) 2 x1)) fun x13 =>
    withV (gval x12 true (evLoad (tyi Try.prog 49) S x13)) fun x14 =>
    withV (gval x12 true (indexAddrO Try.prog 49 S x14 (.int .i64 0))) fun x15 =>
    withV (gval x12 true (evLoad (tyi Try.prog 76) S x15)) fun x16 =>
    withV (gval x12 true (evBin .eql (tyi Try.prog 76) x16 (.int .u32 1))) fun x17 =>
    withV (pickO x12 x17 (.bool false)) fun x18 =>
    withV (some x18) fun x19 =>
    withV (gval x19 true (evFieldAddr (tyi Try.prog 51) 1 x1)) fun x20 =>
    withV (gval x19 true (evLoad (tyi Try.prog 49) S x20)) fun x21 =>
    withV (gval x19 true (lenO (tyi Try.prog 49) x21)) fun x22 =>
    withV (gval x19 true (evBin .leq (tyi Try.prog 3) x22 (.int .i64 20))) fun x23 =>
    withV (pickO x19 x23 (.bool false)) fun x24 =>
    withV (some x24) fun x25 =>
    withV (gval x25 true (evLoad (tyi Try.prog 51) S x1)) fun x26 =>
    withN (gout x25 true (callO (callL Try.prog hints) S 94 [x26])) S fun x27 S =>
    withV (pickO x25 x27 (.bool false)) fun x28 =>
    withV (some x28) fun x2 =>
    K .normal (ee1 x2) S := nr (by kernel_rfl)
@[go_sem] theorem k6_n : k6 b .normal e S = execL (C b) 0 c3 (k5 b) e S := nr (seqN (enterS (by kernel_rfl)))
@[go_sem] theorem g8 : execL (C b) 0 c1 K [(0, x0)] S =
  withN (boxed S (List.length S) (TI.size (tyi Try.prog 51)) x0) S fun x1 S =>
    withV (some (.bool false)) fun x2 =>
    K .normal (ee0 x1) S := nr (by kernel_rfl)
def E (b : Nat) (x0 : PV) (S : Store) : RT := execL (C b) 0 code (k0 b) [(0, x0)] S
@[go_sem] theorem E_eq : E b x0 S =
  execL (C b) 0 c1 (k6 b) [(0, x0)] S := nr (enterS (by kernel_rfl))
@[go_sem] theorem k0_ret1 : k0 b .ret (ee1 x2) S = some (x2, S) := nr (by kernel_rfl)
theorem call {x0 : PV} {r : PV × Store} {v : PV} (h : E 0 x0 [] = some r) (hv : fzPV r.2 r.1 = some v) : callL Try.prog hints 84 [x0] = some v := callL_of (fn := Try.f84) (c := code) (by kernel_rfl) (by kernel_rfl) (by decide) (by kernel_rfl) (Nat.le_of_ble_eq_true (by kernel_rfl)) h hv
end
end F84
/-! ### tree.shape -/
namespace F85
section
variable (b : Nat) (K : KT) (x0 x2 x3 x4 x5 x10 x19 x27 x28 x32 x37 x50 x56 x60 x64 x69 : PV) (e : Env) (S : Store)
noncomputable def hint : Hint := { keep := [], loops := [], regs := [(0, [0]), (1, [0, 4]), (2, [0, 4, 5]), (3, [0, 4, 5]), (4, [0, 4, 5]), (5, [0, 4, 5]), (6, [2, 3]), (7, [0, 4, 10]), (8, [0, 4, 10]), (9, [0, 4, 10]), (10, [0, 4, 10]), (11, [0, 4, 10]), (12, [0, 4, 10]), (13, [0, 4, 10]), (14, [0, 4, 10]), (15, [2, 3]), (16, [0, 4, 19]), (17, [0, 4, 19]), (18, [0, 4, 19]), (19, [0, 4, 19]), (20, [0, 4, 19]), (21, [0, 4, 19]), (22, [0, 4, 19]), (23, [27]), (24, [27, 28]), (25, [27, 28]), (26, [2, 3]), (27, [27, 32]), (28, [27, 32]), (29, [2, 3]), (30, [2, 3]), (31, [4, 37]), (32, [4, 37]), (33, [4, 37]), (34, [4, 37]), (35, [4, 37]), (36, [4, 37]), (37, [4, 37]), (38, [4, 37]), (39, [4, 37]), (40, [4, 37]), (41, [4, 37]), (42, [2, 3]), (43, [4, 50]), (44, [4, 50]), (45, [4, 50]), (46, [4, 50]), (47, [2, 3]), (48, [4, 56]), (49, [4, 56]), (50, [2, 3]), (51, [4, 60]), (52, [4, 60]), (53, [2, 3]), (54, [4, 64]), (55, [4, 64]), (56, [4, 64]), (57, [2, 3]), (58, [4, 69]), (59, [4, 69]), (60, [2, 3]), (61, [2, 3])] }
noncomputable def C (b : Nat) : Ctx := ctxL Try.prog hints b hint
noncomputable def code : Code := Try.f85.body.get rfl
noncomputable def k0 (b : Nat) : KT := endC Try.prog Try.f85
def ee0 (x0 : PV) : Env := [(0, x0)]
def ee1 (x0 x4 : PV) : Env := [(0, x0), (4, x4)]
def ee2 (x0 x4 x5 : PV) : Env := [(0, x0), (4, x4), (5, x5)]
def ee3 (x0 x4 x10 : PV) : Env := [(0, x0), (4, x4), (10, x10)]
def ee4 (x0 x4 x19 : PV) : Env := [(0, x0), (4, x4), (19, x19)]
def ee5 (x2 x3 : PV) : Env := [(2, x2), (3, x3)]
def ee6 (x4 x37 : PV) : Env := [(4, x4), (37, x37)]
def ee7 (x4 x50 : PV) : Env := [(4, x4), (50, x50)]
def ee8 (x4 x56 : PV) : Env := [(4, x4), (56, x56)]
def ee9 (x4 x60 : PV) : Env := [(4, x4), (60, x60)]
def ee10 (x4 x64 : PV) : Env := [(4, x4), (64, x64)]
def ee11 (x4 x69 : PV) : Env := [(4, x4), (69, x69)]
def ee12 (x27 : PV) : Env := [(27, x27)]
def ee13 (x27 x28 : PV) : Env := [(27, x27), (28, x28)]
def ee14 (x27 x32 : PV) : Env := [(27, x27), (32, x32)]
def c1 : Code := at0 code
def c2 : Code := at1 code
def c3 : Code := at0 c2
def c4 : Code := at1 c2
def c5 : Code := at0 c4
def c6 : Code := at1 c4
def k7 (b : Nat) : KT := seqC (fun e S => execL (C b) 0 c6 (k0 b) e S) (k0 b)
@[go_sem] theorem k7_n : k7 b .normal (ee5 x2 x3) S =
  (k0 b) .ret (ee5 x2 x3) S := nr (seqN (execL_ret (by kernel_rfl)))
def k8 (b : Nat) : KT := seqC (fun e S => execL (C b) 0 c4 (k0 b) e S) (k0 b)
@[go_sem] theorem g9 : execL (C b) 0 c5 K (ee11 x4 x69) S =
  withV (some (.bool false)) fun x2 =>
    withV (some (.sl [] true)) fun x3 =>
    K .normal (ee5 x2 x3) S := nr (by kernel_rfl)
@[go_sem] theorem k8_n : k8 b .normal e S = execL (C b) 0 c5 (k7 b) e S := nr (seqN (enterS (by kernel_rfl)))
@[go_sem] theorem k8_ret : k8 b .ret e S = (k0 b) .ret e S := nr (seqC_r _ _ _ _)
def k10 (b : Nat) : KT := seqC (fun e S => execL (C b) 0 c2 (k0 b) e S) (k0 b)
def c11 : Code := at0 c3
def c12 : Code := at1 c3
def k13 (b : Nat) : KT := seqC (fun e S => execL (C b) 0 c12 (k8 b) e S) (k8 b)
def c14 : Code := atB c12
def k15 (b : Nat) : KT := blockC 0 (k8 b)
@[go_sem] theorem k15_n : k15 b .normal e S = (k8 b) .normal e S := nr (blockC_n _ _ _ _)
@[go_sem] theorem k15_ret : k15 b .ret e S = (k8 b) .ret e S := nr (blockC_r _ _ _ _)
def c16 : Code := at0 c14
def c17 : Code := at1 c14
def k18 (b : Nat) : KT := seqC (fun e S => execL (C b) 0 c17 (k15 b) e S) (k15 b)
def c19 : Code := atT c17
def c20 : Code := atF c17
def c22 : Code := at0 c19
def c23 : Code := at1 c19
def k24 (b : Nat) : KT := seqC (fun e S => execL (C b) 0 c23 (k15 b) e S) (k15 b)
@[go_sem] theorem k24_n : k24 b .normal (ee5 x2 x3) S =
  (k15 b) .ret (ee5 x2 x3) S := nr (seqN (execL_ret (by kernel_rfl)))
@[go_sem] theorem g25 : execL (C b) 0 c22 K (ee2 x0 x4 x5) S =
  withV (some (.bool false)) fun x2 =>
    withV (some (.sl [] true)) fun x3 =>
    K .normal (ee5 x2 x3) S := nr (by kernel_rfl)
def c27 : Code := at0 c20
def c28 : Code := at1 c20
def k29 (b : Nat) : KT := seqC (fun e S => execL (C b) 0 c28 (k15 b) e S) (k15 b)
def c30 : Code := atT c28
def c31 : Code := atF c28
def c33 : Code := at0 c30
def c34 : Code := at1 c30
def k35 (b : Nat) : KT := seqC (fun e S => execL (C b) 0 c34 (k15 b) e S) (k15 b)
@[go_sem] theorem k35_n : k35 b .normal (ee5 x2 x3) S =
  (k15 b) .ret (ee5 x2 x3) S := nr (seqN (execL_ret (by kernel_rfl)))
@[go_sem] theorem g36 : execL (C b) 0 c33 K (ee3 x0 x4 x10) S =
  withV (some (.bool true)) fun x2 =>
    withV (some (.sl [] true)) fun x3 =>
    K .normal (ee5 x2 x3) S := nr (by kernel_rfl)
def c38 : Code := at0 c31
def c39 : Code := at1 c31
def k40 (b : Nat) : KT := seqC (fun e S => execL (C b) 0 c39 (k15 b) e S) (k15 b)
def c41 : Code := atT c39
def c42 : Code := atF c39
def c44 : Code := at0 c41
def c45 : Code := at1 c41
def c46 : Code := at0 c45
def c47 : Code := at1 c45
def k48 (b : Nat) : KT := seqC (fun e S => execL (C b) 0 c47 (k15 b) e S) (k15 b)
@[go_sem] theorem k48_n : k48 b .normal (ee5 x2 x3) S =
  (k15 b) .ret (ee5 x2 x3) S := nr (seqN (execL_ret (by kernel_rfl)))
def k49 (b : Nat) : KT := seqC (fun e S => execL (C b) 0 c45 (k15 b) e S) (k15 b)
@[go_sem] theorem g50 : execL (C b) 0 c46 K (ee14 x27 x32) S =
  withN (buildSliceO Try.prog 22 (List.length S) 1 [0] [PV.cells (.int .i64 2)]) S fun x36 S =>
    withV (some (.bool false)) fun x2 =>
    withV (some x36) fun x3 =>
    K .normal (ee5 x2 x3) S := nr (by kernel_rfl)
@[go_sem] theorem k49_n : k49 b .normal e S = execL (C b) 0 c46 (k48 b) e S := nr (seqN (enterS (by kernel_rfl)))
@[go_sem] theorem k49_ret : k49 b .ret e S = (k15 b) .ret e S := nr (seqC_r _ _ _ _)
def c51 : Code := at0 c44
def c52 : Code := at1 c44
def k53 (b : Nat) : KT := seqC (fun e S => execL (C b) 0 c52 (k49 b) e S) (k49 b)
def c54 : Code := atB c52
def k55 (b : Nat) : KT := blockC 1 (k49 b)
@[go_sem] theorem k55_n : k55 b .normal e S = (k49 b) .normal e S := nr (blockC_n _ _ _ _)
@[go_sem] theorem k55_ret : k55 b .ret e S = (k49 b) .ret e S := nr (blockC_r _ _ _ _)
def c56 : Code := at0 c54
def c57 : Code := at1 c54
def k58 (b : Nat) : KT := seqC (fun e S => execL (C b) 1 c57 (k55 b) e S) (k55 b)
def c59 : Code := atT c57
def c60 : Code := atF c57
def c62 : Code := at0 c59
def c63 : Code := at1 c59
def k64 (b : Nat) : KT := seqC (fun e S => execL (C b) 1 c63 (k55 b) e S) (k55 b)
@[go_sem] theorem k64_n : k64 b .normal (ee5 x2 x3) S =
  (k55 b) .ret (ee5 x2 x3) S := nr (seqN (execL_ret (by kernel_rfl)))
@[go_sem] theorem g65 : execL (C b) 1 c62 K (ee13 x27 x28) S =
  withN (buildSliceO Try.prog 22 (List.length S) 1 [0] [PV.cells (.int .i64 1)]) S fun x31 S =>
    withV (some (.bool false)) fun x2 =>
    withV (some x31) fun x3 =>
    K .normal (ee5 x2 x3) S := nr (by kernel_rfl)
def c67 : Code := at0 c60
def c68 : Code := at1 c60
def k69 (b : Nat) : KT := seqC (fun e S => execL (C b) 1 c68 (k55 b) e S) (k55 b)
def c70 : Code := atT c68
def c73 : Code := at0 c70
def c74 : Code := at1 c70
def k75 (b : Nat) : KT := seqC (fun e S => execL (C b) 1 c74 (k55 b) e S) (k55 b)
@[go_sem] theorem k75_n : k75 b .normal (ee5 x2 x3) S =
  (k55 b) .ret (ee5 x2 x3) S := nr (seqN (execL_ret (by kernel_rfl)))
@[go_sem] theorem g76 : execL (C b) 1 c73 K (ee14 x27 x32) S =
  withN (buildSliceO Try.prog 22 (List.length S) 1 [0] [PV.cells (.int .i64 3)]) S fun x35 S =>
    withV (some (.bool false)) fun x2 =>
    withV (some x35) fun x3 =>
    K .normal (ee5 x2 x3) S := nr (by kernel_rfl)
@[go_sem] theorem k69_n : k69 b .normal (ee14 x27 x32) S =
  condC x32 (execL (C b) 1 c73 (k75 b) (ee14 x27 x32) S)
    ((k55 b) .normal (ee14 x27 x32) S) := nr (seqN (condE (t := 32) (by kernel_rfl) (enterS (by kernel_rfl)) (execL_skip (by kernel_rfl)) rfl))
def c77 : Code := at0 c67
def c78 : Code := at1 c67
def k79 (b : Nat) : KT := seqC (fun e S => execL (C b) 1 c78 (k69 b) e S) (k69 b)
def c81 : Code := atF c78
@[go_sem] theorem g83 : execL (C b) 1 c81 K (ee14 x27 x32) S =
  withV (evBin .eql (tyi Try.prog 3) x27 (.int .i64 60)) fun x34 =>
    withV (some x34) fun x32 =>
    K .normal (ee14 x27 x32) S := nr (by kernel_rfl)
@[go_sem] theorem k79_n : k79 b .normal (ee14 x27 x32) S =
  condC x32 ((k69 b) .normal (ee14 x27 x32) S)
    (execL (C b) 1 c81 (k69 b) (ee14 x27 x32) S) := nr (seqN (condE (t := 32) (by kernel_rfl) (execL_skip (by kernel_rfl)) (rfl) rfl))
@[go_sem] theorem g84 : execL (C b) 1 c77 K (ee13 x27 x28) S =
  withV (evBin .eql (tyi Try.prog 3) x27 (.int .i64 59)) fun x33 =>
    withV (some x33) fun x32 =>
    K .normal (ee14 x27 x32) S := nr (by kernel_rfl)
@[go_sem] theorem k58_n : k58 b .normal (ee13 x27 x28) S =
  condC x28 (execL (C b) 1 c62 (k64 b) (ee13 x27 x28) S)
    (execL (C b) 1 c77 (k79 b) (ee13 x27 x28) S) := nr (seqN (condE (t := 28) (by kernel_rfl) (enterS (by kernel_rfl)) ((enterS (by kernel_rfl)).trans (enterS (by kernel_rfl))) rfl))
def c85 : Code := at0 c56
def c86 : Code := at1 c56
def k87 (b : Nat) : KT := seqC (fun e S => execL (C b) 1 c86 (k58 b) e S) (k58 b)
def c89 : Code := atF c86
@[go_sem] theorem g91 : execL (C b) 1 c89 K (ee13 x27 x28) S =
  withV (evBin .eql (tyi Try.prog 3) x27 (.int .i64 12)) fun x30 =>
    withV (some x30) fun x28 =>
    K .normal (ee13 x27 x28) S := nr (by kernel_rfl)
@[go_sem] theorem k87_n : k87 b .normal (ee13 x27 x28) S =
  condC x28 ((k58 b) .normal (ee13 x27 x28) S)
    (execL (C b) 1 c89 (k58 b) (ee13 x27 x28) S) := nr (seqN (condE (t := 28) (by kernel_rfl) (execL_skip (by kernel_rfl)) (rfl) rfl))
@[go_sem] theorem g92 : execL (C b) 1 c85 K (ee12 x27) S =
  withV (evBin .eql (tyi Try.prog 3) x27 (.int .i64 4)) fun x29 =>
    withV (some x29) fun x28 =>
    K .normal (ee13 x27 x28) S := nr (by kernel_rfl)
@[go_sem] theorem k53_n : k53 b .normal (ee12 x27) S =
  execL (C b) 1 c85 (k87 b) (ee12 x27) S := nr (seqN ((blockE (by kernel_rfl)).trans ((enterS (by kernel_rfl)).trans (enterS (by kernel_rfl)))))
@[go_sem] theorem g93 : execL (C b) 0 c51 K (ee4 x0 x4 x19) S =
  withV (some x0) fun x27 =>
    K .normal (ee12 x27) S := nr (by kernel_rfl)
def c95 : Code := at0 c42
def c96 : Code := at1 c42
def k97 (b : Nat) : KT := seqC (fun e S => execL (C b) 0 c96 (k15 b) e S) (k15 b)
def c98 : Code := atT c96
def c99 : Code := atF c96
def c101 : Code := at0 c98
def c102 : Code := at1 c98
def k103 (b : Nat) : KT := seqC (fun e S => execL (C b) 0 c102 (k15 b) e S) (k15 b)
@[go_sem] theorem k103_n : k103 b .normal (ee5 x2 x3) S =
  (k15 b) .ret (ee5 x2 x3) S := nr (seqN (execL_ret (by kernel_rfl)))
@[go_sem] theorem g104 : execL (C b) 0 c101 K (ee6 x4 x37) S =
  withN (buildSliceO Try.prog 22 (List.length S) 2 [0, 1] [PV.cells (.int .i64 1), PV.cells (.int .i64 1)]) S fun x49 S =>
    withV (some (.bool false)) fun x2 =>
    withV (some x49) fun x3 =>
    K .normal (ee5 x2 x3) S := nr (by kernel_rfl)
def c106 : Code := at0 c99
def c107 : Code := at1 c99
def k108 (b : Nat) : KT := seqC (fun e S => execL (C b) 0 c107 (k15 b) e S) (k15 b)
def c109 : Code := atT c107
def c110 : Code := atF c107
def c112 : Code := at0 c109
def c113 : Code := at1 c109
def k114 (b : Nat) : KT := seqC (fun e S => execL (C b) 0 c113 (k15 b) e S) (k15 b)
@[go_sem] theorem k114_n : k114 b .normal (ee5 x2 x3) S =
  (k15 b) .ret (ee5 x2 x3) S := nr (seqN (execL_ret (by kernel_rfl)))
@[go_sem] theorem g115 : execL (C b) 0 c112 K (ee7 x4 x50) S =
  withN (buildSliceO Try.prog 22 (List.length S) 2 [0, 1] [PV.cells (.int .i64 2), PV.cells (.int .i64 2)]) S fun x55 S =>
    withV (some (.bool false)) fun x2 =>
    withV (some x55) fun x3 =>
    K .normal (ee5 x2 x3) S := nr (by kernel_rfl)
def c117 : Code := at0 c110
def c118 : Code := at1 c110
def k119 (b : Nat) : KT := seqC (fun e S => execL (C b) 0 c118 (k15 b) e S) (k15 b)
def c120 : Code := atT c118
def c121 : Code := atF c118
def c123 : Code := at0 c120
def c124 : Code := at1 c120
def k125 (b : Nat) : KT := seqC (fun e S => execL (C b) 0 c124 (k15 b) e S) (k15 b)
@[go_sem] theorem k125_n : k125 b .normal (ee5 x2 x3) S =
  (k15 b) .ret (ee5 x2 x3) S := nr (seqN (execL_ret (by kernel_rfl)))
@[go_sem] theorem g126 : execL (C b) 0 c123 K (ee8 x4 x56) S =
  withN (buildSliceO Try.prog 22 (List.length S) 1 [0] [PV.cells (.int .i64 2)]) S fun x59 S =>
    withV (some (.bool true)) fun x2 =>
    withV (some x59) fun x3 =>
    K .normal (ee5 x2 x3) S := nr (by kernel_rfl)
def c128 : Code := at0 c121
def c129 : Code := at1 c121
def k130 (b : Nat) : KT := seqC (fun e S => execL (C b) 0 c129 (k15 b) e S) (k15 b)
def c131 : Code := atT c129
def c132 : Code := atF c129
def c134 : Code := at0 c131
def c135 : Code := at1 c131
def k136 (b : Nat) : KT := seqC (fun e S => execL (C b) 0 c135 (k15 b) e S) (k15 b)
@[go_sem] theorem k136_n : k136 b .normal (ee5 x2 x3) S =
  (k15 b) .ret (ee5 x2 x3) S := nr (seqN (execL_ret (by kernel_rfl)))
@[go_sem] theorem g137 : execL (C b) 0 c134 K (ee9 x4 x60) S =
  withN (buildSliceO Try.prog 22 (List.length S) 2 [0, 1] [PV.cells (.int .i64 3), PV.cells (.int .i64 2)]) S fun x63 S =>
    withV (some (.bool false)) fun x2 =>
    withV (some x63) fun x3 =>
    K .normal (ee5 x2 x3) S := nr (by kernel_rfl)
def c139 : Code := at0 c132
def c140 : Code := at1 c132
def k141 (b : Nat) : KT := seqC (fun e S => execL (C b) 0 c140 (k15 b) e S) (k15 b)
def c142 : Code := atT c140
def c143 : Code := atF c140
def c145 : Code := at0 c142
def c146 : Code := at1 c142
def k147 (b : Nat) : KT := seqC (fun e S => execL (C b) 0 c146 (k15 b) e S) (k15 b)
@[go_sem] theorem k147_n : k147 b .normal (ee5 x2 x3) S =
  (k15 b) .ret (ee5 x2 x3) S := nr (seqN (execL_ret (by kernel_rfl)))
@[go_sem] theorem g148 : execL (C b) 0 c145 K (ee10 x4 x64) S =
  withN (buildSliceO Try.prog 22 (List.length S) 1 [0] [PV.cells (.int .i64 1)]) S fun x68 S =>
    withV (some (.bool true)) fun x2 =>
    withV (some x68) fun x3 =>
    K .normal (ee5 x2 x3) S := nr (by kernel_rfl)
def c150 : Code := at0 c143
def c151 : Code := at1 c143
def k152 (b : Nat) : KT := seqC (fun e S => execL (C b) 0 c151 (k15 b) e S) (k15 b)
def c153 : Code := atT c151
def c156 : Code := at0 c153
def c157 : Code := at1 c153
def k158 (b : Nat) : KT := seqC (fun e S => execL (C b) 0 c157 (k15 b) e S) (k15 b)
@[go_sem] theorem k158_n : k158 b .normal (ee5 x2 x3) S =
  (k15 b) .ret (ee5 x2 x3) S := nr (seqN (execL_ret (by kernel_rfl)))
@[go_sem] theorem g159 : execL (C b) 0 c156 K (ee11 x4 x69) S =
  withN (buildSliceO Try.prog 22 (List.length S) 2 [0, 1] [PV.cells (.int .i64 3), PV.cells (.int .i64 3)]) S fun x72 S =>
    withV (some (.bool false)) fun x2 =>
    withV (some x72) fun x3 =>
    K .normal (ee5 x2 x3) S := nr (by kernel_rfl)
@[go_sem] theorem k152_n : k152 b .normal (ee11 x4 x69) S =
  condC x69 (execL (C b) 0 c156 (k158 b) (ee11 x4 x69) S)
    ((k15 b) .normal (ee11 x4 x69) S) := nr (seqN (condE (t := 69) (by kernel_rfl) (enterS (by kernel_rfl)) (execL_skip (by kernel_rfl)) rfl))
def c160 : Code := at0 c150
def c161 : Code := at1 c150
def k162 (b : Nat) : KT := seqC (fun e S => execL (C b) 0 c161 (k152 b) e S) (k152 b)
def c164 : Code := atF c161
@[go_sem] theorem g166 : execL (C b) 0 c164 K (ee11 x4 x69) S =
  withV (evBin .eql (tyi Try.prog 3) x4 (.int .i64 58)) fun x71 =>
    withV (some x71) fun x69 =>
    K .normal (ee11 x4 x69) S := nr (by kernel_rfl)
@[go_sem] theorem k162_n : k162 b .normal (ee11 x4 x69) S =
  condC x69 ((k152 b) .normal (ee11 x4 x69) S)
    (execL (C b) 0 c164 (k152 b) (ee11 x4 x69) S) := nr (seqN (condE (t := 69) (by kernel_rfl) (execL_skip (by kernel_rfl)) (rfl) rfl))
@[go_sem] theorem g167 : execL (C b) 0 c160 K (ee10 x4 x64) S =
  withV (evBin .eql (tyi Try.prog 3) x4 (.int .i64 57)) fun x70 =>
    withV (some x70) fun x69 =>
    K .normal (ee11 x4 x69) S := nr (by kernel_rfl)
@[go_sem] theorem k141_n : k141 b .normal (ee10 x4 x64) S =
  condC x64 (execL (C b) 0 c145 (k147 b) (ee10 x4 x64) S)
    (execL (C b) 0 c160 (k162 b) (ee10 x4 x64) S) := nr (seqN (condE (t := 64) (by kernel_rfl) (enterS (by kernel_rfl)) ((enterS (by kernel_rfl)).trans (enterS (by kernel_rfl))) rfl))
def c168 : Code := at0 c139
def c169 : Code := at1 c139
def k170 (b : Nat) : KT := seqC (fun e S => execL (C b) 0 c169 (k141 b) e S) (k141 b)
def c172 : Code := atF c169
def c174 : Code := at0 c172
def c175 : Code := at1 c172
def k176 (b : Nat) : KT := seqC (fun e S => execL (C b) 0 c175 (k141 b) e S) (k141 b)
def c178 : Code := atF c175
@[go_sem] theorem g180 : execL (C b) 0 c178 K (ee10 x4 x64) S =
  withV (evBin .eql (tyi Try.prog 3) x4 (.int .i64 55)) fun x67 =>
    withV (some x67) fun x64 =>
    K .normal (ee10 x4 x64) S := nr (by kernel_rfl)
@[go_sem] theorem k176_n : k176 b .normal (ee10 x4 x64) S =
  condC x64 ((k141 b) .normal (ee10 x4 x64) S)
    (execL (C b) 0 c178 (k141 b) (ee10 x4 x64) S) := nr (seqN (condE (t := 64) (by kernel_rfl) (execL_skip (by kernel_rfl)) (rfl) rfl))
@[go_sem] theorem g181 : execL (C b) 0 c174 K (ee10 x4 x64) S =
  withV (evBin .eql (tyi Try.prog 3) x4 (.int .i64 51)) fun x66 =>
    withV (some x66) fun x64 =>
    K .normal (ee10 x4 x64) S := nr (by kernel_rfl)
@[go_sem] theorem k170_n : k170 b .normal (ee10 x4 x64) S =
  condC x64 ((k141 b) .normal (ee10 x4 x64) S)
    (execL (C b) 0 c174 (k176 b) (ee10 x4 x64) S) := nr (seqN (condE (t := 64) (by kernel_rfl) (execL_skip (by kernel_rfl)) (enterS (by kernel_rfl)) rfl))
@[go_sem] theorem g182 : execL (C b) 0 c168 K (ee9 x4 x60) S =
  withV (evBin .eql (tyi Try.prog 3) x4 (.int .i64 50)) fun x65 =>
    withV (some x65) fun x64 =>
    K .normal (ee10 x4 x64) S := nr (by kernel_rfl)
@[go_sem] theorem k130_n : k130 b .normal (ee9 x4 x60) S =
  condC x60 (execL (C b) 0 c134 (k136 b) (ee9 x4 x60) S)
    (execL (C b) 0 c168 (k170 b) (ee9 x4 x60) S) := nr (seqN (condE (t := 60) (by kernel_rfl) (enterS (by kernel_rfl)) ((enterS (by kernel_rfl)).trans (enterS (by kernel_rfl))) rfl))
def c183 : Code := at0 c128
def c184 : Code := at1 c128
def k185 (b : Nat) : KT := seqC (fun e S => execL (C b) 0 c184 (k130 b) e S) (k130 b)
def c187 : Code := atF c184
@[go_sem] theorem g189 : execL (C b) 0 c187 K (ee9 x4 x60) S =
  withV (evBin .eql (tyi Try.prog 3) x4 (.int .i64 36)) fun x62 =>
    withV (some x62) fun x60 =>
    K .normal (ee9 x4 x60) S := nr (by kernel_rfl)
@[go_sem] theorem k185_n : k185 b .normal (ee9 x4 x60) S =
  condC x60 ((k130 b) .normal (ee9 x4 x60) S)
    (execL (C b) 0 c187 (k130 b) (ee9 x4 x60) S) := nr (seqN (condE (t := 60) (by kernel_rfl) (execL_skip (by kernel_rfl)) (rfl) rfl))
@[go_sem] theorem g190 : execL (C b) 0 c183 K (ee8 x4 x56) S =
  withV (evBin .eql (tyi Try.prog 3) x4 (.int .i64 35)) fun x61 =>
    withV (some x61) fun x60 =>
    K .normal (ee9 x4 x60) S := nr (by kernel_rfl)
@[go_sem] theorem k119_n : k119 b .normal (ee8 x4 x56) S =
  condC x56 (execL (C b) 0 c123 (k125 b) (ee8 x4 x56) S)
    (execL (C b) 0 c183 (k185 b) (ee8 x4 x56) S) := nr (seqN (condE (t := 56) (by kernel_rfl) (enterS (by kernel_rfl)) ((enterS (by kernel_rfl)).trans (enterS (by kernel_rfl))) rfl))
def c191 : Code := at0 c117
def c192 : Code := at1 c117
def k193 (b : Nat) : KT := seqC (fun e S => execL (C b) 0 c192 (k119 b) e S) (k119 b)
def c195 : Code := atF c192
@[go_sem] theorem g197 : execL (C b) 0 c195 K (ee8 x4 x56) S =
  withV (evBin .eql (tyi Try.prog 3) x4 (.int .i64 34)) fun x58 =>
    withV (some x58) fun x56 =>
    K .normal (ee8 x4 x56) S := nr (by kernel_rfl)
@[go_sem] theorem k193_n : k193 b .normal (ee8 x4 x56) S =
  condC x56 ((k119 b) .normal (ee8 x4 x56) S)
    (execL (C b) 0 c195 (k119 b) (ee8 x4 x56) S) := nr (seqN (condE (t := 56) (by kernel_rfl) (execL_skip (by kernel_rfl)) (rfl) rfl))
@[go_sem] theorem g198 : execL (C b) 0 c191 K (ee7 x4 x50) S =
  withV (evBin .eql (tyi Try.prog 3) x4 (.int .i64 33)) fun x57 =>
    withV (some x57) fun x56 =>
    K .normal (ee8 x4 x56) S := nr (by kernel_rfl)
@[go_sem] theorem k108_n : k108 b .normal (ee7 x4 x50) S =
  condC x50 (execL (C b) 0 c112 (k114 b) (ee7 x4 x50) S)
    (execL (C b) 0 c191 (k193 b) (ee7 x4 x50) S) := nr (seqN (condE (t := 50) (by kernel_rfl) (enterS (by kernel_rfl)) ((enterS (by kernel_rfl)).trans (enterS (by kernel_rfl))) rfl))
def c199 : Code := at0 c106
def c200 : Code := at1 c106
def k201 (b : Nat) : KT := seqC (fun e S => execL (C b) 0 c200 (k108 b) e S) (k108 b)
def c203 : Code := atF c200
def c205 : Code := at0 c203
def c206 : Code := at1 c203
def k207 (b : Nat) : KT := seqC (fun e S => execL (C b) 0 c206 (k108 b) e S) (k108 b)
def c209 : Code := atF c206
def c211 : Code := at0 c209
def c212 : Code := at1 c209
def k213 (b : Nat) : KT := seqC (fun e S => execL (C b) 0 c212 (k108 b) e S) (k108 b)
def c215 : Code := atF c212
@[go_sem] theorem g217 : execL (C b) 0 c215 K (ee7 x4 x50) S =
  withV (evBin .eql (tyi Try.prog 3) x4 (.int .i64 32)) fun x54 =>
    withV (some x54) fun x50 =>
    K .normal (ee7 x4 x50) S := nr (by kernel_rfl)
@[go_sem] theorem k213_n : k213 b .normal (ee7 x4 x50) S =
  condC x50 ((k108 b) .normal (ee7 x4 x50) S)
    (execL (C b) 0 c215 (k108 b) (ee7 x4 x50) S) := nr (seqN (condE (t := 50) (by kernel_rfl) (execL_skip (by kernel_rfl)) (rfl) rfl))
@[go_sem] theorem g218 : execL (C b) 0 c211 K (ee7 x4 x50) S =
  withV (evBin .eql (tyi Try.prog 3) x4 (.int .i64 31)) fun x53 =>
    withV (some x53) fun x50 =>
    K .normal (ee7 x4 x50) S := nr (by kernel_rfl)
@[go_sem] theorem k207_n : k207 b .normal (ee7 x4 x50) S =
  condC x50 ((k108 b) .normal (ee7 x4 x50) S)
    (execL (C b) 0 c211 (k213 b) (ee7 x4 x50) S) := nr (seqN (condE (t := 50) (by kernel_rfl) (execL_skip (by kernel_rfl)) (enterS (by kernel_rfl)) rfl))
@[go_sem] theorem g219 : execL (C b) 0 c205 K (ee7 x4 x50) S =
  withV (evBin .eql (tyi Try.prog 3) x4 (.int .i64 30)) fun x52 =>
    withV (some x52) fun x50 =>
    K .normal (ee7 x4 x50) S := nr (by kernel_rfl)
@[go_sem] theorem k201_n : k201 b .normal (ee7 x4 x50) S =
  condC x50 ((k108 b) .normal (ee7 x4 x50) S)
    (execL (C b) 0 c205 (k207 b) (ee7 x4 x50) S) := nr (seqN (condE (t := 50) (by kernel_rfl) (execL_skip (by kernel_rfl)) (enterS (by kernel_rfl)) rfl))
@[go_sem] theorem g220 : execL (C b) 0 c199 K (ee6 x4 x37) S =
  withV (evBin .eql (tyi Try.prog 3) x4 (.int .i64 29)) fun x51 =>
    withV (some x51) fun x50 =>
    K .normal (ee7 x4 x50) S := nr (by kernel_rfl)
@[go_sem] theorem k97_n : k97 b .normal (ee6 x4 x37) S =
  condC x37 (execL (C b) 0 c101 (k103 b) (ee6 x4 x37) S)
    (execL (C b) 0 c199 (k201 b) (ee6 x4 x37) S) := nr (seqN (condE (t := 37) (by kernel_rfl) (enterS (by kernel_rfl)) ((enterS (by kernel_rfl)).trans (enterS (by kernel_rfl))) rfl))
def c221 : Code := at0 c95
def c222 : Code := at1 c95
def k223 (b : Nat) : KT := seqC (fun e S => execL (C b) 0 c222 (k97 b) e S) (k97 b)
def c225 : Code := atF c222
def c227 : Code := at0 c225
def c228 : Code := at1 c225
def k229 (b : Nat) : KT := seqC (fun e S => execL (C b) 0 c228 (k97 b) e S) (k97 b)
def c231 : Code := atF c228
def c233 : Code := at0 c231
def c234 : Code := at1 c231
def k235 (b : Nat) : KT := seqC (fun e S => execL (C b) 0 c234 (k97 b) e S) (k97 b)
def c237 : Code := atF c234
def c239 : Code := at0 c237
def c240 : Code := at1 c237
def k241 (b : Nat) : KT := seqC (fun e S => execL (C b) 0 c240 (k97 b) e S) (k97 b)
def c243 : Code := atF c240
def c245 : Code := at0 c243
def c246 : Code := at1 c243
def k247 (b : Nat) : KT := seqC (fun e S => execL (C b) 0 c246 (k97 b) e S) (k97 b)
def c249 : Code := atF c246
def c251 : Code := at0 c249
def c252 : Code := at1 c249
def k253 (b : Nat) : KT := seqC (fun e S => execL (C b) 0 c252 (k97 b) e S) (k97 b)
def c255 : Code := atF c252
def c257 : Code := at0 c255
def c258 : Code := at1 c255
def k259 (b : Nat) : KT := seqC (fun e S => execL (C b) 0 c258 (k97 b) e S) (k97 b)
def c261 : Code := atF c258
def c263 : Code := at0 c261
def c264 : Code := at1 c261
def k265 (b : Nat) : KT := seqC (fun e S => execL (C b) 0 c264 (k97 b) e S) (k97 b)
def c267 : Code := atF c264
def c269 : Code := at0 c267
def c270 : Code := at1 c267
def k271 (b : Nat) : KT := seqC (fun e S => execL (C b) 0 c270 (k97 b) e S) (k97 b)
def c273 : Code := atF c270
def c275 : Code := at0 c273
def c276 : Code := at1 c273
def k277 (b : Nat) : KT := seqC (fun e S => execL (C b) 0 c276 (k97 b) e S) (k97 b)
def c279 : Code := atF c276
@[go_sem] theorem g281 : execL (C b) 0 c279 K (ee6 x4 x37) S =
  withV (evBin .eql (tyi Try.prog 3) x4 (.int .i64 27)) fun x48 =>
    withV (some x48) fun x37 =>
    K .normal (ee6 x4 x37) S := nr (by kernel_rfl)
@[go_sem] theorem k277_n : k277 b .normal (ee6 x4 x37) S =
  condC x37 ((k97 b) .normal (ee6 x4 x37) S)
    (execL (C b) 0 c279 (k97 b) (ee6 x4 x37) S) := nr (seqN (condE (t := 37) (by kernel_rfl) (execL_skip (by kernel_rfl)) (rfl) rfl))
@[go_sem] theorem g282 : execL (C b) 0 c275 K (ee6 x4 x37) S =
  withV (evBin .eql (tyi Try.prog 3) x4 (.int .i64 26)) fun x47 =>
    withV (some x47) fun x37 =>
    K .normal (ee6 x4 x37) S := nr (by kernel_rfl)
@[go_sem] theorem k271_n : k271 b .normal (ee6 x4 x37) S =
  condC x37 ((k97 b) .normal (ee6 x4 x37) S)
    (execL (C b) 0 c275 (k277 b) (ee6 x4 x37) S) := nr (seqN (condE (t := 37) (by kernel_rfl) (execL_skip (by kernel_rfl)) (enterS (by kernel_rfl)) rfl))
@[go_sem] theorem g283 : execL (C b) 0 c269 K (ee6 x4 x37) S =
  withV (evBin .eql (tyi Try.prog 3) x4 (.int .i64 25)) fun x46 =>
    withV (some x46) fun x37 =>
    K .normal (ee6 x4 x37) S := nr (by kernel_rfl)
@[go_sem] theorem k265_n : k265 b .normal (ee6 x4 x37) S =
  condC x37 ((k97 b) .normal (ee6 x4 x37) S)
    (execL (C b) 0 c269 (k271 b) (ee6 x4 x37) S) := nr (seqN (condE (t := 37) (by kernel_rfl) (execL_skip (by kernel_rfl)) (enterS (by kernel_rfl)) rfl))
@[go_sem] theorem g284 : execL (C b) 0 c263 K (ee6 x4 x37) S =
  withV (evBin .eql (tyi Try.prog 3) x4 (.int .i64 24)) fun x45 =>
    withV (some x45) fun x37 =>
    K .normal (ee6 x4 x37) S := nr (by kernel_rfl)
@[go_sem] theorem k259_n : k259 b .normal (ee6 x4 x37) S =
  condC x37 ((k97 b) .normal (ee6 x4 x37) S)
    (execL (C b) 0 c263 (k265 b) (ee6 x4 x37) S) := nr (seqN (condE (t := 37) (by kernel_rfl) (execL_skip (by kernel_rfl)) (enterS (by kernel_rfl)) rfl))
@[go_sem] theorem g285 : execL (C b) 0 c257 K (ee6 x4 x37) S =
  withV (evBin .eql (tyi Try.prog 3) x4 (.int .i64 23)) fun x44 =>
    withV (some x44) fun x37 =>
    K .normal (ee6 x4 x37) S := nr (by kernel_rfl)
@[go_sem] theorem k253_n : k253 b .normal (ee6 x4 x37) S =
  condC x37 ((k97 b) .normal (ee6 x4 x37) S)
    (execL (C b) 0 c257 (k259 b) (ee6 x4 x37) S) := nr (seqN (condE (t := 37) (by kernel_rfl) (execL_skip (by kernel_rfl)) (enterS (by kernel_rfl)) rfl))
@[go_sem] theorem g286 : execL (C b) 0 c251 K (ee6 x4 x37) S =
  withV (evBin .eql (tyi Try.prog 3) x4 (.int .i64 22)) fun x43 =>
    withV (some x43) fun x37 =>
    K .normal (ee6 x4 x37) S := nr (by kernel_rfl)
@[go_sem] theorem k247_n : k247 b .normal (ee6 x4 x37) S =
  condC x37 ((k97 b) .normal (ee6 x4 x37) S)
    (execL (C b) 0 c251 (k253 b) (ee6 x4 x37) S) := nr (seqN (condE (t := 37) (by kernel_rfl) (execL_skip (by kernel_rfl)) (enterS (by kernel_rfl)) rfl))
@[go_sem] theorem g287 : execL (C b) 0 c245 K (ee6 x4 x37) S =
  withV (evBin .eql (tyi Try.prog 3) x4 (.int .i64 9)) fun x42 =>
    withV (some x42) fun x37 =>
    K .normal (ee6 x4 x37) S := nr (by kernel_rfl)
@[go_sem] theorem k241_n : k241 b .normal (ee6 x4 x37) S =
  condC x37 ((k97 b) .normal (ee6 x4 x37) S)
    (execL (C b) 0 c245 (k247 b) (ee6 x4 x37) S) := nr (seqN (condE (t := 37) (by kernel_rfl) (execL_skip (by kernel_rfl)) (enterS (by kernel_rfl)) rfl))
@[go_sem] theorem g288 : execL (C b) 0 c239 K (ee6 x4 x37) S =
  withV (evBin .eql (tyi Try.prog 3) x4 (.int .i64 8)) fun x41 =>
    withV (some x41) fun x37 =>
    K .normal (ee6 x4 x37) S := nr (by kernel_rfl)
@[go_sem] theorem k235_n : k235 b .normal (ee6 x4 x37) S =
  condC x37 ((k97 b) .normal (ee6 x4 x37) S)
    (execL (C b) 0 c239 (k241 b) (ee6 x4 x37) S) := nr (seqN (condE (t := 37) (by kernel_rfl) (execL_skip (by kernel_rfl)) (enterS (by kernel_rfl)) rfl))
@[go_sem] theorem g289 : execL (C b) 0 c233 K (ee6 x4 x37) S =
  withV (evBin .eql (tyi Try.prog 3) x4 (.int .i64 7)) fun x40 =>
    withV (some x40) fun x37 =>
    K .normal (ee6 x4 x37) S := nr (by kernel_rfl)
@[go_sem] theorem k229_n : k229 b .normal (ee6 x4 x37) S =
  condC x37 ((k97 b) .normal (ee6 x4 x37) S)
    (execL (C b) 0 c233 (k235 b) (ee6 x4 x37) S) := nr (seqN (condE (t := 37) (by kernel_rfl) (execL_skip (by kernel_rfl)) (enterS (by kernel_rfl)) rfl))
@[go_sem] theorem g290 : execL (C b) 0 c227 K (ee6 x4 x37) S =
  withV (evBin .eql (tyi Try.prog 3) x4 (.int .i64 6)) fun x39 =>
    withV (some x39) fun x37 =>
    K .normal (ee6 x4 x37) S := nr (by kernel_rfl)
@[go_sem] theorem k223_n : k223 b .normal (ee6 x4 x37) S =
  condC x37 ((k97 b) .normal (ee6 x4 x37) S)
    (execL (C b) 0 c227 (k229 b) (ee6 x4 x37) S) := nr (seqN (condE (t := 37) (by kernel_rfl) (execL_skip (by kernel_rfl)) (enterS (by kernel_rfl)) rfl))
@[go_sem] theorem g291 : execL (C b) 0 c221 K (ee4 x0 x4 x19) S =
  withV (evBin .eql (tyi Try.prog 3) x4 (.int .i64 5)) fun x38 =>
    withV (some x38) fun x37 =>
    K .normal (ee6 x4 x37) S := nr (by kernel_rfl)
@[go_sem] theorem k40_n : k40 b .normal (ee4 x0 x4 x19) S =
  condC x19 (execL (C b) 0 c51 (k53 b) (ee4 x0 x4 x19) S)
    (execL (C b) 0 c221 (k223 b) (ee4 x0 x4 x19) S) := nr (seqN (condE (t := 19) (by kernel_rfl) ((enterS (by kernel_rfl)).trans (enterS (by kernel_rfl))) ((enterS (by kernel_rfl)).trans (enterS (by kernel_rfl))) rfl))
def c292 : Code := at0 c38
def c293 : Code := at1 c38
def k294 (b : Nat) : KT := seqC (fun e S => execL (C b) 0 c293 (k40 b) e S) (k40 b)
def c296 : Code := atF c293
def c298 : Code := at0 c296
def c299 : Code := at1 c296
def k300 (b : Nat) : KT := seqC (fun e S => execL (C b) 0 c299 (k40 b) e S) (k40 b)
def c302 : Code := atF c299
def c304 : Code := at0 c302
def c305 : Code := at1 c302
def k306 (b : Nat) : KT := seqC (fun e S => execL (C b) 0 c305 (k40 b) e S) (k40 b)
def c308 : Code := atF c305
def c310 : Code := at0 c308
def c311 : Code := at1 c308
def k312 (b : Nat) : KT := seqC (fun e S => execL (C b) 0 c311 (k40 b) e S) (k40 b)
def c314 : Code := atF c311
def c316 : Code := at0 c314
def c317 : Code := at1 c314
def k318 (b : Nat) : KT := seqC (fun e S => execL (C b) 0 c317 (k40 b) e S) (k40 b)
def c320 : Code := atF c317
def c322 : Code := at0 c320
def c323 : Code := at1 c320
def k324 (b : Nat) : KT := seqC (fun e S => execL (C b) 0 c323 (k40 b) e S) (k40 b)
def c326 : Code := atF c323
@[go_sem] theorem g328 : execL (C b) 0 c326 K (ee4 x0 x4 x19) S =
  withV (evBin .eql (tyi Try.prog 3) x4 (.int .i64 60)) fun x26 =>
    withV (some x26) fun x19 =>
    K .normal (ee4 x0 x4 x19) S := nr (by kernel_rfl)
@[go_sem] theorem k324_n : k324 b .normal (ee4 x0 x4 x19) S =
  condC x19 ((k40 b) .normal (ee4 x0 x4 x19) S)
    (execL (C b) 0 c326 (k40 b) (ee4 x0 x4 x19) S) := nr (seqN (condE (t := 19) (by kernel_rfl) (execL_skip (by kernel_rfl)) (rfl) rfl))
@[go_sem] theorem g329 : execL (C b) 0 c322 K (ee4 x0 x4 x19) S =
  withV (evBin .eql (tyi Try.prog 3) x4 (.int .i64 59)) fun x25 =>
    withV (some x25) fun x19 =>
    K .normal (ee4 x0 x4 x19) S := nr (by kernel_rfl)
@[go_sem] theorem k318_n : k318 b .normal (ee4 x0 x4 x19) S =
  condC x19 ((k40 b) .normal (ee4 x0 x4 x19) S)
    (execL (C b) 0 c322 (k324 b) (ee4 x0 x4 x19) S) := nr (seqN (condE (t := 19) (by kernel_rfl) (execL_skip (by kernel_rfl)) (enterS (by kernel_rfl)) rfl))
@[go_sem] theorem g330 : execL (C b) 0 c316 K (ee4 x0 x4 x19) S =
  withV (evBin .eql (tyi Try.prog 3) x4 (.int .i64 39)) fun x24 =>
    withV (some x24) fun x19 =>
    K .normal (ee4 x0 x4 x19) S := nr (by kernel_rfl)
@[go_sem] theorem k312_n : k312 b .normal (ee4 x0 x4 x19) S =
  condC x19 ((k40 b) .normal (ee4 x0 x4 x19) S)
    (execL (C b) 0 c316 (k318 b) (ee4 x0 x4 x19) S) := nr (seqN (condE (t := 19) (by kernel_rfl) (execL_skip (by kernel_rfl)) (enterS (by kernel_rfl)) rfl))
@[go_sem] theorem g331 : execL (C b) 0 c310 K (ee4 x0 x4 x19) S =
  withV (evBin .eql (tyi Try.prog 3) x4 (.int .i64 28)) fun x23 =>
    withV (some x23) fun x19 =>
    K .normal (ee4 x0 x4 x19) S := nr (by kernel_rfl)
@[go_sem] theorem k306_n : k306 b .normal (ee4 x0 x4 x19) S =
  condC x19 ((k40 b) .normal (ee4 x0 x4 x19) S)
    (execL (C b) 0 c310 (k312 b) (ee4 x0 x4 x19) S) := nr (seqN (condE (t := 19) (by kernel_rfl) (execL_skip (by kernel_rfl)) (enterS (by kernel_rfl)) rfl))
@[go_sem] theorem g332 : execL (C b) 0 c304 K (ee4 x0 x4 x19) S =
  withV (evBin .eql (tyi Try.prog 3) x4 (.int .i64 53)) fun x22 =>
    withV (some x22) fun x19 =>
    K .normal (ee4 x0 x4 x19) S := nr (by kernel_rfl)
@[go_sem] theorem k300_n : k300 b .normal (ee4 x0 x4 x19) S =
  condC x19 ((k40 b) .normal (ee4 x0 x4 x19) S)
    (execL (C b) 0 c304 (k306 b) (ee4 x0 x4 x19) S) := nr (seqN (condE (t := 19) (by kernel_rfl) (execL_skip (by kernel_rfl)) (enterS (by kernel_rfl)) rfl))
@[go_sem] theorem g333 : execL (C b) 0 c298 K (ee4 x0 x4 x19) S =
  withV (evBin .eql (tyi Try.prog 3) x4 (.int .i64 12)) fun x21 =>
    withV (some x21) fun x19 =>
    K .normal (ee4 x0 x4 x19) S := nr (by kernel_rfl)
@[go_sem] theorem k294_n : k294 b .normal (ee4 x0 x4 x19) S =
  condC x19 ((k40 b) .normal (ee4 x0 x4 x19) S)
    (execL (C b) 0 c298 (k300 b) (ee4 x0 x4 x19) S) := nr (seqN (condE (t := 19) (by kernel_rfl) (execL_skip (by kernel_rfl)) (enterS (by kernel_rfl)) rfl))
@[go_sem] theorem g334 : execL (C b) 0 c292 K (ee3 x0 x4 x10) S =
  withV (evBin .eql (tyi Try.prog 3) x4 (.int .i64 4)) fun x20 =>
    withV (some x20) fun x19 =>
    K .normal (ee4 x0 x4 x19) S := nr (by kernel_rfl)
@[go_sem] theorem k29_n : k29 b .normal (ee3 x0 x4 x10) S =
  condC x10 (execL (C b) 0 c33 (k35 b) (ee3 x0 x4 x10) S)
    (execL (C b) 0 c292 (k294 b) (ee3 x0 x4 x10) S) := nr (seqN (condE (t := 10) (by kernel_rfl) (enterS (by kernel_rfl)) ((enterS (by kernel_rfl)).trans (enterS (by kernel_rfl))) rfl))
def c335 : Code := at0 c27
def c336 : Code := at1 c27
def k337 (b : Nat) : KT := seqC (fun e S => execL (C b) 0 c336 (k29 b) e S) (k29 b)
def c339 : Code := atF c336
def c341 : Code := at0 c339
def c342 : Code := at1 c339
def k343 (b : Nat) : KT := seqC (fun e S => execL (C b) 0 c342 (k29 b) e S) (k29 b)
def c345 : Code := atF c342
def c347 : Code := at0 c345
def c348 : Code := at1 c345
def k349 (b : Nat) : KT := seqC (fun e S => execL (C b) 0 c348 (k29 b) e S) (k29 b)
def c351 : Code := atF c348
def c353 : Code := at0 c351
def c354 : Code := at1 c351
def k355 (b : Nat) : KT := seqC (fun e S => execL (C b) 0 c354 (k29 b) e S) (k29 b)
def c357 : Code := atF c354
def c359 : Code := at0 c357
def c360 : Code := at1 c357
def k361 (b : Nat) : KT := seqC (fun e S => execL (C b) 0 c360 (k29 b) e S) (k29 b)
def c363 : Code := atF c360
def c365 : Code := at0 c363
def c366 : Code := at1 c363
def k367 (b : Nat) : KT := seqC (fun e S => execL (C b) 0 c366 (k29 b) e S) (k29 b)
def c369 : Code := atF c366
def c371 : Code := at0 c369
def c372 : Code := at1 c369
def k373 (b : Nat) : KT := seqC (fun e S => execL (C b) 0 c372 (k29 b) e S) (k29 b)
def c375 : Code := atF c372
@[go_sem] theorem g377 : execL (C b) 0 c375 K (ee3 x0 x4 x10) S =
  withV (evBin .eql (tyi Try.prog 3) x4 (.int .i64 62)) fun x18 =>
    withV (some x18) fun x10 =>
    K .normal (ee3 x0 x4 x10) S := nr (by kernel_rfl)
@[go_sem] theorem k373_n : k373 b .normal (ee3 x0 x4 x10) S =
  condC x10 ((k29 b) .normal (ee3 x0 x4 x10) S)
    (execL (C b) 0 c375 (k29 b) (ee3 x0 x4 x10) S) := nr (seqN (condE (t := 10) (by kernel_rfl) (execL_skip (by kernel_rfl)) (rfl) rfl))
@[go_sem] theorem g378 : execL (C b) 0 c371 K (ee3 x0 x4 x10) S =
  withV (evBin .eql (tyi Try.prog 3) x4 (.int .i64 61)) fun x17 =>
    withV (some x17) fun x10 =>
    K .normal (ee3 x0 x4 x10) S := nr (by kernel_rfl)
@[go_sem] theorem k367_n : k367 b .normal (ee3 x0 x4 x10) S =
  condC x10 ((k29 b) .normal (ee3 x0 x4 x10) S)
    (execL (C b) 0 c371 (k373 b) (ee3 x0 x4 x10) S) := nr (seqN (condE (t := 10) (by kernel_rfl) (execL_skip (by kernel_rfl)) (enterS (by kernel_rfl)) rfl))
@[go_sem] theorem g379 : execL (C b) 0 c365 K (ee3 x0 x4 x10) S =
  withV (evBin .eql (tyi Try.prog 3) x4 (.int .i64 56)) fun x16 =>
    withV (some x16) fun x10 =>
    K .normal (ee3 x0 x4 x10) S := nr (by kernel_rfl)
@[go_sem] theorem k361_n : k361 b .normal (ee3 x0 x4 x10) S =
  condC x10 ((k29 b) .normal (ee3 x0 x4 x10) S)
    (execL (C b) 0 c365 (k367 b) (ee3 x0 x4 x10) S) := nr (seqN (condE (t := 10) (by kernel_rfl) (execL_skip (by kernel_rfl)) (enterS (by kernel_rfl)) rfl))
@[go_sem] theorem g380 : execL (C b) 0 c359 K (ee3 x0 x4 x10) S =
  withV (evBin .eql (tyi Try.prog 3) x4 (.int .i64 52)) fun x15 =>
    withV (some x15) fun x10 =>
    K .normal (ee3 x0 x4 x10) S := nr (by kernel_rfl)
@[go_sem] theorem k355_n : k355 b .normal (ee3 x0 x4 x10) S =
  condC x10 ((k29 b) .normal (ee3 x0 x4 x10) S)
    (execL (C b) 0 c359 (k361 b) (ee3 x0 x4 x10) S) := nr (seqN (condE (t := 10) (by kernel_rfl) (execL_skip (by kernel_rfl)) (enterS (by kernel_rfl)) rfl))
@[go_sem] theorem g381 : execL (C b) 0 c353 K (ee3 x0 x4 x10) S =
  withV (evBin .eql (tyi Try.prog 3) x4 (.int .i64 38)) fun x14 =>
    withV (some x14) fun x10 =>
    K .normal (ee3 x0 x4 x10) S := nr (by kernel_rfl)
@[go_sem] theorem k349_n : k349 b .normal (ee3 x0 x4 x10) S =
  condC x10 ((k29 b) .normal (ee3 x0 x4 x10) S)
    (execL (C b) 0 c353 (k355 b) (ee3 x0 x4 x10) S) := nr (seqN (condE (t := 10) (by kernel_rfl) (execL_skip (by kernel_rfl)) (enterS (by kernel_rfl)) rfl))
@[go_sem] theorem g382 : execL (C b) 0 c347 K (ee3 x0 x4 x10) S =
  withV (evBin .eql (tyi Try.prog 3) x4 (.int .i64 11)) fun x13 =>
    withV (some x13) fun x10 =>
    K .normal (ee3 x0 x4 x10) S := nr (by kernel_rfl)
@[go_sem] theorem k343_n : k343 b .normal (ee3 x0 x4 x10) S =
  condC x10 ((k29 b) .normal (ee3 x0 x4 x10) S)
    (execL (C b) 0 c347 (k349 b) (ee3 x0 x4 x10) S) := nr (seqN (condE (t := 10) (by kernel_rfl) (execL_skip (by kernel_rfl)) (enterS (by kernel_rfl)) rfl))
@[go_sem] theorem g383 : execL (C b) 0 c341 K (ee3 x0 x4 x10) S =
  withV (evBin .eql (tyi Try.prog 3) x4 (.int .i64 3)) fun x12 =>
    withV (some x12) fun x10 =>
    K .normal (ee3 x0 x4 x10) S := nr (by kernel_rfl)
@[go_sem] theorem k337_n : k337 b .normal (ee3 x0 x4 x10) S =
  condC x10 ((k29 b) .normal (ee3 x0 x4 x10) S)
    (execL (C b) 0 c341 (k343 b) (ee3 x0 x4 x10) S) := nr (seqN (condE (t := 10) (by kernel_rfl) (execL_skip (by kernel_rfl)) (enterS (by kernel_rfl)) rfl))
@[go_sem] theorem g384 : execL (C b) 0 c335 K (ee2 x0 x4 x5) S =
  withV (evBin .eql (tyi Try.prog 3) x4 (.int .i64 2)) fun x11 =>
    withV (some x11) fun x10 =>
    K .normal (ee3 x0 x4 x10) S := nr (by kernel_rfl)
@[go_sem] theorem k18_n : k18 b .normal (ee2 x0 x4 x5) S =
  condC x5 (execL (C b) 0 c22 (k24 b) (ee2 x0 x4 x5) S)
    (execL (C b) 0 c335 (k337 b) (ee2 x0 x4 x5) S) := nr (seqN (condE (t := 5) (by kernel_rfl) (enterS (by kernel_rfl)) ((enterS (by kernel_rfl)).trans (enterS (by kernel_rfl))) rfl))
def c385 : Code := at0 c16
def c386 : Code := at1 c16
def k387 (b : Nat) : KT := seqC (fun e S => execL (C b) 0 c386 (k18 b) e S) (k18 b)
def c389 : Code := atF c386
def c391 : Code := at0 c389
def c392 : Code := at1 c389
def k393 (b : Nat) : KT := seqC (fun e S => execL (C b) 0 c392 (k18 b) e S) (k18 b)
def c395 : Code := atF c392
def c397 : Code := at0 c395
def c398 : Code := at1 c395
def k399 (b : Nat) : KT := seqC (fun e S => execL (C b) 0 c398 (k18 b) e S) (k18 b)
def c401 : Code := atF c398
@[go_sem] theorem g403 : execL (C b) 0 c401 K (ee2 x0 x4 x5) S =
  withV (evBin .eql (tyi Try.prog 3) x4 (.int .i64 21)) fun x9 =>
    withV (some x9) fun x5 =>
    K .normal (ee2 x0 x4 x5) S := nr (by kernel_rfl)
@[go_sem] theorem k399_n : k399 b .normal (ee2 x0 x4 x5) S =
  condC x5 ((k18 b) .normal (ee2 x0 x4 x5) S)
    (execL (C b) 0 c401 (k18 b) (ee2 x0 x4 x5) S) := nr (seqN (condE (t := 5) (by kernel_rfl) (execL_skip (by kernel_rfl)) (rfl) rfl))
@[go_sem] theorem g404 : execL (C b) 0 c397 K (ee2 x0 x4 x5) S =
  withV (evBin .eql (tyi Try.prog 3) x4 (.int .i64 20)) fun x8 =>
    withV (some x8) fun x5 =>
    K .normal (ee2 x0 x4 x5) S := nr (by kernel_rfl)
@[go_sem] theorem k393_n : k393 b .normal (ee2 x0 x4 x5) S =
  condC x5 ((k18 b) .normal (ee2 x0 x4 x5) S)
    (execL (C b) 0 c397 (k399 b) (ee2 x0 x4 x5) S) := nr (seqN (condE (t := 5) (by kernel_rfl) (execL_skip (by kernel_rfl)) (enterS (by kernel_rfl)) rfl))
@[go_sem] theorem g405 : execL (C b) 0 c391 K (ee2 x0 x4 x5) S =
  withV (evBin .eql (tyi Try.prog 3) x4 (.int .i64 13)) fun x7 =>
    withV (some x7) fun x5 =>
    K .normal (ee2 x0 x4 x5) S := nr (by kernel_rfl)
@[go_sem] theorem k387_n : k387 b .normal (ee2 x0 x4 x5) S =
  condC x5 ((k18 b) .normal (ee2 x0 x4 x5) S)
    (execL (C b) 0 c391 (k393 b) (ee2 x0 x4 x5) S) := nr (seqN (condE (t := 5) (by kernel_rfl) (execL_skip (by kernel_rfl)) (enterS (by kernel_rfl)) rfl))
@[go_sem] theorem g406 : execL (C b) 0 c385 K (ee1 x0 x4) S =
  withV (evBin .eql (tyi Try.prog 3) x4 (.int .i64 1)) fun x6 =>
    withV (some x6) fun x5 =>
    K .normal (ee2 x0 x4 x5) S := nr (by kernel_rfl)
@[go_sem] theorem k13_n : k13 b .normal (ee1 x0 x4) S =
  execL (C b) 0 c385 (k387 b) (ee1 x0 x4) S := nr (seqN ((blockE (by kernel_rfl)).trans ((enterS (by kernel_rfl)).trans (enterS (by kernel_rfl)))))
@[go_sem] theorem g407 : execL (C b) 0 c11 K (ee0 x0) S =
  withV (some x0) fun x4 =>
    K .normal (ee1 x0 x4) S := nr (by kernel_rfl)
@[go_sem] theorem k10_n : k10 b .normal (ee0 x0) S =
  execL (C b) 0 c11 (k13 b) (ee0 x0) S := nr (seqN ((enterS (by kernel_rfl)).trans (enterS (by kernel_rfl))))
@[go_sem] theorem g408 : execL (C b) 0 c1 K (ee0 x0) S =
  withV (some (.bool false)) fun x2 =>
    withV (some (.sl [] true)) fun x3 =>
    K .normal (ee0 x0) S := nr (by kernel_rfl)
def E (b : Nat) (x0 : PV) (S : Store) : RT := execL (C b) 0 code (k0 b) (ee0 x0) S
@[go_sem] theorem E_eq : E b x0 S =
  execL (C b) 0 c1 (k10 b) (ee0 x0) S := nr (enterS (by kernel_rfl))
@[go_sem] theorem k0_ret5 : k0 b .ret (ee5 x2 x3) S = some ((.tup [x2, x3]), S) := nr (by kernel_rfl)
theorem call {x0 : PV} {r : PV × Store} {v : PV} (h : E 0 x0 [] = some r) (hv : fzPV r.2 r.1 = some v) : callL Try.prog hints 85 [x0] = some v := callL_of (fn := Try.f85) (c := code) (by kernel_rfl) (by kernel_rfl) (by decide) (by kernel_rfl) (Nat.le_of_ble_eq_true (by kernel_rfl)) h hv
end
end F85
/-! ### tree.differentiable -/
namespace F86
section
variable (b i n n1 : Nat) (K : KT) (x0 x1 x2 x4 x6 x7 x18 x22 x23 x24 x25 x30 : PV) (e : Env) (S : Store)
noncomputable def hint : Hint := { keep := [], loops := [(1, { live := [22, 23, 24], after := [], own := [], fz := [] })], regs := [(0, [1]), (1, [1, 6]), (2, [1, 6, 7]), (3, [1, 6, 7]), (4, [1, 6, 7]), (5, [1, 6, 7]), (6, [1, 6, 7]), (7, [1, 6, 7]), (8, [1, 6, 7]), (9, [1, 6, 7]), (10, [1, 6, 7]), (11, [1, 6, 7]), (12, [2]), (13, [1, 6, 18]), (14, [1, 6, 18]), (15, [22, 23, 24]), (16, [22, 23, 24, 25]), (17, [4, 22, 23, 24]), (18, [22, 23, 24, 30]), (19, [2]), (20, [22, 23, 24]), (21, [2]), (22, [2])] }
noncomputable def C (b : Nat) : Ctx := ctxL Try.prog hints b hint
noncomputable def code : Code := Try.f86.body.get rfl
noncomputable def k0 (b : Nat) : KT := endC Try.prog Try.f86
def ee0 (x1 : PV) : Env := [(1, x1)]
def ee1 (x1 x6 : PV) : Env := [(1, x1), (6, x6)]
def ee2 (x1 x6 x7 : PV) : Env := [(1, x1), (6, x6), (7, x7)]
def ee3 (x1 x6 x18 : PV) : Env := [(1, x1), (6, x6), (18, x18)]
def ee4 (x2 : PV) : Env := [(2, x2)]
def ee5 (x4 x22 x23 x24 : PV) : Env := [(4, x4), (22, x22), (23, x23), (24, x24)]
def ee6 (x22 x23 x24 : PV) : Env := [(22, x22), (23, x23), (24, x24)]
def ee7 (x22 x23 x24 x25 : PV) : Env := [(22, x22), (23, x23), (24, x24), (25, x25)]
def ee8 (x22 x23 x24 x30 : PV) : Env := [(22, x22), (23, x23), (24, x24), (30, x30)]
def c1 : Code := at0 code
def c2 : Code := at1 code
def c3 : Code := at0 c2
def c4 : Code := at1 c2
def c5 : Code := at0 c4
def c6 : Code := at1 c4
def k7 (b : Nat) : KT := seqC (fun e S => execL (C b) 0 c6 (k0 b) e S) (k0 b)
@[go_sem] theorem k7_n : k7 b .normal (ee4 x2) S =
  (k0 b) .ret (ee4 x2) S := nr (seqN (execL_ret (by kernel_rfl)))
def k8 (b : Nat) : KT := seqC (fun e S => execL (C b) 0 c4 (k0 b) e S) (k0 b)
@[go_sem] theorem g9 : execL (C b) 0 c5 K (ee3 x1 x6 x18) S =
  withV (some (.bool false)) fun x2 =>
    K .normal (ee4 x2) S := nr (by kernel_rfl)
@[go_sem] theorem k8_n : k8 b .normal e S = execL (C b) 0 c5 (k7 b) e S := nr (seqN (enterS (by kernel_rfl)))
@[go_sem] theorem k8_ret : k8 b .ret e S = (k0 b) .ret e S := nr (seqC_r _ _ _ _)
def k10 (b : Nat) : KT := seqC (fun e S => execL (C b) 0 c2 (k0 b) e S) (k0 b)
def c11 : Code := at0 c3
def c12 : Code := at1 c3
def k13 (b : Nat) : KT := seqC (fun e S => execL (C b) 0 c12 (k8 b) e S) (k8 b)
def c14 : Code := atB c12
def k15 (b : Nat) : KT := blockC 0 (k8 b)
@[go_sem] theorem k15_n : k15 b .normal e S = (k8 b) .normal e S := nr (blockC_n _ _ _ _)
@[go_sem] theorem k15_ret : k15 b .ret e S = (k8 b) .ret e S := nr (blockC_r _ _ _ _)
def c16 : Code := at0 c14
def c17 : Code := at1 c14
def k18 (b : Nat) : KT := seqC (fun e S => execL (C b) 0 c17 (k15 b) e S) (k15 b)
def c19 : Code := atT c17
def c20 : Code := atF c17
def c22 : Code := at0 c19
def c23 : Code := at1 c19
def k24 (b : Nat) : KT := seqC (fun e S => execL (C b) 0 c23 (k15 b) e S) (k15 b)
@[go_sem] theorem k24_n : k24 b .normal (ee4 x2) S =
  (k15 b) .ret (ee4 x2) S := nr (seqN (execL_ret (by kernel_rfl)))
@[go_sem] theorem g25 : execL (C b) 0 c22 K (ee2 x1 x6 x7) S =
  withV (some (.bool true)) fun x2 =>
    K .normal (ee4 x2) S := nr (by kernel_rfl)
def c27 : Code := at0 c20
def c28 : Code := at1 c20
def k29 (b : Nat) : KT := seqC (fun e S => execL (C b) 0 c28 (k15 b) e S) (k15 b)
def c30 : Code := atT c28
def c33 : Code := at0 c30
def c34 : Code := at1 c30
def c35 : Code := at0 c34
def c36 : Code := at1 c34
def k37 (b : Nat) : KT := seqC (fun e S => execL (C b) 0 c36 (k15 b) e S) (k15 b)
@[go_sem] theorem k37_n : k37 b .normal (ee4 x2) S =
  (k15 b) .ret (ee4 x2) S := nr (seqN (execL_ret (by kernel_rfl)))
def k38 (b : Nat) : KT := seqC (fun e S => execL (C b) 0 c34 (k15 b) e S) (k15 b)
@[go_sem] theorem g39 : execL (C b) 0 c35 K (ee7 x22 x23 x24 x25) S =
  withV (some (.bool true)) fun x2 =>
    K .normal (ee4 x2) S := nr (by kernel_rfl)
@[go_sem] theorem k38_n : k38 b .normal e S = execL (C b) 0 c35 (k37 b) e S := nr (seqN (enterS (by kernel_rfl)))
@[go_sem] theorem k38_ret : k38 b .ret e S = (k15 b) .ret e S := nr (seqC_r _ _ _ _)
def c40 : Code := at0 c33
def c41 : Code := at1 c33
def k42 (b : Nat) : KT := seqC (fun e S => execL (C b) 0 c41 (k38 b) e S) (k38 b)
def c43 : Code := atB c41
def k44 (b : Nat) : KT := blockC 1 (k38 b)
@[go_sem] theorem k44_ret : k44 b .ret e S = (k38 b) .ret e S := nr (blockC_r _ _ _ _)
@[go_sem] theorem k44_exit : k44 b (.exit i) e S = if i = 1 then (k38 b) .normal e S else (k38 b) (.exit i) e S := nr (blockC_x _ _ _ _ _)
def c45 : Code := atL c43
def k46 (b n1 : Nat) : KT := afterC 1 n1 [] (k44 b)
def L1g (b n1 : Nat) (e : Env) (S : Store) : RT := loopL (fun K e S => execL (C b) 1 c45 K e S) (normG [22, 23, 24] [] n1) (k46 b n1) e S
def L1 (b n1 : Nat) (x22 x23 x24 : PV) (S : Store) : RT := L1g b n1 (ee6 x22 x23 x24) S
def k47 (b n1 : Nat) : KT := stepC (normG [22, 23, 24] [] n1) (k46 b n1) (L1g b n1)
@[go_sem] theorem k47_n : k47 b n1 .normal (ee6 x22 x23 x24) S = L1 b n1 x22 x23 x24 (gc n1 (ee6 x22 x23 x24) S) := nr (by kernel_rfl)
@[go_sem] theorem k47_ret : k47 b n1 .ret e S = (k44 b) .ret e S := nr ((show k47 b n1 .ret e S = (k46 b n1) .ret e S from stepC_r _ _ _ _ _).trans (afterC_r _ _ _ _ _ _))
@[go_sem] theorem k47_x1 : k47 b n1 (.exit 1) (ee7 x22 x23 x24 x25) S = (k44 b) (.exit 1) (ee7 .undef .undef .undef .undef) (gc n1 (ee7 .undef .undef .undef .undef) S) := nr ((show k47 b n1 (.exit 1) (ee7 x22 x23 x24 x25) S = (k46 b n1) (.exit 1) (ee7 x22 x23 x24 x25) S from stepC_x _ _ _ _ _ _).trans ((show (k46 b n1) (.exit 1) (ee7 x22 x23 x24 x25) S = _ from afterC_x _ _ _ _ _ _ _).trans (if_pos rfl)))
def c48 : Code := at0 c45
def c49 : Code := at1 c45
def c51 : Code := at1 c49
def c52 : Code := at0 c51
def c53 : Code := at1 c51
def k54 (b n1 : Nat) : KT := seqC (fun e S => execL (C b) 1 c53 (k47 b n1) e S) (k47 b n1)
@[go_sem] theorem g55 : execL (C b) 1 c53 K (ee8 x22 x23 x24 x30) S =
  withV (evBin .add (tyi Try.prog 3) x24 (.int .i64 1)) fun x31 =>
    withV (some x31) fun x24 =>
    K .normal (ee6 x22 x23 x24) S := nr (by kernel_rfl)
@[go_sem] theorem k54_n : k54 b n1 .normal e S = execL (C b) 1 c53 (k47 b n1) e S := nr (seqN rfl)
@[go_sem] theorem k54_ret : k54 b n1 .ret e S = (k47 b n1) .ret e S := nr (seqC_r _ _ _ _)
def k56 (b n1 : Nat) : KT := seqC (fun e S => execL (C b) 1 c51 (k47 b n1) e S) (k47 b n1)
def c57 : Code := atB c52
def k58 (b n1 : Nat) : KT := blockC 2 (k54 b n1)
@[go_sem] theorem k58_n : k58 b n1 .normal e S = (k54 b n1) .normal e S := nr (blockC_n _ _ _ _)
@[go_sem] theorem k58_ret : k58 b n1 .ret e S = (k54 b n1) .ret e S := nr (blockC_r _ _ _ _)
def c59 : Code := at0 c57
def c60 : Code := at1 c57
def c61 : Code := at0 c60
def c62 : Code := at1 c60
def k63 (b n1 : Nat) : KT := seqC (fun e S => execL (C b) 2 c62 (k58 b n1) e S) (k58 b n1)
def c64 : Code := atT c62
def c67 : Code := at0 c64
def c68 : Code := at1 c64
def k69 (b n1 : Nat) : KT := seqC (fun e S => execL (C b) 2 c68 (k58 b n1) e S) (k58 b n1)
@[go_sem] theorem k69_n : k69 b n1 .normal (ee4 x2) S =
  (k58 b n1) .ret (ee4 x2) S := nr (seqN (execL_ret (by kernel_rfl)))
@[go_sem] theorem g70 : execL (C b) 2 c67 K (ee8 x22 x23 x24 x30) S =
  withV (some (.bool false)) fun x2 =>
    K .normal (ee4 x2) S := nr (by kernel_rfl)
@[go_sem] theorem k63_n : k63 b n1 .normal (ee8 x22 x23 x24 x30) S =
  condC x30 (execL (C b) 2 c67 (k69 b n1) (ee8 x22 x23 x24 x30) S)
    ((k58 b n1) .normal (ee8 x22 x23 x24 x30) S) := nr (seqN (condE (t := 30) (by kernel_rfl) (enterS (by kernel_rfl)) (execL_skip (by kernel_rfl)) rfl))
def k71 (b n1 : Nat) : KT := seqC (fun e S => execL (C b) 2 c60 (k58 b n1) e S) (k58 b n1)
@[go_sem] theorem g72 : execL (C b) 2 c61 K (ee5 x4 x22 x23 x24) S =
  withV (evLoad (tyi Try.prog 54) S x4) fun x28 =>
    withN (callO (callL Try.prog hints) S 86 [x28]) S fun x29 S =>
    withV (evUn .not x29) fun x30 =>
    K .normal (ee8 x22 x23 x24 x30) S := nr (by kernel_rfl)
@[go_sem] theorem k71_n : k71 b n1 .normal e S = execL (C b) 2 c61 (k63 b n1) e S := nr (seqN (enterS (by kernel_rfl)))
@[go_sem] theorem g73 : execL (C b) 2 c59 K (ee7 x22 x23 x24 x25) S =
  withV (indexAddrO Try.prog 52 S x22 x24) fun x26 =>
    withV (evLoad (tyi Try.prog 54) S x26) fun x27 =>
    withN (allocO (tyi Try.prog 54) (List.length S)) S fun x4 S =>
    withS (storeE (tyi Try.prog 54) S x4 x27) fun _u S =>
    K .normal (ee5 x4 x22 x23 x24) S := nr (by kernel_rfl)
@[go_sem] theorem k56_n : k56 b n1 .normal (ee7 x22 x23 x24 x25) S =
  execL (C b) 2 c59 (k71 b n1) (ee7 x22 x23 x24 x25) S := nr (seqN ((enterS (by kernel_rfl)).trans ((blockE (by kernel_rfl)).trans (enterS (by kernel_rfl)))))
@[go_sem] theorem k56_exit : k56 b n1 (.exit i) e S = (k47 b n1) (.exit i) e S := nr (seqC_x _ _ _ _ _)
def k74 (b n1 : Nat) : KT := seqC (fun e S => execL (C b) 1 c49 (k47 b n1) e S) (k47 b n1)
@[go_sem] theorem k74_n : k74 b n1 .normal (ee7 x22 x23 x24 x25) S =
  condC x25 ((k56 b n1) .normal (ee7 x22 x23 x24 x25) S)
    ((k56 b n1) (.exit 1) (ee7 x22 x23 x24 x25) S) := nr (seqN ((enterS (by kernel_rfl)).trans (condE (t := 25) (by kernel_rfl) (execL_skip (by kernel_rfl)) (execL_exit (by kernel_rfl)) rfl)))
@[go_sem] theorem g77 : execL (C b) 1 c48 K (ee6 x22 x23 x24) S =
  withV (evBin .lss (tyi Try.prog 3) x24 x23) fun x25 =>
    K .normal (ee7 x22 x23 x24 x25) S := nr (by kernel_rfl)
def B1 (b n1 : Nat) (x22 x23 x24 : PV) (S : Store) : RT := execL (C b) 1 c45 (k47 b n1) (ee6 x22 x23 x24) S
@[go_sem] theorem B1_eq : B1 b n1 x22 x23 x24 S =
  execL (C b) 1 c48 (k74 b n1) (ee6 x22 x23 x24) S := nr (enterS (by kernel_rfl))
theorem L1_step {b n1 : Nat} {x22 x23 x24 : PV} {S : Store} {z : PV × Store} (h : B1 b n1 x22 x23 x24 S = some z) : L1 b n1 x22 x23 x24 S = some z := loopL_step h
theorem L1_in (b : Nat) (x22 x23 x24 : PV) (S : Store) : execL (C b) 1 c43 (k44 b) (ee6 x22 x23 x24) S = L1 b (List.length S) x22 x23 x24 S := by kernel_rfl
@[go_sem] theorem k42_n : k42 b .normal (ee6 x22 x23 x24) S =
  L1 b (List.length S) x22 x23 x24 S := nr (seqN ((blockE (by kernel_rfl)).trans (L1_in b x22 x23 x24 S)))
@[go_sem] theorem g79 : execL (C b) 0 c40 K (ee3 x1 x6 x18) S =
  withV (evFieldAddr (tyi Try.prog 54) 3 x1) fun x21 =>
    withV (evLoad (tyi Try.prog 52) S x21) fun x22 =>
    withV (lenO (tyi Try.prog 52) x22) fun x23 =>
    withV (some (.int .i64 0)) fun x24 =>
    K .normal (ee6 x22 x23 x24) S := nr (by kernel_rfl)
@[go_sem] theorem k29_n : k29 b .normal (ee3 x1 x6 x18) S =
  condC x18 (execL (C b) 0 c40 (k42 b) (ee3 x1 x6 x18) S)
    ((k15 b) .normal (ee3 x1 x6 x18) S) := nr (seqN (condE (t := 18) (by kernel_rfl) ((enterS (by kernel_rfl)).trans (enterS (by kernel_rfl))) (execL_skip (by kernel_rfl)) rfl))
def c80 : Code := at0 c27
def c81 : Code := at1 c27
def k82 (b : Nat) : KT := seqC (fun e S => execL (C b) 0 c81 (k29 b) e S) (k29 b)
def c84 : Code := atF c81
@[go_sem] theorem g86 : execL (C b) 0 c84 K (ee3 x1 x6 x18) S =
  withV (evBin .eql (tyi Try.prog 3) x6 (.int .i64 30)) fun x20 =>
    withV (some x20) fun x18 =>
    K .normal (ee3 x1 x6 x18) S := nr (by kernel_rfl)
@[go_sem] theorem k82_n : k82 b .normal (ee3 x1 x6 x18) S =
  condC x18 ((k29 b) .normal (ee3 x1 x6 x18) S)
    (execL (C b) 0 c84 (k29 b) (ee3 x1 x6 x18) S) := nr (seqN (condE (t := 18) (by kernel_rfl) (execL_skip (by kernel_rfl)) (rfl) rfl))
@[go_sem] theorem g87 : execL (C b) 0 c80 K (ee2 x1 x6 x7) S =
  withV (evBin .eql (tyi Try.prog 3) x6 (.int .i64 29)) fun x19 =>
    withV (some x19) fun x18 =>
    K .normal (ee3 x1 x6 x18) S := nr (by kernel_rfl)
@[go_sem] theorem k18_n : k18 b .normal (ee2 x1 x6 x7) S =
  condC x7 (execL (C b) 0 c22 (k24 b) (ee2 x1 x6 x7) S)
    (execL (C b) 0 c80 (k82 b) (ee2 x1 x6 x7) S) := nr (seqN (condE (t := 7) (by kernel_rfl) (enterS (by kernel_rfl)) ((enterS (by kernel_rfl)).trans (enterS (by kernel_rfl))) rfl))
def c88 : Code := at0 c16
def c89 : Code := at1 c16
def k90 (b : Nat) : KT := seqC (fun e S => execL (C b) 0 c89 (k18 b) e S) (k18 b)
def c92 : Code := atF c89
def c94 : Code := at0 c92
def c95 : Code := at1 c92
def k96 (b : Nat) : KT := seqC (fun e S => execL (C b) 0 c95 (k18 b) e S) (k18 b)
def c98 : Code := atF c95
def c100 : Code := at0 c98
def c101 : Code := at1 c98
def k102 (b : Nat) : KT := seqC (fun e S => execL (C b) 0 c101 (k18 b) e S) (k18 b)
def c104 : Code := atF c101
def c106 : Code := at0 c104
def c107 : Code := at1 c104
def k108 (b : Nat) : KT := seqC (fun e S => execL (C b) 0 c107 (k18 b) e S) (k18 b)
def c110 : Code := atF c107
def c112 : Code := at0 c110
def c113 : Code := at1 c110
def k114 (b : Nat) : KT := seqC (fun e S => execL (C b) 0 c113 (k18 b) e S) (k18 b)
def c116 : Code := atF c113
def c118 : Code := at0 c116
def c119 : Code := at1 c116
def k120 (b : Nat) : KT := seqC (fun e S => execL (C b) 0 c119 (k18 b) e S) (k18 b)
def c122 : Code := atF c119
def c124 : Code := at0 c122
def c125 : Code := at1 c122
def k126 (b : Nat) : KT := seqC (fun e S => execL (C b) 0 c125 (k18 b) e S) (k18 b)
def c128 : Code := atF c125
def c130 : Code := at0 c128
def c131 : Code := at1 c128
def k132 (b : Nat) : KT := seqC (fun e S => execL (C b) 0 c131 (k18 b) e S) (k18 b)
def c134 : Code := atF c131
def c136 : Code := at0 c134
def c137 : Code := at1 c134
def k138 (b : Nat) : KT := seqC (fun e S => execL (C b) 0 c137 (k18 b) e S) (k18 b)
def c140 : Code := atF c137
@[go_sem] theorem g142 : execL (C b) 0 c140 K (ee2 x1 x6 x7) S =
  withV (evBin .eql (tyi Try.prog 3) x6 (.int .i64 38)) fun x17 =>
    withV (some x17) fun x7 =>
    K .normal (ee2 x1 x6 x7) S := nr (by kernel_rfl)
@[go_sem] theorem k138_n : k138 b .normal (ee2 x1 x6 x7) S =
  condC x7 ((k18 b) .normal (ee2 x1 x6 x7) S)
    (execL (C b) 0 c140 (k18 b) (ee2 x1 x6 x7) S) := nr (seqN (condE (t := 7) (by kernel_rfl) (execL_skip (by kernel_rfl)) (rfl) rfl))
@[go_sem] theorem g143 : execL (C b) 0 c136 K (ee2 x1 x6 x7) S =
  withV (evBin .eql (tyi Try.prog 3) x6 (.int .i64 37)) fun x16 =>
    withV (some x16) fun x7 =>
    K .normal (ee2 x1 x6 x7) S := nr (by kernel_rfl)
@[go_sem] theorem k132_n : k132 b .normal (ee2 x1 x6 x7) S =
  condC x7 ((k18 b) .normal (ee2 x1 x6 x7) S)
    (execL (C b) 0 c136 (k138 b) (ee2 x1 x6 x7) S) := nr (seqN (condE (t := 7) (by kernel_rfl) (execL_skip (by kernel_rfl)) (enterS (by kernel_rfl)) rfl))
@[go_sem] theorem g144 : execL (C b) 0 c130 K (ee2 x1 x6 x7) S =
  withV (evBin .eql (tyi Try.prog 3) x6 (.int .i64 27)) fun x15 =>
    withV (some x15) fun x7 =>
    K .normal (ee2 x1 x6 x7) S := nr (by kernel_rfl)
@[go_sem] theorem k126_n : k126 b .normal (ee2 x1 x6 x7) S =
  condC x7 ((k18 b) .normal (ee2 x1 x6 x7) S)
    (execL (C b) 0 c130 (k132 b) (ee2 x1 x6 x7) S) := nr (seqN (condE (t := 7) (by kernel_rfl) (execL_skip (by kernel_rfl)) (enterS (by kernel_rfl)) rfl))
@[go_sem] theorem g145 : execL (C b) 0 c124 K (ee2 x1 x6 x7) S =
  withV (evBin .eql (tyi Try.prog 3) x6 (.int .i64 26)) fun x14 =>
    withV (some x14) fun x7 =>
    K .normal (ee2 x1 x6 x7) S := nr (by kernel_rfl)
@[go_sem] theorem k120_n : k120 b .normal (ee2 x1 x6 x7) S =
  condC x7 ((k18 b) .normal (ee2 x1 x6 x7) S)
    (execL (C b) 0 c124 (k126 b) (ee2 x1 x6 x7) S) := nr (seqN (condE (t := 7) (by kernel_rfl) (execL_skip (by kernel_rfl)) (enterS (by kernel_rfl)) rfl))
@[go_sem] theorem g146 : execL (C b) 0 c118 K (ee2 x1 x6 x7) S =
  withV (evBin .eql (tyi Try.prog 3) x6 (.int .i64 25)) fun x13 =>
    withV (some x13) fun x7 =>
    K .normal (ee2 x1 x6 x7) S := nr (by kernel_rfl)
@[go_sem] theorem k114_n : k114 b .normal (ee2 x1 x6 x7) S =
  condC x7 ((k18 b) .normal (ee2 x1 x6 x7) S)
    (execL (C b) 0 c118 (k120 b) (ee2 x1 x6 x7) S) := nr (seqN (condE (t := 7) (by kernel_rfl) (execL_skip (by kernel_rfl)) (enterS (by kernel_rfl)) rfl))
@[go_sem] theorem g147 : execL (C b) 0 c112 K (ee2 x1 x6 x7) S =
  withV (evBin .eql (tyi Try.prog 3) x6 (.int .i64 24)) fun x12 =>
    withV (some x12) fun x7 =>
    K .normal (ee2 x1 x6 x7) S := nr (by kernel_rfl)
@[go_sem] theorem k108_n : k108 b .normal (ee2 x1 x6 x7) S =
  condC x7 ((k18 b) .normal (ee2 x1 x6 x7) S)
    (execL (C b) 0 c112 (k114 b) (ee2 x1 x6 x7) S) := nr (seqN (condE (t := 7) (by kernel_rfl) (execL_skip (by kernel_rfl)) (enterS (by kernel_rfl)) rfl))
@[go_sem] theorem g148 : execL (C b) 0 c106 K (ee2 x1 x6 x7) S =
  withV (evBin .eql (tyi Try.prog 3) x6 (.int .i64 23)) fun x11 =>
    withV (some x11) fun x7 =>
    K .normal (ee2 x1 x6 x7) S := nr (by kernel_rfl)
@[go_sem] theorem k102_n : k102 b .normal (ee2 x1 x6 x7) S =
  condC x7 ((k18 b) .normal (ee2 x1 x6 x7) S)
    (execL (C b) 0 c106 (k108 b) (ee2 x1 x6 x7) S) := nr (seqN (condE (t := 7) (by kernel_rfl) (execL_skip (by kernel_rfl)) (enterS (by kernel_rfl)) rfl))
@[go_sem] theorem g149 : execL (C b) 0 c100 K (ee2 x1 x6 x7) S =
  withV (evBin .eql (tyi Try.prog 3) x6 (.int .i64 22)) fun x10 =>
    withV (some x10) fun x7 =>
    K .normal (ee2 x1 x6 x7) S := nr (by kernel_rfl)
@[go_sem] theorem k96_n : k96 b .normal (ee2 x1 x6 x7) S =
  condC x7 ((k18 b) .normal (ee2 x1 x6 x7) S)
    (execL (C b) 0 c100 (k102 b) (ee2 x1 x6 x7) S) := nr (seqN (condE (t := 7) (by kernel_rfl) (execL_skip (by kernel_rfl)) (enterS (by kernel_rfl)) rfl))
@[go_sem] theorem g150 : execL (C b) 0 c94 K (ee2 x1 x6 x7) S =
  withV (evBin .eql (tyi Try.prog 3) x6 (.int .i64 21)) fun x9 =>
    withV (some x9) fun x7 =>
    K .normal (ee2 x1 x6 x7) S := nr (by kernel_rfl)
@[go_sem] theorem k90_n : k90 b .normal (ee2 x1 x6 x7) S =
  condC x7 ((k18 b) .normal (ee2 x1 x6 x7) S)
    (execL (C b) 0 c94 (k96 b) (ee2 x1 x6 x7) S) := nr (seqN (condE (t := 7) (by kernel_rfl) (execL_skip (by kernel_rfl)) (enterS (by kernel_rfl)) rfl))
@[go_sem] theorem g151 : execL (C b) 0 c88 K (ee1 x1 x6) S =
  withV (evBin .eql (tyi Try.prog 3) x6 (.int .i64 20)) fun x8 =>
    withV (some x8) fun x7 =>
    K .normal (ee2 x1 x6 x7) S := nr (by kernel_rfl)
@[go_sem] theorem k13_n : k13 b .normal (ee1 x1 x6) S =
  execL (C b) 0 c88 (k90 b) (ee1 x1 x6) S := nr (seqN ((blockE (by kernel_rfl)).trans ((enterS (by kernel_rfl)).trans (enterS (by kernel_rfl)))))
@[go_sem] theorem g152 : execL (C b) 0 c11 K (ee0 x1) S =
  withV (evFieldAddr (tyi Try.prog 54) 0 x1) fun x5 =>
    withV (evLoad (tyi Try.prog 3) S x5) fun x6 =>
    K .normal (ee1 x1 x6) S := nr (by kernel_rfl)
@[go_sem] theorem k10_n : k10 b .normal (ee0 x1) S =
  execL (C b) 0 c11 (k13 b) (ee0 x1) S := nr (seqN ((enterS (by kernel_rfl)).trans (enterS (by kernel_rfl))))
@[go_sem] theorem g153 : execL (C b) 0 c1 K [(0, x0)] S =
  withN (boxed S (List.length S) (TI.size (tyi Try.prog 54)) x0) S fun x1 S =>
    withV (some (.bool false)) fun x2 =>
    K .normal (ee0 x1) S := nr (by kernel_rfl)
def E (b : Nat) (x0 : PV) (S : Store) : RT := execL (C b) 0 code (k0 b) [(0, x0)] S
@[go_sem] theorem E_eq : E b x0 S =
  execL (C b) 0 c1 (k10 b) [(0, x0)] S := nr (enterS (by kernel_rfl))
@[go_sem] theorem k0_ret4 : k0 b .ret (ee4 x2) S = some (x2, S) := nr (by kernel_rfl)
@[go_sem] theorem gc_ee6 : gc n (ee6 x22 x23 x24) S = gc n [(22, x22), (23, x23), (24, x24)] S := nr (rfl)
@[go_sem] theorem gc_ee7 : gc n (ee7 x22 x23 x24 x25) S = gc n [(22, x22), (23, x23), (24, x24), (25, x25)] S := nr (rfl)
theorem call {x0 : PV} {r : PV × Store} {v : PV} (h : E 0 x0 [] = some r) (hv : fzPV r.2 r.1 = some v) : callL Try.prog hints 86 [x0] = some v := callL_of (fn := Try.f86) (c := code) (by kernel_rfl) (by kernel_rfl) (by decide) (by kernel_rfl) (Nat.le_of_ble_eq_true (by kernel_rfl)) h hv
end
end F86
/-! ### tree.within -/
namespace F63
section
variable (b i n n0 : Nat) (K : KT) (x0 x1 x2 x3 x6 x8 x21 x23 x24 x25 x26 x34 : PV) (e : Env) (S : Store)
noncomputable def hint : Hint := { keep := [], loops := [(0, { live := [1, 2, 23, 24, 25], after := [], own := [], fz := [] })], regs := [(0, [1, 2, 3]), (1, [1, 2, 3]), (2, [1, 2, 3, 21]), (3, [6]), (4, [1, 2, 23, 24, 25]), (5, [1, 2, 23, 24, 25, 26]), (6, [1, 2, 8, 23, 24, 25]), (7, [1, 2, 23, 24, 25, 34]), (8, [6]), (9, [1, 2, 23, 24, 25]), (10, [6])] }
noncomputable def C (b : Nat) : Ctx := ctxL Try.prog hints b hint
noncomputable def code : Code := Try.f63.body.get rfl
noncomputable def k0 (b : Nat) : KT := endC Try.prog Try.f63
def ee0 (x1 x2 x3 : PV) : Env := [(1, x1), (2, x2), (3, x3)]
def ee1 (x1 x2 x3 x21 : PV) : Env := [(1, x1), (2, x2), (3, x3), (21, x21)]
def ee2 (x1 x2 x8 x23 x24 x25 : PV) : Env := [(1, x1), (2, x2), (8, x8), (23, x23), (24, x24), (25, x25)]
def ee3 (x1 x2 x23 x24 x25 : PV) : Env := [(1, x1), (2, x2), (23, x23), (24, x24), (25, x25)]
def ee4 (x1 x2 x23 x24 x25 x26 : PV) : Env := [(1, x1), (2, x2), (23, x23), (24, x24), (25, x25), (26, x26)]
def ee5 (x1 x2 x23 x24 x25 x34 : PV) : Env := [(1, x1), (2, x2), (23, x23), (24, x24), (25, x25), (34, x34)]
def ee6 (x6 : PV) : Env := [(6, x6)]
def c1 : Code := at0 code
def c2 : Code := at1 code
def c3 : Code := at0 c2
def c4 : Code := at1 c2
def c5 : Code := at0 c4
def c6 : Code := at1 c4
def c7 : Code := at0 c6
def c8 : Code := at1 c6
def c9 : Code := at0 c8
def c10 : Code := at1 c8
def k11 (b : Nat) : KT := seqC (fun e S => execL (C b) 0 c10 (k0 b) e S) (k0 b)
@[go_sem] theorem k11_n : k11 b .normal (ee6 x6) S =
  (k0 b) .ret (ee6 x6) S := nr (seqN (execL_ret (by kernel_rfl)))
def k12 (b : Nat) : KT := seqC (fun e S => execL (C b) 0 c8 (k0 b) e S) (k0 b)
@[go_sem] theorem g13 : execL (C b) 0 c9 K (ee4 x1 x2 x23 x24 x25 x26) S =
  withV (some (.bool true)) fun x6 =>
    K .normal (ee6 x6) S := nr (by kernel_rfl)
@[go_sem] theorem k12_n : k12 b .normal e S = execL (C b) 0 c9 (k11 b) e S := nr (seqN (enterS (by kernel_rfl)))
@[go_sem] theorem k12_ret : k12 b .ret e S = (k0 b) .ret e S := nr (seqC_r _ _ _ _)
def k14 (b : Nat) : KT := seqC (fun e S => execL (C b) 0 c6 (k0 b) e S) (k0 b)
def c15 : Code := at0 c7
def c16 : Code := at1 c7
def k17 (b : Nat) : KT := seqC (fun e S => execL (C b) 0 c16 (k12 b) e S) (k12 b)
def c18 : Code := atB c16
def k19 (b : Nat) : KT := blockC 0 (k12 b)
@[go_sem] theorem k19_ret : k19 b .ret e S = (k12 b) .ret e S := nr (blockC_r _ _ _ _)
@[go_sem] theorem k19_exit : k19 b (.exit i) e S = if i = 0 then (k12 b) .normal e S else (k12 b) (.exit i) e S := nr (blockC_x _ _ _ _ _)
def c20 : Code := atL c18
def k21 (b n0 : Nat) : KT := afterC 0 n0 [] (k19 b)
def L0g (b n0 : Nat) (e : Env) (S : Store) : RT := loopL (fun K e S => execL (C b) 0 c20 K e S) (normG [1, 2, 23, 24, 25] [] n0) (k21 b n0) e S
def L0 (b n0 : Nat) (x1 x2 x23 x24 x25 : PV) (S : Store) : RT := L0g b n0 (ee3 x1 x2 x23 x24 x25) S
def k22 (b n0 : Nat) : KT := stepC (normG [1, 2, 23, 24, 25] [] n0) (k21 b n0) (L0g b n0)
@[go_sem] theorem k22_n : k22 b n0 .normal (ee3 x1 x2 x23 x24 x25) S = L0 b n0 x1 x2 x23 x24 x25 (gc n0 (ee3 x1 x2 x23 x24 x25) S) := nr (by kernel_rfl)
@[go_sem] theorem k22_ret : k22 b n0 .ret e S = (k19 b) .ret e S := nr ((show k22 b n0 .ret e S = (k21 b n0) .ret e S from stepC_r _ _ _ _ _).trans (afterC_r _ _ _ _ _ _))
@[go_sem] theorem k22_x1 : k22 b n0 (.exit 0) (ee4 x1 x2 x23 x24 x25 x26) S = (k19 b) (.exit 0) (ee4 .undef .undef .undef .undef .undef .undef) (gc n0 (ee4 .undef .undef .undef .undef .undef .undef) S) := nr ((show k22 b n0 (.exit 0) (ee4 x1 x2 x23 x24 x25 x26) S = (k21 b n0) (.exit 0) (ee4 x1 x2 x23 x24 x25 x26) S from stepC_x _ _ _ _ _ _).trans ((show (k21 b n0) (.exit 0) (ee4 x1 x2 x23 x24 x25 x26) S = _ from afterC_x _ _ _ _ _ _ _).trans (if_pos rfl)))
def c23 : Code := at0 c20
def c24 : Code := at1 c20
def c26 : Code := at1 c24
def c27 : Code := at0 c26
def c28 : Code := at1 c26
def k29 (b n0 : Nat) : KT := seqC (fun e S => execL (C b) 0 c28 (k22 b n0) e S) (k22 b n0)
@[go_sem] theorem g30 : execL (C b) 0 c28 K (ee5 x1 x2 x23 x24 x25 x34) S =
  withV (evBin .add (tyi Try.prog 3) x25 (.int .i64 1)) fun x35 =>
    withV (some x35) fun x25 =>
    K .normal (ee3 x1 x2 x23 x24 x25) S := nr (by kernel_rfl)
@[go_sem] theorem k29_n : k29 b n0 .normal e S = execL (C b) 0 c28 (k22 b n0) e S := nr (seqN rfl)
@[go_sem] theorem k29_ret : k29 b n0 .ret e S = (k22 b n0) .ret e S := nr (seqC_r _ _ _ _)
def k31 (b n0 : Nat) : KT := seqC (fun e S => execL (C b) 0 c26 (k22 b n0) e S) (k22 b n0)
def c32 : Code := atB c27
def k33 (b n0 : Nat) : KT := blockC 1 (k29 b n0)
@[go_sem] theorem k33_n : k33 b n0 .normal e S = (k29 b n0) .normal e S := nr (blockC_n _ _ _ _)
@[go_sem] theorem k33_ret : k33 b n0 .ret e S = (k29 b n0) .ret e S := nr (blockC_r _ _ _ _)
def c34 : Code := at0 c32
def c35 : Code := at1 c32
def c36 : Code := at0 c35
def c37 : Code := at1 c35
def k38 (b n0 : Nat) : KT := seqC (fun e S => execL (C b) 1 c37 (k33 b n0) e S) (k33 b n0)
def c39 : Code := atT c37
def c42 : Code := at0 c39
def c43 : Code := at1 c39
def k44 (b n0 : Nat) : KT := seqC (fun e S => execL (C b) 1 c43 (k33 b n0) e S) (k33 b n0)
@[go_sem] theorem k44_n : k44 b n0 .normal (ee6 x6) S =
  (k33 b n0) .ret (ee6 x6) S := nr (seqN (execL_ret (by kernel_rfl)))
@[go_sem] theorem g45 : execL (C b) 1 c42 K (ee5 x1 x2 x23 x24 x25 x34) S =
  withV (some (.bool false)) fun x6 =>
    K .normal (ee6 x6) S := nr (by kernel_rfl)
@[go_sem] theorem k38_n : k38 b n0 .normal (ee5 x1 x2 x23 x24 x25 x34) S =
  condC x34 (execL (C b) 1 c42 (k44 b n0) (ee5 x1 x2 x23 x24 x25 x34) S)
    ((k33 b n0) .normal (ee5 x1 x2 x23 x24 x25 x34) S) := nr (seqN (condE (t := 34) (by kernel_rfl) (enterS (by kernel_rfl)) (execL_skip (by kernel_rfl)) rfl))
def k46 (b n0 : Nat) : KT := seqC (fun e S => execL (C b) 1 c35 (k33 b n0) e S) (k33 b n0)
@[go_sem] theorem g47 : execL (C b) 1 c36 K (ee2 x1 x2 x8 x23 x24 x25) S =
  withV (evLoad (tyi Try.prog 54) S x8) fun x29 =>
    withV (some x1) fun x30 =>
    withV (some x2) fun x31 =>
    withV (evBin .sub (tyi Try.prog 3) x31 (.int .i64 1)) fun x32 =>
    withS (callE (C b) S 63 [x29, x30, x32]) fun x33 S =>
    withV (evUn .not x33) fun x34 =>
    K .normal (ee5 x1 x2 x23 x24 x25 x34) S := nr (by kernel_rfl)
@[go_sem] theorem k46_n : k46 b n0 .normal e S = execL (C b) 1 c36 (k38 b n0) e S := nr (seqN (enterS (by kernel_rfl)))
@[go_sem] theorem g48 : execL (C b) 1 c34 K (ee4 x1 x2 x23 x24 x25 x26) S =
  withV (indexAddrO Try.prog 52 S x23 x25) fun x27 =>
    withV (evLoad (tyi Try.prog 54) S x27) fun x28 =>
    withN (allocO (tyi Try.prog 54) (List.length S)) S fun x8 S =>
    withS (storeE (tyi Try.prog 54) S x8 x28) fun _u S =>
    K .normal (ee2 x1 x2 x8 x23 x24 x25) S := nr (by kernel_rfl)
@[go_sem] theorem k31_n : k31 b n0 .normal (ee4 x1 x2 x23 x24 x25 x26) S =
  execL (C b) 1 c34 (k46 b n0) (ee4 x1 x2 x23 x24 x25 x26) S := nr (seqN ((enterS (by kernel_rfl)).trans ((blockE (by kernel_rfl)).trans (enterS (by kernel_rfl)))))
@[go_sem] theorem k31_exit : k31 b n0 (.exit i) e S = (k22 b n0) (.exit i) e S := nr (seqC_x _ _ _ _ _)
def k49 (b n0 : Nat) : KT := seqC (fun e S => execL (C b) 0 c24 (k22 b n0) e S) (k22 b n0)
@[go_sem] theorem k49_n : k49 b n0 .normal (ee4 x1 x2 x23 x24 x25 x26) S =
  condC x26 ((k31 b n0) .normal (ee4 x1 x2 x23 x24 x25 x26) S)
    ((k31 b n0) (.exit 0) (ee4 x1 x2 x23 x24 x25 x26) S) := nr (seqN ((enterS (by kernel_rfl)).trans (condE (t := 26) (by kernel_rfl) (execL_skip (by kernel_rfl)) (execL_exit (by kernel_rfl)) rfl)))
@[go_sem] theorem g52 : execL (C b) 0 c23 K (ee3 x1 x2 x23 x24 x25) S =
  withV (evBin .lss (tyi Try.prog 3) x25 x24) fun x26 =>
    K .normal (ee4 x1 x2 x23 x24 x25 x26) S := nr (by kernel_rfl)
def B0 (b n0 : Nat) (x1 x2 x23 x24 x25 : PV) (S : Store) : RT := execL (C b) 0 c20 (k22 b n0) (ee3 x1 x2 x23 x24 x25) S
@[go_sem] theorem B0_eq : B0 b n0 x1 x2 x23 x24 x25 S =
  execL (C b) 0 c23 (k49 b n0) (ee3 x1 x2 x23 x24 x25) S := nr (enterS (by kernel_rfl))
theorem L0_step {b n0 : Nat} {x1 x2 x23 x24 x25 : PV} {S : Store} {z : PV × Store} (h : B0 b n0 x1 x2 x23 x24 x25 S = some z) : L0 b n0 x1 x2 x23 x24 x25 S = some z := loopL_step h
theorem L0_in (b : Nat) (x1 x2 x23 x24 x25 : PV) (S : Store) : execL (C b) 0 c18 (k19 b) (ee3 x1 x2 x23 x24 x25) S = L0 b (List.length S) x1 x2 x23 x24 x25 S := by kernel_rfl
@[go_sem] theorem k17_n : k17 b .normal (ee3 x1 x2 x23 x24 x25) S =
  L0 b (List.length S) x1 x2 x23 x24 x25 S := nr (seqN ((blockE (by kernel_rfl)).trans (L0_in b x1 x2 x23 x24 x25 S)))
@[go_sem] theorem g54 : execL (C b) 0 c15 K (ee1 x1 x2 x3 x21) S =
  withV (evFieldAddr (tyi Try.prog 54) 3 x3) fun x22 =>
    withV (evLoad (tyi Try.prog 52) S x22) fun x23 =>
    withV (lenO (tyi Try.prog 52) x23) fun x24 =>
    withV (some (.int .i64 0)) fun x25 =>
    K .normal (ee3 x1 x2 x23 x24 x25) S := nr (by kernel_rfl)
@[go_sem] theorem k14_n : k14 b .normal (ee1 x1 x2 x3 x21) S =
  execL (C b) 0 c15 (k17 b) (ee1 x1 x2 x3 x21) S := nr (seqN ((enterS (by kernel_rfl)).trans (enterS (by kernel_rfl))))
@[go_sem] theorem k14_ret : k14 b .ret e S = (k0 b) .ret e S := nr (seqC_r _ _ _ _)
def k55 (b : Nat) : KT := seqC (fun e S => execL (C b) 0 c4 (k0 b) e S) (k0 b)
def c56 : Code := at0 c5
def c57 : Code := at1 c5
def k58 (b : Nat) : KT := seqC (fun e S => execL (C b) 0 c57 (k14 b) e S) (k14 b)
def c59 : Code := atT c57
def c62 : Code := at0 c59
def c63 : Code := at1 c59
def k64 (b : Nat) : KT := seqC (fun e S => execL (C b) 0 c63 (k14 b) e S) (k14 b)
@[go_sem] theorem k64_n : k64 b .normal (ee6 x6) S =
  (k14 b) .ret (ee6 x6) S := nr (seqN (execL_ret (by kernel_rfl)))
@[go_sem] theorem g65 : execL (C b) 0 c62 K (ee1 x1 x2 x3 x21) S =
  withV (some (.bool false)) fun x6 =>
    K .normal (ee6 x6) S := nr (by kernel_rfl)
@[go_sem] theorem k58_n : k58 b .normal (ee1 x1 x2 x3 x21) S =
  condC x21 (execL (C b) 0 c62 (k64 b) (ee1 x1 x2 x3 x21) S)
    ((k14 b) .normal (ee1 x1 x2 x3 x21) S) := nr (seqN (condE (t := 21) (by kernel_rfl) (enterS (by kernel_rfl)) (execL_skip (by kernel_rfl)) rfl))
@[go_sem] theorem g66 : execL (C b) 0 c56 K (ee0 x1 x2 x3) S =
  withV (some x1) fun x14 =>
    withV (nilCheckO x14) fun x15 =>
    withV (evLoad (tyi Try.prog 3) S x15) fun x16 =>
    withV (evBin .lss (tyi Try.prog 3) x16 (.int .i64 0)) fun x17 =>
    withV (some x17) fun x18 =>
    withV (gval x18 false (some x2)) fun x19 =>
    withV (gval x18 false (evBin .leq (tyi Try.prog 3) x19 (.int .i64 0))) fun x20 =>
    withV (pickO x18 (.bool true) x20) fun x21 =>
    K .normal (ee1 x1 x2 x3 x21) S := nr (by kernel_rfl)
@[go_sem] theorem k55_n : k55 b .normal (ee0 x1 x2 x3) S =
  execL (C b) 0 c56 (k58 b) (ee0 x1 x2 x3) S := nr (seqN ((enterS (by kernel_rfl)).trans (enterS (by kernel_rfl))))
def k67 (b : Nat) : KT := seqC (fun e S => execL (C b) 0 c2 (k0 b) e S) (k0 b)
@[go_sem] theorem g68 : execL (C b) 0 c3 K (ee0 x1 x2 x3) S =
  withV (some x1) fun x9 =>
    withV (nilCheckO x9) fun x10 =>
    withV (evLoad (tyi Try.prog 3) S x10) fun x11 =>
    withV (evBin .sub (tyi Try.prog 3) x11 (.int .i64 1)) fun x12 =>
    withV (nilCheckO x9) fun x13 =>
    withS (storeE (tyi Try.prog 3) S x13 x12) fun _u S =>
    K .normal (ee0 x1 x2 x3) S := nr (by kernel_rfl)
@[go_sem] theorem k67_n : k67 b .normal e S = execL (C b) 0 c3 (k55 b) e S := nr (seqN (enterS (by kernel_rfl)))
@[go_sem] theorem g69 : execL (C b) 0 c1 K [(0, x0), (1, x1), (2, x2)] S =
  withN (boxed S (List.length S) (TI.size (tyi Try.prog 54)) x0) S fun x3 S =>
    withV (some (.bool false)) fun x6 =>
    K .normal (ee0 x1 x2 x3) S := nr (by kernel_rfl)
def E (b : Nat) (x0 x1 x2 : PV) (S : Store) : RT := execL (C b) 0 code (k0 b) [(0, x0), (1, x1), (2, x2)] S
@[go_sem] theorem E_eq : E b x0 x1 x2 S =
  execL (C b) 0 c1 (k67 b) [(0, x0), (1, x1), (2, x2)] S := nr (enterS (by kernel_rfl))
@[go_sem] theorem gc_ee3 : gc n (ee3 x1 x2 x23 x24 x25) S = gc n [(1, x1), (2, x2), (23, x23), (24, x24), (25, x25)] S := nr (rfl)
@[go_sem] theorem gc_ee4 : gc n (ee4 x1 x2 x23 x24 x25 x26) S = gc n [(1, x1), (2, x2), (23, x23), (24, x24), (25, x25), (26, x26)] S := nr (rfl)
@[go_sem] theorem k0_ret6 : k0 b .ret (ee6 x6) S = some (x6, S) := nr (by kernel_rfl)
theorem callR {x0 x1 x2 : PV} {S : Store} {r : PV × Store} (h : E S.length x0 x1 x2 S = some r) : callRL Try.prog hints 63 [x0, x1, x2] S = some r := callRL_of (fn := Try.f63) (c := code) (by kernel_rfl) (by kernel_rfl) (by decide) (by kernel_rfl) (Nat.le_of_ble_eq_true (by kernel_rfl)) h
end
end F63
/-! ### tree.Check -/
namespace F36
section
variable (b : Nat) (K : KT) (x0 x1 x2 x4 x5 x11 x14 x19 x23 : PV) (e : Env) (S : Store)
noncomputable def hint : Hint := { keep := [], loops := [], regs := [(0, [1, 2]), (1, [1, 2, 11]), (2, [4]), (3, [1, 2, 5]), (4, [1, 2, 14]), (5, [4]), (6, [2, 19]), (7, [4]), (8, [23]), (9, [4]), (10, [4])] }
noncomputable def C (b : Nat) : Ctx := ctxL Try.prog hints b hint
noncomputable def code : Code := Try.f36.body.get rfl
noncomputable def k0 (b : Nat) : KT := endC Try.prog Try.f36
def ee0 (x1 x2 : PV) : Env := [(1, x1), (2, x2)]
def ee1 (x1 x2 x5 : PV) : Env := [(1, x1), (2, x2), (5, x5)]
def ee2 (x1 x2 x11 : PV) : Env := [(1, x1), (2, x2), (11, x11)]
def ee3 (x1 x2 x14 : PV) : Env := [(1, x1), (2, x2), (14, x14)]
def ee4 (x2 x19 : PV) : Env := [(2, x2), (19, x19)]
def ee5 (x4 : PV) : Env := [(4, x4)]
def ee6 (x23 : PV) : Env := [(23, x23)]
def c1 : Code := at0 code
def c2 : Code := at1 code
def c3 : Code := at0 c2
def c4 : Code := at1 c2
def c5 : Code := at0 c4
def c6 : Code := at1 c4
def c7 : Code := at0 c6
def c8 : Code := at1 c6
def c9 : Code := at0 c8
def c10 : Code := at1 c8
def c11 : Code := at0 c10
def c12 : Code := at1 c10
def c13 : Code := at0 c12
def c14 : Code := at1 c12
def k15 (b : Nat) : KT := seqC (fun e S => execL (C b) 0 c14 (k0 b) e S) (k0 b)
@[go_sem] theorem k15_n : k15 b .normal (ee5 x4) S =
  (k0 b) .ret (ee5 x4) S := nr (seqN (execL_ret (by kernel_rfl)))
def k16 (b : Nat) : KT := seqC (fun e S => execL (C b) 0 c12 (k0 b) e S) (k0 b)
@[go_sem] theorem g17 : execL (C b) 0 c13 K (ee6 x23) S =
  withV (some (.int .i64 0)) fun x4 =>
    K .normal (ee5 x4) S := nr (by kernel_rfl)
@[go_sem] theorem k16_n : k16 b .normal e S = execL (C b) 0 c13 (k15 b) e S := nr (seqN (enterS (by kernel_rfl)))
@[go_sem] theorem k16_ret : k16 b .ret e S = (k0 b) .ret e S := nr (seqC_r _ _ _ _)
def k18 (b : Nat) : KT := seqC (fun e S => execL (C b) 0 c10 (k0 b) e S) (k0 b)
def c19 : Code := at0 c11
def c20 : Code := at1 c11
def k21 (b : Nat) : KT := seqC (fun e S => execL (C b) 0 c20 (k16 b) e S) (k16 b)
def c22 : Code := atT c20
def c25 : Code := at0 c22
def c26 : Code := at1 c22
def k27 (b : Nat) : KT := seqC (fun e S => execL (C b) 0 c26 (k16 b) e S) (k16 b)
@[go_sem] theorem k27_n : k27 b .normal (ee5 x4) S =
  (k16 b) .ret (ee5 x4) S := nr (seqN (execL_ret (by kernel_rfl)))
@[go_sem] theorem g28 : execL (C b) 0 c25 K (ee6 x23) S =
  withV (some (.int .i64 3)) fun x4 =>
    K .normal (ee5 x4) S := nr (by kernel_rfl)
@[go_sem] theorem k21_n : k21 b .normal (ee6 x23) S =
  condC x23 (execL (C b) 0 c25 (k27 b) (ee6 x23) S)
    ((k16 b) .normal (ee6 x23) S) := nr (seqN (condE (t := 23) (by kernel_rfl) (enterS (by kernel_rfl)) (execL_skip (by kernel_rfl)) rfl))
@[go_sem] theorem g29 : execL (C b) 0 c19 K (ee4 x2 x19) S =
  withV (evLoad (tyi Try.prog 54) S x2) fun x20 =>
    withV (buildO (tyi Try.prog 81) []) fun x21 =>
    withN (callO (callL Try.prog hints) S 64 [x20, x21]) S fun x22 S =>
    withV (evUn .not x22) fun x23 =>
    K .normal (ee6 x23) S := nr (by kernel_rfl)
@[go_sem] theorem k18_n : k18 b .normal (ee4 x2 x19) S =
  execL (C b) 0 c19 (k21 b) (ee4 x2 x19) S := nr (seqN ((enterS (by kernel_rfl)).trans (enterS (by kernel_rfl))))
@[go_sem] theorem k18_ret : k18 b .ret e S = (k0 b) .ret e S := nr (seqC_r _ _ _ _)
def k30 (b : Nat) : KT := seqC (fun e S => execL (C b) 0 c8 (k0 b) e S) (k0 b)
def c31 : Code := at0 c9
def c32 : Code := at1 c9
def k33 (b : Nat) : KT := seqC (fun e S => execL (C b) 0 c32 (k18 b) e S) (k18 b)
def c34 : Code := atT c32
def c37 : Code := at0 c34
def c38 : Code := at1 c34
def k39 (b : Nat) : KT := seqC (fun e S => execL (C b) 0 c38 (k18 b) e S) (k18 b)
@[go_sem] theorem k39_n : k39 b .normal (ee5 x4) S =
  (k18 b) .ret (ee5 x4) S := nr (seqN (execL_ret (by kernel_rfl)))
@[go_sem] theorem g40 : execL (C b) 0 c37 K (ee4 x2 x19) S =
  withV (some (.int .i64 80)) fun x4 =>
    K .normal (ee5 x4) S := nr (by kernel_rfl)
@[go_sem] theorem k33_n : k33 b .normal (ee4 x2 x19) S =
  condC x19 (execL (C b) 0 c37 (k39 b) (ee4 x2 x19) S)
    ((k18 b) .normal (ee4 x2 x19) S) := nr (seqN (condE (t := 19) (by kernel_rfl) (enterS (by kernel_rfl)) (execL_skip (by kernel_rfl)) rfl))
@[go_sem] theorem g41 : execL (C b) 0 c31 K (ee3 x1 x2 x14) S =
  withV (evFieldAddr (tyi Try.prog 54) 0 x2) fun x15 =>
    withV (evLoad (tyi Try.prog 3) S x15) fun x16 =>
    withN (callO (callL Try.prog hints) S 40 [x16]) S fun x17 S =>
    withV (some x1) fun x18 =>
    withV (evBin .neq (tyi Try.prog 3) x17 x18) fun x19 =>
    K .normal (ee4 x2 x19) S := nr (by kernel_rfl)
@[go_sem] theorem k30_n : k30 b .normal (ee3 x1 x2 x14) S =
  execL (C b) 0 c31 (k33 b) (ee3 x1 x2 x14) S := nr (seqN ((enterS (by kernel_rfl)).trans (enterS (by kernel_rfl))))
@[go_sem] theorem k30_ret : k30 b .ret e S = (k0 b) .ret e S := nr (seqC_r _ _ _ _)
def k42 (b : Nat) : KT := seqC (fun e S => execL (C b) 0 c6 (k0 b) e S) (k0 b)
def c43 : Code := at0 c7
def c44 : Code := at1 c7
def k45 (b : Nat) : KT := seqC (fun e S => execL (C b) 0 c44 (k30 b) e S) (k30 b)
def c46 : Code := atT c44
def c49 : Code := at0 c46
def c50 : Code := at1 c46
def k51 (b : Nat) : KT := seqC (fun e S => execL (C b) 0 c50 (k30 b) e S) (k30 b)
@[go_sem] theorem k51_n : k51 b .normal (ee5 x4) S =
  (k30 b) .ret (ee5 x4) S := nr (seqN (execL_ret (by kernel_rfl)))
@[go_sem] theorem g52 : execL (C b) 0 c49 K (ee3 x1 x2 x14) S =
  withV (some (.int .i64 2)) fun x4 =>
    K .normal (ee5 x4) S := nr (by kernel_rfl)
@[go_sem] theorem k45_n : k45 b .normal (ee3 x1 x2 x14) S =
  condC x14 (execL (C b) 0 c49 (k51 b) (ee3 x1 x2 x14) S)
    ((k30 b) .normal (ee3 x1 x2 x14) S) := nr (seqN (condE (t := 14) (by kernel_rfl) (enterS (by kernel_rfl)) (execL_skip (by kernel_rfl)) rfl))
@[go_sem] theorem g53 : execL (C b) 0 c43 K (ee1 x1 x2 x5) S =
  withV (evLoad (tyi Try.prog 54) S x2) fun x12 =>
    withS (callE (C b) S 63 [x12, x5, (.int .i64 60)]) fun x13 S =>
    withV (evUn .not x13) fun x14 =>
    K .normal (ee3 x1 x2 x14) S := nr (by kernel_rfl)
@[go_sem] theorem k42_n : k42 b .normal (ee1 x1 x2 x5) S =
  execL (C b) 0 c43 (k45 b) (ee1 x1 x2 x5) S := nr (seqN ((enterS (by kernel_rfl)).trans (enterS (by kernel_rfl))))
def k54 (b : Nat) : KT := seqC (fun e S => execL (C b) 0 c4 (k0 b) e S) (k0 b)
@[go_sem] theorem g55 : execL (C b) 0 c5 K (ee2 x1 x2 x11) S =
  withN (allocO (tyi Try.prog 3) (List.length S)) S fun x5 S =>
    withS (storeE (tyi Try.prog 3) S x5 (.int .i64 4000)) fun _u S =>
    K .normal (ee1 x1 x2 x5) S := nr (by kernel_rfl)
@[go_sem] theorem k54_n : k54 b .normal e S = execL (C b) 0 c5 (k42 b) e S := nr (seqN (enterS (by kernel_rfl)))
@[go_sem] theorem k54_ret : k54 b .ret e S = (k0 b) .ret e S := nr (seqC_r _ _ _ _)
def k56 (b : Nat) : KT := seqC (fun e S => execL (C b) 0 c2 (k0 b) e S) (k0 b)
def c57 : Code := at0 c3
def c58 : Code := at1 c3
def k59 (b : Nat) : KT := seqC (fun e S => execL (C b) 0 c58 (k54 b) e S) (k54 b)
def c60 : Code := atT c58
def c63 : Code := at0 c60
def c64 : Code := at1 c60
def k65 (b : Nat) : KT := seqC (fun e S => execL (C b) 0 c64 (k54 b) e S) (k54 b)
@[go_sem] theorem k65_n : k65 b .normal (ee5 x4) S =
  (k54 b) .ret (ee5 x4) S := nr (seqN (execL_ret (by kernel_rfl)))
@[go_sem] theorem g66 : execL (C b) 0 c63 K (ee2 x1 x2 x11) S =
  withV (some (.int .i64 1)) fun x4 =>
    K .normal (ee5 x4) S := nr (by kernel_rfl)
@[go_sem] theorem k59_n : k59 b .normal (ee2 x1 x2 x11) S =
  condC x11 (execL (C b) 0 c63 (k65 b) (ee2 x1 x2 x11) S)
    ((k54 b) .normal (ee2 x1 x2 x11) S) := nr (seqN (condE (t := 11) (by kernel_rfl) (enterS (by kernel_rfl)) (execL_skip (by kernel_rfl)) rfl))
@[go_sem] theorem g67 : execL (C b) 0 c57 K (ee0 x1 x2) S =
  withV (some x1) fun x6 =>
    withV (evBin .lss (tyi Try.prog 3) x6 (.int .i64 1)) fun x7 =>
    withV (some x7) fun x8 =>
    withV (gval x8 false (some x1)) fun x9 =>
    withV (gval x8 false (evBin .gtr (tyi Try.prog 3) x9 (.int .i64 3))) fun x10 =>
    withV (pickO x8 (.bool true) x10) fun x11 =>
    K .normal (ee2 x1 x2 x11) S := nr (by kernel_rfl)
@[go_sem] theorem k56_n : k56 b .normal (ee0 x1 x2) S =
  execL (C b) 0 c57 (k59 b) (ee0 x1 x2) S := nr (seqN ((enterS (by kernel_rfl)).trans (enterS (by kernel_rfl))))
@[go_sem] theorem g68 : execL (C b) 0 c1 K [(0, x0), (1, x1)] S =
  withN (boxed S (List.length S) (TI.size (tyi Try.prog 54)) x0) S fun x2 S =>
    withV (some (.int .i64 0)) fun x4 =>
    K .normal (ee0 x1 x2) S := nr (by kernel_rfl)
def E (b : Nat) (x0 x1 : PV) (S : Store) : RT := execL (C b) 0 code (k0 b) [(0, x0), (1, x1)] S
@[go_sem] theorem E_eq : E b x0 x1 S =
  execL (C b) 0 c1 (k56 b) [(0, x0), (1, x1)] S := nr (enterS (by kernel_rfl))
@[go_sem] theorem k0_ret5 : k0 b .ret (ee5 x4) S = some (x4, S) := nr (by kernel_rfl)
theorem call {x0 x1 : PV} {r : PV × Store} {v : PV} (h : E 0 x0 x1 [] = some r) (hv : fzPV r.2 r.1 = some v) : callL Try.prog hints 36 [x0, x1] = some v := callL_of (fn := Try.f36) (c := code) (by kernel_rfl) (by kernel_rfl) (by decide) (by kernel_rfl) (Nat.le_of_ble_eq_true (by kernel_rfl)) h hv
end
end F36
end
end Go.Vs
