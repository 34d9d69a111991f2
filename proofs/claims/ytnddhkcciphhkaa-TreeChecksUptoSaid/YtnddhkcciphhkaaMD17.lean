/- Printed by a program of mine (stage1.py): the functions 87, 88, 90, 91, 92, 95, piece by piece. -/

import Derived.Test.YtnddhkcciphhkaaMD9
set_option linter.unusedVariables false
set_option linter.unusedSimpArgs false
namespace Go.Vs
open Go Go.Proofs

/-! ### isochroneref08.named -/
namespace F87
def hint : Hint := { keep := [], loops := [], regs := [(0, [0]), (1, [3]), (2, [3, 4]), (3, [3, 4]), (4, [3, 4]), (5, [3, 4]), (6, [3, 4]), (7, [3, 4]), (8, [3, 4]), (9, [3, 4]), (10, [3, 4]), (11, [3, 4]), (12, [3, 4]), (13, [3, 4]), (14, [3, 4]), (15, [3, 4]), (16, [3, 4]), (17, [2]), (18, [2])] }
noncomputable def C (b : Nat) : Ctx := ctxL Try.prog hints b hint
noncomputable def code : Code := Try.f87.body.get rfl
noncomputable def k0 (b : Nat) : KT := endC Try.prog Try.f87
def ee0 (x0 : PV) : Env := [(0, x0)]
def ee1 (x2 : PV) : Env := [(2, x2)]
@[go_sem] theorem k0_ret1 (b : Nat) (x2 : PV) (S : Store) : k0 b .ret (ee1 x2) S = some (x2, S) := nr (by kernel_rfl)
def ee2 (x3 : PV) : Env := [(3, x3)]
def ee3 (x3 x4 : PV) : Env := [(3, x3), (4, x4)]
noncomputable def c1 : Code := at0 code
noncomputable def c2 : Code := at1 code
theorem code_h : code = .seq c1 c2 := by kernel_rfl
noncomputable def c3 : Code := at0 c2
noncomputable def c4 : Code := at1 c2
theorem c2_h : c2 = .seq c3 c4 := by kernel_rfl
noncomputable def c5 : Code := at0 c4
noncomputable def c6 : Code := at1 c4
theorem c4_h : c4 = .seq c5 c6 := by kernel_rfl
noncomputable def k7 (b : Nat) : KT := seqC (fun e S => execL (C b) 0 c6 (k0 b) e S) (k0 b)
@[go_sem] theorem k7_n (b : Nat) (x2 : PV) (S : Store) : k7 b .normal (ee1 x2) S =
  (k0 b) .ret (ee1 x2) S := nr ((show k7 b .normal (ee1 x2) S = execL (C b) 0 c6 (k0 b) (ee1 x2) S from seqC_n _ _ _ _).trans (execL_ret (by kernel_rfl)))
theorem k7_l (b : Nat) : seqC (fun e S => execL (C b) 0 c6 (k0 b) e S) (k0 b) = k7 b := rfl
noncomputable def k8 (b : Nat) : KT := seqC (fun e S => execL (C b) 0 c5 (k7 b) e S) (k0 b)
@[go_sem] theorem g9 (b : Nat) (K : KT) (x3 x4 : PV) (S : Store) : execL (C b) 0 c5 K (ee3 x3 x4) S =
  withV (some (.bool false)) fun x2 =>
    K .normal (ee1 x2) S := nr (by kernel_rfl)
@[go_sem] theorem k8_n (b : Nat) (e : Env) (S : Store) : k8 b .normal e S = execL (C b) 0 c5 (k7 b) e S := nr (seqC_n _ _ _ _)
@[go_sem] theorem k8_ret (b : Nat) (e : Env) (S : Store) : k8 b .ret e S = (k0 b) .ret e S := nr (seqC_r _ _ _ _)
theorem k8_l (b : Nat) : seqC (fun e S => execL (C b) 0 c4 (k0 b) e S) (k0 b) = k8 b := link_seq c4_h (k7_l b)
noncomputable def k10 (b : Nat) : KT := seqC (fun e S => execL (C b) 0 c3 (k8 b) e S) (k0 b)
noncomputable def c11 : Code := at0 c3
noncomputable def c12 : Code := at1 c3
theorem c3_h : c3 = .seq c11 c12 := by kernel_rfl
noncomputable def k13 (b : Nat) : KT := seqC (fun e S => execL (C b) 0 c12 (k8 b) e S) (k8 b)
noncomputable def c14 : Code := atB c12
theorem c12_h : c12 = .block 0 c14 := by kernel_rfl
noncomputable def k15 (b : Nat) : KT := blockC 0 (k8 b)
@[go_sem] theorem k15_n (b : Nat) (e : Env) (S : Store) : k15 b .normal e S = (k8 b) .normal e S := nr (blockC_n _ _ _ _)
@[go_sem] theorem k15_ret (b : Nat) (e : Env) (S : Store) : k15 b .ret e S = (k8 b) .ret e S := nr (blockC_r _ _ _ _)
noncomputable def c16 : Code := at0 c14
noncomputable def c17 : Code := at1 c14
theorem c14_h : c14 = .seq c16 c17 := by kernel_rfl
noncomputable def k18 (b : Nat) : KT := seqC (fun e S => execL (C b) 0 c17 (k15 b) e S) (k15 b)
noncomputable def c19 : Code := atT c17
noncomputable def c20 : Code := atF c17
theorem c17_h : c17 = .cond (.tmp 4) c19 c20 := by kernel_rfl
noncomputable def c22 : Code := at0 c19
noncomputable def c23 : Code := at1 c19
theorem c19_h : c19 = .seq c22 c23 := by kernel_rfl
noncomputable def k24 (b : Nat) : KT := seqC (fun e S => execL (C b) 0 c23 (k15 b) e S) (k15 b)
@[go_sem] theorem k24_n (b : Nat) (x2 : PV) (S : Store) : k24 b .normal (ee1 x2) S =
  (k15 b) .ret (ee1 x2) S := nr ((show k24 b .normal (ee1 x2) S = execL (C b) 0 c23 (k15 b) (ee1 x2) S from seqC_n _ _ _ _).trans (execL_ret (by kernel_rfl)))
theorem k24_l (b : Nat) : seqC (fun e S => execL (C b) 0 c23 (k15 b) e S) (k15 b) = k24 b := rfl
@[go_sem] theorem g25 (b : Nat) (K : KT) (x3 x4 : PV) (S : Store) : execL (C b) 0 c22 K (ee3 x3 x4) S =
  withV (some (.bool true)) fun x2 =>
    K .normal (ee1 x2) S := nr (by kernel_rfl)
noncomputable def E21 (b : Nat) (x3 x4 : PV) (S : Store) : RT := execL (C b) 0 c19 (k15 b) (ee3 x3 x4) S
@[go_sem] theorem E21_eq (b : Nat) (x3 x4 : PV) (S : Store) : E21 b x3 x4 S =
  execL (C b) 0 c22 (k24 b) (ee3 x3 x4) S := nr ((enter_seq c19_h (k24_l b)).trans (rfl))
@[go_sem] theorem k18_n (b : Nat) (x3 x4 : PV) (S : Store) : k18 b .normal (ee3 x3 x4) S =
  condC x4 (E21 b x3 x4 S)
    ((k15 b) .normal (ee3 x3 x4) S) := nr ((show k18 b .normal (ee3 x3 x4) S = execL (C b) 0 c17 (k15 b) (ee3 x3 x4) S from seqC_n _ _ _ _).trans (execL_cond c17_h (rfl) (execL_skip (by kernel_rfl)) rfl))
theorem k18_l (b : Nat) : seqC (fun e S => execL (C b) 0 c17 (k15 b) e S) (k15 b) = k18 b := rfl
noncomputable def c26 : Code := at0 c16
noncomputable def c27 : Code := at1 c16
theorem c16_h : c16 = .seq c26 c27 := by kernel_rfl
noncomputable def k28 (b : Nat) : KT := seqC (fun e S => execL (C b) 0 c27 (k18 b) e S) (k18 b)
noncomputable def c29 : Code := atT c27
noncomputable def c30 : Code := atF c27
theorem c27_h : c27 = .cond (.tmp 4) c29 c30 := by kernel_rfl
noncomputable def c32 : Code := at0 c30
noncomputable def c33 : Code := at1 c30
theorem c30_h : c30 = .seq c32 c33 := by kernel_rfl
noncomputable def k34 (b : Nat) : KT := seqC (fun e S => execL (C b) 0 c33 (k18 b) e S) (k18 b)
noncomputable def c35 : Code := atT c33
noncomputable def c36 : Code := atF c33
theorem c33_h : c33 = .cond (.tmp 4) c35 c36 := by kernel_rfl
noncomputable def c38 : Code := at0 c36
noncomputable def c39 : Code := at1 c36
theorem c36_h : c36 = .seq c38 c39 := by kernel_rfl
noncomputable def k40 (b : Nat) : KT := seqC (fun e S => execL (C b) 0 c39 (k18 b) e S) (k18 b)
noncomputable def c41 : Code := atT c39
noncomputable def c42 : Code := atF c39
theorem c39_h : c39 = .cond (.tmp 4) c41 c42 := by kernel_rfl
noncomputable def c44 : Code := at0 c42
noncomputable def c45 : Code := at1 c42
theorem c42_h : c42 = .seq c44 c45 := by kernel_rfl
noncomputable def k46 (b : Nat) : KT := seqC (fun e S => execL (C b) 0 c45 (k18 b) e S) (k18 b)
noncomputable def c47 : Code := atT c45
noncomputable def c48 : Code := atF c45
theorem c45_h : c45 = .cond (.tmp 4) c47 c48 := by kernel_rfl
noncomputable def c50 : Code := at0 c48
noncomputable def c51 : Code := at1 c48
theorem c48_h : c48 = .seq c50 c51 := by kernel_rfl
noncomputable def k52 (b : Nat) : KT := seqC (fun e S => execL (C b) 0 c51 (k18 b) e S) (k18 b)
noncomputable def c53 : Code := atT c51
noncomputable def c54 : Code := atF c51
theorem c51_h : c51 = .cond (.tmp 4) c53 c54 := by kernel_rfl
noncomputable def c56 : Code := at0 c54
noncomputable def c57 : Code := at1 c54
theorem c54_h : c54 = .seq c56 c57 := by kernel_rfl
noncomputable def k58 (b : Nat) : KT := seqC (fun e S => execL (C b) 0 c57 (k18 b) e S) (k18 b)
noncomputable def c59 : Code := atT c57
noncomputable def c60 : Code := atF c57
theorem c57_h : c57 = .cond (.tmp 4) c59 c60 := by kernel_rfl
noncomputable def c62 : Code := at0 c60
noncomputable def c63 : Code := at1 c60
theorem c60_h : c60 = .seq c62 c63 := by kernel_rfl
noncomputable def k64 (b : Nat) : KT := seqC (fun e S => execL (C b) 0 c63 (k18 b) e S) (k18 b)
noncomputable def c65 : Code := atT c63
noncomputable def c66 : Code := atF c63
theorem c63_h : c63 = .cond (.tmp 4) c65 c66 := by kernel_rfl
noncomputable def c68 : Code := at0 c66
noncomputable def c69 : Code := at1 c66
theorem c66_h : c66 = .seq c68 c69 := by kernel_rfl
noncomputable def k70 (b : Nat) : KT := seqC (fun e S => execL (C b) 0 c69 (k18 b) e S) (k18 b)
noncomputable def c71 : Code := atT c69
noncomputable def c72 : Code := atF c69
theorem c69_h : c69 = .cond (.tmp 4) c71 c72 := by kernel_rfl
noncomputable def c74 : Code := at0 c72
noncomputable def c75 : Code := at1 c72
theorem c72_h : c72 = .seq c74 c75 := by kernel_rfl
noncomputable def k76 (b : Nat) : KT := seqC (fun e S => execL (C b) 0 c75 (k18 b) e S) (k18 b)
noncomputable def c77 : Code := atT c75
noncomputable def c78 : Code := atF c75
theorem c75_h : c75 = .cond (.tmp 4) c77 c78 := by kernel_rfl
noncomputable def c80 : Code := at0 c78
noncomputable def c81 : Code := at1 c78
theorem c78_h : c78 = .seq c80 c81 := by kernel_rfl
noncomputable def k82 (b : Nat) : KT := seqC (fun e S => execL (C b) 0 c81 (k18 b) e S) (k18 b)
noncomputable def c83 : Code := atT c81
noncomputable def c84 : Code := atF c81
theorem c81_h : c81 = .cond (.tmp 4) c83 c84 := by kernel_rfl
noncomputable def c86 : Code := at0 c84
noncomputable def c87 : Code := at1 c84
theorem c84_h : c84 = .seq c86 c87 := by kernel_rfl
noncomputable def k88 (b : Nat) : KT := seqC (fun e S => execL (C b) 0 c87 (k18 b) e S) (k18 b)
noncomputable def c89 : Code := atT c87
noncomputable def c90 : Code := atF c87
theorem c87_h : c87 = .cond (.tmp 4) c89 c90 := by kernel_rfl
noncomputable def c92 : Code := at0 c90
noncomputable def c93 : Code := at1 c90
theorem c90_h : c90 = .seq c92 c93 := by kernel_rfl
noncomputable def k94 (b : Nat) : KT := seqC (fun e S => execL (C b) 0 c93 (k18 b) e S) (k18 b)
noncomputable def c95 : Code := atT c93
noncomputable def c96 : Code := atF c93
theorem c93_h : c93 = .cond (.tmp 4) c95 c96 := by kernel_rfl
noncomputable def c98 : Code := at0 c96
noncomputable def c99 : Code := at1 c96
theorem c96_h : c96 = .seq c98 c99 := by kernel_rfl
noncomputable def k100 (b : Nat) : KT := seqC (fun e S => execL (C b) 0 c99 (k18 b) e S) (k18 b)
noncomputable def c101 : Code := atT c99
noncomputable def c102 : Code := atF c99
theorem c99_h : c99 = .cond (.tmp 4) c101 c102 := by kernel_rfl
noncomputable def c104 : Code := at0 c102
noncomputable def c105 : Code := at1 c102
theorem c102_h : c102 = .seq c104 c105 := by kernel_rfl
noncomputable def k106 (b : Nat) : KT := seqC (fun e S => execL (C b) 0 c105 (k18 b) e S) (k18 b)
noncomputable def c107 : Code := atT c105
noncomputable def c108 : Code := atF c105
theorem c105_h : c105 = .cond (.tmp 4) c107 c108 := by kernel_rfl
@[go_sem] theorem g110 (b : Nat) (K : KT) (x3 x4 : PV) (S : Store) : execL (C b) 0 c108 K (ee3 x3 x4) S =
  withV (evBin .eql (tyi Try.prog 3) x3 (.int .i64 62)) fun x19 =>
    withV (some x19) fun x4 =>
    K .normal (ee3 x3 x4) S := nr (by kernel_rfl)
noncomputable def E109 (b : Nat) (x3 x4 : PV) (S : Store) : RT := execL (C b) 0 c108 (k18 b) (ee3 x3 x4) S
@[go_sem] theorem E109_eq (b : Nat) (x3 x4 : PV) (S : Store) : E109 b x3 x4 S =
  execL (C b) 0 c108 (k18 b) (ee3 x3 x4) S := nr (rfl)
@[go_sem] theorem k106_n (b : Nat) (x3 x4 : PV) (S : Store) : k106 b .normal (ee3 x3 x4) S =
  condC x4 ((k18 b) .normal (ee3 x3 x4) S)
    (E109 b x3 x4 S) := nr ((show k106 b .normal (ee3 x3 x4) S = execL (C b) 0 c105 (k18 b) (ee3 x3 x4) S from seqC_n _ _ _ _).trans (execL_cond c105_h (execL_skip (by kernel_rfl)) (rfl) rfl))
theorem k106_l (b : Nat) : seqC (fun e S => execL (C b) 0 c105 (k18 b) e S) (k18 b) = k106 b := rfl
@[go_sem] theorem g111 (b : Nat) (K : KT) (x3 x4 : PV) (S : Store) : execL (C b) 0 c104 K (ee3 x3 x4) S =
  withV (evBin .eql (tyi Try.prog 3) x3 (.int .i64 61)) fun x18 =>
    withV (some x18) fun x4 =>
    K .normal (ee3 x3 x4) S := nr (by kernel_rfl)
noncomputable def E103 (b : Nat) (x3 x4 : PV) (S : Store) : RT := execL (C b) 0 c102 (k18 b) (ee3 x3 x4) S
@[go_sem] theorem E103_eq (b : Nat) (x3 x4 : PV) (S : Store) : E103 b x3 x4 S =
  execL (C b) 0 c104 (k106 b) (ee3 x3 x4) S := nr ((enter_seq c102_h (k106_l b)).trans (rfl))
@[go_sem] theorem k100_n (b : Nat) (x3 x4 : PV) (S : Store) : k100 b .normal (ee3 x3 x4) S =
  condC x4 ((k18 b) .normal (ee3 x3 x4) S)
    (E103 b x3 x4 S) := nr ((show k100 b .normal (ee3 x3 x4) S = execL (C b) 0 c99 (k18 b) (ee3 x3 x4) S from seqC_n _ _ _ _).trans (execL_cond c99_h (execL_skip (by kernel_rfl)) (rfl) rfl))
theorem k100_l (b : Nat) : seqC (fun e S => execL (C b) 0 c99 (k18 b) e S) (k18 b) = k100 b := rfl
@[go_sem] theorem g112 (b : Nat) (K : KT) (x3 x4 : PV) (S : Store) : execL (C b) 0 c98 K (ee3 x3 x4) S =
  withV (evBin .eql (tyi Try.prog 3) x3 (.int .i64 56)) fun x17 =>
    withV (some x17) fun x4 =>
    K .normal (ee3 x3 x4) S := nr (by kernel_rfl)
noncomputable def E97 (b : Nat) (x3 x4 : PV) (S : Store) : RT := execL (C b) 0 c96 (k18 b) (ee3 x3 x4) S
@[go_sem] theorem E97_eq (b : Nat) (x3 x4 : PV) (S : Store) : E97 b x3 x4 S =
  execL (C b) 0 c98 (k100 b) (ee3 x3 x4) S := nr ((enter_seq c96_h (k100_l b)).trans (rfl))
@[go_sem] theorem k94_n (b : Nat) (x3 x4 : PV) (S : Store) : k94 b .normal (ee3 x3 x4) S =
  condC x4 ((k18 b) .normal (ee3 x3 x4) S)
    (E97 b x3 x4 S) := nr ((show k94 b .normal (ee3 x3 x4) S = execL (C b) 0 c93 (k18 b) (ee3 x3 x4) S from seqC_n _ _ _ _).trans (execL_cond c93_h (execL_skip (by kernel_rfl)) (rfl) rfl))
theorem k94_l (b : Nat) : seqC (fun e S => execL (C b) 0 c93 (k18 b) e S) (k18 b) = k94 b := rfl
@[go_sem] theorem g113 (b : Nat) (K : KT) (x3 x4 : PV) (S : Store) : execL (C b) 0 c92 K (ee3 x3 x4) S =
  withV (evBin .eql (tyi Try.prog 3) x3 (.int .i64 55)) fun x16 =>
    withV (some x16) fun x4 =>
    K .normal (ee3 x3 x4) S := nr (by kernel_rfl)
noncomputable def E91 (b : Nat) (x3 x4 : PV) (S : Store) : RT := execL (C b) 0 c90 (k18 b) (ee3 x3 x4) S
@[go_sem] theorem E91_eq (b : Nat) (x3 x4 : PV) (S : Store) : E91 b x3 x4 S =
  execL (C b) 0 c92 (k94 b) (ee3 x3 x4) S := nr ((enter_seq c90_h (k94_l b)).trans (rfl))
@[go_sem] theorem k88_n (b : Nat) (x3 x4 : PV) (S : Store) : k88 b .normal (ee3 x3 x4) S =
  condC x4 ((k18 b) .normal (ee3 x3 x4) S)
    (E91 b x3 x4 S) := nr ((show k88 b .normal (ee3 x3 x4) S = execL (C b) 0 c87 (k18 b) (ee3 x3 x4) S from seqC_n _ _ _ _).trans (execL_cond c87_h (execL_skip (by kernel_rfl)) (rfl) rfl))
theorem k88_l (b : Nat) : seqC (fun e S => execL (C b) 0 c87 (k18 b) e S) (k18 b) = k88 b := rfl
@[go_sem] theorem g114 (b : Nat) (K : KT) (x3 x4 : PV) (S : Store) : execL (C b) 0 c86 K (ee3 x3 x4) S =
  withV (evBin .eql (tyi Try.prog 3) x3 (.int .i64 52)) fun x15 =>
    withV (some x15) fun x4 =>
    K .normal (ee3 x3 x4) S := nr (by kernel_rfl)
noncomputable def E85 (b : Nat) (x3 x4 : PV) (S : Store) : RT := execL (C b) 0 c84 (k18 b) (ee3 x3 x4) S
@[go_sem] theorem E85_eq (b : Nat) (x3 x4 : PV) (S : Store) : E85 b x3 x4 S =
  execL (C b) 0 c86 (k88 b) (ee3 x3 x4) S := nr ((enter_seq c84_h (k88_l b)).trans (rfl))
@[go_sem] theorem k82_n (b : Nat) (x3 x4 : PV) (S : Store) : k82 b .normal (ee3 x3 x4) S =
  condC x4 ((k18 b) .normal (ee3 x3 x4) S)
    (E85 b x3 x4 S) := nr ((show k82 b .normal (ee3 x3 x4) S = execL (C b) 0 c81 (k18 b) (ee3 x3 x4) S from seqC_n _ _ _ _).trans (execL_cond c81_h (execL_skip (by kernel_rfl)) (rfl) rfl))
theorem k82_l (b : Nat) : seqC (fun e S => execL (C b) 0 c81 (k18 b) e S) (k18 b) = k82 b := rfl
@[go_sem] theorem g115 (b : Nat) (K : KT) (x3 x4 : PV) (S : Store) : execL (C b) 0 c80 K (ee3 x3 x4) S =
  withV (evBin .eql (tyi Try.prog 3) x3 (.int .i64 51)) fun x14 =>
    withV (some x14) fun x4 =>
    K .normal (ee3 x3 x4) S := nr (by kernel_rfl)
noncomputable def E79 (b : Nat) (x3 x4 : PV) (S : Store) : RT := execL (C b) 0 c78 (k18 b) (ee3 x3 x4) S
@[go_sem] theorem E79_eq (b : Nat) (x3 x4 : PV) (S : Store) : E79 b x3 x4 S =
  execL (C b) 0 c80 (k82 b) (ee3 x3 x4) S := nr ((enter_seq c78_h (k82_l b)).trans (rfl))
@[go_sem] theorem k76_n (b : Nat) (x3 x4 : PV) (S : Store) : k76 b .normal (ee3 x3 x4) S =
  condC x4 ((k18 b) .normal (ee3 x3 x4) S)
    (E79 b x3 x4 S) := nr ((show k76 b .normal (ee3 x3 x4) S = execL (C b) 0 c75 (k18 b) (ee3 x3 x4) S from seqC_n _ _ _ _).trans (execL_cond c75_h (execL_skip (by kernel_rfl)) (rfl) rfl))
theorem k76_l (b : Nat) : seqC (fun e S => execL (C b) 0 c75 (k18 b) e S) (k18 b) = k76 b := rfl
@[go_sem] theorem g116 (b : Nat) (K : KT) (x3 x4 : PV) (S : Store) : execL (C b) 0 c74 K (ee3 x3 x4) S =
  withV (evBin .eql (tyi Try.prog 3) x3 (.int .i64 50)) fun x13 =>
    withV (some x13) fun x4 =>
    K .normal (ee3 x3 x4) S := nr (by kernel_rfl)
noncomputable def E73 (b : Nat) (x3 x4 : PV) (S : Store) : RT := execL (C b) 0 c72 (k18 b) (ee3 x3 x4) S
@[go_sem] theorem E73_eq (b : Nat) (x3 x4 : PV) (S : Store) : E73 b x3 x4 S =
  execL (C b) 0 c74 (k76 b) (ee3 x3 x4) S := nr ((enter_seq c72_h (k76_l b)).trans (rfl))
@[go_sem] theorem k70_n (b : Nat) (x3 x4 : PV) (S : Store) : k70 b .normal (ee3 x3 x4) S =
  condC x4 ((k18 b) .normal (ee3 x3 x4) S)
    (E73 b x3 x4 S) := nr ((show k70 b .normal (ee3 x3 x4) S = execL (C b) 0 c69 (k18 b) (ee3 x3 x4) S from seqC_n _ _ _ _).trans (execL_cond c69_h (execL_skip (by kernel_rfl)) (rfl) rfl))
theorem k70_l (b : Nat) : seqC (fun e S => execL (C b) 0 c69 (k18 b) e S) (k18 b) = k70 b := rfl
@[go_sem] theorem g117 (b : Nat) (K : KT) (x3 x4 : PV) (S : Store) : execL (C b) 0 c68 K (ee3 x3 x4) S =
  withV (evBin .eql (tyi Try.prog 3) x3 (.int .i64 38)) fun x12 =>
    withV (some x12) fun x4 =>
    K .normal (ee3 x3 x4) S := nr (by kernel_rfl)
noncomputable def E67 (b : Nat) (x3 x4 : PV) (S : Store) : RT := execL (C b) 0 c66 (k18 b) (ee3 x3 x4) S
@[go_sem] theorem E67_eq (b : Nat) (x3 x4 : PV) (S : Store) : E67 b x3 x4 S =
  execL (C b) 0 c68 (k70 b) (ee3 x3 x4) S := nr ((enter_seq c66_h (k70_l b)).trans (rfl))
@[go_sem] theorem k64_n (b : Nat) (x3 x4 : PV) (S : Store) : k64 b .normal (ee3 x3 x4) S =
  condC x4 ((k18 b) .normal (ee3 x3 x4) S)
    (E67 b x3 x4 S) := nr ((show k64 b .normal (ee3 x3 x4) S = execL (C b) 0 c63 (k18 b) (ee3 x3 x4) S from seqC_n _ _ _ _).trans (execL_cond c63_h (execL_skip (by kernel_rfl)) (rfl) rfl))
theorem k64_l (b : Nat) : seqC (fun e S => execL (C b) 0 c63 (k18 b) e S) (k18 b) = k64 b := rfl
@[go_sem] theorem g118 (b : Nat) (K : KT) (x3 x4 : PV) (S : Store) : execL (C b) 0 c62 K (ee3 x3 x4) S =
  withV (evBin .eql (tyi Try.prog 3) x3 (.int .i64 37)) fun x11 =>
    withV (some x11) fun x4 =>
    K .normal (ee3 x3 x4) S := nr (by kernel_rfl)
noncomputable def E61 (b : Nat) (x3 x4 : PV) (S : Store) : RT := execL (C b) 0 c60 (k18 b) (ee3 x3 x4) S
@[go_sem] theorem E61_eq (b : Nat) (x3 x4 : PV) (S : Store) : E61 b x3 x4 S =
  execL (C b) 0 c62 (k64 b) (ee3 x3 x4) S := nr ((enter_seq c60_h (k64_l b)).trans (rfl))
@[go_sem] theorem k58_n (b : Nat) (x3 x4 : PV) (S : Store) : k58 b .normal (ee3 x3 x4) S =
  condC x4 ((k18 b) .normal (ee3 x3 x4) S)
    (E61 b x3 x4 S) := nr ((show k58 b .normal (ee3 x3 x4) S = execL (C b) 0 c57 (k18 b) (ee3 x3 x4) S from seqC_n _ _ _ _).trans (execL_cond c57_h (execL_skip (by kernel_rfl)) (rfl) rfl))
theorem k58_l (b : Nat) : seqC (fun e S => execL (C b) 0 c57 (k18 b) e S) (k18 b) = k58 b := rfl
@[go_sem] theorem g119 (b : Nat) (K : KT) (x3 x4 : PV) (S : Store) : execL (C b) 0 c56 K (ee3 x3 x4) S =
  withV (evBin .eql (tyi Try.prog 3) x3 (.int .i64 34)) fun x10 =>
    withV (some x10) fun x4 =>
    K .normal (ee3 x3 x4) S := nr (by kernel_rfl)
noncomputable def E55 (b : Nat) (x3 x4 : PV) (S : Store) : RT := execL (C b) 0 c54 (k18 b) (ee3 x3 x4) S
@[go_sem] theorem E55_eq (b : Nat) (x3 x4 : PV) (S : Store) : E55 b x3 x4 S =
  execL (C b) 0 c56 (k58 b) (ee3 x3 x4) S := nr ((enter_seq c54_h (k58_l b)).trans (rfl))
@[go_sem] theorem k52_n (b : Nat) (x3 x4 : PV) (S : Store) : k52 b .normal (ee3 x3 x4) S =
  condC x4 ((k18 b) .normal (ee3 x3 x4) S)
    (E55 b x3 x4 S) := nr ((show k52 b .normal (ee3 x3 x4) S = execL (C b) 0 c51 (k18 b) (ee3 x3 x4) S from seqC_n _ _ _ _).trans (execL_cond c51_h (execL_skip (by kernel_rfl)) (rfl) rfl))
theorem k52_l (b : Nat) : seqC (fun e S => execL (C b) 0 c51 (k18 b) e S) (k18 b) = k52 b := rfl
@[go_sem] theorem g120 (b : Nat) (K : KT) (x3 x4 : PV) (S : Store) : execL (C b) 0 c50 K (ee3 x3 x4) S =
  withV (evBin .eql (tyi Try.prog 3) x3 (.int .i64 33)) fun x9 =>
    withV (some x9) fun x4 =>
    K .normal (ee3 x3 x4) S := nr (by kernel_rfl)
noncomputable def E49 (b : Nat) (x3 x4 : PV) (S : Store) : RT := execL (C b) 0 c48 (k18 b) (ee3 x3 x4) S
@[go_sem] theorem E49_eq (b : Nat) (x3 x4 : PV) (S : Store) : E49 b x3 x4 S =
  execL (C b) 0 c50 (k52 b) (ee3 x3 x4) S := nr ((enter_seq c48_h (k52_l b)).trans (rfl))
@[go_sem] theorem k46_n (b : Nat) (x3 x4 : PV) (S : Store) : k46 b .normal (ee3 x3 x4) S =
  condC x4 ((k18 b) .normal (ee3 x3 x4) S)
    (E49 b x3 x4 S) := nr ((show k46 b .normal (ee3 x3 x4) S = execL (C b) 0 c45 (k18 b) (ee3 x3 x4) S from seqC_n _ _ _ _).trans (execL_cond c45_h (execL_skip (by kernel_rfl)) (rfl) rfl))
theorem k46_l (b : Nat) : seqC (fun e S => execL (C b) 0 c45 (k18 b) e S) (k18 b) = k46 b := rfl
@[go_sem] theorem g121 (b : Nat) (K : KT) (x3 x4 : PV) (S : Store) : execL (C b) 0 c44 K (ee3 x3 x4) S =
  withV (evBin .eql (tyi Try.prog 3) x3 (.int .i64 11)) fun x8 =>
    withV (some x8) fun x4 =>
    K .normal (ee3 x3 x4) S := nr (by kernel_rfl)
noncomputable def E43 (b : Nat) (x3 x4 : PV) (S : Store) : RT := execL (C b) 0 c42 (k18 b) (ee3 x3 x4) S
@[go_sem] theorem E43_eq (b : Nat) (x3 x4 : PV) (S : Store) : E43 b x3 x4 S =
  execL (C b) 0 c44 (k46 b) (ee3 x3 x4) S := nr ((enter_seq c42_h (k46_l b)).trans (rfl))
@[go_sem] theorem k40_n (b : Nat) (x3 x4 : PV) (S : Store) : k40 b .normal (ee3 x3 x4) S =
  condC x4 ((k18 b) .normal (ee3 x3 x4) S)
    (E43 b x3 x4 S) := nr ((show k40 b .normal (ee3 x3 x4) S = execL (C b) 0 c39 (k18 b) (ee3 x3 x4) S from seqC_n _ _ _ _).trans (execL_cond c39_h (execL_skip (by kernel_rfl)) (rfl) rfl))
theorem k40_l (b : Nat) : seqC (fun e S => execL (C b) 0 c39 (k18 b) e S) (k18 b) = k40 b := rfl
@[go_sem] theorem g122 (b : Nat) (K : KT) (x3 x4 : PV) (S : Store) : execL (C b) 0 c38 K (ee3 x3 x4) S =
  withV (evBin .eql (tyi Try.prog 3) x3 (.int .i64 10)) fun x7 =>
    withV (some x7) fun x4 =>
    K .normal (ee3 x3 x4) S := nr (by kernel_rfl)
noncomputable def E37 (b : Nat) (x3 x4 : PV) (S : Store) : RT := execL (C b) 0 c36 (k18 b) (ee3 x3 x4) S
@[go_sem] theorem E37_eq (b : Nat) (x3 x4 : PV) (S : Store) : E37 b x3 x4 S =
  execL (C b) 0 c38 (k40 b) (ee3 x3 x4) S := nr ((enter_seq c36_h (k40_l b)).trans (rfl))
@[go_sem] theorem k34_n (b : Nat) (x3 x4 : PV) (S : Store) : k34 b .normal (ee3 x3 x4) S =
  condC x4 ((k18 b) .normal (ee3 x3 x4) S)
    (E37 b x3 x4 S) := nr ((show k34 b .normal (ee3 x3 x4) S = execL (C b) 0 c33 (k18 b) (ee3 x3 x4) S from seqC_n _ _ _ _).trans (execL_cond c33_h (execL_skip (by kernel_rfl)) (rfl) rfl))
theorem k34_l (b : Nat) : seqC (fun e S => execL (C b) 0 c33 (k18 b) e S) (k18 b) = k34 b := rfl
@[go_sem] theorem g123 (b : Nat) (K : KT) (x3 x4 : PV) (S : Store) : execL (C b) 0 c32 K (ee3 x3 x4) S =
  withV (evBin .eql (tyi Try.prog 3) x3 (.int .i64 3)) fun x6 =>
    withV (some x6) fun x4 =>
    K .normal (ee3 x3 x4) S := nr (by kernel_rfl)
noncomputable def E31 (b : Nat) (x3 x4 : PV) (S : Store) : RT := execL (C b) 0 c30 (k18 b) (ee3 x3 x4) S
@[go_sem] theorem E31_eq (b : Nat) (x3 x4 : PV) (S : Store) : E31 b x3 x4 S =
  execL (C b) 0 c32 (k34 b) (ee3 x3 x4) S := nr ((enter_seq c30_h (k34_l b)).trans (rfl))
@[go_sem] theorem k28_n (b : Nat) (x3 x4 : PV) (S : Store) : k28 b .normal (ee3 x3 x4) S =
  condC x4 ((k18 b) .normal (ee3 x3 x4) S)
    (E31 b x3 x4 S) := nr ((show k28 b .normal (ee3 x3 x4) S = execL (C b) 0 c27 (k18 b) (ee3 x3 x4) S from seqC_n _ _ _ _).trans (execL_cond c27_h (execL_skip (by kernel_rfl)) (rfl) rfl))
theorem k28_l (b : Nat) : seqC (fun e S => execL (C b) 0 c27 (k18 b) e S) (k18 b) = k28 b := rfl
@[go_sem] theorem g124 (b : Nat) (K : KT) (x3 : PV) (S : Store) : execL (C b) 0 c26 K (ee2 x3) S =
  withV (evBin .eql (tyi Try.prog 3) x3 (.int .i64 2)) fun x5 =>
    withV (some x5) fun x4 =>
    K .normal (ee3 x3 x4) S := nr (by kernel_rfl)
@[go_sem] theorem k13_n (b : Nat) (x3 : PV) (S : Store) : k13 b .normal (ee2 x3) S =
  execL (C b) 0 c26 (k28 b) (ee2 x3) S := nr ((show k13 b .normal (ee2 x3) S = execL (C b) 0 c12 (k8 b) (ee2 x3) S from seqC_n _ _ _ _).trans ((show execL (C b) 0 c12 (k8 b) (ee2 x3) S = execL (C b) 0 c14 (k15 b) (ee2 x3) S from execL_block c12_h).trans ((enter_seq c14_h (k18_l b)).trans ((enter_seq c16_h (k28_l b)).trans (rfl)))))
theorem k13_l (b : Nat) : seqC (fun e S => execL (C b) 0 c12 (k8 b) e S) (k8 b) = k13 b := rfl
@[go_sem] theorem g125 (b : Nat) (K : KT) (x0 : PV) (S : Store) : execL (C b) 0 c11 K (ee0 x0) S =
  withV (some x0) fun x3 =>
    K .normal (ee2 x3) S := nr (by kernel_rfl)
@[go_sem] theorem k10_n (b : Nat) (x0 : PV) (S : Store) : k10 b .normal (ee0 x0) S =
  execL (C b) 0 c11 (k13 b) (ee0 x0) S := nr ((show k10 b .normal (ee0 x0) S = execL (C b) 0 c3 (k8 b) (ee0 x0) S from seqC_n _ _ _ _).trans ((enter_seq c3_h (k13_l b)).trans (rfl)))
theorem k10_l (b : Nat) : seqC (fun e S => execL (C b) 0 c2 (k0 b) e S) (k0 b) = k10 b := link_seq c2_h (k8_l b)
@[go_sem] theorem g126 (b : Nat) (K : KT) (x0 : PV) (S : Store) : execL (C b) 0 c1 K (ee0 x0) S =
  withV (some (.bool false)) fun x2 =>
    K .normal (ee0 x0) S := nr (by kernel_rfl)
noncomputable def E (b : Nat) (x0 : PV) (S : Store) : RT := execL (C b) 0 code (k0 b) (ee0 x0) S
@[go_sem] theorem E_eq (b : Nat) (x0 : PV) (S : Store) : E b x0 S =
  execL (C b) 0 c1 (k10 b) (ee0 x0) S := nr ((enter_seq code_h (k10_l b)).trans (rfl))
theorem call {x0 : PV} {r : PV × Store} {v : PV} (h : E 0 x0 [] = some r) (hv : fzPV r.2 r.1 = some v) : callL Try.prog hints 87 [x0] = some v := callL_of (fn := Try.f87) (c := code) (by kernel_rfl) (by kernel_rfl) (by decide) (by kernel_rfl) (Nat.le_of_ble_eq_true (by kernel_rfl)) h hv
end F87
/-! ### isochroneref08.natural -/
namespace F88
def hint : Hint := { keep := [], loops := [], regs := [(0, [1]), (1, [1, 23]), (2, [2]), (3, [2])] }
noncomputable def C (b : Nat) : Ctx := ctxL Try.prog hints b hint
noncomputable def code : Code := Try.f88.body.get rfl
noncomputable def k0 (b : Nat) : KT := endC Try.prog Try.f88
def ee0 (x1 : PV) : Env := [(1, x1)]
def ee1 (x1 x23 : PV) : Env := [(1, x1), (23, x23)]
def ee2 (x2 : PV) : Env := [(2, x2)]
@[go_sem] theorem k0_ret2 (b : Nat) (x2 : PV) (S : Store) : k0 b .ret (ee2 x2) S = some (x2, S) := nr (by kernel_rfl)
noncomputable def c1 : Code := at0 code
noncomputable def c2 : Code := at1 code
theorem code_h : code = .seq c1 c2 := by kernel_rfl
noncomputable def c3 : Code := at0 c2
noncomputable def c4 : Code := at1 c2
theorem c2_h : c2 = .seq c3 c4 := by kernel_rfl
noncomputable def c5 : Code := at0 c4
noncomputable def c6 : Code := at1 c4
theorem c4_h : c4 = .seq c5 c6 := by kernel_rfl
noncomputable def k7 (b : Nat) : KT := seqC (fun e S => execL (C b) 0 c6 (k0 b) e S) (k0 b)
@[go_sem] theorem k7_n (b : Nat) (x2 : PV) (S : Store) : k7 b .normal (ee2 x2) S =
  (k0 b) .ret (ee2 x2) S := nr ((show k7 b .normal (ee2 x2) S = execL (C b) 0 c6 (k0 b) (ee2 x2) S from seqC_n _ _ _ _).trans (execL_ret (by kernel_rfl)))
theorem k7_l (b : Nat) : seqC (fun e S => execL (C b) 0 c6 (k0 b) e S) (k0 b) = k7 b := rfl
noncomputable def k8 (b : Nat) : KT := seqC (fun e S => execL (C b) 0 c5 (k7 b) e S) (k0 b)
@[go_sem] theorem g9 (b : Nat) (K : KT) (x1 x23 : PV) (S : Store) : execL (C b) 0 c5 K (ee1 x1 x23) S =
  withV (evFieldAddr (tyi Try.prog 51) 1 x1) fun x24 =>
    withV (evLoad (tyi Try.prog 49) S x24) fun x25 =>
    withV (lenO (tyi Try.prog 49) x25) fun x26 =>
    withV (evBin .eql (tyi Try.prog 3) x26 (.int .i64 0)) fun x27 =>
    withV (some x27) fun x28 =>
    withV (gval x28 false (evFieldAddr (tyi Try.prog 51) 1 x1)) fun x29 =>
    withV (gval x28 false (evLoad (tyi Try.prog 49) S x29)) fun x30 =>
    withV (gval x28 false (evFieldAddr (tyi Try.prog 51) 1 x1)) fun x31 =>
    withV (gval x28 false (evLoad (tyi Try.prog 49) S x31)) fun x32 =>
    withV (gval x28 false (lenO (tyi Try.prog 49) x32)) fun x33 =>
    withV (gval x28 false (evBin .sub (tyi Try.prog 3) x33 (.int .i64 1))) fun x34 =>
    withV (gval x28 false (indexAddrO Try.prog 49 S x30 x34)) fun x35 =>
    withV (gval x28 false (evLoad (tyi Try.prog 76) S x35)) fun x36 =>
    withV (gval x28 false (evBin .neq (tyi Try.prog 76) x36 (.int .u32 0))) fun x37 =>
    withV (pickO x28 (.bool true) x37) fun x38 =>
    withV (some x38) fun x2 =>
    K .normal (ee2 x2) S := nr (by kernel_rfl)
@[go_sem] theorem k8_n (b : Nat) (e : Env) (S : Store) : k8 b .normal e S = execL (C b) 0 c5 (k7 b) e S := nr (seqC_n _ _ _ _)
@[go_sem] theorem k8_ret (b : Nat) (e : Env) (S : Store) : k8 b .ret e S = (k0 b) .ret e S := nr (seqC_r _ _ _ _)
theorem k8_l (b : Nat) : seqC (fun e S => execL (C b) 0 c4 (k0 b) e S) (k0 b) = k8 b := link_seq c4_h (k7_l b)
noncomputable def k10 (b : Nat) : KT := seqC (fun e S => execL (C b) 0 c3 (k8 b) e S) (k0 b)
noncomputable def c11 : Code := at0 c3
noncomputable def c12 : Code := at1 c3
theorem c3_h : c3 = .seq c11 c12 := by kernel_rfl
noncomputable def k13 (b : Nat) : KT := seqC (fun e S => execL (C b) 0 c12 (k8 b) e S) (k8 b)
noncomputable def c14 : Code := atT c12
noncomputable def c15 : Code := atF c12
theorem c12_h : c12 = .cond (.tmp 23) c14 c15 := by kernel_rfl
noncomputable def c17 : Code := at0 c14
noncomputable def c18 : Code := at1 c14
theorem c14_h : c14 = .seq c17 c18 := by kernel_rfl
noncomputable def k19 (b : Nat) : KT := seqC (fun e S => execL (C b) 0 c18 (k8 b) e S) (k8 b)
@[go_sem] theorem k19_n (b : Nat) (x2 : PV) (S : Store) : k19 b .normal (ee2 x2) S =
  (k8 b) .ret (ee2 x2) S := nr ((show k19 b .normal (ee2 x2) S = execL (C b) 0 c18 (k8 b) (ee2 x2) S from seqC_n _ _ _ _).trans (execL_ret (by kernel_rfl)))
theorem k19_l (b : Nat) : seqC (fun e S => execL (C b) 0 c18 (k8 b) e S) (k8 b) = k19 b := rfl
@[go_sem] theorem g20 (b : Nat) (K : KT) (x1 x23 : PV) (S : Store) : execL (C b) 0 c17 K (ee1 x1 x23) S =
  withV (some (.bool false)) fun x2 =>
    K .normal (ee2 x2) S := nr (by kernel_rfl)
noncomputable def E16 (b : Nat) (x1 x23 : PV) (S : Store) : RT := execL (C b) 0 c14 (k8 b) (ee1 x1 x23) S
@[go_sem] theorem E16_eq (b : Nat) (x1 x23 : PV) (S : Store) : E16 b x1 x23 S =
  execL (C b) 0 c17 (k19 b) (ee1 x1 x23) S := nr ((enter_seq c14_h (k19_l b)).trans (rfl))
@[go_sem] theorem k13_n (b : Nat) (x1 x23 : PV) (S : Store) : k13 b .normal (ee1 x1 x23) S =
  condC x23 (E16 b x1 x23 S)
    ((k8 b) .normal (ee1 x1 x23) S) := nr ((show k13 b .normal (ee1 x1 x23) S = execL (C b) 0 c12 (k8 b) (ee1 x1 x23) S from seqC_n _ _ _ _).trans (execL_cond c12_h (rfl) (execL_skip (by kernel_rfl)) rfl))
theorem k13_l (b : Nat) : seqC (fun e S => execL (C b) 0 c12 (k8 b) e S) (k8 b) = k13 b := rfl
@[go_sem] theorem g21 (b : Nat) (K : KT) (x1 : PV) (S : Store) : execL (C b) 0 c11 K (ee0 x1) S =
  withV (evFieldAddr (tyi Try.prog 51) 0 x1) fun x3 =>
    withV (evLoad (tyi Try.prog 4) S x3) fun x4 =>
    withV (some x4) fun x5 =>
    withV (gval x5 false (evFieldAddr (tyi Try.prog 51) 2 x1)) fun x6 =>
    withV (gval x5 false (evLoad (tyi Try.prog 49) S x6)) fun x7 =>
    withV (gval x5 false (lenO (tyi Try.prog 49) x7)) fun x8 =>
    withV (gval x5 false (evBin .neq (tyi Try.prog 3) x8 (.int .i64 1))) fun x9 =>
    withV (pickO x5 (.bool true) x9) fun x10 =>
    withV (some x10) fun x11 =>
    withV (gval x11 false (evFieldAddr (tyi Try.prog 51) 2 x1)) fun x12 =>
    withV (gval x11 false (evLoad (tyi Try.prog 49) S x12)) fun x13 =>
    withV (gval x11 false (indexAddrO Try.prog 49 S x13 (.int .i64 0))) fun x14 =>
    withV (gval x11 false (evLoad (tyi Try.prog 76) S x14)) fun x15 =>
    withV (gval x11 false (evBin .neq (tyi Try.prog 76) x15 (.int .u32 1))) fun x16 =>
    withV (pickO x11 (.bool true) x16) fun x17 =>
    withV (some x17) fun x18 =>
    withV (gval x18 false (evFieldAddr (tyi Try.prog 51) 1 x1)) fun x19 =>
    withV (gval x18 false (evLoad (tyi Try.prog 49) S x19)) fun x20 =>
    withV (gval x18 false (lenO (tyi Try.prog 49) x20)) fun x21 =>
    withV (gval x18 false (evBin .gtr (tyi Try.prog 3) x21 (.int .i64 20))) fun x22 =>
    withV (pickO x18 (.bool true) x22) fun x23 =>
    K .normal (ee1 x1 x23) S := nr (by kernel_rfl)
@[go_sem] theorem k10_n (b : Nat) (x1 : PV) (S : Store) : k10 b .normal (ee0 x1) S =
  execL (C b) 0 c11 (k13 b) (ee0 x1) S := nr ((show k10 b .normal (ee0 x1) S = execL (C b) 0 c3 (k8 b) (ee0 x1) S from seqC_n _ _ _ _).trans ((enter_seq c3_h (k13_l b)).trans (rfl)))
theorem k10_l (b : Nat) : seqC (fun e S => execL (C b) 0 c2 (k0 b) e S) (k0 b) = k10 b := link_seq c2_h (k8_l b)
@[go_sem] theorem g22 (b : Nat) (K : KT) (x0 : PV) (S : Store) : execL (C b) 0 c1 K [(0, x0)] S =
  withN (boxed S (List.length S) (TI.size (tyi Try.prog 51)) x0) S fun x1 S =>
    withV (some (.bool false)) fun x2 =>
    K .normal (ee0 x1) S := nr (by kernel_rfl)
noncomputable def E (b : Nat) (x0 : PV) (S : Store) : RT := execL (C b) 0 code (k0 b) [(0, x0)] S
@[go_sem] theorem E_eq (b : Nat) (x0 : PV) (S : Store) : E b x0 S =
  execL (C b) 0 c1 (k10 b) [(0, x0)] S := nr ((enter_seq code_h (k10_l b)).trans (rfl))
theorem call {x0 : PV} {r : PV × Store} {v : PV} (h : E 0 x0 [] = some r) (hv : fzPV r.2 r.1 = some v) : callL Try.prog hints 88 [x0] = some v := callL_of (fn := Try.f88) (c := code) (by kernel_rfl) (by kernel_rfl) (by decide) (by kernel_rfl) (Nat.le_of_ble_eq_true (by kernel_rfl)) h hv
end F88
/-! ### isochroneref08.kids -/
namespace F90
def hint : Hint := { keep := [], loops := [], regs := [(0, [0]), (1, [3]), (2, [3, 4]), (3, [3, 4]), (4, [3, 4]), (5, [3, 4]), (6, [3, 4]), (7, [2]), (8, [3, 10]), (9, [3, 10]), (10, [3, 10]), (11, [3, 10]), (12, [3, 10]), (13, [3, 10]), (14, [3, 10]), (15, [3, 10]), (16, [3, 10]), (17, [3, 10]), (18, [3, 10]), (19, [2]), (20, [3, 22]), (21, [3, 22]), (22, [3, 22]), (23, [3, 22]), (24, [3, 22]), (25, [2]), (26, [3, 28]), (27, [3, 28]), (28, [3, 28]), (29, [3, 28]), (30, [2]), (31, [3, 33]), (32, [3, 33]), (33, [2]), (34, [3, 36]), (35, [3, 36]), (36, [2]), (37, [3, 39]), (38, [3, 39]), (39, [2]), (40, [2])] }
noncomputable def C (b : Nat) : Ctx := ctxL Try.prog hints b hint
noncomputable def code : Code := Try.f90.body.get rfl
noncomputable def k0 (b : Nat) : KT := endC Try.prog Try.f90
def ee0 (x0 : PV) : Env := [(0, x0)]
def ee1 (x2 : PV) : Env := [(2, x2)]
@[go_sem] theorem k0_ret1 (b : Nat) (x2 : PV) (S : Store) : k0 b .ret (ee1 x2) S = some (x2, S) := nr (by kernel_rfl)
def ee2 (x3 : PV) : Env := [(3, x3)]
def ee3 (x3 x4 : PV) : Env := [(3, x3), (4, x4)]
def ee4 (x3 x10 : PV) : Env := [(3, x3), (10, x10)]
def ee5 (x3 x22 : PV) : Env := [(3, x3), (22, x22)]
def ee6 (x3 x28 : PV) : Env := [(3, x3), (28, x28)]
def ee7 (x3 x33 : PV) : Env := [(3, x3), (33, x33)]
def ee8 (x3 x36 : PV) : Env := [(3, x3), (36, x36)]
def ee9 (x3 x39 : PV) : Env := [(3, x3), (39, x39)]
noncomputable def c1 : Code := at0 code
noncomputable def c2 : Code := at1 code
theorem code_h : code = .seq c1 c2 := by kernel_rfl
noncomputable def c3 : Code := at0 c2
noncomputable def c4 : Code := at1 c2
theorem c2_h : c2 = .seq c3 c4 := by kernel_rfl
noncomputable def c5 : Code := at0 c4
noncomputable def c6 : Code := at1 c4
theorem c4_h : c4 = .seq c5 c6 := by kernel_rfl
noncomputable def k7 (b : Nat) : KT := seqC (fun e S => execL (C b) 0 c6 (k0 b) e S) (k0 b)
@[go_sem] theorem k7_n (b : Nat) (x2 : PV) (S : Store) : k7 b .normal (ee1 x2) S =
  (k0 b) .ret (ee1 x2) S := nr ((show k7 b .normal (ee1 x2) S = execL (C b) 0 c6 (k0 b) (ee1 x2) S from seqC_n _ _ _ _).trans (execL_ret (by kernel_rfl)))
theorem k7_l (b : Nat) : seqC (fun e S => execL (C b) 0 c6 (k0 b) e S) (k0 b) = k7 b := rfl
noncomputable def k8 (b : Nat) : KT := seqC (fun e S => execL (C b) 0 c5 (k7 b) e S) (k0 b)
@[go_sem] theorem g9 (b : Nat) (K : KT) (x3 x39 : PV) (S : Store) : execL (C b) 0 c5 K (ee9 x3 x39) S =
  withV (some (.str ⟨#[]⟩)) fun x2 =>
    K .normal (ee1 x2) S := nr (by kernel_rfl)
@[go_sem] theorem k8_n (b : Nat) (e : Env) (S : Store) : k8 b .normal e S = execL (C b) 0 c5 (k7 b) e S := nr (seqC_n _ _ _ _)
@[go_sem] theorem k8_ret (b : Nat) (e : Env) (S : Store) : k8 b .ret e S = (k0 b) .ret e S := nr (seqC_r _ _ _ _)
theorem k8_l (b : Nat) : seqC (fun e S => execL (C b) 0 c4 (k0 b) e S) (k0 b) = k8 b := link_seq c4_h (k7_l b)
noncomputable def k10 (b : Nat) : KT := seqC (fun e S => execL (C b) 0 c3 (k8 b) e S) (k0 b)
noncomputable def c11 : Code := at0 c3
noncomputable def c12 : Code := at1 c3
theorem c3_h : c3 = .seq c11 c12 := by kernel_rfl
noncomputable def k13 (b : Nat) : KT := seqC (fun e S => execL (C b) 0 c12 (k8 b) e S) (k8 b)
noncomputable def c14 : Code := atB c12
theorem c12_h : c12 = .block 0 c14 := by kernel_rfl
noncomputable def k15 (b : Nat) : KT := blockC 0 (k8 b)
@[go_sem] theorem k15_n (b : Nat) (e : Env) (S : Store) : k15 b .normal e S = (k8 b) .normal e S := nr (blockC_n _ _ _ _)
@[go_sem] theorem k15_ret (b : Nat) (e : Env) (S : Store) : k15 b .ret e S = (k8 b) .ret e S := nr (blockC_r _ _ _ _)
noncomputable def c16 : Code := at0 c14
noncomputable def c17 : Code := at1 c14
theorem c14_h : c14 = .seq c16 c17 := by kernel_rfl
noncomputable def k18 (b : Nat) : KT := seqC (fun e S => execL (C b) 0 c17 (k15 b) e S) (k15 b)
noncomputable def c19 : Code := atT c17
noncomputable def c20 : Code := atF c17
theorem c17_h : c17 = .cond (.tmp 4) c19 c20 := by kernel_rfl
noncomputable def c22 : Code := at0 c19
noncomputable def c23 : Code := at1 c19
theorem c19_h : c19 = .seq c22 c23 := by kernel_rfl
noncomputable def k24 (b : Nat) : KT := seqC (fun e S => execL (C b) 0 c23 (k15 b) e S) (k15 b)
@[go_sem] theorem k24_n (b : Nat) (x2 : PV) (S : Store) : k24 b .normal (ee1 x2) S =
  (k15 b) .ret (ee1 x2) S := nr ((show k24 b .normal (ee1 x2) S = execL (C b) 0 c23 (k15 b) (ee1 x2) S from seqC_n _ _ _ _).trans (execL_ret (by kernel_rfl)))
theorem k24_l (b : Nat) : seqC (fun e S => execL (C b) 0 c23 (k15 b) e S) (k15 b) = k24 b := rfl
@[go_sem] theorem g25 (b : Nat) (K : KT) (x3 x4 : PV) (S : Store) : execL (C b) 0 c22 K (ee3 x3 x4) S =
  withV (some (.str ⟨#[49]⟩)) fun x2 =>
    K .normal (ee1 x2) S := nr (by kernel_rfl)
noncomputable def E21 (b : Nat) (x3 x4 : PV) (S : Store) : RT := execL (C b) 0 c19 (k15 b) (ee3 x3 x4) S
@[go_sem] theorem E21_eq (b : Nat) (x3 x4 : PV) (S : Store) : E21 b x3 x4 S =
  execL (C b) 0 c22 (k24 b) (ee3 x3 x4) S := nr ((enter_seq c19_h (k24_l b)).trans (rfl))
noncomputable def c27 : Code := at0 c20
noncomputable def c28 : Code := at1 c20
theorem c20_h : c20 = .seq c27 c28 := by kernel_rfl
noncomputable def k29 (b : Nat) : KT := seqC (fun e S => execL (C b) 0 c28 (k15 b) e S) (k15 b)
noncomputable def c30 : Code := atT c28
noncomputable def c31 : Code := atF c28
theorem c28_h : c28 = .cond (.tmp 10) c30 c31 := by kernel_rfl
noncomputable def c33 : Code := at0 c30
noncomputable def c34 : Code := at1 c30
theorem c30_h : c30 = .seq c33 c34 := by kernel_rfl
noncomputable def k35 (b : Nat) : KT := seqC (fun e S => execL (C b) 0 c34 (k15 b) e S) (k15 b)
@[go_sem] theorem k35_n (b : Nat) (x2 : PV) (S : Store) : k35 b .normal (ee1 x2) S =
  (k15 b) .ret (ee1 x2) S := nr ((show k35 b .normal (ee1 x2) S = execL (C b) 0 c34 (k15 b) (ee1 x2) S from seqC_n _ _ _ _).trans (execL_ret (by kernel_rfl)))
theorem k35_l (b : Nat) : seqC (fun e S => execL (C b) 0 c34 (k15 b) e S) (k15 b) = k35 b := rfl
@[go_sem] theorem g36 (b : Nat) (K : KT) (x3 x10 : PV) (S : Store) : execL (C b) 0 c33 K (ee4 x3 x10) S =
  withV (some (.str ⟨#[49, 49]⟩)) fun x2 =>
    K .normal (ee1 x2) S := nr (by kernel_rfl)
noncomputable def E32 (b : Nat) (x3 x10 : PV) (S : Store) : RT := execL (C b) 0 c30 (k15 b) (ee4 x3 x10) S
@[go_sem] theorem E32_eq (b : Nat) (x3 x10 : PV) (S : Store) : E32 b x3 x10 S =
  execL (C b) 0 c33 (k35 b) (ee4 x3 x10) S := nr ((enter_seq c30_h (k35_l b)).trans (rfl))
noncomputable def c38 : Code := at0 c31
noncomputable def c39 : Code := at1 c31
theorem c31_h : c31 = .seq c38 c39 := by kernel_rfl
noncomputable def k40 (b : Nat) : KT := seqC (fun e S => execL (C b) 0 c39 (k15 b) e S) (k15 b)
noncomputable def c41 : Code := atT c39
noncomputable def c42 : Code := atF c39
theorem c39_h : c39 = .cond (.tmp 22) c41 c42 := by kernel_rfl
noncomputable def c44 : Code := at0 c41
noncomputable def c45 : Code := at1 c41
theorem c41_h : c41 = .seq c44 c45 := by kernel_rfl
noncomputable def k46 (b : Nat) : KT := seqC (fun e S => execL (C b) 0 c45 (k15 b) e S) (k15 b)
@[go_sem] theorem k46_n (b : Nat) (x2 : PV) (S : Store) : k46 b .normal (ee1 x2) S =
  (k15 b) .ret (ee1 x2) S := nr ((show k46 b .normal (ee1 x2) S = execL (C b) 0 c45 (k15 b) (ee1 x2) S from seqC_n _ _ _ _).trans (execL_ret (by kernel_rfl)))
theorem k46_l (b : Nat) : seqC (fun e S => execL (C b) 0 c45 (k15 b) e S) (k15 b) = k46 b := rfl
@[go_sem] theorem g47 (b : Nat) (K : KT) (x3 x22 : PV) (S : Store) : execL (C b) 0 c44 K (ee5 x3 x22) S =
  withV (some (.str ⟨#[50]⟩)) fun x2 =>
    K .normal (ee1 x2) S := nr (by kernel_rfl)
noncomputable def E43 (b : Nat) (x3 x22 : PV) (S : Store) : RT := execL (C b) 0 c41 (k15 b) (ee5 x3 x22) S
@[go_sem] theorem E43_eq (b : Nat) (x3 x22 : PV) (S : Store) : E43 b x3 x22 S =
  execL (C b) 0 c44 (k46 b) (ee5 x3 x22) S := nr ((enter_seq c41_h (k46_l b)).trans (rfl))
noncomputable def c49 : Code := at0 c42
noncomputable def c50 : Code := at1 c42
theorem c42_h : c42 = .seq c49 c50 := by kernel_rfl
noncomputable def k51 (b : Nat) : KT := seqC (fun e S => execL (C b) 0 c50 (k15 b) e S) (k15 b)
noncomputable def c52 : Code := atT c50
noncomputable def c53 : Code := atF c50
theorem c50_h : c50 = .cond (.tmp 28) c52 c53 := by kernel_rfl
noncomputable def c55 : Code := at0 c52
noncomputable def c56 : Code := at1 c52
theorem c52_h : c52 = .seq c55 c56 := by kernel_rfl
noncomputable def k57 (b : Nat) : KT := seqC (fun e S => execL (C b) 0 c56 (k15 b) e S) (k15 b)
@[go_sem] theorem k57_n (b : Nat) (x2 : PV) (S : Store) : k57 b .normal (ee1 x2) S =
  (k15 b) .ret (ee1 x2) S := nr ((show k57 b .normal (ee1 x2) S = execL (C b) 0 c56 (k15 b) (ee1 x2) S from seqC_n _ _ _ _).trans (execL_ret (by kernel_rfl)))
theorem k57_l (b : Nat) : seqC (fun e S => execL (C b) 0 c56 (k15 b) e S) (k15 b) = k57 b := rfl
@[go_sem] theorem g58 (b : Nat) (K : KT) (x3 x28 : PV) (S : Store) : execL (C b) 0 c55 K (ee6 x3 x28) S =
  withV (some (.str ⟨#[50, 50]⟩)) fun x2 =>
    K .normal (ee1 x2) S := nr (by kernel_rfl)
noncomputable def E54 (b : Nat) (x3 x28 : PV) (S : Store) : RT := execL (C b) 0 c52 (k15 b) (ee6 x3 x28) S
@[go_sem] theorem E54_eq (b : Nat) (x3 x28 : PV) (S : Store) : E54 b x3 x28 S =
  execL (C b) 0 c55 (k57 b) (ee6 x3 x28) S := nr ((enter_seq c52_h (k57_l b)).trans (rfl))
noncomputable def c60 : Code := at0 c53
noncomputable def c61 : Code := at1 c53
theorem c53_h : c53 = .seq c60 c61 := by kernel_rfl
noncomputable def k62 (b : Nat) : KT := seqC (fun e S => execL (C b) 0 c61 (k15 b) e S) (k15 b)
noncomputable def c63 : Code := atT c61
noncomputable def c64 : Code := atF c61
theorem c61_h : c61 = .cond (.tmp 33) c63 c64 := by kernel_rfl
noncomputable def c66 : Code := at0 c63
noncomputable def c67 : Code := at1 c63
theorem c63_h : c63 = .seq c66 c67 := by kernel_rfl
noncomputable def k68 (b : Nat) : KT := seqC (fun e S => execL (C b) 0 c67 (k15 b) e S) (k15 b)
@[go_sem] theorem k68_n (b : Nat) (x2 : PV) (S : Store) : k68 b .normal (ee1 x2) S =
  (k15 b) .ret (ee1 x2) S := nr ((show k68 b .normal (ee1 x2) S = execL (C b) 0 c67 (k15 b) (ee1 x2) S from seqC_n _ _ _ _).trans (execL_ret (by kernel_rfl)))
theorem k68_l (b : Nat) : seqC (fun e S => execL (C b) 0 c67 (k15 b) e S) (k15 b) = k68 b := rfl
@[go_sem] theorem g69 (b : Nat) (K : KT) (x3 x33 : PV) (S : Store) : execL (C b) 0 c66 K (ee7 x3 x33) S =
  withV (some (.str ⟨#[51, 50]⟩)) fun x2 =>
    K .normal (ee1 x2) S := nr (by kernel_rfl)
noncomputable def E65 (b : Nat) (x3 x33 : PV) (S : Store) : RT := execL (C b) 0 c63 (k15 b) (ee7 x3 x33) S
@[go_sem] theorem E65_eq (b : Nat) (x3 x33 : PV) (S : Store) : E65 b x3 x33 S =
  execL (C b) 0 c66 (k68 b) (ee7 x3 x33) S := nr ((enter_seq c63_h (k68_l b)).trans (rfl))
noncomputable def c71 : Code := at0 c64
noncomputable def c72 : Code := at1 c64
theorem c64_h : c64 = .seq c71 c72 := by kernel_rfl
noncomputable def k73 (b : Nat) : KT := seqC (fun e S => execL (C b) 0 c72 (k15 b) e S) (k15 b)
noncomputable def c74 : Code := atT c72
noncomputable def c75 : Code := atF c72
theorem c72_h : c72 = .cond (.tmp 36) c74 c75 := by kernel_rfl
noncomputable def c77 : Code := at0 c74
noncomputable def c78 : Code := at1 c74
theorem c74_h : c74 = .seq c77 c78 := by kernel_rfl
noncomputable def k79 (b : Nat) : KT := seqC (fun e S => execL (C b) 0 c78 (k15 b) e S) (k15 b)
@[go_sem] theorem k79_n (b : Nat) (x2 : PV) (S : Store) : k79 b .normal (ee1 x2) S =
  (k15 b) .ret (ee1 x2) S := nr ((show k79 b .normal (ee1 x2) S = execL (C b) 0 c78 (k15 b) (ee1 x2) S from seqC_n _ _ _ _).trans (execL_ret (by kernel_rfl)))
theorem k79_l (b : Nat) : seqC (fun e S => execL (C b) 0 c78 (k15 b) e S) (k15 b) = k79 b := rfl
@[go_sem] theorem g80 (b : Nat) (K : KT) (x3 x36 : PV) (S : Store) : execL (C b) 0 c77 K (ee8 x3 x36) S =
  withV (some (.str ⟨#[51, 51]⟩)) fun x2 =>
    K .normal (ee1 x2) S := nr (by kernel_rfl)
noncomputable def E76 (b : Nat) (x3 x36 : PV) (S : Store) : RT := execL (C b) 0 c74 (k15 b) (ee8 x3 x36) S
@[go_sem] theorem E76_eq (b : Nat) (x3 x36 : PV) (S : Store) : E76 b x3 x36 S =
  execL (C b) 0 c77 (k79 b) (ee8 x3 x36) S := nr ((enter_seq c74_h (k79_l b)).trans (rfl))
noncomputable def c82 : Code := at0 c75
noncomputable def c83 : Code := at1 c75
theorem c75_h : c75 = .seq c82 c83 := by kernel_rfl
noncomputable def k84 (b : Nat) : KT := seqC (fun e S => execL (C b) 0 c83 (k15 b) e S) (k15 b)
noncomputable def c85 : Code := atT c83
noncomputable def c86 : Code := atF c83
theorem c83_h : c83 = .cond (.tmp 39) c85 c86 := by kernel_rfl
noncomputable def c88 : Code := at0 c85
noncomputable def c89 : Code := at1 c85
theorem c85_h : c85 = .seq c88 c89 := by kernel_rfl
noncomputable def k90 (b : Nat) : KT := seqC (fun e S => execL (C b) 0 c89 (k15 b) e S) (k15 b)
@[go_sem] theorem k90_n (b : Nat) (x2 : PV) (S : Store) : k90 b .normal (ee1 x2) S =
  (k15 b) .ret (ee1 x2) S := nr ((show k90 b .normal (ee1 x2) S = execL (C b) 0 c89 (k15 b) (ee1 x2) S from seqC_n _ _ _ _).trans (execL_ret (by kernel_rfl)))
theorem k90_l (b : Nat) : seqC (fun e S => execL (C b) 0 c89 (k15 b) e S) (k15 b) = k90 b := rfl
@[go_sem] theorem g91 (b : Nat) (K : KT) (x3 x39 : PV) (S : Store) : execL (C b) 0 c88 K (ee9 x3 x39) S =
  withV (some (.str ⟨#[51]⟩)) fun x2 =>
    K .normal (ee1 x2) S := nr (by kernel_rfl)
noncomputable def E87 (b : Nat) (x3 x39 : PV) (S : Store) : RT := execL (C b) 0 c85 (k15 b) (ee9 x3 x39) S
@[go_sem] theorem E87_eq (b : Nat) (x3 x39 : PV) (S : Store) : E87 b x3 x39 S =
  execL (C b) 0 c88 (k90 b) (ee9 x3 x39) S := nr ((enter_seq c85_h (k90_l b)).trans (rfl))
@[go_sem] theorem k84_n (b : Nat) (x3 x39 : PV) (S : Store) : k84 b .normal (ee9 x3 x39) S =
  condC x39 (E87 b x3 x39 S)
    ((k15 b) .normal (ee9 x3 x39) S) := nr ((show k84 b .normal (ee9 x3 x39) S = execL (C b) 0 c83 (k15 b) (ee9 x3 x39) S from seqC_n _ _ _ _).trans (execL_cond c83_h (rfl) (execL_skip (by kernel_rfl)) rfl))
theorem k84_l (b : Nat) : seqC (fun e S => execL (C b) 0 c83 (k15 b) e S) (k15 b) = k84 b := rfl
noncomputable def c92 : Code := at0 c82
noncomputable def c93 : Code := at1 c82
theorem c82_h : c82 = .seq c92 c93 := by kernel_rfl
noncomputable def k94 (b : Nat) : KT := seqC (fun e S => execL (C b) 0 c93 (k84 b) e S) (k84 b)
noncomputable def c95 : Code := atT c93
noncomputable def c96 : Code := atF c93
theorem c93_h : c93 = .cond (.tmp 39) c95 c96 := by kernel_rfl
@[go_sem] theorem g98 (b : Nat) (K : KT) (x3 x39 : PV) (S : Store) : execL (C b) 0 c96 K (ee9 x3 x39) S =
  withV (evBin .eql (tyi Try.prog 3) x3 (.int .i64 60)) fun x41 =>
    withV (some x41) fun x39 =>
    K .normal (ee9 x3 x39) S := nr (by kernel_rfl)
noncomputable def E97 (b : Nat) (x3 x39 : PV) (S : Store) : RT := execL (C b) 0 c96 (k84 b) (ee9 x3 x39) S
@[go_sem] theorem E97_eq (b : Nat) (x3 x39 : PV) (S : Store) : E97 b x3 x39 S =
  execL (C b) 0 c96 (k84 b) (ee9 x3 x39) S := nr (rfl)
@[go_sem] theorem k94_n (b : Nat) (x3 x39 : PV) (S : Store) : k94 b .normal (ee9 x3 x39) S =
  condC x39 ((k84 b) .normal (ee9 x3 x39) S)
    (E97 b x3 x39 S) := nr ((show k94 b .normal (ee9 x3 x39) S = execL (C b) 0 c93 (k84 b) (ee9 x3 x39) S from seqC_n _ _ _ _).trans (execL_cond c93_h (execL_skip (by kernel_rfl)) (rfl) rfl))
theorem k94_l (b : Nat) : seqC (fun e S => execL (C b) 0 c93 (k84 b) e S) (k84 b) = k94 b := rfl
@[go_sem] theorem g99 (b : Nat) (K : KT) (x3 x36 : PV) (S : Store) : execL (C b) 0 c92 K (ee8 x3 x36) S =
  withV (evBin .eql (tyi Try.prog 3) x3 (.int .i64 59)) fun x40 =>
    withV (some x40) fun x39 =>
    K .normal (ee9 x3 x39) S := nr (by kernel_rfl)
noncomputable def E81 (b : Nat) (x3 x36 : PV) (S : Store) : RT := execL (C b) 0 c75 (k15 b) (ee8 x3 x36) S
@[go_sem] theorem E81_eq (b : Nat) (x3 x36 : PV) (S : Store) : E81 b x3 x36 S =
  execL (C b) 0 c92 (k94 b) (ee8 x3 x36) S := nr ((enter_seq c75_h (k84_l b)).trans ((enter_seq c82_h (k94_l b)).trans (rfl)))
@[go_sem] theorem k73_n (b : Nat) (x3 x36 : PV) (S : Store) : k73 b .normal (ee8 x3 x36) S =
  condC x36 (E76 b x3 x36 S)
    (E81 b x3 x36 S) := nr ((show k73 b .normal (ee8 x3 x36) S = execL (C b) 0 c72 (k15 b) (ee8 x3 x36) S from seqC_n _ _ _ _).trans (execL_cond c72_h (rfl) (rfl) rfl))
theorem k73_l (b : Nat) : seqC (fun e S => execL (C b) 0 c72 (k15 b) e S) (k15 b) = k73 b := rfl
noncomputable def c100 : Code := at0 c71
noncomputable def c101 : Code := at1 c71
theorem c71_h : c71 = .seq c100 c101 := by kernel_rfl
noncomputable def k102 (b : Nat) : KT := seqC (fun e S => execL (C b) 0 c101 (k73 b) e S) (k73 b)
noncomputable def c103 : Code := atT c101
noncomputable def c104 : Code := atF c101
theorem c101_h : c101 = .cond (.tmp 36) c103 c104 := by kernel_rfl
@[go_sem] theorem g106 (b : Nat) (K : KT) (x3 x36 : PV) (S : Store) : execL (C b) 0 c104 K (ee8 x3 x36) S =
  withV (evBin .eql (tyi Try.prog 3) x3 (.int .i64 58)) fun x38 =>
    withV (some x38) fun x36 =>
    K .normal (ee8 x3 x36) S := nr (by kernel_rfl)
noncomputable def E105 (b : Nat) (x3 x36 : PV) (S : Store) : RT := execL (C b) 0 c104 (k73 b) (ee8 x3 x36) S
@[go_sem] theorem E105_eq (b : Nat) (x3 x36 : PV) (S : Store) : E105 b x3 x36 S =
  execL (C b) 0 c104 (k73 b) (ee8 x3 x36) S := nr (rfl)
@[go_sem] theorem k102_n (b : Nat) (x3 x36 : PV) (S : Store) : k102 b .normal (ee8 x3 x36) S =
  condC x36 ((k73 b) .normal (ee8 x3 x36) S)
    (E105 b x3 x36 S) := nr ((show k102 b .normal (ee8 x3 x36) S = execL (C b) 0 c101 (k73 b) (ee8 x3 x36) S from seqC_n _ _ _ _).trans (execL_cond c101_h (execL_skip (by kernel_rfl)) (rfl) rfl))
theorem k102_l (b : Nat) : seqC (fun e S => execL (C b) 0 c101 (k73 b) e S) (k73 b) = k102 b := rfl
@[go_sem] theorem g107 (b : Nat) (K : KT) (x3 x33 : PV) (S : Store) : execL (C b) 0 c100 K (ee7 x3 x33) S =
  withV (evBin .eql (tyi Try.prog 3) x3 (.int .i64 57)) fun x37 =>
    withV (some x37) fun x36 =>
    K .normal (ee8 x3 x36) S := nr (by kernel_rfl)
noncomputable def E70 (b : Nat) (x3 x33 : PV) (S : Store) : RT := execL (C b) 0 c64 (k15 b) (ee7 x3 x33) S
@[go_sem] theorem E70_eq (b : Nat) (x3 x33 : PV) (S : Store) : E70 b x3 x33 S =
  execL (C b) 0 c100 (k102 b) (ee7 x3 x33) S := nr ((enter_seq c64_h (k73_l b)).trans ((enter_seq c71_h (k102_l b)).trans (rfl)))
@[go_sem] theorem k62_n (b : Nat) (x3 x33 : PV) (S : Store) : k62 b .normal (ee7 x3 x33) S =
  condC x33 (E65 b x3 x33 S)
    (E70 b x3 x33 S) := nr ((show k62 b .normal (ee7 x3 x33) S = execL (C b) 0 c61 (k15 b) (ee7 x3 x33) S from seqC_n _ _ _ _).trans (execL_cond c61_h (rfl) (rfl) rfl))
theorem k62_l (b : Nat) : seqC (fun e S => execL (C b) 0 c61 (k15 b) e S) (k15 b) = k62 b := rfl
noncomputable def c108 : Code := at0 c60
noncomputable def c109 : Code := at1 c60
theorem c60_h : c60 = .seq c108 c109 := by kernel_rfl
noncomputable def k110 (b : Nat) : KT := seqC (fun e S => execL (C b) 0 c109 (k62 b) e S) (k62 b)
noncomputable def c111 : Code := atT c109
noncomputable def c112 : Code := atF c109
theorem c109_h : c109 = .cond (.tmp 33) c111 c112 := by kernel_rfl
@[go_sem] theorem g114 (b : Nat) (K : KT) (x3 x33 : PV) (S : Store) : execL (C b) 0 c112 K (ee7 x3 x33) S =
  withV (evBin .eql (tyi Try.prog 3) x3 (.int .i64 36)) fun x35 =>
    withV (some x35) fun x33 =>
    K .normal (ee7 x3 x33) S := nr (by kernel_rfl)
noncomputable def E113 (b : Nat) (x3 x33 : PV) (S : Store) : RT := execL (C b) 0 c112 (k62 b) (ee7 x3 x33) S
@[go_sem] theorem E113_eq (b : Nat) (x3 x33 : PV) (S : Store) : E113 b x3 x33 S =
  execL (C b) 0 c112 (k62 b) (ee7 x3 x33) S := nr (rfl)
@[go_sem] theorem k110_n (b : Nat) (x3 x33 : PV) (S : Store) : k110 b .normal (ee7 x3 x33) S =
  condC x33 ((k62 b) .normal (ee7 x3 x33) S)
    (E113 b x3 x33 S) := nr ((show k110 b .normal (ee7 x3 x33) S = execL (C b) 0 c109 (k62 b) (ee7 x3 x33) S from seqC_n _ _ _ _).trans (execL_cond c109_h (execL_skip (by kernel_rfl)) (rfl) rfl))
theorem k110_l (b : Nat) : seqC (fun e S => execL (C b) 0 c109 (k62 b) e S) (k62 b) = k110 b := rfl
@[go_sem] theorem g115 (b : Nat) (K : KT) (x3 x28 : PV) (S : Store) : execL (C b) 0 c108 K (ee6 x3 x28) S =
  withV (evBin .eql (tyi Try.prog 3) x3 (.int .i64 35)) fun x34 =>
    withV (some x34) fun x33 =>
    K .normal (ee7 x3 x33) S := nr (by kernel_rfl)
noncomputable def E59 (b : Nat) (x3 x28 : PV) (S : Store) : RT := execL (C b) 0 c53 (k15 b) (ee6 x3 x28) S
@[go_sem] theorem E59_eq (b : Nat) (x3 x28 : PV) (S : Store) : E59 b x3 x28 S =
  execL (C b) 0 c108 (k110 b) (ee6 x3 x28) S := nr ((enter_seq c53_h (k62_l b)).trans ((enter_seq c60_h (k110_l b)).trans (rfl)))
@[go_sem] theorem k51_n (b : Nat) (x3 x28 : PV) (S : Store) : k51 b .normal (ee6 x3 x28) S =
  condC x28 (E54 b x3 x28 S)
    (E59 b x3 x28 S) := nr ((show k51 b .normal (ee6 x3 x28) S = execL (C b) 0 c50 (k15 b) (ee6 x3 x28) S from seqC_n _ _ _ _).trans (execL_cond c50_h (rfl) (rfl) rfl))
theorem k51_l (b : Nat) : seqC (fun e S => execL (C b) 0 c50 (k15 b) e S) (k15 b) = k51 b := rfl
noncomputable def c116 : Code := at0 c49
noncomputable def c117 : Code := at1 c49
theorem c49_h : c49 = .seq c116 c117 := by kernel_rfl
noncomputable def k118 (b : Nat) : KT := seqC (fun e S => execL (C b) 0 c117 (k51 b) e S) (k51 b)
noncomputable def c119 : Code := atT c117
noncomputable def c120 : Code := atF c117
theorem c117_h : c117 = .cond (.tmp 28) c119 c120 := by kernel_rfl
noncomputable def c122 : Code := at0 c120
noncomputable def c123 : Code := at1 c120
theorem c120_h : c120 = .seq c122 c123 := by kernel_rfl
noncomputable def k124 (b : Nat) : KT := seqC (fun e S => execL (C b) 0 c123 (k51 b) e S) (k51 b)
noncomputable def c125 : Code := atT c123
noncomputable def c126 : Code := atF c123
theorem c123_h : c123 = .cond (.tmp 28) c125 c126 := by kernel_rfl
noncomputable def c128 : Code := at0 c126
noncomputable def c129 : Code := at1 c126
theorem c126_h : c126 = .seq c128 c129 := by kernel_rfl
noncomputable def k130 (b : Nat) : KT := seqC (fun e S => execL (C b) 0 c129 (k51 b) e S) (k51 b)
noncomputable def c131 : Code := atT c129
noncomputable def c132 : Code := atF c129
theorem c129_h : c129 = .cond (.tmp 28) c131 c132 := by kernel_rfl
@[go_sem] theorem g134 (b : Nat) (K : KT) (x3 x28 : PV) (S : Store) : execL (C b) 0 c132 K (ee6 x3 x28) S =
  withV (evBin .eql (tyi Try.prog 3) x3 (.int .i64 32)) fun x32 =>
    withV (some x32) fun x28 =>
    K .normal (ee6 x3 x28) S := nr (by kernel_rfl)
noncomputable def E133 (b : Nat) (x3 x28 : PV) (S : Store) : RT := execL (C b) 0 c132 (k51 b) (ee6 x3 x28) S
@[go_sem] theorem E133_eq (b : Nat) (x3 x28 : PV) (S : Store) : E133 b x3 x28 S =
  execL (C b) 0 c132 (k51 b) (ee6 x3 x28) S := nr (rfl)
@[go_sem] theorem k130_n (b : Nat) (x3 x28 : PV) (S : Store) : k130 b .normal (ee6 x3 x28) S =
  condC x28 ((k51 b) .normal (ee6 x3 x28) S)
    (E133 b x3 x28 S) := nr ((show k130 b .normal (ee6 x3 x28) S = execL (C b) 0 c129 (k51 b) (ee6 x3 x28) S from seqC_n _ _ _ _).trans (execL_cond c129_h (execL_skip (by kernel_rfl)) (rfl) rfl))
theorem k130_l (b : Nat) : seqC (fun e S => execL (C b) 0 c129 (k51 b) e S) (k51 b) = k130 b := rfl
@[go_sem] theorem g135 (b : Nat) (K : KT) (x3 x28 : PV) (S : Store) : execL (C b) 0 c128 K (ee6 x3 x28) S =
  withV (evBin .eql (tyi Try.prog 3) x3 (.int .i64 31)) fun x31 =>
    withV (some x31) fun x28 =>
    K .normal (ee6 x3 x28) S := nr (by kernel_rfl)
noncomputable def E127 (b : Nat) (x3 x28 : PV) (S : Store) : RT := execL (C b) 0 c126 (k51 b) (ee6 x3 x28) S
@[go_sem] theorem E127_eq (b : Nat) (x3 x28 : PV) (S : Store) : E127 b x3 x28 S =
  execL (C b) 0 c128 (k130 b) (ee6 x3 x28) S := nr ((enter_seq c126_h (k130_l b)).trans (rfl))
@[go_sem] theorem k124_n (b : Nat) (x3 x28 : PV) (S : Store) : k124 b .normal (ee6 x3 x28) S =
  condC x28 ((k51 b) .normal (ee6 x3 x28) S)
    (E127 b x3 x28 S) := nr ((show k124 b .normal (ee6 x3 x28) S = execL (C b) 0 c123 (k51 b) (ee6 x3 x28) S from seqC_n _ _ _ _).trans (execL_cond c123_h (execL_skip (by kernel_rfl)) (rfl) rfl))
theorem k124_l (b : Nat) : seqC (fun e S => execL (C b) 0 c123 (k51 b) e S) (k51 b) = k124 b := rfl
@[go_sem] theorem g136 (b : Nat) (K : KT) (x3 x28 : PV) (S : Store) : execL (C b) 0 c122 K (ee6 x3 x28) S =
  withV (evBin .eql (tyi Try.prog 3) x3 (.int .i64 30)) fun x30 =>
    withV (some x30) fun x28 =>
    K .normal (ee6 x3 x28) S := nr (by kernel_rfl)
noncomputable def E121 (b : Nat) (x3 x28 : PV) (S : Store) : RT := execL (C b) 0 c120 (k51 b) (ee6 x3 x28) S
@[go_sem] theorem E121_eq (b : Nat) (x3 x28 : PV) (S : Store) : E121 b x3 x28 S =
  execL (C b) 0 c122 (k124 b) (ee6 x3 x28) S := nr ((enter_seq c120_h (k124_l b)).trans (rfl))
@[go_sem] theorem k118_n (b : Nat) (x3 x28 : PV) (S : Store) : k118 b .normal (ee6 x3 x28) S =
  condC x28 ((k51 b) .normal (ee6 x3 x28) S)
    (E121 b x3 x28 S) := nr ((show k118 b .normal (ee6 x3 x28) S = execL (C b) 0 c117 (k51 b) (ee6 x3 x28) S from seqC_n _ _ _ _).trans (execL_cond c117_h (execL_skip (by kernel_rfl)) (rfl) rfl))
theorem k118_l (b : Nat) : seqC (fun e S => execL (C b) 0 c117 (k51 b) e S) (k51 b) = k118 b := rfl
@[go_sem] theorem g137 (b : Nat) (K : KT) (x3 x22 : PV) (S : Store) : execL (C b) 0 c116 K (ee5 x3 x22) S =
  withV (evBin .eql (tyi Try.prog 3) x3 (.int .i64 29)) fun x29 =>
    withV (some x29) fun x28 =>
    K .normal (ee6 x3 x28) S := nr (by kernel_rfl)
noncomputable def E48 (b : Nat) (x3 x22 : PV) (S : Store) : RT := execL (C b) 0 c42 (k15 b) (ee5 x3 x22) S
@[go_sem] theorem E48_eq (b : Nat) (x3 x22 : PV) (S : Store) : E48 b x3 x22 S =
  execL (C b) 0 c116 (k118 b) (ee5 x3 x22) S := nr ((enter_seq c42_h (k51_l b)).trans ((enter_seq c49_h (k118_l b)).trans (rfl)))
@[go_sem] theorem k40_n (b : Nat) (x3 x22 : PV) (S : Store) : k40 b .normal (ee5 x3 x22) S =
  condC x22 (E43 b x3 x22 S)
    (E48 b x3 x22 S) := nr ((show k40 b .normal (ee5 x3 x22) S = execL (C b) 0 c39 (k15 b) (ee5 x3 x22) S from seqC_n _ _ _ _).trans (execL_cond c39_h (rfl) (rfl) rfl))
theorem k40_l (b : Nat) : seqC (fun e S => execL (C b) 0 c39 (k15 b) e S) (k15 b) = k40 b := rfl
noncomputable def c138 : Code := at0 c38
noncomputable def c139 : Code := at1 c38
theorem c38_h : c38 = .seq c138 c139 := by kernel_rfl
noncomputable def k140 (b : Nat) : KT := seqC (fun e S => execL (C b) 0 c139 (k40 b) e S) (k40 b)
noncomputable def c141 : Code := atT c139
noncomputable def c142 : Code := atF c139
theorem c139_h : c139 = .cond (.tmp 22) c141 c142 := by kernel_rfl
noncomputable def c144 : Code := at0 c142
noncomputable def c145 : Code := at1 c142
theorem c142_h : c142 = .seq c144 c145 := by kernel_rfl
noncomputable def k146 (b : Nat) : KT := seqC (fun e S => execL (C b) 0 c145 (k40 b) e S) (k40 b)
noncomputable def c147 : Code := atT c145
noncomputable def c148 : Code := atF c145
theorem c145_h : c145 = .cond (.tmp 22) c147 c148 := by kernel_rfl
noncomputable def c150 : Code := at0 c148
noncomputable def c151 : Code := at1 c148
theorem c148_h : c148 = .seq c150 c151 := by kernel_rfl
noncomputable def k152 (b : Nat) : KT := seqC (fun e S => execL (C b) 0 c151 (k40 b) e S) (k40 b)
noncomputable def c153 : Code := atT c151
noncomputable def c154 : Code := atF c151
theorem c151_h : c151 = .cond (.tmp 22) c153 c154 := by kernel_rfl
noncomputable def c156 : Code := at0 c154
noncomputable def c157 : Code := at1 c154
theorem c154_h : c154 = .seq c156 c157 := by kernel_rfl
noncomputable def k158 (b : Nat) : KT := seqC (fun e S => execL (C b) 0 c157 (k40 b) e S) (k40 b)
noncomputable def c159 : Code := atT c157
noncomputable def c160 : Code := atF c157
theorem c157_h : c157 = .cond (.tmp 22) c159 c160 := by kernel_rfl
@[go_sem] theorem g162 (b : Nat) (K : KT) (x3 x22 : PV) (S : Store) : execL (C b) 0 c160 K (ee5 x3 x22) S =
  withV (evBin .eql (tyi Try.prog 3) x3 (.int .i64 53)) fun x27 =>
    withV (some x27) fun x22 =>
    K .normal (ee5 x3 x22) S := nr (by kernel_rfl)
noncomputable def E161 (b : Nat) (x3 x22 : PV) (S : Store) : RT := execL (C b) 0 c160 (k40 b) (ee5 x3 x22) S
@[go_sem] theorem E161_eq (b : Nat) (x3 x22 : PV) (S : Store) : E161 b x3 x22 S =
  execL (C b) 0 c160 (k40 b) (ee5 x3 x22) S := nr (rfl)
@[go_sem] theorem k158_n (b : Nat) (x3 x22 : PV) (S : Store) : k158 b .normal (ee5 x3 x22) S =
  condC x22 ((k40 b) .normal (ee5 x3 x22) S)
    (E161 b x3 x22 S) := nr ((show k158 b .normal (ee5 x3 x22) S = execL (C b) 0 c157 (k40 b) (ee5 x3 x22) S from seqC_n _ _ _ _).trans (execL_cond c157_h (execL_skip (by kernel_rfl)) (rfl) rfl))
theorem k158_l (b : Nat) : seqC (fun e S => execL (C b) 0 c157 (k40 b) e S) (k40 b) = k158 b := rfl
@[go_sem] theorem g163 (b : Nat) (K : KT) (x3 x22 : PV) (S : Store) : execL (C b) 0 c156 K (ee5 x3 x22) S =
  withV (evBin .eql (tyi Try.prog 3) x3 (.int .i64 39)) fun x26 =>
    withV (some x26) fun x22 =>
    K .normal (ee5 x3 x22) S := nr (by kernel_rfl)
noncomputable def E155 (b : Nat) (x3 x22 : PV) (S : Store) : RT := execL (C b) 0 c154 (k40 b) (ee5 x3 x22) S
@[go_sem] theorem E155_eq (b : Nat) (x3 x22 : PV) (S : Store) : E155 b x3 x22 S =
  execL (C b) 0 c156 (k158 b) (ee5 x3 x22) S := nr ((enter_seq c154_h (k158_l b)).trans (rfl))
@[go_sem] theorem k152_n (b : Nat) (x3 x22 : PV) (S : Store) : k152 b .normal (ee5 x3 x22) S =
  condC x22 ((k40 b) .normal (ee5 x3 x22) S)
    (E155 b x3 x22 S) := nr ((show k152 b .normal (ee5 x3 x22) S = execL (C b) 0 c151 (k40 b) (ee5 x3 x22) S from seqC_n _ _ _ _).trans (execL_cond c151_h (execL_skip (by kernel_rfl)) (rfl) rfl))
theorem k152_l (b : Nat) : seqC (fun e S => execL (C b) 0 c151 (k40 b) e S) (k40 b) = k152 b := rfl
@[go_sem] theorem g164 (b : Nat) (K : KT) (x3 x22 : PV) (S : Store) : execL (C b) 0 c150 K (ee5 x3 x22) S =
  withV (evBin .eql (tyi Try.prog 3) x3 (.int .i64 34)) fun x25 =>
    withV (some x25) fun x22 =>
    K .normal (ee5 x3 x22) S := nr (by kernel_rfl)
noncomputable def E149 (b : Nat) (x3 x22 : PV) (S : Store) : RT := execL (C b) 0 c148 (k40 b) (ee5 x3 x22) S
@[go_sem] theorem E149_eq (b : Nat) (x3 x22 : PV) (S : Store) : E149 b x3 x22 S =
  execL (C b) 0 c150 (k152 b) (ee5 x3 x22) S := nr ((enter_seq c148_h (k152_l b)).trans (rfl))
@[go_sem] theorem k146_n (b : Nat) (x3 x22 : PV) (S : Store) : k146 b .normal (ee5 x3 x22) S =
  condC x22 ((k40 b) .normal (ee5 x3 x22) S)
    (E149 b x3 x22 S) := nr ((show k146 b .normal (ee5 x3 x22) S = execL (C b) 0 c145 (k40 b) (ee5 x3 x22) S from seqC_n _ _ _ _).trans (execL_cond c145_h (execL_skip (by kernel_rfl)) (rfl) rfl))
theorem k146_l (b : Nat) : seqC (fun e S => execL (C b) 0 c145 (k40 b) e S) (k40 b) = k146 b := rfl
@[go_sem] theorem g165 (b : Nat) (K : KT) (x3 x22 : PV) (S : Store) : execL (C b) 0 c144 K (ee5 x3 x22) S =
  withV (evBin .eql (tyi Try.prog 3) x3 (.int .i64 33)) fun x24 =>
    withV (some x24) fun x22 =>
    K .normal (ee5 x3 x22) S := nr (by kernel_rfl)
noncomputable def E143 (b : Nat) (x3 x22 : PV) (S : Store) : RT := execL (C b) 0 c142 (k40 b) (ee5 x3 x22) S
@[go_sem] theorem E143_eq (b : Nat) (x3 x22 : PV) (S : Store) : E143 b x3 x22 S =
  execL (C b) 0 c144 (k146 b) (ee5 x3 x22) S := nr ((enter_seq c142_h (k146_l b)).trans (rfl))
@[go_sem] theorem k140_n (b : Nat) (x3 x22 : PV) (S : Store) : k140 b .normal (ee5 x3 x22) S =
  condC x22 ((k40 b) .normal (ee5 x3 x22) S)
    (E143 b x3 x22 S) := nr ((show k140 b .normal (ee5 x3 x22) S = execL (C b) 0 c139 (k40 b) (ee5 x3 x22) S from seqC_n _ _ _ _).trans (execL_cond c139_h (execL_skip (by kernel_rfl)) (rfl) rfl))
theorem k140_l (b : Nat) : seqC (fun e S => execL (C b) 0 c139 (k40 b) e S) (k40 b) = k140 b := rfl
@[go_sem] theorem g166 (b : Nat) (K : KT) (x3 x10 : PV) (S : Store) : execL (C b) 0 c138 K (ee4 x3 x10) S =
  withV (evBin .eql (tyi Try.prog 3) x3 (.int .i64 28)) fun x23 =>
    withV (some x23) fun x22 =>
    K .normal (ee5 x3 x22) S := nr (by kernel_rfl)
noncomputable def E37 (b : Nat) (x3 x10 : PV) (S : Store) : RT := execL (C b) 0 c31 (k15 b) (ee4 x3 x10) S
@[go_sem] theorem E37_eq (b : Nat) (x3 x10 : PV) (S : Store) : E37 b x3 x10 S =
  execL (C b) 0 c138 (k140 b) (ee4 x3 x10) S := nr ((enter_seq c31_h (k40_l b)).trans ((enter_seq c38_h (k140_l b)).trans (rfl)))
@[go_sem] theorem k29_n (b : Nat) (x3 x10 : PV) (S : Store) : k29 b .normal (ee4 x3 x10) S =
  condC x10 (E32 b x3 x10 S)
    (E37 b x3 x10 S) := nr ((show k29 b .normal (ee4 x3 x10) S = execL (C b) 0 c28 (k15 b) (ee4 x3 x10) S from seqC_n _ _ _ _).trans (execL_cond c28_h (rfl) (rfl) rfl))
theorem k29_l (b : Nat) : seqC (fun e S => execL (C b) 0 c28 (k15 b) e S) (k15 b) = k29 b := rfl
noncomputable def c167 : Code := at0 c27
noncomputable def c168 : Code := at1 c27
theorem c27_h : c27 = .seq c167 c168 := by kernel_rfl
noncomputable def k169 (b : Nat) : KT := seqC (fun e S => execL (C b) 0 c168 (k29 b) e S) (k29 b)
noncomputable def c170 : Code := atT c168
noncomputable def c171 : Code := atF c168
theorem c168_h : c168 = .cond (.tmp 10) c170 c171 := by kernel_rfl
noncomputable def c173 : Code := at0 c171
noncomputable def c174 : Code := at1 c171
theorem c171_h : c171 = .seq c173 c174 := by kernel_rfl
noncomputable def k175 (b : Nat) : KT := seqC (fun e S => execL (C b) 0 c174 (k29 b) e S) (k29 b)
noncomputable def c176 : Code := atT c174
noncomputable def c177 : Code := atF c174
theorem c174_h : c174 = .cond (.tmp 10) c176 c177 := by kernel_rfl
noncomputable def c179 : Code := at0 c177
noncomputable def c180 : Code := at1 c177
theorem c177_h : c177 = .seq c179 c180 := by kernel_rfl
noncomputable def k181 (b : Nat) : KT := seqC (fun e S => execL (C b) 0 c180 (k29 b) e S) (k29 b)
noncomputable def c182 : Code := atT c180
noncomputable def c183 : Code := atF c180
theorem c180_h : c180 = .cond (.tmp 10) c182 c183 := by kernel_rfl
noncomputable def c185 : Code := at0 c183
noncomputable def c186 : Code := at1 c183
theorem c183_h : c183 = .seq c185 c186 := by kernel_rfl
noncomputable def k187 (b : Nat) : KT := seqC (fun e S => execL (C b) 0 c186 (k29 b) e S) (k29 b)
noncomputable def c188 : Code := atT c186
noncomputable def c189 : Code := atF c186
theorem c186_h : c186 = .cond (.tmp 10) c188 c189 := by kernel_rfl
noncomputable def c191 : Code := at0 c189
noncomputable def c192 : Code := at1 c189
theorem c189_h : c189 = .seq c191 c192 := by kernel_rfl
noncomputable def k193 (b : Nat) : KT := seqC (fun e S => execL (C b) 0 c192 (k29 b) e S) (k29 b)
noncomputable def c194 : Code := atT c192
noncomputable def c195 : Code := atF c192
theorem c192_h : c192 = .cond (.tmp 10) c194 c195 := by kernel_rfl
noncomputable def c197 : Code := at0 c195
noncomputable def c198 : Code := at1 c195
theorem c195_h : c195 = .seq c197 c198 := by kernel_rfl
noncomputable def k199 (b : Nat) : KT := seqC (fun e S => execL (C b) 0 c198 (k29 b) e S) (k29 b)
noncomputable def c200 : Code := atT c198
noncomputable def c201 : Code := atF c198
theorem c198_h : c198 = .cond (.tmp 10) c200 c201 := by kernel_rfl
noncomputable def c203 : Code := at0 c201
noncomputable def c204 : Code := at1 c201
theorem c201_h : c201 = .seq c203 c204 := by kernel_rfl
noncomputable def k205 (b : Nat) : KT := seqC (fun e S => execL (C b) 0 c204 (k29 b) e S) (k29 b)
noncomputable def c206 : Code := atT c204
noncomputable def c207 : Code := atF c204
theorem c204_h : c204 = .cond (.tmp 10) c206 c207 := by kernel_rfl
noncomputable def c209 : Code := at0 c207
noncomputable def c210 : Code := at1 c207
theorem c207_h : c207 = .seq c209 c210 := by kernel_rfl
noncomputable def k211 (b : Nat) : KT := seqC (fun e S => execL (C b) 0 c210 (k29 b) e S) (k29 b)
noncomputable def c212 : Code := atT c210
noncomputable def c213 : Code := atF c210
theorem c210_h : c210 = .cond (.tmp 10) c212 c213 := by kernel_rfl
noncomputable def c215 : Code := at0 c213
noncomputable def c216 : Code := at1 c213
theorem c213_h : c213 = .seq c215 c216 := by kernel_rfl
noncomputable def k217 (b : Nat) : KT := seqC (fun e S => execL (C b) 0 c216 (k29 b) e S) (k29 b)
noncomputable def c218 : Code := atT c216
noncomputable def c219 : Code := atF c216
theorem c216_h : c216 = .cond (.tmp 10) c218 c219 := by kernel_rfl
noncomputable def c221 : Code := at0 c219
noncomputable def c222 : Code := at1 c219
theorem c219_h : c219 = .seq c221 c222 := by kernel_rfl
noncomputable def k223 (b : Nat) : KT := seqC (fun e S => execL (C b) 0 c222 (k29 b) e S) (k29 b)
noncomputable def c224 : Code := atT c222
noncomputable def c225 : Code := atF c222
theorem c222_h : c222 = .cond (.tmp 10) c224 c225 := by kernel_rfl
@[go_sem] theorem g227 (b : Nat) (K : KT) (x3 x10 : PV) (S : Store) : execL (C b) 0 c225 K (ee4 x3 x10) S =
  withV (evBin .eql (tyi Try.prog 3) x3 (.int .i64 27)) fun x21 =>
    withV (some x21) fun x10 =>
    K .normal (ee4 x3 x10) S := nr (by kernel_rfl)
noncomputable def E226 (b : Nat) (x3 x10 : PV) (S : Store) : RT := execL (C b) 0 c225 (k29 b) (ee4 x3 x10) S
@[go_sem] theorem E226_eq (b : Nat) (x3 x10 : PV) (S : Store) : E226 b x3 x10 S =
  execL (C b) 0 c225 (k29 b) (ee4 x3 x10) S := nr (rfl)
@[go_sem] theorem k223_n (b : Nat) (x3 x10 : PV) (S : Store) : k223 b .normal (ee4 x3 x10) S =
  condC x10 ((k29 b) .normal (ee4 x3 x10) S)
    (E226 b x3 x10 S) := nr ((show k223 b .normal (ee4 x3 x10) S = execL (C b) 0 c222 (k29 b) (ee4 x3 x10) S from seqC_n _ _ _ _).trans (execL_cond c222_h (execL_skip (by kernel_rfl)) (rfl) rfl))
theorem k223_l (b : Nat) : seqC (fun e S => execL (C b) 0 c222 (k29 b) e S) (k29 b) = k223 b := rfl
@[go_sem] theorem g228 (b : Nat) (K : KT) (x3 x10 : PV) (S : Store) : execL (C b) 0 c221 K (ee4 x3 x10) S =
  withV (evBin .eql (tyi Try.prog 3) x3 (.int .i64 26)) fun x20 =>
    withV (some x20) fun x10 =>
    K .normal (ee4 x3 x10) S := nr (by kernel_rfl)
noncomputable def E220 (b : Nat) (x3 x10 : PV) (S : Store) : RT := execL (C b) 0 c219 (k29 b) (ee4 x3 x10) S
@[go_sem] theorem E220_eq (b : Nat) (x3 x10 : PV) (S : Store) : E220 b x3 x10 S =
  execL (C b) 0 c221 (k223 b) (ee4 x3 x10) S := nr ((enter_seq c219_h (k223_l b)).trans (rfl))
@[go_sem] theorem k217_n (b : Nat) (x3 x10 : PV) (S : Store) : k217 b .normal (ee4 x3 x10) S =
  condC x10 ((k29 b) .normal (ee4 x3 x10) S)
    (E220 b x3 x10 S) := nr ((show k217 b .normal (ee4 x3 x10) S = execL (C b) 0 c216 (k29 b) (ee4 x3 x10) S from seqC_n _ _ _ _).trans (execL_cond c216_h (execL_skip (by kernel_rfl)) (rfl) rfl))
theorem k217_l (b : Nat) : seqC (fun e S => execL (C b) 0 c216 (k29 b) e S) (k29 b) = k217 b := rfl
@[go_sem] theorem g229 (b : Nat) (K : KT) (x3 x10 : PV) (S : Store) : execL (C b) 0 c215 K (ee4 x3 x10) S =
  withV (evBin .eql (tyi Try.prog 3) x3 (.int .i64 25)) fun x19 =>
    withV (some x19) fun x10 =>
    K .normal (ee4 x3 x10) S := nr (by kernel_rfl)
noncomputable def E214 (b : Nat) (x3 x10 : PV) (S : Store) : RT := execL (C b) 0 c213 (k29 b) (ee4 x3 x10) S
@[go_sem] theorem E214_eq (b : Nat) (x3 x10 : PV) (S : Store) : E214 b x3 x10 S =
  execL (C b) 0 c215 (k217 b) (ee4 x3 x10) S := nr ((enter_seq c213_h (k217_l b)).trans (rfl))
@[go_sem] theorem k211_n (b : Nat) (x3 x10 : PV) (S : Store) : k211 b .normal (ee4 x3 x10) S =
  condC x10 ((k29 b) .normal (ee4 x3 x10) S)
    (E214 b x3 x10 S) := nr ((show k211 b .normal (ee4 x3 x10) S = execL (C b) 0 c210 (k29 b) (ee4 x3 x10) S from seqC_n _ _ _ _).trans (execL_cond c210_h (execL_skip (by kernel_rfl)) (rfl) rfl))
theorem k211_l (b : Nat) : seqC (fun e S => execL (C b) 0 c210 (k29 b) e S) (k29 b) = k211 b := rfl
@[go_sem] theorem g230 (b : Nat) (K : KT) (x3 x10 : PV) (S : Store) : execL (C b) 0 c209 K (ee4 x3 x10) S =
  withV (evBin .eql (tyi Try.prog 3) x3 (.int .i64 24)) fun x18 =>
    withV (some x18) fun x10 =>
    K .normal (ee4 x3 x10) S := nr (by kernel_rfl)
noncomputable def E208 (b : Nat) (x3 x10 : PV) (S : Store) : RT := execL (C b) 0 c207 (k29 b) (ee4 x3 x10) S
@[go_sem] theorem E208_eq (b : Nat) (x3 x10 : PV) (S : Store) : E208 b x3 x10 S =
  execL (C b) 0 c209 (k211 b) (ee4 x3 x10) S := nr ((enter_seq c207_h (k211_l b)).trans (rfl))
@[go_sem] theorem k205_n (b : Nat) (x3 x10 : PV) (S : Store) : k205 b .normal (ee4 x3 x10) S =
  condC x10 ((k29 b) .normal (ee4 x3 x10) S)
    (E208 b x3 x10 S) := nr ((show k205 b .normal (ee4 x3 x10) S = execL (C b) 0 c204 (k29 b) (ee4 x3 x10) S from seqC_n _ _ _ _).trans (execL_cond c204_h (execL_skip (by kernel_rfl)) (rfl) rfl))
theorem k205_l (b : Nat) : seqC (fun e S => execL (C b) 0 c204 (k29 b) e S) (k29 b) = k205 b := rfl
@[go_sem] theorem g231 (b : Nat) (K : KT) (x3 x10 : PV) (S : Store) : execL (C b) 0 c203 K (ee4 x3 x10) S =
  withV (evBin .eql (tyi Try.prog 3) x3 (.int .i64 23)) fun x17 =>
    withV (some x17) fun x10 =>
    K .normal (ee4 x3 x10) S := nr (by kernel_rfl)
noncomputable def E202 (b : Nat) (x3 x10 : PV) (S : Store) : RT := execL (C b) 0 c201 (k29 b) (ee4 x3 x10) S
@[go_sem] theorem E202_eq (b : Nat) (x3 x10 : PV) (S : Store) : E202 b x3 x10 S =
  execL (C b) 0 c203 (k205 b) (ee4 x3 x10) S := nr ((enter_seq c201_h (k205_l b)).trans (rfl))
@[go_sem] theorem k199_n (b : Nat) (x3 x10 : PV) (S : Store) : k199 b .normal (ee4 x3 x10) S =
  condC x10 ((k29 b) .normal (ee4 x3 x10) S)
    (E202 b x3 x10 S) := nr ((show k199 b .normal (ee4 x3 x10) S = execL (C b) 0 c198 (k29 b) (ee4 x3 x10) S from seqC_n _ _ _ _).trans (execL_cond c198_h (execL_skip (by kernel_rfl)) (rfl) rfl))
theorem k199_l (b : Nat) : seqC (fun e S => execL (C b) 0 c198 (k29 b) e S) (k29 b) = k199 b := rfl
@[go_sem] theorem g232 (b : Nat) (K : KT) (x3 x10 : PV) (S : Store) : execL (C b) 0 c197 K (ee4 x3 x10) S =
  withV (evBin .eql (tyi Try.prog 3) x3 (.int .i64 22)) fun x16 =>
    withV (some x16) fun x10 =>
    K .normal (ee4 x3 x10) S := nr (by kernel_rfl)
noncomputable def E196 (b : Nat) (x3 x10 : PV) (S : Store) : RT := execL (C b) 0 c195 (k29 b) (ee4 x3 x10) S
@[go_sem] theorem E196_eq (b : Nat) (x3 x10 : PV) (S : Store) : E196 b x3 x10 S =
  execL (C b) 0 c197 (k199 b) (ee4 x3 x10) S := nr ((enter_seq c195_h (k199_l b)).trans (rfl))
@[go_sem] theorem k193_n (b : Nat) (x3 x10 : PV) (S : Store) : k193 b .normal (ee4 x3 x10) S =
  condC x10 ((k29 b) .normal (ee4 x3 x10) S)
    (E196 b x3 x10 S) := nr ((show k193 b .normal (ee4 x3 x10) S = execL (C b) 0 c192 (k29 b) (ee4 x3 x10) S from seqC_n _ _ _ _).trans (execL_cond c192_h (execL_skip (by kernel_rfl)) (rfl) rfl))
theorem k193_l (b : Nat) : seqC (fun e S => execL (C b) 0 c192 (k29 b) e S) (k29 b) = k193 b := rfl
@[go_sem] theorem g233 (b : Nat) (K : KT) (x3 x10 : PV) (S : Store) : execL (C b) 0 c191 K (ee4 x3 x10) S =
  withV (evBin .eql (tyi Try.prog 3) x3 (.int .i64 9)) fun x15 =>
    withV (some x15) fun x10 =>
    K .normal (ee4 x3 x10) S := nr (by kernel_rfl)
noncomputable def E190 (b : Nat) (x3 x10 : PV) (S : Store) : RT := execL (C b) 0 c189 (k29 b) (ee4 x3 x10) S
@[go_sem] theorem E190_eq (b : Nat) (x3 x10 : PV) (S : Store) : E190 b x3 x10 S =
  execL (C b) 0 c191 (k193 b) (ee4 x3 x10) S := nr ((enter_seq c189_h (k193_l b)).trans (rfl))
@[go_sem] theorem k187_n (b : Nat) (x3 x10 : PV) (S : Store) : k187 b .normal (ee4 x3 x10) S =
  condC x10 ((k29 b) .normal (ee4 x3 x10) S)
    (E190 b x3 x10 S) := nr ((show k187 b .normal (ee4 x3 x10) S = execL (C b) 0 c186 (k29 b) (ee4 x3 x10) S from seqC_n _ _ _ _).trans (execL_cond c186_h (execL_skip (by kernel_rfl)) (rfl) rfl))
theorem k187_l (b : Nat) : seqC (fun e S => execL (C b) 0 c186 (k29 b) e S) (k29 b) = k187 b := rfl
@[go_sem] theorem g234 (b : Nat) (K : KT) (x3 x10 : PV) (S : Store) : execL (C b) 0 c185 K (ee4 x3 x10) S =
  withV (evBin .eql (tyi Try.prog 3) x3 (.int .i64 8)) fun x14 =>
    withV (some x14) fun x10 =>
    K .normal (ee4 x3 x10) S := nr (by kernel_rfl)
noncomputable def E184 (b : Nat) (x3 x10 : PV) (S : Store) : RT := execL (C b) 0 c183 (k29 b) (ee4 x3 x10) S
@[go_sem] theorem E184_eq (b : Nat) (x3 x10 : PV) (S : Store) : E184 b x3 x10 S =
  execL (C b) 0 c185 (k187 b) (ee4 x3 x10) S := nr ((enter_seq c183_h (k187_l b)).trans (rfl))
@[go_sem] theorem k181_n (b : Nat) (x3 x10 : PV) (S : Store) : k181 b .normal (ee4 x3 x10) S =
  condC x10 ((k29 b) .normal (ee4 x3 x10) S)
    (E184 b x3 x10 S) := nr ((show k181 b .normal (ee4 x3 x10) S = execL (C b) 0 c180 (k29 b) (ee4 x3 x10) S from seqC_n _ _ _ _).trans (execL_cond c180_h (execL_skip (by kernel_rfl)) (rfl) rfl))
theorem k181_l (b : Nat) : seqC (fun e S => execL (C b) 0 c180 (k29 b) e S) (k29 b) = k181 b := rfl
@[go_sem] theorem g235 (b : Nat) (K : KT) (x3 x10 : PV) (S : Store) : execL (C b) 0 c179 K (ee4 x3 x10) S =
  withV (evBin .eql (tyi Try.prog 3) x3 (.int .i64 7)) fun x13 =>
    withV (some x13) fun x10 =>
    K .normal (ee4 x3 x10) S := nr (by kernel_rfl)
noncomputable def E178 (b : Nat) (x3 x10 : PV) (S : Store) : RT := execL (C b) 0 c177 (k29 b) (ee4 x3 x10) S
@[go_sem] theorem E178_eq (b : Nat) (x3 x10 : PV) (S : Store) : E178 b x3 x10 S =
  execL (C b) 0 c179 (k181 b) (ee4 x3 x10) S := nr ((enter_seq c177_h (k181_l b)).trans (rfl))
@[go_sem] theorem k175_n (b : Nat) (x3 x10 : PV) (S : Store) : k175 b .normal (ee4 x3 x10) S =
  condC x10 ((k29 b) .normal (ee4 x3 x10) S)
    (E178 b x3 x10 S) := nr ((show k175 b .normal (ee4 x3 x10) S = execL (C b) 0 c174 (k29 b) (ee4 x3 x10) S from seqC_n _ _ _ _).trans (execL_cond c174_h (execL_skip (by kernel_rfl)) (rfl) rfl))
theorem k175_l (b : Nat) : seqC (fun e S => execL (C b) 0 c174 (k29 b) e S) (k29 b) = k175 b := rfl
@[go_sem] theorem g236 (b : Nat) (K : KT) (x3 x10 : PV) (S : Store) : execL (C b) 0 c173 K (ee4 x3 x10) S =
  withV (evBin .eql (tyi Try.prog 3) x3 (.int .i64 6)) fun x12 =>
    withV (some x12) fun x10 =>
    K .normal (ee4 x3 x10) S := nr (by kernel_rfl)
noncomputable def E172 (b : Nat) (x3 x10 : PV) (S : Store) : RT := execL (C b) 0 c171 (k29 b) (ee4 x3 x10) S
@[go_sem] theorem E172_eq (b : Nat) (x3 x10 : PV) (S : Store) : E172 b x3 x10 S =
  execL (C b) 0 c173 (k175 b) (ee4 x3 x10) S := nr ((enter_seq c171_h (k175_l b)).trans (rfl))
@[go_sem] theorem k169_n (b : Nat) (x3 x10 : PV) (S : Store) : k169 b .normal (ee4 x3 x10) S =
  condC x10 ((k29 b) .normal (ee4 x3 x10) S)
    (E172 b x3 x10 S) := nr ((show k169 b .normal (ee4 x3 x10) S = execL (C b) 0 c168 (k29 b) (ee4 x3 x10) S from seqC_n _ _ _ _).trans (execL_cond c168_h (execL_skip (by kernel_rfl)) (rfl) rfl))
theorem k169_l (b : Nat) : seqC (fun e S => execL (C b) 0 c168 (k29 b) e S) (k29 b) = k169 b := rfl
@[go_sem] theorem g237 (b : Nat) (K : KT) (x3 x4 : PV) (S : Store) : execL (C b) 0 c167 K (ee3 x3 x4) S =
  withV (evBin .eql (tyi Try.prog 3) x3 (.int .i64 5)) fun x11 =>
    withV (some x11) fun x10 =>
    K .normal (ee4 x3 x10) S := nr (by kernel_rfl)
noncomputable def E26 (b : Nat) (x3 x4 : PV) (S : Store) : RT := execL (C b) 0 c20 (k15 b) (ee3 x3 x4) S
@[go_sem] theorem E26_eq (b : Nat) (x3 x4 : PV) (S : Store) : E26 b x3 x4 S =
  execL (C b) 0 c167 (k169 b) (ee3 x3 x4) S := nr ((enter_seq c20_h (k29_l b)).trans ((enter_seq c27_h (k169_l b)).trans (rfl)))
@[go_sem] theorem k18_n (b : Nat) (x3 x4 : PV) (S : Store) : k18 b .normal (ee3 x3 x4) S =
  condC x4 (E21 b x3 x4 S)
    (E26 b x3 x4 S) := nr ((show k18 b .normal (ee3 x3 x4) S = execL (C b) 0 c17 (k15 b) (ee3 x3 x4) S from seqC_n _ _ _ _).trans (execL_cond c17_h (rfl) (rfl) rfl))
theorem k18_l (b : Nat) : seqC (fun e S => execL (C b) 0 c17 (k15 b) e S) (k15 b) = k18 b := rfl
noncomputable def c238 : Code := at0 c16
noncomputable def c239 : Code := at1 c16
theorem c16_h : c16 = .seq c238 c239 := by kernel_rfl
noncomputable def k240 (b : Nat) : KT := seqC (fun e S => execL (C b) 0 c239 (k18 b) e S) (k18 b)
noncomputable def c241 : Code := atT c239
noncomputable def c242 : Code := atF c239
theorem c239_h : c239 = .cond (.tmp 4) c241 c242 := by kernel_rfl
noncomputable def c244 : Code := at0 c242
noncomputable def c245 : Code := at1 c242
theorem c242_h : c242 = .seq c244 c245 := by kernel_rfl
noncomputable def k246 (b : Nat) : KT := seqC (fun e S => execL (C b) 0 c245 (k18 b) e S) (k18 b)
noncomputable def c247 : Code := atT c245
noncomputable def c248 : Code := atF c245
theorem c245_h : c245 = .cond (.tmp 4) c247 c248 := by kernel_rfl
noncomputable def c250 : Code := at0 c248
noncomputable def c251 : Code := at1 c248
theorem c248_h : c248 = .seq c250 c251 := by kernel_rfl
noncomputable def k252 (b : Nat) : KT := seqC (fun e S => execL (C b) 0 c251 (k18 b) e S) (k18 b)
noncomputable def c253 : Code := atT c251
noncomputable def c254 : Code := atF c251
theorem c251_h : c251 = .cond (.tmp 4) c253 c254 := by kernel_rfl
noncomputable def c256 : Code := at0 c254
noncomputable def c257 : Code := at1 c254
theorem c254_h : c254 = .seq c256 c257 := by kernel_rfl
noncomputable def k258 (b : Nat) : KT := seqC (fun e S => execL (C b) 0 c257 (k18 b) e S) (k18 b)
noncomputable def c259 : Code := atT c257
noncomputable def c260 : Code := atF c257
theorem c257_h : c257 = .cond (.tmp 4) c259 c260 := by kernel_rfl
@[go_sem] theorem g262 (b : Nat) (K : KT) (x3 x4 : PV) (S : Store) : execL (C b) 0 c260 K (ee3 x3 x4) S =
  withV (evBin .eql (tyi Try.prog 3) x3 (.int .i64 55)) fun x9 =>
    withV (some x9) fun x4 =>
    K .normal (ee3 x3 x4) S := nr (by kernel_rfl)
noncomputable def E261 (b : Nat) (x3 x4 : PV) (S : Store) : RT := execL (C b) 0 c260 (k18 b) (ee3 x3 x4) S
@[go_sem] theorem E261_eq (b : Nat) (x3 x4 : PV) (S : Store) : E261 b x3 x4 S =
  execL (C b) 0 c260 (k18 b) (ee3 x3 x4) S := nr (rfl)
@[go_sem] theorem k258_n (b : Nat) (x3 x4 : PV) (S : Store) : k258 b .normal (ee3 x3 x4) S =
  condC x4 ((k18 b) .normal (ee3 x3 x4) S)
    (E261 b x3 x4 S) := nr ((show k258 b .normal (ee3 x3 x4) S = execL (C b) 0 c257 (k18 b) (ee3 x3 x4) S from seqC_n _ _ _ _).trans (execL_cond c257_h (execL_skip (by kernel_rfl)) (rfl) rfl))
theorem k258_l (b : Nat) : seqC (fun e S => execL (C b) 0 c257 (k18 b) e S) (k18 b) = k258 b := rfl
@[go_sem] theorem g263 (b : Nat) (K : KT) (x3 x4 : PV) (S : Store) : execL (C b) 0 c256 K (ee3 x3 x4) S =
  withV (evBin .eql (tyi Try.prog 3) x3 (.int .i64 51)) fun x8 =>
    withV (some x8) fun x4 =>
    K .normal (ee3 x3 x4) S := nr (by kernel_rfl)
noncomputable def E255 (b : Nat) (x3 x4 : PV) (S : Store) : RT := execL (C b) 0 c254 (k18 b) (ee3 x3 x4) S
@[go_sem] theorem E255_eq (b : Nat) (x3 x4 : PV) (S : Store) : E255 b x3 x4 S =
  execL (C b) 0 c256 (k258 b) (ee3 x3 x4) S := nr ((enter_seq c254_h (k258_l b)).trans (rfl))
@[go_sem] theorem k252_n (b : Nat) (x3 x4 : PV) (S : Store) : k252 b .normal (ee3 x3 x4) S =
  condC x4 ((k18 b) .normal (ee3 x3 x4) S)
    (E255 b x3 x4 S) := nr ((show k252 b .normal (ee3 x3 x4) S = execL (C b) 0 c251 (k18 b) (ee3 x3 x4) S from seqC_n _ _ _ _).trans (execL_cond c251_h (execL_skip (by kernel_rfl)) (rfl) rfl))
theorem k252_l (b : Nat) : seqC (fun e S => execL (C b) 0 c251 (k18 b) e S) (k18 b) = k252 b := rfl
@[go_sem] theorem g264 (b : Nat) (K : KT) (x3 x4 : PV) (S : Store) : execL (C b) 0 c250 K (ee3 x3 x4) S =
  withV (evBin .eql (tyi Try.prog 3) x3 (.int .i64 50)) fun x7 =>
    withV (some x7) fun x4 =>
    K .normal (ee3 x3 x4) S := nr (by kernel_rfl)
noncomputable def E249 (b : Nat) (x3 x4 : PV) (S : Store) : RT := execL (C b) 0 c248 (k18 b) (ee3 x3 x4) S
@[go_sem] theorem E249_eq (b : Nat) (x3 x4 : PV) (S : Store) : E249 b x3 x4 S =
  execL (C b) 0 c250 (k252 b) (ee3 x3 x4) S := nr ((enter_seq c248_h (k252_l b)).trans (rfl))
@[go_sem] theorem k246_n (b : Nat) (x3 x4 : PV) (S : Store) : k246 b .normal (ee3 x3 x4) S =
  condC x4 ((k18 b) .normal (ee3 x3 x4) S)
    (E249 b x3 x4 S) := nr ((show k246 b .normal (ee3 x3 x4) S = execL (C b) 0 c245 (k18 b) (ee3 x3 x4) S from seqC_n _ _ _ _).trans (execL_cond c245_h (execL_skip (by kernel_rfl)) (rfl) rfl))
theorem k246_l (b : Nat) : seqC (fun e S => execL (C b) 0 c245 (k18 b) e S) (k18 b) = k246 b := rfl
@[go_sem] theorem g265 (b : Nat) (K : KT) (x3 x4 : PV) (S : Store) : execL (C b) 0 c244 K (ee3 x3 x4) S =
  withV (evBin .eql (tyi Try.prog 3) x3 (.int .i64 12)) fun x6 =>
    withV (some x6) fun x4 =>
    K .normal (ee3 x3 x4) S := nr (by kernel_rfl)
noncomputable def E243 (b : Nat) (x3 x4 : PV) (S : Store) : RT := execL (C b) 0 c242 (k18 b) (ee3 x3 x4) S
@[go_sem] theorem E243_eq (b : Nat) (x3 x4 : PV) (S : Store) : E243 b x3 x4 S =
  execL (C b) 0 c244 (k246 b) (ee3 x3 x4) S := nr ((enter_seq c242_h (k246_l b)).trans (rfl))
@[go_sem] theorem k240_n (b : Nat) (x3 x4 : PV) (S : Store) : k240 b .normal (ee3 x3 x4) S =
  condC x4 ((k18 b) .normal (ee3 x3 x4) S)
    (E243 b x3 x4 S) := nr ((show k240 b .normal (ee3 x3 x4) S = execL (C b) 0 c239 (k18 b) (ee3 x3 x4) S from seqC_n _ _ _ _).trans (execL_cond c239_h (execL_skip (by kernel_rfl)) (rfl) rfl))
theorem k240_l (b : Nat) : seqC (fun e S => execL (C b) 0 c239 (k18 b) e S) (k18 b) = k240 b := rfl
@[go_sem] theorem g266 (b : Nat) (K : KT) (x3 : PV) (S : Store) : execL (C b) 0 c238 K (ee2 x3) S =
  withV (evBin .eql (tyi Try.prog 3) x3 (.int .i64 4)) fun x5 =>
    withV (some x5) fun x4 =>
    K .normal (ee3 x3 x4) S := nr (by kernel_rfl)
@[go_sem] theorem k13_n (b : Nat) (x3 : PV) (S : Store) : k13 b .normal (ee2 x3) S =
  execL (C b) 0 c238 (k240 b) (ee2 x3) S := nr ((show k13 b .normal (ee2 x3) S = execL (C b) 0 c12 (k8 b) (ee2 x3) S from seqC_n _ _ _ _).trans ((show execL (C b) 0 c12 (k8 b) (ee2 x3) S = execL (C b) 0 c14 (k15 b) (ee2 x3) S from execL_block c12_h).trans ((enter_seq c14_h (k18_l b)).trans ((enter_seq c16_h (k240_l b)).trans (rfl)))))
theorem k13_l (b : Nat) : seqC (fun e S => execL (C b) 0 c12 (k8 b) e S) (k8 b) = k13 b := rfl
@[go_sem] theorem g267 (b : Nat) (K : KT) (x0 : PV) (S : Store) : execL (C b) 0 c11 K (ee0 x0) S =
  withV (some x0) fun x3 =>
    K .normal (ee2 x3) S := nr (by kernel_rfl)
@[go_sem] theorem k10_n (b : Nat) (x0 : PV) (S : Store) : k10 b .normal (ee0 x0) S =
  execL (C b) 0 c11 (k13 b) (ee0 x0) S := nr ((show k10 b .normal (ee0 x0) S = execL (C b) 0 c3 (k8 b) (ee0 x0) S from seqC_n _ _ _ _).trans ((enter_seq c3_h (k13_l b)).trans (rfl)))
theorem k10_l (b : Nat) : seqC (fun e S => execL (C b) 0 c2 (k0 b) e S) (k0 b) = k10 b := link_seq c2_h (k8_l b)
@[go_sem] theorem g268 (b : Nat) (K : KT) (x0 : PV) (S : Store) : execL (C b) 0 c1 K (ee0 x0) S =
  withV (some (.str ⟨#[]⟩)) fun x2 =>
    K .normal (ee0 x0) S := nr (by kernel_rfl)
noncomputable def E (b : Nat) (x0 : PV) (S : Store) : RT := execL (C b) 0 code (k0 b) (ee0 x0) S
@[go_sem] theorem E_eq (b : Nat) (x0 : PV) (S : Store) : E b x0 S =
  execL (C b) 0 c1 (k10 b) (ee0 x0) S := nr ((enter_seq code_h (k10_l b)).trans (rfl))
theorem call {x0 : PV} {r : PV × Store} {v : PV} (h : E 0 x0 [] = some r) (hv : fzPV r.2 r.1 = some v) : callL Try.prog hints 90 [x0] = some v := callL_of (fn := Try.f90) (c := code) (by kernel_rfl) (by kernel_rfl) (by decide) (by kernel_rfl) (Nat.le_of_ble_eq_true (by kernel_rfl)) h hv
end F90
/-! ### isochroneref08.Natural -/
namespace F91
def hint : Hint := { keep := [], loops := [], regs := [(0, [1, 2]), (1, [1, 2, 8]), (2, [4]), (3, [2, 21]), (4, [4]), (5, [4])] }
noncomputable def C (b : Nat) : Ctx := ctxL Try.prog hints b hint
noncomputable def code : Code := Try.f91.body.get rfl
noncomputable def k0 (b : Nat) : KT := endC Try.prog Try.f91
def ee0 (x1 x2 : PV) : Env := [(1, x1), (2, x2)]
def ee1 (x1 x2 x8 : PV) : Env := [(1, x1), (2, x2), (8, x8)]
def ee2 (x2 x21 : PV) : Env := [(2, x2), (21, x21)]
def ee3 (x4 : PV) : Env := [(4, x4)]
@[go_sem] theorem k0_ret3 (b : Nat) (x4 : PV) (S : Store) : k0 b .ret (ee3 x4) S = some (x4, S) := nr (by kernel_rfl)
noncomputable def c1 : Code := at0 code
noncomputable def c2 : Code := at1 code
theorem code_h : code = .seq c1 c2 := by kernel_rfl
noncomputable def c3 : Code := at0 c2
noncomputable def c4 : Code := at1 c2
theorem c2_h : c2 = .seq c3 c4 := by kernel_rfl
noncomputable def c5 : Code := at0 c4
noncomputable def c6 : Code := at1 c4
theorem c4_h : c4 = .seq c5 c6 := by kernel_rfl
noncomputable def c7 : Code := at0 c6
noncomputable def c8 : Code := at1 c6
theorem c6_h : c6 = .seq c7 c8 := by kernel_rfl
noncomputable def k9 (b : Nat) : KT := seqC (fun e S => execL (C b) 0 c8 (k0 b) e S) (k0 b)
@[go_sem] theorem k9_n (b : Nat) (x4 : PV) (S : Store) : k9 b .normal (ee3 x4) S =
  (k0 b) .ret (ee3 x4) S := nr ((show k9 b .normal (ee3 x4) S = execL (C b) 0 c8 (k0 b) (ee3 x4) S from seqC_n _ _ _ _).trans (execL_ret (by kernel_rfl)))
theorem k9_l (b : Nat) : seqC (fun e S => execL (C b) 0 c8 (k0 b) e S) (k0 b) = k9 b := rfl
noncomputable def k10 (b : Nat) : KT := seqC (fun e S => execL (C b) 0 c7 (k9 b) e S) (k0 b)
@[go_sem] theorem g11 (b : Nat) (K : KT) (x2 x21 : PV) (S : Store) : execL (C b) 0 c7 K (ee2 x2 x21) S =
  withV (evFieldAddr (tyi Try.prog 51) 1 x2) fun x22 =>
    withV (evLoad (tyi Try.prog 49) S x22) fun x23 =>
    withV (indexAddrO Try.prog 49 S x23 (.int .i64 0)) fun x24 =>
    withV (evLoad (tyi Try.prog 76) S x24) fun x25 =>
    withV (convertO Try.prog 76 3 x25) fun x26 =>
    withV (some x26) fun x4 =>
    K .normal (ee3 x4) S := nr (by kernel_rfl)
@[go_sem] theorem k10_n (b : Nat) (e : Env) (S : Store) : k10 b .normal e S = execL (C b) 0 c7 (k9 b) e S := nr (seqC_n _ _ _ _)
@[go_sem] theorem k10_ret (b : Nat) (e : Env) (S : Store) : k10 b .ret e S = (k0 b) .ret e S := nr (seqC_r _ _ _ _)
theorem k10_l (b : Nat) : seqC (fun e S => execL (C b) 0 c6 (k0 b) e S) (k0 b) = k10 b := link_seq c6_h (k9_l b)
noncomputable def k12 (b : Nat) : KT := seqC (fun e S => execL (C b) 0 c5 (k10 b) e S) (k0 b)
noncomputable def c13 : Code := at0 c5
noncomputable def c14 : Code := at1 c5
theorem c5_h : c5 = .seq c13 c14 := by kernel_rfl
noncomputable def k15 (b : Nat) : KT := seqC (fun e S => execL (C b) 0 c14 (k10 b) e S) (k10 b)
noncomputable def c16 : Code := atT c14
noncomputable def c17 : Code := atF c14
theorem c14_h : c14 = .cond (.tmp 21) c16 c17 := by kernel_rfl
noncomputable def c19 : Code := at0 c16
noncomputable def c20 : Code := at1 c16
theorem c16_h : c16 = .seq c19 c20 := by kernel_rfl
noncomputable def k21 (b : Nat) : KT := seqC (fun e S => execL (C b) 0 c20 (k10 b) e S) (k10 b)
@[go_sem] theorem k21_n (b : Nat) (x4 : PV) (S : Store) : k21 b .normal (ee3 x4) S =
  (k10 b) .ret (ee3 x4) S := nr ((show k21 b .normal (ee3 x4) S = execL (C b) 0 c20 (k10 b) (ee3 x4) S from seqC_n _ _ _ _).trans (execL_ret (by kernel_rfl)))
theorem k21_l (b : Nat) : seqC (fun e S => execL (C b) 0 c20 (k10 b) e S) (k10 b) = k21 b := rfl
@[go_sem] theorem g22 (b : Nat) (K : KT) (x2 x21 : PV) (S : Store) : execL (C b) 0 c19 K (ee2 x2 x21) S =
  withV (some (.int .i64 (-1))) fun x4 =>
    K .normal (ee3 x4) S := nr (by kernel_rfl)
noncomputable def E18 (b : Nat) (x2 x21 : PV) (S : Store) : RT := execL (C b) 0 c16 (k10 b) (ee2 x2 x21) S
@[go_sem] theorem E18_eq (b : Nat) (x2 x21 : PV) (S : Store) : E18 b x2 x21 S =
  execL (C b) 0 c19 (k21 b) (ee2 x2 x21) S := nr ((enter_seq c16_h (k21_l b)).trans (rfl))
@[go_sem] theorem k15_n (b : Nat) (x2 x21 : PV) (S : Store) : k15 b .normal (ee2 x2 x21) S =
  condC x21 (E18 b x2 x21 S)
    ((k10 b) .normal (ee2 x2 x21) S) := nr ((show k15 b .normal (ee2 x2 x21) S = execL (C b) 0 c14 (k10 b) (ee2 x2 x21) S from seqC_n _ _ _ _).trans (execL_cond c14_h (rfl) (execL_skip (by kernel_rfl)) rfl))
theorem k15_l (b : Nat) : seqC (fun e S => execL (C b) 0 c14 (k10 b) e S) (k10 b) = k15 b := rfl
@[go_sem] theorem g23 (b : Nat) (K : KT) (x1 x2 x8 : PV) (S : Store) : execL (C b) 0 c13 K (ee1 x1 x2 x8) S =
  withV (evFieldAddr (tyi Try.prog 51) 1 x2) fun x9 =>
    withV (evLoad (tyi Try.prog 49) S x9) fun x10 =>
    withV (lenO (tyi Try.prog 49) x10) fun x11 =>
    withV (evBin .gtr (tyi Try.prog 3) x11 (.int .i64 1)) fun x12 =>
    withV (some x12) fun x13 =>
    withV (gval x13 false (evFieldAddr (tyi Try.prog 51) 1 x2)) fun x14 =>
    withV (gval x13 false (evLoad (tyi Try.prog 49) S x14)) fun x15 =>
    withV (gval x13 false (indexAddrO Try.prog 49 S x15 (.int .i64 0))) fun x16 =>
    withV (gval x13 false (evLoad (tyi Try.prog 76) S x16)) fun x17 =>
    withV (gval x13 false (convertO Try.prog 76 2 x17)) fun x18 =>
    withV (gval x13 false (some x1)) fun x19 =>
    withV (gval x13 false (evBin .gtr (tyi Try.prog 2) x18 x19)) fun x20 =>
    withV (pickO x13 (.bool true) x20) fun x21 =>
    K .normal (ee2 x2 x21) S := nr (by kernel_rfl)
@[go_sem] theorem k12_n (b : Nat) (x1 x2 x8 : PV) (S : Store) : k12 b .normal (ee1 x1 x2 x8) S =
  execL (C b) 0 c13 (k15 b) (ee1 x1 x2 x8) S := nr ((show k12 b .normal (ee1 x1 x2 x8) S = execL (C b) 0 c5 (k10 b) (ee1 x1 x2 x8) S from seqC_n _ _ _ _).trans ((enter_seq c5_h (k15_l b)).trans (rfl)))
@[go_sem] theorem k12_ret (b : Nat) (e : Env) (S : Store) : k12 b .ret e S = (k0 b) .ret e S := nr (seqC_r _ _ _ _)
theorem k12_l (b : Nat) : seqC (fun e S => execL (C b) 0 c4 (k0 b) e S) (k0 b) = k12 b := link_seq c4_h (k10_l b)
noncomputable def k24 (b : Nat) : KT := seqC (fun e S => execL (C b) 0 c3 (k12 b) e S) (k0 b)
noncomputable def c25 : Code := at0 c3
noncomputable def c26 : Code := at1 c3
theorem c3_h : c3 = .seq c25 c26 := by kernel_rfl
noncomputable def k27 (b : Nat) : KT := seqC (fun e S => execL (C b) 0 c26 (k12 b) e S) (k12 b)
noncomputable def c28 : Code := atT c26
noncomputable def c29 : Code := atF c26
theorem c26_h : c26 = .cond (.tmp 8) c28 c29 := by kernel_rfl
noncomputable def c31 : Code := at0 c28
noncomputable def c32 : Code := at1 c28
theorem c28_h : c28 = .seq c31 c32 := by kernel_rfl
noncomputable def k33 (b : Nat) : KT := seqC (fun e S => execL (C b) 0 c32 (k12 b) e S) (k12 b)
@[go_sem] theorem k33_n (b : Nat) (x4 : PV) (S : Store) : k33 b .normal (ee3 x4) S =
  (k12 b) .ret (ee3 x4) S := nr ((show k33 b .normal (ee3 x4) S = execL (C b) 0 c32 (k12 b) (ee3 x4) S from seqC_n _ _ _ _).trans (execL_ret (by kernel_rfl)))
theorem k33_l (b : Nat) : seqC (fun e S => execL (C b) 0 c32 (k12 b) e S) (k12 b) = k33 b := rfl
@[go_sem] theorem g34 (b : Nat) (K : KT) (x1 x2 x8 : PV) (S : Store) : execL (C b) 0 c31 K (ee1 x1 x2 x8) S =
  withV (some (.int .i64 0)) fun x4 =>
    K .normal (ee3 x4) S := nr (by kernel_rfl)
noncomputable def E30 (b : Nat) (x1 x2 x8 : PV) (S : Store) : RT := execL (C b) 0 c28 (k12 b) (ee1 x1 x2 x8) S
@[go_sem] theorem E30_eq (b : Nat) (x1 x2 x8 : PV) (S : Store) : E30 b x1 x2 x8 S =
  execL (C b) 0 c31 (k33 b) (ee1 x1 x2 x8) S := nr ((enter_seq c28_h (k33_l b)).trans (rfl))
@[go_sem] theorem k27_n (b : Nat) (x1 x2 x8 : PV) (S : Store) : k27 b .normal (ee1 x1 x2 x8) S =
  condC x8 (E30 b x1 x2 x8 S)
    ((k12 b) .normal (ee1 x1 x2 x8) S) := nr ((show k27 b .normal (ee1 x1 x2 x8) S = execL (C b) 0 c26 (k12 b) (ee1 x1 x2 x8) S from seqC_n _ _ _ _).trans (execL_cond c26_h (rfl) (execL_skip (by kernel_rfl)) rfl))
theorem k27_l (b : Nat) : seqC (fun e S => execL (C b) 0 c26 (k12 b) e S) (k12 b) = k27 b := rfl
@[go_sem] theorem g35 (b : Nat) (K : KT) (x1 x2 : PV) (S : Store) : execL (C b) 0 c25 K (ee0 x1 x2) S =
  withV (evFieldAddr (tyi Try.prog 51) 1 x2) fun x5 =>
    withV (evLoad (tyi Try.prog 49) S x5) fun x6 =>
    withV (lenO (tyi Try.prog 49) x6) fun x7 =>
    withV (evBin .eql (tyi Try.prog 3) x7 (.int .i64 0)) fun x8 =>
    K .normal (ee1 x1 x2 x8) S := nr (by kernel_rfl)
@[go_sem] theorem k24_n (b : Nat) (x1 x2 : PV) (S : Store) : k24 b .normal (ee0 x1 x2) S =
  execL (C b) 0 c25 (k27 b) (ee0 x1 x2) S := nr ((show k24 b .normal (ee0 x1 x2) S = execL (C b) 0 c3 (k12 b) (ee0 x1 x2) S from seqC_n _ _ _ _).trans ((enter_seq c3_h (k27_l b)).trans (rfl)))
theorem k24_l (b : Nat) : seqC (fun e S => execL (C b) 0 c2 (k0 b) e S) (k0 b) = k24 b := link_seq c2_h (k12_l b)
@[go_sem] theorem g36 (b : Nat) (K : KT) (x0 x1 : PV) (S : Store) : execL (C b) 0 c1 K [(0, x0), (1, x1)] S =
  withN (boxed S (List.length S) (TI.size (tyi Try.prog 51)) x0) S fun x2 S =>
    withV (some (.int .i64 0)) fun x4 =>
    K .normal (ee0 x1 x2) S := nr (by kernel_rfl)
noncomputable def E (b : Nat) (x0 x1 : PV) (S : Store) : RT := execL (C b) 0 code (k0 b) [(0, x0), (1, x1)] S
@[go_sem] theorem E_eq (b : Nat) (x0 x1 : PV) (S : Store) : E b x0 x1 S =
  execL (C b) 0 c1 (k24 b) [(0, x0), (1, x1)] S := nr ((enter_seq code_h (k24_l b)).trans (rfl))
theorem call {x0 x1 : PV} {r : PV × Store} {v : PV} (h : E 0 x0 x1 [] = some r) (hv : fzPV r.2 r.1 = some v) : callL Try.prog hints 91 [x0, x1] = some v := callL_of (fn := Try.f91) (c := code) (by kernel_rfl) (by kernel_rfl) (by decide) (by kernel_rfl) (Nat.le_of_ble_eq_true (by kernel_rfl)) h hv
end F91
/-! ### isochroneref08.differential -/
namespace F92
def hint : Hint := { keep := [], loops := [(1, { live := [1, 3], after := [], own := [], fz := [] })], regs := [(0, [1]), (1, [1, 4]), (2, [2]), (3, [1, 33]), (4, [1, 3]), (5, [1, 3, 46]), (6, [1, 3]), (7, [1, 3, 55]), (8, [2]), (9, [2]), (10, [2])] }
noncomputable def C (b : Nat) : Ctx := ctxL Try.prog hints b hint
noncomputable def code : Code := Try.f92.body.get rfl
noncomputable def k0 (b : Nat) : KT := endC Try.prog Try.f92
def ee0 (x1 : PV) : Env := [(1, x1)]
def ee1 (x1 x3 : PV) : Env := [(1, x1), (3, x3)]
@[go_sem] theorem gc_ee1 (n : Nat) (x1 x3 : PV) (S : Store) : gc n (ee1 x1 x3) S = gc n [(1, x1), (3, x3)] S := nr (rfl)
def ee2 (x1 x3 x46 : PV) : Env := [(1, x1), (3, x3), (46, x46)]
@[go_sem] theorem gc_ee2 (n : Nat) (x1 x3 x46 : PV) (S : Store) : gc n (ee2 x1 x3 x46) S = gc n [(1, x1), (3, x3), (46, x46)] S := nr (rfl)
def ee3 (x1 x3 x55 : PV) : Env := [(1, x1), (3, x3), (55, x55)]
def ee4 (x1 x4 : PV) : Env := [(1, x1), (4, x4)]
def ee5 (x1 x33 : PV) : Env := [(1, x1), (33, x33)]
def ee6 (x2 : PV) : Env := [(2, x2)]
@[go_sem] theorem k0_ret6 (b : Nat) (x2 : PV) (S : Store) : k0 b .ret (ee6 x2) S = some (x2, S) := nr (by kernel_rfl)
noncomputable def c1 : Code := at0 code
noncomputable def c2 : Code := at1 code
theorem code_h : code = .seq c1 c2 := by kernel_rfl
noncomputable def c3 : Code := at0 c2
noncomputable def c4 : Code := at1 c2
theorem c2_h : c2 = .seq c3 c4 := by kernel_rfl
noncomputable def c5 : Code := at0 c4
noncomputable def c6 : Code := at1 c4
theorem c4_h : c4 = .seq c5 c6 := by kernel_rfl
noncomputable def k7 (b : Nat) : KT := seqC (fun e S => execL (C b) 0 c6 (k0 b) e S) (k0 b)
@[go_sem] theorem k7_n (b : Nat) (x2 : PV) (S : Store) : k7 b .normal (ee6 x2) S =
  (k0 b) .ret (ee6 x2) S := nr ((show k7 b .normal (ee6 x2) S = execL (C b) 0 c6 (k0 b) (ee6 x2) S from seqC_n _ _ _ _).trans (execL_ret (by kernel_rfl)))
theorem k7_l (b : Nat) : seqC (fun e S => execL (C b) 0 c6 (k0 b) e S) (k0 b) = k7 b := rfl
noncomputable def k8 (b : Nat) : KT := seqC (fun e S => execL (C b) 0 c5 (k7 b) e S) (k0 b)
@[go_sem] theorem g9 (b : Nat) (K : KT) (x1 x33 : PV) (S : Store) : execL (C b) 0 c5 K (ee5 x1 x33) S =
  withV (some (.bool false)) fun x2 =>
    K .normal (ee6 x2) S := nr (by kernel_rfl)
@[go_sem] theorem k8_n (b : Nat) (e : Env) (S : Store) : k8 b .normal e S = execL (C b) 0 c5 (k7 b) e S := nr (seqC_n _ _ _ _)
@[go_sem] theorem k8_ret (b : Nat) (e : Env) (S : Store) : k8 b .ret e S = (k0 b) .ret e S := nr (seqC_r _ _ _ _)
theorem k8_l (b : Nat) : seqC (fun e S => execL (C b) 0 c4 (k0 b) e S) (k0 b) = k8 b := link_seq c4_h (k7_l b)
noncomputable def k10 (b : Nat) : KT := seqC (fun e S => execL (C b) 0 c3 (k8 b) e S) (k0 b)
noncomputable def c11 : Code := atB c3
theorem c3_h : c3 = .block 0 c11 := by kernel_rfl
noncomputable def k12 (b : Nat) : KT := blockC 0 (k8 b)
@[go_sem] theorem k12_n (b : Nat) (e : Env) (S : Store) : k12 b .normal e S = (k8 b) .normal e S := nr (blockC_n _ _ _ _)
@[go_sem] theorem k12_ret (b : Nat) (e : Env) (S : Store) : k12 b .ret e S = (k8 b) .ret e S := nr (blockC_r _ _ _ _)
noncomputable def c13 : Code := at0 c11
noncomputable def c14 : Code := at1 c11
theorem c11_h : c11 = .seq c13 c14 := by kernel_rfl
noncomputable def k15 (b : Nat) : KT := seqC (fun e S => execL (C b) 0 c14 (k12 b) e S) (k12 b)
noncomputable def c16 : Code := atT c14
noncomputable def c17 : Code := atF c14
theorem c14_h : c14 = .cond (.tmp 4) c16 c17 := by kernel_rfl
noncomputable def c19 : Code := at0 c16
noncomputable def c20 : Code := at1 c16
theorem c16_h : c16 = .seq c19 c20 := by kernel_rfl
noncomputable def k21 (b : Nat) : KT := seqC (fun e S => execL (C b) 0 c20 (k12 b) e S) (k12 b)
@[go_sem] theorem k21_n (b : Nat) (x2 : PV) (S : Store) : k21 b .normal (ee6 x2) S =
  (k12 b) .ret (ee6 x2) S := nr ((show k21 b .normal (ee6 x2) S = execL (C b) 0 c20 (k12 b) (ee6 x2) S from seqC_n _ _ _ _).trans (execL_ret (by kernel_rfl)))
theorem k21_l (b : Nat) : seqC (fun e S => execL (C b) 0 c20 (k12 b) e S) (k12 b) = k21 b := rfl
@[go_sem] theorem g22 (b : Nat) (K : KT) (x1 x4 : PV) (S : Store) : execL (C b) 0 c19 K (ee4 x1 x4) S =
  withV (some (.bool true)) fun x2 =>
    K .normal (ee6 x2) S := nr (by kernel_rfl)
noncomputable def E18 (b : Nat) (x1 x4 : PV) (S : Store) : RT := execL (C b) 0 c16 (k12 b) (ee4 x1 x4) S
@[go_sem] theorem E18_eq (b : Nat) (x1 x4 : PV) (S : Store) : E18 b x1 x4 S =
  execL (C b) 0 c19 (k21 b) (ee4 x1 x4) S := nr ((enter_seq c16_h (k21_l b)).trans (rfl))
noncomputable def c24 : Code := at0 c17
noncomputable def c25 : Code := at1 c17
theorem c17_h : c17 = .seq c24 c25 := by kernel_rfl
noncomputable def k26 (b : Nat) : KT := seqC (fun e S => execL (C b) 0 c25 (k12 b) e S) (k12 b)
noncomputable def c27 : Code := atT c25
noncomputable def c28 : Code := atF c25
theorem c25_h : c25 = .cond (.tmp 33) c27 c28 := by kernel_rfl
noncomputable def c30 : Code := at0 c27
noncomputable def c31 : Code := at1 c27
theorem c27_h : c27 = .seq c30 c31 := by kernel_rfl
noncomputable def c32 : Code := at0 c31
noncomputable def c33 : Code := at1 c31
theorem c31_h : c31 = .seq c32 c33 := by kernel_rfl
noncomputable def k34 (b : Nat) : KT := seqC (fun e S => execL (C b) 0 c33 (k12 b) e S) (k12 b)
@[go_sem] theorem k34_n (b : Nat) (x2 : PV) (S : Store) : k34 b .normal (ee6 x2) S =
  (k12 b) .ret (ee6 x2) S := nr ((show k34 b .normal (ee6 x2) S = execL (C b) 0 c33 (k12 b) (ee6 x2) S from seqC_n _ _ _ _).trans (execL_ret (by kernel_rfl)))
theorem k34_l (b : Nat) : seqC (fun e S => execL (C b) 0 c33 (k12 b) e S) (k12 b) = k34 b := rfl
noncomputable def k35 (b : Nat) : KT := seqC (fun e S => execL (C b) 0 c32 (k34 b) e S) (k12 b)
@[go_sem] theorem g36 (b : Nat) (K : KT) (x1 x3 x46 : PV) (S : Store) : execL (C b) 0 c32 K (ee2 x1 x3 x46) S =
  withV (some (.bool true)) fun x2 =>
    K .normal (ee6 x2) S := nr (by kernel_rfl)
@[go_sem] theorem k35_n (b : Nat) (e : Env) (S : Store) : k35 b .normal e S = execL (C b) 0 c32 (k34 b) e S := nr (seqC_n _ _ _ _)
@[go_sem] theorem k35_ret (b : Nat) (e : Env) (S : Store) : k35 b .ret e S = (k12 b) .ret e S := nr (seqC_r _ _ _ _)
theorem k35_l (b : Nat) : seqC (fun e S => execL (C b) 0 c31 (k12 b) e S) (k12 b) = k35 b := link_seq c31_h (k34_l b)
noncomputable def c37 : Code := at0 c30
noncomputable def c38 : Code := at1 c30
theorem c30_h : c30 = .seq c37 c38 := by kernel_rfl
noncomputable def k39 (b : Nat) : KT := seqC (fun e S => execL (C b) 0 c38 (k35 b) e S) (k35 b)
noncomputable def c40 : Code := atB c38
theorem c38_h : c38 = .block 1 c40 := by kernel_rfl
noncomputable def k41 (b : Nat) : KT := blockC 1 (k35 b)
@[go_sem] theorem k41_ret (b : Nat) (e : Env) (S : Store) : k41 b .ret e S = (k35 b) .ret e S := nr (blockC_r _ _ _ _)
@[go_sem] theorem k41_exit (b : Nat) (i : Nat) (e : Env) (S : Store) : k41 b (.exit i) e S = if i = 1 then (k35 b) .normal e S else (k35 b) (.exit i) e S := nr (blockC_x _ _ _ _ _)
noncomputable def c42 : Code := atL c40
noncomputable def k43 (b n1 : Nat) : KT := afterC 1 n1 [] (k41 b)
noncomputable def L1g (b n1 : Nat) (e : Env) (S : Store) : RT := loopL (fun K e S => execL (C b) 1 c42 K e S) (normG [1, 3] [] n1) (k43 b n1) e S
noncomputable def L1 (b n1 : Nat) (x1 x3 : PV) (S : Store) : RT := L1g b n1 (ee1 x1 x3) S
noncomputable def k44 (b n1 : Nat) : KT := stepC (normG [1, 3] [] n1) (k43 b n1) (L1g b n1)
@[go_sem] theorem k44_n (b n1 : Nat) (x1 x3 : PV) (S : Store) : k44 b n1 .normal (ee1 x1 x3) S = L1 b n1 x1 x3 (gc n1 (ee1 x1 x3) S) := nr (by kernel_rfl)
@[go_sem] theorem k44_ret (b n1 : Nat) (e : Env) (S : Store) : k44 b n1 .ret e S = (k41 b) .ret e S := nr ((show k44 b n1 .ret e S = (k43 b n1) .ret e S from stepC_r _ _ _ _ _).trans (afterC_r _ _ _ _ _ _))
@[go_sem] theorem k44_x1 (b n1 : Nat) (x1 x3 x46 : PV) (S : Store) : k44 b n1 (.exit 1) (ee2 x1 x3 x46) S = (k41 b) (.exit 1) (ee2 .undef .undef .undef) (gc n1 (ee2 .undef .undef .undef) S) := nr ((show k44 b n1 (.exit 1) (ee2 x1 x3 x46) S = (k43 b n1) (.exit 1) (ee2 x1 x3 x46) S from stepC_x _ _ _ _ _ _).trans ((show (k43 b n1) (.exit 1) (ee2 x1 x3 x46) S = _ from afterC_x _ _ _ _ _ _ _).trans (if_pos rfl)))
noncomputable def c45 : Code := at0 c42
noncomputable def c46 : Code := at1 c42
theorem c42_h : c42 = .seq c45 c46 := by kernel_rfl
noncomputable def c47 : Code := at0 c46
noncomputable def c48 : Code := at1 c46
theorem c46_h : c46 = .seq c47 c48 := by kernel_rfl
noncomputable def k49 (b n1 : Nat) : KT := seqC (fun e S => execL (C b) 1 c48 (k44 b n1) e S) (k44 b n1)
@[go_sem] theorem g50 (b : Nat) (K : KT) (x1 x3 x55 : PV) (S : Store) : execL (C b) 1 c48 K (ee3 x1 x3 x55) S =
  withV (some x3) fun x47 =>
    withV (evBin .add (tyi Try.prog 3) x47 (.int .i64 1)) fun x48 =>
    withV (some x48) fun x3 =>
    K .normal (ee1 x1 x3) S := nr (by kernel_rfl)
@[go_sem] theorem k49_n (b n1 : Nat) (e : Env) (S : Store) : k49 b n1 .normal e S = execL (C b) 1 c48 (k44 b n1) e S := nr (seqC_n _ _ _ _)
@[go_sem] theorem k49_ret (b n1 : Nat) (e : Env) (S : Store) : k49 b n1 .ret e S = (k44 b n1) .ret e S := nr (seqC_r _ _ _ _)
theorem k49_l (b n1 : Nat) : seqC (fun e S => execL (C b) 1 c48 (k44 b n1) e S) (k44 b n1) = k49 b n1 := rfl
noncomputable def k51 (b n1 : Nat) : KT := seqC (fun e S => execL (C b) 1 c47 (k49 b n1) e S) (k44 b n1)
noncomputable def c52 : Code := atB c47
theorem c47_h : c47 = .block 2 c52 := by kernel_rfl
noncomputable def k53 (b n1 : Nat) : KT := blockC 2 (k49 b n1)
@[go_sem] theorem k53_n (b n1 : Nat) (e : Env) (S : Store) : k53 b n1 .normal e S = (k49 b n1) .normal e S := nr (blockC_n _ _ _ _)
@[go_sem] theorem k53_ret (b n1 : Nat) (e : Env) (S : Store) : k53 b n1 .ret e S = (k49 b n1) .ret e S := nr (blockC_r _ _ _ _)
noncomputable def c54 : Code := at0 c52
noncomputable def c55 : Code := at1 c52
theorem c52_h : c52 = .seq c54 c55 := by kernel_rfl
noncomputable def k56 (b n1 : Nat) : KT := seqC (fun e S => execL (C b) 2 c55 (k53 b n1) e S) (k53 b n1)
noncomputable def c57 : Code := atT c55
noncomputable def c58 : Code := atF c55
theorem c55_h : c55 = .cond (.tmp 55) c57 c58 := by kernel_rfl
noncomputable def c60 : Code := at0 c57
noncomputable def c61 : Code := at1 c57
theorem c57_h : c57 = .seq c60 c61 := by kernel_rfl
noncomputable def k62 (b n1 : Nat) : KT := seqC (fun e S => execL (C b) 2 c61 (k53 b n1) e S) (k53 b n1)
@[go_sem] theorem k62_n (b n1 : Nat) (x2 : PV) (S : Store) : k62 b n1 .normal (ee6 x2) S =
  (k53 b n1) .ret (ee6 x2) S := nr ((show k62 b n1 .normal (ee6 x2) S = execL (C b) 2 c61 (k53 b n1) (ee6 x2) S from seqC_n _ _ _ _).trans (execL_ret (by kernel_rfl)))
theorem k62_l (b n1 : Nat) : seqC (fun e S => execL (C b) 2 c61 (k53 b n1) e S) (k53 b n1) = k62 b n1 := rfl
@[go_sem] theorem g63 (b : Nat) (K : KT) (x1 x3 x55 : PV) (S : Store) : execL (C b) 2 c60 K (ee3 x1 x3 x55) S =
  withV (some (.bool false)) fun x2 =>
    K .normal (ee6 x2) S := nr (by kernel_rfl)
noncomputable def E59 (b n1 : Nat) (x1 x3 x55 : PV) (S : Store) : RT := execL (C b) 2 c57 (k53 b n1) (ee3 x1 x3 x55) S
@[go_sem] theorem E59_eq (b n1 : Nat) (x1 x3 x55 : PV) (S : Store) : E59 b n1 x1 x3 x55 S =
  execL (C b) 2 c60 (k62 b n1) (ee3 x1 x3 x55) S := nr ((enter_seq c57_h (k62_l b n1)).trans (rfl))
@[go_sem] theorem k56_n (b n1 : Nat) (x1 x3 x55 : PV) (S : Store) : k56 b n1 .normal (ee3 x1 x3 x55) S =
  condC x55 (E59 b n1 x1 x3 x55 S)
    ((k53 b n1) .normal (ee3 x1 x3 x55) S) := nr ((show k56 b n1 .normal (ee3 x1 x3 x55) S = execL (C b) 2 c55 (k53 b n1) (ee3 x1 x3 x55) S from seqC_n _ _ _ _).trans (execL_cond c55_h (rfl) (execL_skip (by kernel_rfl)) rfl))
theorem k56_l (b n1 : Nat) : seqC (fun e S => execL (C b) 2 c55 (k53 b n1) e S) (k53 b n1) = k56 b n1 := rfl
@[go_sem] theorem g64 (b : Nat) (K : KT) (x1 x3 x46 : PV) (S : Store) : execL (C b) 2 c54 K (ee2 x1 x3 x46) S =
  withV (evFieldAddr (tyi Try.prog 54) 3 x1) fun x49 =>
    withV (evLoad (tyi Try.prog 52) S x49) fun x50 =>
    withV (some x3) fun x51 =>
    withV (indexAddrO Try.prog 52 S x50 x51) fun x52 =>
    withV (evLoad (tyi Try.prog 54) S x52) fun x53 =>
    withN (callO (callL Try.prog hints) S 92 [x53]) S fun x54 S =>
    withV (evUn .not x54) fun x55 =>
    K .normal (ee3 x1 x3 x55) S := nr (by kernel_rfl)
@[go_sem] theorem k51_n (b n1 : Nat) (x1 x3 x46 : PV) (S : Store) : k51 b n1 .normal (ee2 x1 x3 x46) S =
  execL (C b) 2 c54 (k56 b n1) (ee2 x1 x3 x46) S := nr ((show k51 b n1 .normal (ee2 x1 x3 x46) S = execL (C b) 1 c47 (k49 b n1) (ee2 x1 x3 x46) S from seqC_n _ _ _ _).trans ((show execL (C b) 1 c47 (k49 b n1) (ee2 x1 x3 x46) S = execL (C b) 2 c52 (k53 b n1) (ee2 x1 x3 x46) S from execL_block c47_h).trans ((enter_seq c52_h (k56_l b n1)).trans (rfl))))
@[go_sem] theorem k51_exit (b n1 : Nat) (i : Nat) (e : Env) (S : Store) : k51 b n1 (.exit i) e S = (k44 b n1) (.exit i) e S := nr (seqC_x _ _ _ _ _)
theorem k51_l (b n1 : Nat) : seqC (fun e S => execL (C b) 1 c46 (k44 b n1) e S) (k44 b n1) = k51 b n1 := link_seq c46_h (k49_l b n1)
noncomputable def c65 : Code := at0 c45
noncomputable def c66 : Code := at1 c45
theorem c45_h : c45 = .seq c65 c66 := by kernel_rfl
noncomputable def k67 (b n1 : Nat) : KT := seqC (fun e S => execL (C b) 1 c66 (k51 b n1) e S) (k51 b n1)
noncomputable def c68 : Code := atT c66
noncomputable def c69 : Code := atF c66
theorem c66_h : c66 = .cond (.tmp 46) c68 c69 := by kernel_rfl
@[go_sem] theorem k67_n (b n1 : Nat) (x1 x3 x46 : PV) (S : Store) : k67 b n1 .normal (ee2 x1 x3 x46) S =
  condC x46 ((k51 b n1) .normal (ee2 x1 x3 x46) S)
    ((k51 b n1) (.exit 1) (ee2 x1 x3 x46) S) := nr ((show k67 b n1 .normal (ee2 x1 x3 x46) S = execL (C b) 1 c66 (k51 b n1) (ee2 x1 x3 x46) S from seqC_n _ _ _ _).trans (execL_cond c66_h (execL_skip (by kernel_rfl)) (execL_exit (by kernel_rfl)) rfl))
theorem k67_l (b n1 : Nat) : seqC (fun e S => execL (C b) 1 c66 (k51 b n1) e S) (k51 b n1) = k67 b n1 := rfl
@[go_sem] theorem g70 (b : Nat) (K : KT) (x1 x3 : PV) (S : Store) : execL (C b) 1 c65 K (ee1 x1 x3) S =
  withV (some x3) fun x42 =>
    withV (evFieldAddr (tyi Try.prog 54) 3 x1) fun x43 =>
    withV (evLoad (tyi Try.prog 52) S x43) fun x44 =>
    withV (lenO (tyi Try.prog 52) x44) fun x45 =>
    withV (evBin .lss (tyi Try.prog 3) x42 x45) fun x46 =>
    K .normal (ee2 x1 x3 x46) S := nr (by kernel_rfl)
noncomputable def B1 (b n1 : Nat) (x1 x3 : PV) (S : Store) : RT := execL (C b) 1 c42 (k44 b n1) (ee1 x1 x3) S
@[go_sem] theorem B1_eq (b n1 : Nat) (x1 x3 : PV) (S : Store) : B1 b n1 x1 x3 S =
  execL (C b) 1 c65 (k67 b n1) (ee1 x1 x3) S := nr ((enter_seq c42_h (k51_l b n1)).trans ((enter_seq c45_h (k67_l b n1)).trans (rfl)))
theorem L1_step {b n1 : Nat} {x1 x3 : PV} {S : Store} {z : PV × Store} (h : B1 b n1 x1 x3 S = some z) : L1 b n1 x1 x3 S = some z := loopL_step h
theorem L1_in (b : Nat) (x1 x3 : PV) (S : Store) : execL (C b) 1 c40 (k41 b) (ee1 x1 x3) S = L1 b (List.length S) x1 x3 S := by kernel_rfl
@[go_sem] theorem k39_n (b : Nat) (x1 x3 : PV) (S : Store) : k39 b .normal (ee1 x1 x3) S =
  L1 b (List.length S) x1 x3 S := nr ((show k39 b .normal (ee1 x1 x3) S = execL (C b) 0 c38 (k35 b) (ee1 x1 x3) S from seqC_n _ _ _ _).trans ((show execL (C b) 0 c38 (k35 b) (ee1 x1 x3) S = execL (C b) 1 c40 (k41 b) (ee1 x1 x3) S from execL_block c38_h).trans (L1_in b x1 x3 S)))
theorem k39_l (b : Nat) : seqC (fun e S => execL (C b) 0 c38 (k35 b) e S) (k35 b) = k39 b := rfl
@[go_sem] theorem g72 (b : Nat) (K : KT) (x1 x33 : PV) (S : Store) : execL (C b) 0 c37 K (ee5 x1 x33) S =
  withV (some (.int .i64 0)) fun x3 =>
    K .normal (ee1 x1 x3) S := nr (by kernel_rfl)
noncomputable def E29 (b : Nat) (x1 x33 : PV) (S : Store) : RT := execL (C b) 0 c27 (k12 b) (ee5 x1 x33) S
@[go_sem] theorem E29_eq (b : Nat) (x1 x33 : PV) (S : Store) : E29 b x1 x33 S =
  execL (C b) 0 c37 (k39 b) (ee5 x1 x33) S := nr ((enter_seq c27_h (k35_l b)).trans ((enter_seq c30_h (k39_l b)).trans (rfl)))
@[go_sem] theorem k26_n (b : Nat) (x1 x33 : PV) (S : Store) : k26 b .normal (ee5 x1 x33) S =
  condC x33 (E29 b x1 x33 S)
    ((k12 b) .normal (ee5 x1 x33) S) := nr ((show k26 b .normal (ee5 x1 x33) S = execL (C b) 0 c25 (k12 b) (ee5 x1 x33) S from seqC_n _ _ _ _).trans (execL_cond c25_h (rfl) (execL_skip (by kernel_rfl)) rfl))
theorem k26_l (b : Nat) : seqC (fun e S => execL (C b) 0 c25 (k12 b) e S) (k12 b) = k26 b := rfl
@[go_sem] theorem g73 (b : Nat) (K : KT) (x1 x4 : PV) (S : Store) : execL (C b) 0 c24 K (ee4 x1 x4) S =
  withV (evFieldAddr (tyi Try.prog 54) 0 x1) fun x34 =>
    withV (evLoad (tyi Try.prog 3) S x34) fun x35 =>
    withV (evBin .eql (tyi Try.prog 3) x35 (.int .i64 29)) fun x36 =>
    withV (some x36) fun x37 =>
    withV (gval x37 false (evFieldAddr (tyi Try.prog 54) 0 x1)) fun x38 =>
    withV (gval x37 false (evLoad (tyi Try.prog 3) S x38)) fun x39 =>
    withV (gval x37 false (evBin .eql (tyi Try.prog 3) x39 (.int .i64 30))) fun x40 =>
    withV (pickO x37 (.bool true) x40) fun x41 =>
    withV (some x41) fun x33 =>
    K .normal (ee5 x1 x33) S := nr (by kernel_rfl)
noncomputable def E23 (b : Nat) (x1 x4 : PV) (S : Store) : RT := execL (C b) 0 c17 (k12 b) (ee4 x1 x4) S
@[go_sem] theorem E23_eq (b : Nat) (x1 x4 : PV) (S : Store) : E23 b x1 x4 S =
  execL (C b) 0 c24 (k26 b) (ee4 x1 x4) S := nr ((enter_seq c17_h (k26_l b)).trans (rfl))
@[go_sem] theorem k15_n (b : Nat) (x1 x4 : PV) (S : Store) : k15 b .normal (ee4 x1 x4) S =
  condC x4 (E18 b x1 x4 S)
    (E23 b x1 x4 S) := nr ((show k15 b .normal (ee4 x1 x4) S = execL (C b) 0 c14 (k12 b) (ee4 x1 x4) S from seqC_n _ _ _ _).trans (execL_cond c14_h (rfl) (rfl) rfl))
theorem k15_l (b : Nat) : seqC (fun e S => execL (C b) 0 c14 (k12 b) e S) (k12 b) = k15 b := rfl
@[go_sem] theorem g74 (b : Nat) (K : KT) (x1 : PV) (S : Store) : execL (C b) 0 c13 K (ee0 x1) S =
  withV (evFieldAddr (tyi Try.prog 54) 0 x1) fun x5 =>
    withV (evLoad (tyi Try.prog 3) S x5) fun x6 =>
    withV (evBin .eql (tyi Try.prog 3) x6 (.int .i64 20)) fun x7 =>
    withV (some x7) fun x8 =>
    withV (gval x8 false (evFieldAddr (tyi Try.prog 54) 0 x1)) fun x9 =>
    withV (gval x8 false (evLoad (tyi Try.prog 3) S x9)) fun x10 =>
    withV (gval x8 false (evBin .eql (tyi Try.prog 3) x10 (.int .i64 21))) fun x11 =>
    withV (pickO x8 (.bool true) x11) fun x12 =>
    withV (some x12) fun x13 =>
    withV (gval x13 false (evFieldAddr (tyi Try.prog 54) 0 x1)) fun x14 =>
    withV (gval x13 false (evLoad (tyi Try.prog 3) S x14)) fun x15 =>
    withV (gval x13 false (evBin .geq (tyi Try.prog 3) x15 (.int .i64 22))) fun x16 =>
    withV (gval x13 false (some x16)) fun x17 =>
    withV (gval x17 true (evFieldAddr (tyi Try.prog 54) 0 x1)) fun x18 =>
    withV (gval x17 true (evLoad (tyi Try.prog 3) S x18)) fun x19 =>
    withV (gval x17 true (evBin .leq (tyi Try.prog 3) x19 (.int .i64 27))) fun x20 =>
    withV (gval x13 false (pickO x17 x20 (.bool false))) fun x21 =>
    withV (pickO x13 (.bool true) x21) fun x22 =>
    withV (some x22) fun x23 =>
    withV (gval x23 false (evFieldAddr (tyi Try.prog 54) 0 x1)) fun x24 =>
    withV (gval x23 false (evLoad (tyi Try.prog 3) S x24)) fun x25 =>
    withV (gval x23 false (evBin .eql (tyi Try.prog 3) x25 (.int .i64 37))) fun x26 =>
    withV (pickO x23 (.bool true) x26) fun x27 =>
    withV (some x27) fun x28 =>
    withV (gval x28 false (evFieldAddr (tyi Try.prog 54) 0 x1)) fun x29 =>
    withV (gval x28 false (evLoad (tyi Try.prog 3) S x29)) fun x30 =>
    withV (gval x28 false (evBin .eql (tyi Try.prog 3) x30 (.int .i64 38))) fun x31 =>
    withV (pickO x28 (.bool true) x31) fun x32 =>
    withV (some x32) fun x4 =>
    K .normal (ee4 x1 x4) S := nr (by kernel_rfl)
@[go_sem] theorem k10_n (b : Nat) (x1 : PV) (S : Store) : k10 b .normal (ee0 x1) S =
  execL (C b) 0 c13 (k15 b) (ee0 x1) S := nr ((show k10 b .normal (ee0 x1) S = execL (C b) 0 c3 (k8 b) (ee0 x1) S from seqC_n _ _ _ _).trans ((show execL (C b) 0 c3 (k8 b) (ee0 x1) S = execL (C b) 0 c11 (k12 b) (ee0 x1) S from execL_block c3_h).trans ((enter_seq c11_h (k15_l b)).trans (rfl))))
theorem k10_l (b : Nat) : seqC (fun e S => execL (C b) 0 c2 (k0 b) e S) (k0 b) = k10 b := link_seq c2_h (k8_l b)
@[go_sem] theorem g75 (b : Nat) (K : KT) (x0 : PV) (S : Store) : execL (C b) 0 c1 K [(0, x0)] S =
  withN (boxed S (List.length S) (TI.size (tyi Try.prog 54)) x0) S fun x1 S =>
    withV (some (.bool false)) fun x2 =>
    K .normal (ee0 x1) S := nr (by kernel_rfl)
noncomputable def E (b : Nat) (x0 : PV) (S : Store) : RT := execL (C b) 0 code (k0 b) [(0, x0)] S
@[go_sem] theorem E_eq (b : Nat) (x0 : PV) (S : Store) : E b x0 S =
  execL (C b) 0 c1 (k10 b) [(0, x0)] S := nr ((enter_seq code_h (k10_l b)).trans (rfl))
theorem call {x0 : PV} {r : PV × Store} {v : PV} (h : E 0 x0 [] = some r) (hv : fzPV r.2 r.1 = some v) : callL Try.prog hints 92 [x0] = some v := callL_of (fn := Try.f92) (c := code) (by kernel_rfl) (by kernel_rfl) (by decide) (by kernel_rfl) (Nat.le_of_ble_eq_true (by kernel_rfl)) h hv
end F92
/-! ### isochroneref08.primed -/
namespace F95
def hint : Hint := { keep := [], loops := [(0, { live := [1, 3], after := [], own := [], fz := [] })], regs := [(0, [1]), (1, [1, 16]), (2, [2]), (3, [1, 3]), (4, [1, 3, 21]), (5, [1, 3]), (6, [1, 3, 29]), (7, [2]), (8, [2])] }
noncomputable def C (b : Nat) : Ctx := ctxL Try.prog hints b hint
noncomputable def code : Code := Try.f95.body.get rfl
noncomputable def k0 (b : Nat) : KT := endC Try.prog Try.f95
def ee0 (x1 : PV) : Env := [(1, x1)]
def ee1 (x1 x3 : PV) : Env := [(1, x1), (3, x3)]
@[go_sem] theorem gc_ee1 (n : Nat) (x1 x3 : PV) (S : Store) : gc n (ee1 x1 x3) S = gc n [(1, x1), (3, x3)] S := nr (rfl)
def ee2 (x1 x3 x21 : PV) : Env := [(1, x1), (3, x3), (21, x21)]
@[go_sem] theorem gc_ee2 (n : Nat) (x1 x3 x21 : PV) (S : Store) : gc n (ee2 x1 x3 x21) S = gc n [(1, x1), (3, x3), (21, x21)] S := nr (rfl)
def ee3 (x1 x3 x29 : PV) : Env := [(1, x1), (3, x3), (29, x29)]
def ee4 (x1 x16 : PV) : Env := [(1, x1), (16, x16)]
def ee5 (x2 : PV) : Env := [(2, x2)]
@[go_sem] theorem k0_ret5 (b : Nat) (x2 : PV) (S : Store) : k0 b .ret (ee5 x2) S = some (x2, S) := nr (by kernel_rfl)
noncomputable def c1 : Code := at0 code
noncomputable def c2 : Code := at1 code
theorem code_h : code = .seq c1 c2 := by kernel_rfl
noncomputable def c3 : Code := at0 c2
noncomputable def c4 : Code := at1 c2
theorem c2_h : c2 = .seq c3 c4 := by kernel_rfl
noncomputable def c5 : Code := at0 c4
noncomputable def c6 : Code := at1 c4
theorem c4_h : c4 = .seq c5 c6 := by kernel_rfl
noncomputable def c7 : Code := at0 c6
noncomputable def c8 : Code := at1 c6
theorem c6_h : c6 = .seq c7 c8 := by kernel_rfl
noncomputable def k9 (b : Nat) : KT := seqC (fun e S => execL (C b) 0 c8 (k0 b) e S) (k0 b)
@[go_sem] theorem k9_n (b : Nat) (x2 : PV) (S : Store) : k9 b .normal (ee5 x2) S =
  (k0 b) .ret (ee5 x2) S := nr ((show k9 b .normal (ee5 x2) S = execL (C b) 0 c8 (k0 b) (ee5 x2) S from seqC_n _ _ _ _).trans (execL_ret (by kernel_rfl)))
theorem k9_l (b : Nat) : seqC (fun e S => execL (C b) 0 c8 (k0 b) e S) (k0 b) = k9 b := rfl
noncomputable def k10 (b : Nat) : KT := seqC (fun e S => execL (C b) 0 c7 (k9 b) e S) (k0 b)
@[go_sem] theorem g11 (b : Nat) (K : KT) (x1 x3 x21 : PV) (S : Store) : execL (C b) 0 c7 K (ee2 x1 x3 x21) S =
  withV (some (.bool false)) fun x2 =>
    K .normal (ee5 x2) S := nr (by kernel_rfl)
@[go_sem] theorem k10_n (b : Nat) (e : Env) (S : Store) : k10 b .normal e S = execL (C b) 0 c7 (k9 b) e S := nr (seqC_n _ _ _ _)
@[go_sem] theorem k10_ret (b : Nat) (e : Env) (S : Store) : k10 b .ret e S = (k0 b) .ret e S := nr (seqC_r _ _ _ _)
theorem k10_l (b : Nat) : seqC (fun e S => execL (C b) 0 c6 (k0 b) e S) (k0 b) = k10 b := link_seq c6_h (k9_l b)
noncomputable def k12 (b : Nat) : KT := seqC (fun e S => execL (C b) 0 c5 (k10 b) e S) (k0 b)
noncomputable def c13 : Code := at0 c5
noncomputable def c14 : Code := at1 c5
theorem c5_h : c5 = .seq c13 c14 := by kernel_rfl
noncomputable def k15 (b : Nat) : KT := seqC (fun e S => execL (C b) 0 c14 (k10 b) e S) (k10 b)
noncomputable def c16 : Code := atB c14
theorem c14_h : c14 = .block 0 c16 := by kernel_rfl
noncomputable def k17 (b : Nat) : KT := blockC 0 (k10 b)
@[go_sem] theorem k17_ret (b : Nat) (e : Env) (S : Store) : k17 b .ret e S = (k10 b) .ret e S := nr (blockC_r _ _ _ _)
@[go_sem] theorem k17_exit (b : Nat) (i : Nat) (e : Env) (S : Store) : k17 b (.exit i) e S = if i = 0 then (k10 b) .normal e S else (k10 b) (.exit i) e S := nr (blockC_x _ _ _ _ _)
noncomputable def c18 : Code := atL c16
noncomputable def k19 (b n0 : Nat) : KT := afterC 0 n0 [] (k17 b)
noncomputable def L0g (b n0 : Nat) (e : Env) (S : Store) : RT := loopL (fun K e S => execL (C b) 0 c18 K e S) (normG [1, 3] [] n0) (k19 b n0) e S
noncomputable def L0 (b n0 : Nat) (x1 x3 : PV) (S : Store) : RT := L0g b n0 (ee1 x1 x3) S
noncomputable def k20 (b n0 : Nat) : KT := stepC (normG [1, 3] [] n0) (k19 b n0) (L0g b n0)
@[go_sem] theorem k20_n (b n0 : Nat) (x1 x3 : PV) (S : Store) : k20 b n0 .normal (ee1 x1 x3) S = L0 b n0 x1 x3 (gc n0 (ee1 x1 x3) S) := nr (by kernel_rfl)
@[go_sem] theorem k20_ret (b n0 : Nat) (e : Env) (S : Store) : k20 b n0 .ret e S = (k17 b) .ret e S := nr ((show k20 b n0 .ret e S = (k19 b n0) .ret e S from stepC_r _ _ _ _ _).trans (afterC_r _ _ _ _ _ _))
@[go_sem] theorem k20_x1 (b n0 : Nat) (x1 x3 x21 : PV) (S : Store) : k20 b n0 (.exit 0) (ee2 x1 x3 x21) S = (k17 b) (.exit 0) (ee2 .undef .undef .undef) (gc n0 (ee2 .undef .undef .undef) S) := nr ((show k20 b n0 (.exit 0) (ee2 x1 x3 x21) S = (k19 b n0) (.exit 0) (ee2 x1 x3 x21) S from stepC_x _ _ _ _ _ _).trans ((show (k19 b n0) (.exit 0) (ee2 x1 x3 x21) S = _ from afterC_x _ _ _ _ _ _ _).trans (if_pos rfl)))
noncomputable def c21 : Code := at0 c18
noncomputable def c22 : Code := at1 c18
theorem c18_h : c18 = .seq c21 c22 := by kernel_rfl
noncomputable def c23 : Code := at0 c22
noncomputable def c24 : Code := at1 c22
theorem c22_h : c22 = .seq c23 c24 := by kernel_rfl
noncomputable def k25 (b n0 : Nat) : KT := seqC (fun e S => execL (C b) 0 c24 (k20 b n0) e S) (k20 b n0)
@[go_sem] theorem g26 (b : Nat) (K : KT) (x1 x3 x29 : PV) (S : Store) : execL (C b) 0 c24 K (ee3 x1 x3 x29) S =
  withV (some x3) fun x22 =>
    withV (evBin .add (tyi Try.prog 3) x22 (.int .i64 1)) fun x23 =>
    withV (some x23) fun x3 =>
    K .normal (ee1 x1 x3) S := nr (by kernel_rfl)
@[go_sem] theorem k25_n (b n0 : Nat) (e : Env) (S : Store) : k25 b n0 .normal e S = execL (C b) 0 c24 (k20 b n0) e S := nr (seqC_n _ _ _ _)
@[go_sem] theorem k25_ret (b n0 : Nat) (e : Env) (S : Store) : k25 b n0 .ret e S = (k20 b n0) .ret e S := nr (seqC_r _ _ _ _)
theorem k25_l (b n0 : Nat) : seqC (fun e S => execL (C b) 0 c24 (k20 b n0) e S) (k20 b n0) = k25 b n0 := rfl
noncomputable def k27 (b n0 : Nat) : KT := seqC (fun e S => execL (C b) 0 c23 (k25 b n0) e S) (k20 b n0)
noncomputable def c28 : Code := atB c23
theorem c23_h : c23 = .block 1 c28 := by kernel_rfl
noncomputable def k29 (b n0 : Nat) : KT := blockC 1 (k25 b n0)
@[go_sem] theorem k29_n (b n0 : Nat) (e : Env) (S : Store) : k29 b n0 .normal e S = (k25 b n0) .normal e S := nr (blockC_n _ _ _ _)
@[go_sem] theorem k29_ret (b n0 : Nat) (e : Env) (S : Store) : k29 b n0 .ret e S = (k25 b n0) .ret e S := nr (blockC_r _ _ _ _)
noncomputable def c30 : Code := at0 c28
noncomputable def c31 : Code := at1 c28
theorem c28_h : c28 = .seq c30 c31 := by kernel_rfl
noncomputable def k32 (b n0 : Nat) : KT := seqC (fun e S => execL (C b) 1 c31 (k29 b n0) e S) (k29 b n0)
noncomputable def c33 : Code := atT c31
noncomputable def c34 : Code := atF c31
theorem c31_h : c31 = .cond (.tmp 29) c33 c34 := by kernel_rfl
noncomputable def c36 : Code := at0 c33
noncomputable def c37 : Code := at1 c33
theorem c33_h : c33 = .seq c36 c37 := by kernel_rfl
noncomputable def k38 (b n0 : Nat) : KT := seqC (fun e S => execL (C b) 1 c37 (k29 b n0) e S) (k29 b n0)
@[go_sem] theorem k38_n (b n0 : Nat) (x2 : PV) (S : Store) : k38 b n0 .normal (ee5 x2) S =
  (k29 b n0) .ret (ee5 x2) S := nr ((show k38 b n0 .normal (ee5 x2) S = execL (C b) 1 c37 (k29 b n0) (ee5 x2) S from seqC_n _ _ _ _).trans (execL_ret (by kernel_rfl)))
theorem k38_l (b n0 : Nat) : seqC (fun e S => execL (C b) 1 c37 (k29 b n0) e S) (k29 b n0) = k38 b n0 := rfl
@[go_sem] theorem g39 (b : Nat) (K : KT) (x1 x3 x29 : PV) (S : Store) : execL (C b) 1 c36 K (ee3 x1 x3 x29) S =
  withV (some (.bool true)) fun x2 =>
    K .normal (ee5 x2) S := nr (by kernel_rfl)
noncomputable def E35 (b n0 : Nat) (x1 x3 x29 : PV) (S : Store) : RT := execL (C b) 1 c33 (k29 b n0) (ee3 x1 x3 x29) S
@[go_sem] theorem E35_eq (b n0 : Nat) (x1 x3 x29 : PV) (S : Store) : E35 b n0 x1 x3 x29 S =
  execL (C b) 1 c36 (k38 b n0) (ee3 x1 x3 x29) S := nr ((enter_seq c33_h (k38_l b n0)).trans (rfl))
@[go_sem] theorem k32_n (b n0 : Nat) (x1 x3 x29 : PV) (S : Store) : k32 b n0 .normal (ee3 x1 x3 x29) S =
  condC x29 (E35 b n0 x1 x3 x29 S)
    ((k29 b n0) .normal (ee3 x1 x3 x29) S) := nr ((show k32 b n0 .normal (ee3 x1 x3 x29) S = execL (C b) 1 c31 (k29 b n0) (ee3 x1 x3 x29) S from seqC_n _ _ _ _).trans (execL_cond c31_h (rfl) (execL_skip (by kernel_rfl)) rfl))
theorem k32_l (b n0 : Nat) : seqC (fun e S => execL (C b) 1 c31 (k29 b n0) e S) (k29 b n0) = k32 b n0 := rfl
@[go_sem] theorem g40 (b : Nat) (K : KT) (x1 x3 x21 : PV) (S : Store) : execL (C b) 1 c30 K (ee2 x1 x3 x21) S =
  withV (evFieldAddr (tyi Try.prog 54) 3 x1) fun x24 =>
    withV (evLoad (tyi Try.prog 52) S x24) fun x25 =>
    withV (some x3) fun x26 =>
    withV (indexAddrO Try.prog 52 S x25 x26) fun x27 =>
    withV (evLoad (tyi Try.prog 54) S x27) fun x28 =>
    withN (callO (callL Try.prog hints) S 95 [x28]) S fun x29 S =>
    K .normal (ee3 x1 x3 x29) S := nr (by kernel_rfl)
@[go_sem] theorem k27_n (b n0 : Nat) (x1 x3 x21 : PV) (S : Store) : k27 b n0 .normal (ee2 x1 x3 x21) S =
  execL (C b) 1 c30 (k32 b n0) (ee2 x1 x3 x21) S := nr ((show k27 b n0 .normal (ee2 x1 x3 x21) S = execL (C b) 0 c23 (k25 b n0) (ee2 x1 x3 x21) S from seqC_n _ _ _ _).trans ((show execL (C b) 0 c23 (k25 b n0) (ee2 x1 x3 x21) S = execL (C b) 1 c28 (k29 b n0) (ee2 x1 x3 x21) S from execL_block c23_h).trans ((enter_seq c28_h (k32_l b n0)).trans (rfl))))
@[go_sem] theorem k27_exit (b n0 : Nat) (i : Nat) (e : Env) (S : Store) : k27 b n0 (.exit i) e S = (k20 b n0) (.exit i) e S := nr (seqC_x _ _ _ _ _)
theorem k27_l (b n0 : Nat) : seqC (fun e S => execL (C b) 0 c22 (k20 b n0) e S) (k20 b n0) = k27 b n0 := link_seq c22_h (k25_l b n0)
noncomputable def c41 : Code := at0 c21
noncomputable def c42 : Code := at1 c21
theorem c21_h : c21 = .seq c41 c42 := by kernel_rfl
noncomputable def k43 (b n0 : Nat) : KT := seqC (fun e S => execL (C b) 0 c42 (k27 b n0) e S) (k27 b n0)
noncomputable def c44 : Code := atT c42
noncomputable def c45 : Code := atF c42
theorem c42_h : c42 = .cond (.tmp 21) c44 c45 := by kernel_rfl
@[go_sem] theorem k43_n (b n0 : Nat) (x1 x3 x21 : PV) (S : Store) : k43 b n0 .normal (ee2 x1 x3 x21) S =
  condC x21 ((k27 b n0) .normal (ee2 x1 x3 x21) S)
    ((k27 b n0) (.exit 0) (ee2 x1 x3 x21) S) := nr ((show k43 b n0 .normal (ee2 x1 x3 x21) S = execL (C b) 0 c42 (k27 b n0) (ee2 x1 x3 x21) S from seqC_n _ _ _ _).trans (execL_cond c42_h (execL_skip (by kernel_rfl)) (execL_exit (by kernel_rfl)) rfl))
theorem k43_l (b n0 : Nat) : seqC (fun e S => execL (C b) 0 c42 (k27 b n0) e S) (k27 b n0) = k43 b n0 := rfl
@[go_sem] theorem g46 (b : Nat) (K : KT) (x1 x3 : PV) (S : Store) : execL (C b) 0 c41 K (ee1 x1 x3) S =
  withV (some x3) fun x17 =>
    withV (evFieldAddr (tyi Try.prog 54) 3 x1) fun x18 =>
    withV (evLoad (tyi Try.prog 52) S x18) fun x19 =>
    withV (lenO (tyi Try.prog 52) x19) fun x20 =>
    withV (evBin .lss (tyi Try.prog 3) x17 x20) fun x21 =>
    K .normal (ee2 x1 x3 x21) S := nr (by kernel_rfl)
noncomputable def B0 (b n0 : Nat) (x1 x3 : PV) (S : Store) : RT := execL (C b) 0 c18 (k20 b n0) (ee1 x1 x3) S
@[go_sem] theorem B0_eq (b n0 : Nat) (x1 x3 : PV) (S : Store) : B0 b n0 x1 x3 S =
  execL (C b) 0 c41 (k43 b n0) (ee1 x1 x3) S := nr ((enter_seq c18_h (k27_l b n0)).trans ((enter_seq c21_h (k43_l b n0)).trans (rfl)))
theorem L0_step {b n0 : Nat} {x1 x3 : PV} {S : Store} {z : PV × Store} (h : B0 b n0 x1 x3 S = some z) : L0 b n0 x1 x3 S = some z := loopL_step h
theorem L0_in (b : Nat) (x1 x3 : PV) (S : Store) : execL (C b) 0 c16 (k17 b) (ee1 x1 x3) S = L0 b (List.length S) x1 x3 S := by kernel_rfl
@[go_sem] theorem k15_n (b : Nat) (x1 x3 : PV) (S : Store) : k15 b .normal (ee1 x1 x3) S =
  L0 b (List.length S) x1 x3 S := nr ((show k15 b .normal (ee1 x1 x3) S = execL (C b) 0 c14 (k10 b) (ee1 x1 x3) S from seqC_n _ _ _ _).trans ((show execL (C b) 0 c14 (k10 b) (ee1 x1 x3) S = execL (C b) 0 c16 (k17 b) (ee1 x1 x3) S from execL_block c14_h).trans (L0_in b x1 x3 S)))
theorem k15_l (b : Nat) : seqC (fun e S => execL (C b) 0 c14 (k10 b) e S) (k10 b) = k15 b := rfl
@[go_sem] theorem g48 (b : Nat) (K : KT) (x1 x16 : PV) (S : Store) : execL (C b) 0 c13 K (ee4 x1 x16) S =
  withV (some (.int .i64 0)) fun x3 =>
    K .normal (ee1 x1 x3) S := nr (by kernel_rfl)
@[go_sem] theorem k12_n (b : Nat) (x1 x16 : PV) (S : Store) : k12 b .normal (ee4 x1 x16) S =
  execL (C b) 0 c13 (k15 b) (ee4 x1 x16) S := nr ((show k12 b .normal (ee4 x1 x16) S = execL (C b) 0 c5 (k10 b) (ee4 x1 x16) S from seqC_n _ _ _ _).trans ((enter_seq c5_h (k15_l b)).trans (rfl)))
@[go_sem] theorem k12_ret (b : Nat) (e : Env) (S : Store) : k12 b .ret e S = (k0 b) .ret e S := nr (seqC_r _ _ _ _)
theorem k12_l (b : Nat) : seqC (fun e S => execL (C b) 0 c4 (k0 b) e S) (k0 b) = k12 b := link_seq c4_h (k10_l b)
noncomputable def k49 (b : Nat) : KT := seqC (fun e S => execL (C b) 0 c3 (k12 b) e S) (k0 b)
noncomputable def c50 : Code := at0 c3
noncomputable def c51 : Code := at1 c3
theorem c3_h : c3 = .seq c50 c51 := by kernel_rfl
noncomputable def k52 (b : Nat) : KT := seqC (fun e S => execL (C b) 0 c51 (k12 b) e S) (k12 b)
noncomputable def c53 : Code := atT c51
noncomputable def c54 : Code := atF c51
theorem c51_h : c51 = .cond (.tmp 16) c53 c54 := by kernel_rfl
noncomputable def c56 : Code := at0 c53
noncomputable def c57 : Code := at1 c53
theorem c53_h : c53 = .seq c56 c57 := by kernel_rfl
noncomputable def k58 (b : Nat) : KT := seqC (fun e S => execL (C b) 0 c57 (k12 b) e S) (k12 b)
@[go_sem] theorem k58_n (b : Nat) (x2 : PV) (S : Store) : k58 b .normal (ee5 x2) S =
  (k12 b) .ret (ee5 x2) S := nr ((show k58 b .normal (ee5 x2) S = execL (C b) 0 c57 (k12 b) (ee5 x2) S from seqC_n _ _ _ _).trans (execL_ret (by kernel_rfl)))
theorem k58_l (b : Nat) : seqC (fun e S => execL (C b) 0 c57 (k12 b) e S) (k12 b) = k58 b := rfl
@[go_sem] theorem g59 (b : Nat) (K : KT) (x1 x16 : PV) (S : Store) : execL (C b) 0 c56 K (ee4 x1 x16) S =
  withV (some (.bool true)) fun x2 =>
    K .normal (ee5 x2) S := nr (by kernel_rfl)
noncomputable def E55 (b : Nat) (x1 x16 : PV) (S : Store) : RT := execL (C b) 0 c53 (k12 b) (ee4 x1 x16) S
@[go_sem] theorem E55_eq (b : Nat) (x1 x16 : PV) (S : Store) : E55 b x1 x16 S =
  execL (C b) 0 c56 (k58 b) (ee4 x1 x16) S := nr ((enter_seq c53_h (k58_l b)).trans (rfl))
@[go_sem] theorem k52_n (b : Nat) (x1 x16 : PV) (S : Store) : k52 b .normal (ee4 x1 x16) S =
  condC x16 (E55 b x1 x16 S)
    ((k12 b) .normal (ee4 x1 x16) S) := nr ((show k52 b .normal (ee4 x1 x16) S = execL (C b) 0 c51 (k12 b) (ee4 x1 x16) S from seqC_n _ _ _ _).trans (execL_cond c51_h (rfl) (execL_skip (by kernel_rfl)) rfl))
theorem k52_l (b : Nat) : seqC (fun e S => execL (C b) 0 c51 (k12 b) e S) (k12 b) = k52 b := rfl
@[go_sem] theorem g60 (b : Nat) (K : KT) (x1 : PV) (S : Store) : execL (C b) 0 c50 K (ee0 x1) S =
  withV (evFieldAddr (tyi Try.prog 54) 0 x1) fun x4 =>
    withV (evLoad (tyi Try.prog 3) S x4) fun x5 =>
    withV (evBin .eql (tyi Try.prog 3) x5 (.int .i64 3)) fun x6 =>
    withV (some x6) fun x7 =>
    withV (gval x7 false (evFieldAddr (tyi Try.prog 54) 0 x1)) fun x8 =>
    withV (gval x7 false (evLoad (tyi Try.prog 3) S x8)) fun x9 =>
    withV (gval x7 false (evBin .eql (tyi Try.prog 3) x9 (.int .i64 12))) fun x10 =>
    withV (pickO x7 (.bool true) x10) fun x11 =>
    withV (some x11) fun x12 =>
    withV (gval x12 false (evFieldAddr (tyi Try.prog 54) 0 x1)) fun x13 =>
    withV (gval x12 false (evLoad (tyi Try.prog 3) S x13)) fun x14 =>
    withV (gval x12 false (evBin .eql (tyi Try.prog 3) x14 (.int .i64 39))) fun x15 =>
    withV (pickO x12 (.bool true) x15) fun x16 =>
    K .normal (ee4 x1 x16) S := nr (by kernel_rfl)
@[go_sem] theorem k49_n (b : Nat) (x1 : PV) (S : Store) : k49 b .normal (ee0 x1) S =
  execL (C b) 0 c50 (k52 b) (ee0 x1) S := nr ((show k49 b .normal (ee0 x1) S = execL (C b) 0 c3 (k12 b) (ee0 x1) S from seqC_n _ _ _ _).trans ((enter_seq c3_h (k52_l b)).trans (rfl)))
theorem k49_l (b : Nat) : seqC (fun e S => execL (C b) 0 c2 (k0 b) e S) (k0 b) = k49 b := link_seq c2_h (k12_l b)
@[go_sem] theorem g61 (b : Nat) (K : KT) (x0 : PV) (S : Store) : execL (C b) 0 c1 K [(0, x0)] S =
  withN (boxed S (List.length S) (TI.size (tyi Try.prog 54)) x0) S fun x1 S =>
    withV (some (.bool false)) fun x2 =>
    K .normal (ee0 x1) S := nr (by kernel_rfl)
noncomputable def E (b : Nat) (x0 : PV) (S : Store) : RT := execL (C b) 0 code (k0 b) [(0, x0)] S
@[go_sem] theorem E_eq (b : Nat) (x0 : PV) (S : Store) : E b x0 S =
  execL (C b) 0 c1 (k49 b) [(0, x0)] S := nr ((enter_seq code_h (k49_l b)).trans (rfl))
theorem call {x0 : PV} {r : PV × Store} {v : PV} (h : E 0 x0 [] = some r) (hv : fzPV r.2 r.1 = some v) : callL Try.prog hints 95 [x0] = some v := callL_of (fn := Try.f95) (c := code) (by kernel_rfl) (by kernel_rfl) (by decide) (by kernel_rfl) (Nat.le_of_ble_eq_true (by kernel_rfl)) h hv
end F95
end Go.Vs
