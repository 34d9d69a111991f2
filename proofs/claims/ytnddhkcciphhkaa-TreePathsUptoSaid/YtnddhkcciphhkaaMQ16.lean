/- Printed by a program of mine (stage1.py): the functions 64, piece by piece. -/

import Derived.Test.YtnddhkcciphhkaaMQ9
set_option linter.unusedVariables false
set_option linter.unusedSimpArgs false
namespace Go.Vs
open Go Go.Proofs
noncomputable section

/-! ### tree.formed -/
namespace F64
section
variable (b i n n1 n3 n5 n7 : Nat) (K : KT) (x0 x1 x2 x3 x4 x5 x6 x7 x8 x9 x11 x12 x13 x14 x17 x21 x38 x70 x72 x73 x85 x88 x89 x90 x95 x105 x112 x133 x137 x138 x139 x140 x152 x161 x172 x173 x180 x182 x199 x206 x208 x209 x210 x211 x228 x232 x251 : PV) (e : Env) (S : Store)
noncomputable def hint : Hint := { keep := [], loops := [(7, { live := [2, 3, 6, 208, 209, 210], after := [2], own := [], fz := [6] }), (1, { live := [2, 3, 6, 88, 89], after := [2, 3, 6], own := [6], fz := [] }), (5, { live := [2, 3, 6, 7, 8, 9, 137, 138, 139], after := [2, 3, 6, 7, 8], own := [], fz := [] }), (3, { live := [2, 3, 6, 7, 8], after := [2, 3, 6], own := [6], fz := [] })], regs := [(0, [2, 3]), (1, [2, 3, 17]), (2, [2, 3, 21, 38]), (3, [4]), (4, [2, 3, 21, 38]), (5, [4]), (6, [2, 3, 5, 6]), (7, [2, 3, 6, 70]), (8, [4]), (9, [2, 3, 6, 72]), (10, [2, 3, 6, 72, 73]), (11, [2, 3, 6, 72, 73]), (12, [2, 3, 6, 85]), (13, [4]), (14, [2, 3, 6, 88, 89]), (15, [2, 3, 6, 88, 89, 90, 172, 182]), (16, [2, 3, 6, 88, 89]), (17, [2, 3, 6, 88, 89]), (18, [2, 3, 6, 72, 95]), (19, [2, 3, 6, 105]), (20, [4]), (21, [2, 3, 6, 7]), (22, [2, 3, 6, 7, 8]), (23, [2, 3, 6, 7, 8, 112]), (24, [2, 3, 6, 7, 8]), (25, [2, 3, 6, 7, 8, 9]), (26, [2, 3, 6, 7, 8, 9, 133]), (27, [4]), (28, [2, 3, 6, 7, 8, 9, 137, 138, 139]), (29, [2, 3, 6, 7, 8, 9, 137, 138, 139, 140]), (30, [2, 3, 6, 7, 8, 9, 11, 137, 138, 139]), (31, [2, 3, 6, 7, 8, 9, 137, 138, 139, 152]), (32, [4]), (33, [2, 3, 6, 7, 8, 9, 137, 138, 139]), (34, [2, 3, 6, 7, 8]), (35, [2, 3, 6]), (36, [2, 3, 6, 88, 89, 90, 172, 182]), (37, [2, 3, 6, 72, 161]), (38, [2, 3, 6, 88, 89, 90, 172, 182]), (39, [4]), (40, [2, 3, 6, 72, 173]), (41, [2, 3, 6, 180]), (42, [4]), (43, [2, 3, 6, 88, 89, 90, 172, 182]), (44, [2, 3, 6, 88, 89, 90, 172, 182]), (45, [2, 3, 6, 199]), (46, [4]), (47, [2, 3, 6, 88, 89, 90, 172, 182]), (48, [2, 3, 6, 206]), (49, [4]), (50, [2, 3, 6, 208, 209, 210]), (51, [2, 3, 6, 208, 209, 210, 211]), (52, [2, 3, 6, 12, 13, 208, 209, 210]), (53, [2, 3, 6, 208, 209, 210, 228]), (54, [4]), (55, [2, 3, 6, 208, 209, 210]), (56, [2, 232]), (57, [4]), (58, [2, 251]), (59, [14]), (60, [4]), (61, [4])] }
noncomputable def C (b : Nat) : Ctx := ctxL Try.prog hints b hint
noncomputable def code : Code := Try.f64.body.get rfl
noncomputable def k0 (b : Nat) : KT := endC Try.prog Try.f64
def ee0 (x2 x3 : PV) : Env := [(2, x2), (3, x3)]
def ee1 (x2 x3 x5 x6 : PV) : Env := [(2, x2), (3, x3), (5, x5), (6, x6)]
def ee2 (x2 x3 x6 : PV) : Env := [(2, x2), (3, x3), (6, x6)]
def ee3 (x2 x3 x6 x7 : PV) : Env := [(2, x2), (3, x3), (6, x6), (7, x7)]
def ee4 (x2 x3 x6 x7 x8 : PV) : Env := [(2, x2), (3, x3), (6, x6), (7, x7), (8, x8)]
def ee5 (x2 x3 x6 x7 x8 x9 : PV) : Env := [(2, x2), (3, x3), (6, x6), (7, x7), (8, x8), (9, x9)]
def ee6 (x2 x3 x6 x7 x8 x9 x11 x137 x138 x139 : PV) : Env := [(2, x2), (3, x3), (6, x6), (7, x7), (8, x8), (9, x9), (11, x11), (137, x137), (138, x138), (139, x139)]
def ee7 (x2 x3 x6 x7 x8 x9 x133 : PV) : Env := [(2, x2), (3, x3), (6, x6), (7, x7), (8, x8), (9, x9), (133, x133)]
def ee8 (x2 x3 x6 x7 x8 x9 x137 x138 x139 : PV) : Env := [(2, x2), (3, x3), (6, x6), (7, x7), (8, x8), (9, x9), (137, x137), (138, x138), (139, x139)]
def ee9 (x2 x3 x6 x7 x8 x9 x137 x138 x139 x140 : PV) : Env := [(2, x2), (3, x3), (6, x6), (7, x7), (8, x8), (9, x9), (137, x137), (138, x138), (139, x139), (140, x140)]
def ee10 (x2 x3 x6 x7 x8 x9 x137 x138 x139 x152 : PV) : Env := [(2, x2), (3, x3), (6, x6), (7, x7), (8, x8), (9, x9), (137, x137), (138, x138), (139, x139), (152, x152)]
def ee11 (x2 x3 x6 x7 x8 x112 : PV) : Env := [(2, x2), (3, x3), (6, x6), (7, x7), (8, x8), (112, x112)]
def ee12 (x2 x3 x6 x12 x13 x208 x209 x210 : PV) : Env := [(2, x2), (3, x3), (6, x6), (12, x12), (13, x13), (208, x208), (209, x209), (210, x210)]
def ee13 (x2 x3 x6 x70 : PV) : Env := [(2, x2), (3, x3), (6, x6), (70, x70)]
def ee14 (x2 x3 x6 x72 : PV) : Env := [(2, x2), (3, x3), (6, x6), (72, x72)]
def ee15 (x2 x3 x6 x72 x73 : PV) : Env := [(2, x2), (3, x3), (6, x6), (72, x72), (73, x73)]
def ee16 (x2 x3 x6 x72 x95 : PV) : Env := [(2, x2), (3, x3), (6, x6), (72, x72), (95, x95)]
def ee17 (x2 x3 x6 x72 x161 : PV) : Env := [(2, x2), (3, x3), (6, x6), (72, x72), (161, x161)]
def ee18 (x2 x3 x6 x72 x173 : PV) : Env := [(2, x2), (3, x3), (6, x6), (72, x72), (173, x173)]
def ee19 (x2 x3 x6 x85 : PV) : Env := [(2, x2), (3, x3), (6, x6), (85, x85)]
def ee20 (x2 x3 x6 x88 x89 : PV) : Env := [(2, x2), (3, x3), (6, x6), (88, x88), (89, x89)]
def ee21 (x2 x3 x6 x88 x89 x90 x172 x182 : PV) : Env := [(2, x2), (3, x3), (6, x6), (88, x88), (89, x89), (90, x90), (172, x172), (182, x182)]
def ee22 (x2 x3 x6 x105 : PV) : Env := [(2, x2), (3, x3), (6, x6), (105, x105)]
def ee23 (x2 x3 x6 x180 : PV) : Env := [(2, x2), (3, x3), (6, x6), (180, x180)]
def ee24 (x2 x3 x6 x199 : PV) : Env := [(2, x2), (3, x3), (6, x6), (199, x199)]
def ee25 (x2 x3 x6 x206 : PV) : Env := [(2, x2), (3, x3), (6, x6), (206, x206)]
def ee26 (x2 x3 x6 x208 x209 x210 : PV) : Env := [(2, x2), (3, x3), (6, x6), (208, x208), (209, x209), (210, x210)]
def ee27 (x2 x3 x6 x208 x209 x210 x211 : PV) : Env := [(2, x2), (3, x3), (6, x6), (208, x208), (209, x209), (210, x210), (211, x211)]
def ee28 (x2 x3 x6 x208 x209 x210 x228 : PV) : Env := [(2, x2), (3, x3), (6, x6), (208, x208), (209, x209), (210, x210), (228, x228)]
def ee29 (x2 x3 x17 : PV) : Env := [(2, x2), (3, x3), (17, x17)]
def ee30 (x2 x3 x21 x38 : PV) : Env := [(2, x2), (3, x3), (21, x21), (38, x38)]
def ee31 (x2 x232 : PV) : Env := [(2, x2), (232, x232)]
def ee32 (x2 x251 : PV) : Env := [(2, x2), (251, x251)]
def ee33 (x4 : PV) : Env := [(4, x4)]
def ee34 (x14 : PV) : Env := [(14, x14)]
def c1 : Code := at0 code
def c2 : Code := at1 code
def c3 : Code := at0 c2
def c4 : Code := at1 c2
def c5 : Code := at0 c4
def c6 : Code := at1 c4
def c7 : Code := at0 c6
def c8 : Code := at1 c6
def c9 : Code := at0 c8
def c10 : Code := at1 c8
def c11 : Code := at0 c10
def c12 : Code := at1 c10
def c13 : Code := at0 c12
def c14 : Code := at1 c12
def c15 : Code := at0 c14
def c16 : Code := at1 c14
def c17 : Code := at0 c16
def c18 : Code := at1 c16
def c19 : Code := at0 c18
def c20 : Code := at1 c18
def k21 (b : Nat) : KT := seqC (fun e S => execL (C b) 0 c20 (k0 b) e S) (k0 b)
@[go_sem] theorem k21_n : k21 b .normal (ee33 x4) S =
  (k0 b) .ret (ee33 x4) S := nr (seqN (execL_ret (by kernel_rfl)))
def k22 (b : Nat) : KT := seqC (fun e S => execL (C b) 0 c18 (k0 b) e S) (k0 b)
@[go_sem] theorem g23 : execL (C b) 0 c19 K (ee32 x2 x251) S =
  withV (some (.bool true)) fun x4 =>
    K .normal (ee33 x4) S := nr (by kernel_rfl)
@[go_sem] theorem k22_n : k22 b .normal e S = execL (C b) 0 c19 (k21 b) e S := nr (seqN (enterS (by kernel_rfl)))
@[go_sem] theorem k22_ret : k22 b .ret e S = (k0 b) .ret e S := nr (seqC_r _ _ _ _)
def k24 (b : Nat) : KT := seqC (fun e S => execL (C b) 0 c16 (k0 b) e S) (k0 b)
def c25 : Code := at0 c17
def c26 : Code := at1 c17
def k27 (b : Nat) : KT := seqC (fun e S => execL (C b) 0 c26 (k22 b) e S) (k22 b)
def c28 : Code := atT c26
def c31 : Code := at0 c28
def c32 : Code := at1 c28
def c33 : Code := at0 c32
def c34 : Code := at1 c32
def k35 (b : Nat) : KT := seqC (fun e S => execL (C b) 0 c34 (k22 b) e S) (k22 b)
@[go_sem] theorem k35_n : k35 b .normal (ee33 x4) S =
  (k22 b) .ret (ee33 x4) S := nr (seqN (execL_ret (by kernel_rfl)))
def k36 (b : Nat) : KT := seqC (fun e S => execL (C b) 0 c32 (k22 b) e S) (k22 b)
@[go_sem] theorem g37 : execL (C b) 0 c33 K (ee34 x14) S =
  withV (evFieldAddr (tyi Try.prog 54) 0 x14) fun x256 =>
    withV (evLoad (tyi Try.prog 3) S x256) fun x257 =>
    withV (evBin .eql (tyi Try.prog 3) x257 (.int .i64 1)) fun x258 =>
    withV (some x258) fun x259 =>
    withV (gval x259 true (evFieldAddr (tyi Try.prog 54) 2 x14)) fun x260 =>
    withV (gval x259 true (evFieldAddr (tyi Try.prog 51) 1 x260)) fun x261 =>
    withV (gval x259 true (evLoad (tyi Try.prog 49) S x261)) fun x262 =>
    withV (gval x259 true (lenO (tyi Try.prog 49) x262)) fun x263 =>
    withV (gval x259 true (evBin .eql (tyi Try.prog 3) x263 (.int .i64 0))) fun x264 =>
    withV (gval x259 true (some x264)) fun x265 =>
    withV (gval x265 false (evFieldAddr (tyi Try.prog 54) 2 x14)) fun x266 =>
    withV (gval x265 false (evFieldAddr (tyi Try.prog 51) 1 x266)) fun x267 =>
    withV (gval x265 false (evLoad (tyi Try.prog 49) S x267)) fun x268 =>
    withV (gval x265 false (lenO (tyi Try.prog 49) x268)) fun x269 =>
    withV (gval x265 false (evBin .eql (tyi Try.prog 3) x269 (.int .i64 1))) fun x270 =>
    withV (gval x265 false (some x270)) fun x271 =>
    withV (gval x271 true (evFieldAddr (tyi Try.prog 54) 2 x14)) fun x272 =>
    withV (gval x271 true (evFieldAddr (tyi Try.prog 51) 1 x272)) fun x273 =>
    withV (gval x271 true (evLoad (tyi Try.prog 49) S x273)) fun x274 =>
    withV (gval x271 true (indexAddrO Try.prog 49 S x274 (.int .i64 0))) fun x275 =>
    withV (gval x271 true (evLoad (tyi Try.prog 76) S x275)) fun x276 =>
    withV (gval x271 true (evBin .leq (tyi Try.prog 76) x276 (.int .u32 20))) fun x277 =>
    withV (gval x265 false (pickO x271 x277 (.bool false))) fun x278 =>
    withV (gval x259 true (pickO x265 (.bool true) x278)) fun x279 =>
    withV (pickO x259 x279 (.bool false)) fun x280 =>
    withV (some x280) fun x4 =>
    K .normal (ee33 x4) S := nr (by kernel_rfl)
@[go_sem] theorem k36_n : k36 b .normal e S = execL (C b) 0 c33 (k35 b) e S := nr (seqN (enterS (by kernel_rfl)))
@[go_sem] theorem g38 : execL (C b) 0 c31 K (ee32 x2 x251) S =
  withV (evFieldAddr (tyi Try.prog 54) 3 x2) fun x252 =>
    withV (evLoad (tyi Try.prog 52) S x252) fun x253 =>
    withV (indexAddrO Try.prog 52 S x253 (.int .i64 1)) fun x254 =>
    withV (evLoad (tyi Try.prog 54) S x254) fun x255 =>
    withN (allocO (tyi Try.prog 54) (List.length S)) S fun x14 S =>
    withS (storeE (tyi Try.prog 54) S x14 x255) fun _u S =>
    K .normal (ee34 x14) S := nr (by kernel_rfl)
@[go_sem] theorem k27_n : k27 b .normal (ee32 x2 x251) S =
  condC x251 (execL (C b) 0 c31 (k36 b) (ee32 x2 x251) S)
    ((k22 b) .normal (ee32 x2 x251) S) := nr (seqN (condE (t := 251) (by kernel_rfl) (enterS (by kernel_rfl)) (execL_skip (by kernel_rfl)) rfl))
@[go_sem] theorem g39 : execL (C b) 0 c25 K (ee31 x2 x232) S =
  withV (evFieldAddr (tyi Try.prog 54) 0 x2) fun x249 =>
    withV (evLoad (tyi Try.prog 3) S x249) fun x250 =>
    withV (evBin .eql (tyi Try.prog 3) x250 (.int .i64 9)) fun x251 =>
    K .normal (ee32 x2 x251) S := nr (by kernel_rfl)
@[go_sem] theorem k24_n : k24 b .normal (ee31 x2 x232) S =
  execL (C b) 0 c25 (k27 b) (ee31 x2 x232) S := nr (seqN ((enterS (by kernel_rfl)).trans (enterS (by kernel_rfl))))
@[go_sem] theorem k24_ret : k24 b .ret e S = (k0 b) .ret e S := nr (seqC_r _ _ _ _)
def k40 (b : Nat) : KT := seqC (fun e S => execL (C b) 0 c14 (k0 b) e S) (k0 b)
def c41 : Code := at0 c15
def c42 : Code := at1 c15
def k43 (b : Nat) : KT := seqC (fun e S => execL (C b) 0 c42 (k24 b) e S) (k24 b)
def c44 : Code := atT c42
def c47 : Code := at0 c44
def c48 : Code := at1 c44
def k49 (b : Nat) : KT := seqC (fun e S => execL (C b) 0 c48 (k24 b) e S) (k24 b)
@[go_sem] theorem k49_n : k49 b .normal (ee33 x4) S =
  (k24 b) .ret (ee33 x4) S := nr (seqN (execL_ret (by kernel_rfl)))
@[go_sem] theorem g50 : execL (C b) 0 c47 K (ee31 x2 x232) S =
  withV (evFieldAddr (tyi Try.prog 54) 3 x2) fun x233 =>
    withV (evLoad (tyi Try.prog 52) S x233) fun x234 =>
    withV (indexAddrO Try.prog 52 S x234 (.int .i64 1)) fun x235 =>
    withV (evFieldAddr (tyi Try.prog 54) 0 x235) fun x236 =>
    withV (evLoad (tyi Try.prog 3) S x236) fun x237 =>
    withV (evBin .eql (tyi Try.prog 3) x237 (.int .i64 1)) fun x238 =>
    withV (some x238) fun x239 =>
    withV (gval x239 true (evFieldAddr (tyi Try.prog 54) 3 x2)) fun x240 =>
    withV (gval x239 true (evLoad (tyi Try.prog 52) S x240)) fun x241 =>
    withV (gval x239 true (indexAddrO Try.prog 52 S x241 (.int .i64 1))) fun x242 =>
    withV (gval x239 true (evFieldAddr (tyi Try.prog 54) 2 x242)) fun x243 =>
    withV (gval x239 true (evFieldAddr (tyi Try.prog 51) 1 x243)) fun x244 =>
    withV (gval x239 true (evLoad (tyi Try.prog 49) S x244)) fun x245 =>
    withV (gval x239 true (lenO (tyi Try.prog 49) x245)) fun x246 =>
    withV (gval x239 true (evBin .gtr (tyi Try.prog 3) x246 (.int .i64 0))) fun x247 =>
    withV (pickO x239 x247 (.bool false)) fun x248 =>
    withV (some x248) fun x4 =>
    K .normal (ee33 x4) S := nr (by kernel_rfl)
@[go_sem] theorem k43_n : k43 b .normal (ee31 x2 x232) S =
  condC x232 (execL (C b) 0 c47 (k49 b) (ee31 x2 x232) S)
    ((k24 b) .normal (ee31 x2 x232) S) := nr (seqN (condE (t := 232) (by kernel_rfl) (enterS (by kernel_rfl)) (execL_skip (by kernel_rfl)) rfl))
@[go_sem] theorem g51 : execL (C b) 0 c41 K (ee27 x2 x3 x6 x208 x209 x210 x211) S =
  withV (evFieldAddr (tyi Try.prog 54) 0 x2) fun x230 =>
    withV (evLoad (tyi Try.prog 3) S x230) fun x231 =>
    withV (evBin .eql (tyi Try.prog 3) x231 (.int .i64 8)) fun x232 =>
    K .normal (ee31 x2 x232) S := nr (by kernel_rfl)
@[go_sem] theorem k40_n : k40 b .normal (ee27 x2 x3 x6 x208 x209 x210 x211) S =
  execL (C b) 0 c41 (k43 b) (ee27 x2 x3 x6 x208 x209 x210 x211) S := nr (seqN ((enterS (by kernel_rfl)).trans (enterS (by kernel_rfl))))
@[go_sem] theorem k40_ret : k40 b .ret e S = (k0 b) .ret e S := nr (seqC_r _ _ _ _)
def k52 (b : Nat) : KT := seqC (fun e S => execL (C b) 0 c12 (k0 b) e S) (k0 b)
def c53 : Code := at0 c13
def c54 : Code := at1 c13
def k55 (b : Nat) : KT := seqC (fun e S => execL (C b) 0 c54 (k40 b) e S) (k40 b)
def c56 : Code := atB c54
def k57 (b : Nat) : KT := blockC 7 (k40 b)
@[go_sem] theorem k57_ret : k57 b .ret e S = (k40 b) .ret e S := nr (blockC_r _ _ _ _)
@[go_sem] theorem k57_exit : k57 b (.exit i) e S = if i = 7 then (k40 b) .normal e S else (k40 b) (.exit i) e S := nr (blockC_x _ _ _ _ _)
def c58 : Code := atL c56
def k59 (b n7 : Nat) : KT := afterC 7 n7 [2] (k57 b)
def L7g (b n7 : Nat) (e : Env) (S : Store) : RT := loopL (fun K e S => execL (C b) 7 c58 K e S) (normG [2, 3, 6, 208, 209, 210] [6] n7) (k59 b n7) e S
def L7 (b n7 : Nat) (x2 x3 x6 x208 x209 x210 : PV) (S : Store) : RT := L7g b n7 (ee26 x2 x3 x6 x208 x209 x210) S
def k60 (b n7 : Nat) : KT := stepC (normG [2, 3, 6, 208, 209, 210] [6] n7) (k59 b n7) (L7g b n7)
@[go_sem] theorem k60_n : k60 b n7 .normal (ee26 x2 x3 x6 x208 x209 x210) S = withF S x6 fun y6 S => L7 b n7 x2 x3 y6 x208 x209 x210 (gc n7 (ee26 x2 x3 y6 x208 x209 x210) S) := nr ((show k60 b n7 .normal (ee26 x2 x3 x6 x208 x209 x210) S = (normG [2, 3, 6, 208, 209, 210] [6] n7 (ee26 x2 x3 x6 x208 x209 x210) S).bind fun q => (L7g b n7) q.1 q.2 from rfl).trans ((norm_fz [2, 3, 6, 208, 209, 210] [6] n7 (ee26 x2 x3 x6 x208 x209 x210) S (L7g b n7)).trans ((fz_cons (fun r => (L7g b n7) r.1 (gc n7 r.1 r.2)) 6 [] (keepOnly [2, 3, 6, 208, 209, 210] (ee26 x2 x3 x6 x208 x209 x210)) S).trans ((congrArg (withF S (get (keepOnly [2, 3, 6, 208, 209, 210] (ee26 x2 x3 x6 x208 x209 x210)) 6)) (funext fun y6 => funext fun S => show _ = (L7 b n7 x2 x3 y6 x208 x209 x210 (gc n7 (ee26 x2 x3 y6 x208 x209 x210) S)) from (by kernel_rfl))).trans (by kernel_rfl)))))
@[go_sem] theorem k60_ret : k60 b n7 .ret e S = (k57 b) .ret e S := nr ((show k60 b n7 .ret e S = (k59 b n7) .ret e S from stepC_r _ _ _ _ _).trans (afterC_r _ _ _ _ _ _))
@[go_sem] theorem k60_x1 : k60 b n7 (.exit 7) (ee27 x2 x3 x6 x208 x209 x210 x211) S = (k57 b) (.exit 7) (ee27 x2 .undef .undef .undef .undef .undef .undef) (gc n7 (ee27 x2 .undef .undef .undef .undef .undef .undef) S) := nr ((show k60 b n7 (.exit 7) (ee27 x2 x3 x6 x208 x209 x210 x211) S = (k59 b n7) (.exit 7) (ee27 x2 x3 x6 x208 x209 x210 x211) S from stepC_x _ _ _ _ _ _).trans ((show (k59 b n7) (.exit 7) (ee27 x2 x3 x6 x208 x209 x210 x211) S = _ from afterC_x _ _ _ _ _ _ _).trans (if_pos rfl)))
def c61 : Code := at0 c58
def c62 : Code := at1 c58
def c64 : Code := at1 c62
def c65 : Code := at0 c64
def c66 : Code := at1 c64
def k67 (b n7 : Nat) : KT := seqC (fun e S => execL (C b) 7 c66 (k60 b n7) e S) (k60 b n7)
@[go_sem] theorem g68 : execL (C b) 7 c66 K (ee28 x2 x3 x6 x208 x209 x210 x228) S =
  withV (evBin .add (tyi Try.prog 3) x210 (.int .i64 1)) fun x229 =>
    withV (some x229) fun x210 =>
    K .normal (ee26 x2 x3 x6 x208 x209 x210) S := nr (by kernel_rfl)
@[go_sem] theorem k67_n : k67 b n7 .normal e S = execL (C b) 7 c66 (k60 b n7) e S := nr (seqN rfl)
@[go_sem] theorem k67_ret : k67 b n7 .ret e S = (k60 b n7) .ret e S := nr (seqC_r _ _ _ _)
def k69 (b n7 : Nat) : KT := seqC (fun e S => execL (C b) 7 c64 (k60 b n7) e S) (k60 b n7)
def c70 : Code := atB c65
def k71 (b n7 : Nat) : KT := blockC 8 (k67 b n7)
@[go_sem] theorem k71_n : k71 b n7 .normal e S = (k67 b n7) .normal e S := nr (blockC_n _ _ _ _)
@[go_sem] theorem k71_ret : k71 b n7 .ret e S = (k67 b n7) .ret e S := nr (blockC_r _ _ _ _)
def c72 : Code := at0 c70
def c73 : Code := at1 c70
def c74 : Code := at0 c73
def c75 : Code := at1 c73
def k76 (b n7 : Nat) : KT := seqC (fun e S => execL (C b) 8 c75 (k71 b n7) e S) (k71 b n7)
def c77 : Code := atT c75
def c80 : Code := at0 c77
def c81 : Code := at1 c77
def k82 (b n7 : Nat) : KT := seqC (fun e S => execL (C b) 8 c81 (k71 b n7) e S) (k71 b n7)
@[go_sem] theorem k82_n : k82 b n7 .normal (ee33 x4) S =
  (k71 b n7) .ret (ee33 x4) S := nr (seqN (execL_ret (by kernel_rfl)))
@[go_sem] theorem g83 : execL (C b) 8 c80 K (ee28 x2 x3 x6 x208 x209 x210 x228) S =
  withV (some (.bool false)) fun x4 =>
    K .normal (ee33 x4) S := nr (by kernel_rfl)
@[go_sem] theorem k76_n : k76 b n7 .normal (ee28 x2 x3 x6 x208 x209 x210 x228) S =
  condC x228 (execL (C b) 8 c80 (k82 b n7) (ee28 x2 x3 x6 x208 x209 x210 x228) S)
    ((k71 b n7) .normal (ee28 x2 x3 x6 x208 x209 x210 x228) S) := nr (seqN (condE (t := 228) (by kernel_rfl) (enterS (by kernel_rfl)) (execL_skip (by kernel_rfl)) rfl))
def k84 (b n7 : Nat) : KT := seqC (fun e S => execL (C b) 8 c73 (k71 b n7) e S) (k71 b n7)
@[go_sem] theorem g85 : execL (C b) 8 c74 K (ee12 x2 x3 x6 x12 x13 x208 x209 x210) S =
  withV (evFieldAddr (tyi Try.prog 54) 0 x13) fun x215 =>
    withV (evLoad (tyi Try.prog 3) S x215) fun x216 =>
    withN (callO (callL Try.prog hints) S 40 [x216]) S fun x217 S =>
    withV (some x6) fun x218 =>
    withV (some x12) fun x219 =>
    withV (indexAddrO Try.prog 22 S x218 x219) fun x220 =>
    withV (evLoad (tyi Try.prog 3) S x220) fun x221 =>
    withV (evBin .neq (tyi Try.prog 3) x217 x221) fun x222 =>
    withV (some x222) fun x223 =>
    withV (gval x223 false (evLoad (tyi Try.prog 54) S x13)) fun x224 =>
    withV (gval x223 false (evLoad (tyi Try.prog 81) S x3)) fun x225 =>
    withN (gout x223 false (callO (callL Try.prog hints) S 64 [x224, x225])) S fun x226 S =>
    withV (gval x223 false (evUn .not x226)) fun x227 =>
    withV (pickO x223 (.bool true) x227) fun x228 =>
    K .normal (ee28 x2 x3 x6 x208 x209 x210 x228) S := nr (by kernel_rfl)
@[go_sem] theorem k84_n : k84 b n7 .normal e S = execL (C b) 8 c74 (k76 b n7) e S := nr (seqN (enterS (by kernel_rfl)))
@[go_sem] theorem g86 : execL (C b) 8 c72 K (ee27 x2 x3 x6 x208 x209 x210 x211) S =
  withV (some x210) fun x212 =>
    withV (indexAddrO Try.prog 52 S x208 x210) fun x213 =>
    withV (evLoad (tyi Try.prog 54) S x213) fun x214 =>
    withN (allocO (tyi Try.prog 54) (List.length S)) S fun x13 S =>
    withV (some x212) fun x12 =>
    withS (storeE (tyi Try.prog 54) S x13 x214) fun _u S =>
    K .normal (ee12 x2 x3 x6 x12 x13 x208 x209 x210) S := nr (by kernel_rfl)
@[go_sem] theorem k69_n : k69 b n7 .normal (ee27 x2 x3 x6 x208 x209 x210 x211) S =
  execL (C b) 8 c72 (k84 b n7) (ee27 x2 x3 x6 x208 x209 x210 x211) S := nr (seqN ((enterS (by kernel_rfl)).trans ((blockE (by kernel_rfl)).trans (enterS (by kernel_rfl)))))
@[go_sem] theorem k69_exit : k69 b n7 (.exit i) e S = (k60 b n7) (.exit i) e S := nr (seqC_x _ _ _ _ _)
def k87 (b n7 : Nat) : KT := seqC (fun e S => execL (C b) 7 c62 (k60 b n7) e S) (k60 b n7)
@[go_sem] theorem k87_n : k87 b n7 .normal (ee27 x2 x3 x6 x208 x209 x210 x211) S =
  condC x211 ((k69 b n7) .normal (ee27 x2 x3 x6 x208 x209 x210 x211) S)
    ((k69 b n7) (.exit 7) (ee27 x2 x3 x6 x208 x209 x210 x211) S) := nr (seqN ((enterS (by kernel_rfl)).trans (condE (t := 211) (by kernel_rfl) (execL_skip (by kernel_rfl)) (execL_exit (by kernel_rfl)) rfl)))
@[go_sem] theorem g90 : execL (C b) 7 c61 K (ee26 x2 x3 x6 x208 x209 x210) S =
  withV (evBin .lss (tyi Try.prog 3) x210 x209) fun x211 =>
    K .normal (ee27 x2 x3 x6 x208 x209 x210 x211) S := nr (by kernel_rfl)
def B7 (b n7 : Nat) (x2 x3 x6 x208 x209 x210 : PV) (S : Store) : RT := execL (C b) 7 c58 (k60 b n7) (ee26 x2 x3 x6 x208 x209 x210) S
@[go_sem] theorem B7_eq : B7 b n7 x2 x3 x6 x208 x209 x210 S =
  execL (C b) 7 c61 (k87 b n7) (ee26 x2 x3 x6 x208 x209 x210) S := nr (enterS (by kernel_rfl))
theorem L7_step {b n7 : Nat} {x2 x3 x6 x208 x209 x210 : PV} {S : Store} {z : PV × Store} (h : B7 b n7 x2 x3 x6 x208 x209 x210 S = some z) : L7 b n7 x2 x3 x6 x208 x209 x210 S = some z := loopL_step h
theorem L7_in (b : Nat) (x2 x3 x6 x208 x209 x210 : PV) (S : Store) : execL (C b) 7 c56 (k57 b) (ee26 x2 x3 x6 x208 x209 x210) S = withF S x6 fun y6 S => L7 b (List.length S) x2 x3 y6 x208 x209 x210 S := (show execL (C b) 7 c56 (k57 b) (ee26 x2 x3 x6 x208 x209 x210) S = (fzSlots [6] (keepOnly [2, 3, 6, 208, 209, 210] (ee26 x2 x3 x6 x208 x209 x210)) S).bind (fun r => L7g b r.2.length r.1 r.2) from by kernel_rfl).trans ((fz_cons (fun r => L7g b r.2.length r.1 r.2) 6 [] (keepOnly [2, 3, 6, 208, 209, 210] (ee26 x2 x3 x6 x208 x209 x210)) S).trans ((congrArg (withF S (get (keepOnly [2, 3, 6, 208, 209, 210] (ee26 x2 x3 x6 x208 x209 x210)) 6)) (funext fun y6 => funext fun S => show _ = (L7 b (List.length S) x2 x3 y6 x208 x209 x210 S) from (by kernel_rfl))).trans (by kernel_rfl)))
@[go_sem] theorem k55_n : k55 b .normal (ee26 x2 x3 x6 x208 x209 x210) S =
  withF S x6 fun y6 S => L7 b (List.length S) x2 x3 y6 x208 x209 x210 S := nr (seqN ((blockE (by kernel_rfl)).trans (L7_in b x2 x3 x6 x208 x209 x210 S)))
@[go_sem] theorem g92 : execL (C b) 0 c53 K (ee25 x2 x3 x6 x206) S =
  withV (evFieldAddr (tyi Try.prog 54) 3 x2) fun x207 =>
    withV (evLoad (tyi Try.prog 52) S x207) fun x208 =>
    withV (lenO (tyi Try.prog 52) x208) fun x209 =>
    withV (some (.int .i64 0)) fun x210 =>
    K .normal (ee26 x2 x3 x6 x208 x209 x210) S := nr (by kernel_rfl)
@[go_sem] theorem k52_n : k52 b .normal (ee25 x2 x3 x6 x206) S =
  execL (C b) 0 c53 (k55 b) (ee25 x2 x3 x6 x206) S := nr (seqN ((enterS (by kernel_rfl)).trans (enterS (by kernel_rfl))))
@[go_sem] theorem k52_ret : k52 b .ret e S = (k0 b) .ret e S := nr (seqC_r _ _ _ _)
def k93 (b : Nat) : KT := seqC (fun e S => execL (C b) 0 c10 (k0 b) e S) (k0 b)
def c94 : Code := at0 c11
def c95 : Code := at1 c11
def k96 (b : Nat) : KT := seqC (fun e S => execL (C b) 0 c95 (k52 b) e S) (k52 b)
def c97 : Code := atT c95
def c100 : Code := at0 c97
def c101 : Code := at1 c97
def k102 (b : Nat) : KT := seqC (fun e S => execL (C b) 0 c101 (k52 b) e S) (k52 b)
@[go_sem] theorem k102_n : k102 b .normal (ee33 x4) S =
  (k52 b) .ret (ee33 x4) S := nr (seqN (execL_ret (by kernel_rfl)))
@[go_sem] theorem g103 : execL (C b) 0 c100 K (ee25 x2 x3 x6 x206) S =
  withV (some (.bool false)) fun x4 =>
    K .normal (ee33 x4) S := nr (by kernel_rfl)
@[go_sem] theorem k96_n : k96 b .normal (ee25 x2 x3 x6 x206) S =
  condC x206 (execL (C b) 0 c100 (k102 b) (ee25 x2 x3 x6 x206) S)
    ((k52 b) .normal (ee25 x2 x3 x6 x206) S) := nr (seqN (condE (t := 206) (by kernel_rfl) (enterS (by kernel_rfl)) (execL_skip (by kernel_rfl)) rfl))
@[go_sem] theorem g104 : execL (C b) 0 c94 K (ee21 x2 x3 x6 x88 x89 x90 x172 x182) S =
  withV (evFieldAddr (tyi Try.prog 54) 3 x2) fun x201 =>
    withV (evLoad (tyi Try.prog 52) S x201) fun x202 =>
    withV (lenO (tyi Try.prog 52) x202) fun x203 =>
    withV (some x6) fun x204 =>
    withV (lenO (tyi Try.prog 22) x204) fun x205 =>
    withV (evBin .neq (tyi Try.prog 3) x203 x205) fun x206 =>
    K .normal (ee25 x2 x3 x6 x206) S := nr (by kernel_rfl)
@[go_sem] theorem k93_n : k93 b .normal (ee21 x2 x3 x6 x88 x89 x90 x172 x182) S =
  execL (C b) 0 c94 (k96 b) (ee21 x2 x3 x6 x88 x89 x90 x172 x182) S := nr (seqN ((enterS (by kernel_rfl)).trans (enterS (by kernel_rfl))))
@[go_sem] theorem k93_ret : k93 b .ret e S = (k0 b) .ret e S := nr (seqC_r _ _ _ _)
def k105 (b : Nat) : KT := seqC (fun e S => execL (C b) 0 c8 (k0 b) e S) (k0 b)
def c106 : Code := at0 c9
def c107 : Code := at1 c9
def k108 (b : Nat) : KT := seqC (fun e S => execL (C b) 0 c107 (k93 b) e S) (k93 b)
def c109 : Code := atB c107
def k110 (b : Nat) : KT := blockC 0 (k93 b)
@[go_sem] theorem k110_n : k110 b .normal e S = (k93 b) .normal e S := nr (blockC_n _ _ _ _)
@[go_sem] theorem k110_ret : k110 b .ret e S = (k93 b) .ret e S := nr (blockC_r _ _ _ _)
def c111 : Code := at0 c109
def c112 : Code := at1 c109
def k113 (b : Nat) : KT := seqC (fun e S => execL (C b) 0 c112 (k110 b) e S) (k110 b)
def c114 : Code := atT c112
def c115 : Code := atF c112
def c117 : Code := at0 c114
def c118 : Code := at1 c114
def c119 : Code := at0 c118
def c120 : Code := at1 c118
def k121 (b : Nat) : KT := seqC (fun e S => execL (C b) 0 c120 (k110 b) e S) (k110 b)
def c122 : Code := atB c120
def k123 (b : Nat) : KT := blockC 1 (k110 b)
@[go_sem] theorem k123_exit : k123 b (.exit i) e S = if i = 1 then (k110 b) .normal e S else (k110 b) (.exit i) e S := nr (blockC_x _ _ _ _ _)
def c124 : Code := atL c122
def k125 (b n1 : Nat) : KT := afterC 1 n1 [2, 3, 6] (k123 b)
def L1g (b n1 : Nat) (e : Env) (S : Store) : RT := loopL (fun K e S => execL (C b) 1 c124 K e S) (normG [2, 3, 6, 88, 89] [] n1) (k125 b n1) e S
def L1 (b n1 : Nat) (x2 x3 x6 x88 x89 : PV) (S : Store) : RT := L1g b n1 (ee20 x2 x3 x6 x88 x89) S
def k126 (b n1 : Nat) : KT := stepC (normG [2, 3, 6, 88, 89] [] n1) (k125 b n1) (L1g b n1)
@[go_sem] theorem k126_n : k126 b n1 .normal (ee20 x2 x3 x6 x88 x89) S = L1 b n1 x2 x3 x6 x88 x89 (gc n1 (ee20 x2 x3 x6 x88 x89) S) := nr (by kernel_rfl)
@[go_sem] theorem k126_x1 : k126 b n1 (.exit 1) (ee21 x2 x3 x6 x88 x89 x90 x172 x182) S = (k123 b) (.exit 1) (ee21 x2 x3 x6 .undef .undef .undef .undef .undef) (gc n1 (ee21 x2 x3 x6 .undef .undef .undef .undef .undef) S) := nr ((show k126 b n1 (.exit 1) (ee21 x2 x3 x6 x88 x89 x90 x172 x182) S = (k125 b n1) (.exit 1) (ee21 x2 x3 x6 x88 x89 x90 x172 x182) S from stepC_x _ _ _ _ _ _).trans ((show (k125 b n1) (.exit 1) (ee21 x2 x3 x6 x88 x89 x90 x172 x182) S = _ from afterC_x _ _ _ _ _ _ _).trans (if_pos rfl)))
def c127 : Code := at0 c124
def c128 : Code := at1 c124
def c130 : Code := at1 c128
def c131 : Code := at0 c130
def c132 : Code := at1 c130
def k133 (b n1 : Nat) : KT := seqC (fun e S => execL (C b) 1 c132 (k126 b n1) e S) (k126 b n1)
@[go_sem] theorem g134 : execL (C b) 1 c132 K (ee20 x2 x3 x6 x88 x89) S =
  withV (evBin .add (tyi Try.prog 3) x89 (.int .i64 1)) fun x94 =>
    withV (some x94) fun x89 =>
    K .normal (ee20 x2 x3 x6 x88 x89) S := nr (by kernel_rfl)
@[go_sem] theorem k133_n : k133 b n1 .normal e S = execL (C b) 1 c132 (k126 b n1) e S := nr (seqN rfl)
def k135 (b n1 : Nat) : KT := seqC (fun e S => execL (C b) 1 c130 (k126 b n1) e S) (k126 b n1)
def c136 : Code := atB c131
def k137 (b n1 : Nat) : KT := blockC 2 (k133 b n1)
@[go_sem] theorem k137_n : k137 b n1 .normal e S = (k133 b n1) .normal e S := nr (blockC_n _ _ _ _)
@[go_sem] theorem g138 : execL (C b) 2 c136 K (ee21 x2 x3 x6 x88 x89 x90 x172 x182) S =
  withV (some x6) fun x91 =>
    withN (buildSliceO Try.prog 22 (List.length S) 1 [0] [PV.cells (.int .i64 1)]) S fun x92 S =>
    withE (appendE Try.prog b 22 22 S x91 x92) [(2, x2), (3, x3), (6, x6), (88, x88), (89, x89), (90, x90), (172, x172), (182, x182), (91, x91), (92, x92)] fun x93 e1 S =>
    withV (some (Vs.get (put e1 93 x93) 93)) fun x6 =>
    K .normal (ee20 (Vs.get (put (put e1 93 x93) 6 x6) 2) (Vs.get (put (put e1 93 x93) 6 x6) 3) (Vs.get (put (put e1 93 x93) 6 x6) 6) (Vs.get (put (put e1 93 x93) 6 x6) 88) (Vs.get (put (put e1 93 x93) 6 x6) 89)) S := nr (by kernel_rfl)
@[go_sem] theorem k135_n : k135 b n1 .normal (ee21 x2 x3 x6 x88 x89 x90 x172 x182) S =
  execL (C b) 2 c136 (k137 b n1) (ee21 x2 x3 x6 x88 x89 x90 x172 x182) S := nr (seqN ((enterS (by kernel_rfl)).trans (blockE (by kernel_rfl))))
@[go_sem] theorem k135_exit : k135 b n1 (.exit i) e S = (k126 b n1) (.exit i) e S := nr (seqC_x _ _ _ _ _)
def k139 (b n1 : Nat) : KT := seqC (fun e S => execL (C b) 1 c128 (k126 b n1) e S) (k126 b n1)
@[go_sem] theorem k139_n : k139 b n1 .normal (ee21 x2 x3 x6 x88 x89 x90 x172 x182) S =
  condC x90 ((k135 b n1) .normal (ee21 x2 x3 x6 x88 x89 x90 x172 x182) S)
    ((k135 b n1) (.exit 1) (ee21 x2 x3 x6 x88 x89 x90 x172 x182) S) := nr (seqN ((enterS (by kernel_rfl)).trans (condE (t := 90) (by kernel_rfl) (execL_skip (by kernel_rfl)) (execL_exit (by kernel_rfl)) rfl)))
@[go_sem] theorem g142 : execL (C b) 1 c127 K (ee20 x2 x3 x6 x88 x89) S =
  withV (evBin .lss (tyi Try.prog 3) x89 x88) fun x90 =>
    K .normal (ee21 x2 x3 x6 x88 x89 x90 .undef .undef) S := nr (by kernel_rfl)
def B1 (b n1 : Nat) (x2 x3 x6 x88 x89 : PV) (S : Store) : RT := execL (C b) 1 c124 (k126 b n1) (ee20 x2 x3 x6 x88 x89) S
@[go_sem] theorem B1_eq : B1 b n1 x2 x3 x6 x88 x89 S =
  execL (C b) 1 c127 (k139 b n1) (ee20 x2 x3 x6 x88 x89) S := nr (enterS (by kernel_rfl))
theorem L1_step {b n1 : Nat} {x2 x3 x6 x88 x89 : PV} {S : Store} {z : PV × Store} (h : B1 b n1 x2 x3 x6 x88 x89 S = some z) : L1 b n1 x2 x3 x6 x88 x89 S = some z := loopL_step h
theorem L1_in (b : Nat) (x2 x3 x6 x88 x89 : PV) (S : Store) : execL (C b) 1 c122 (k123 b) (ee20 x2 x3 x6 x88 x89) S = withO S x6 fun y6 S => L1 b (List.length S) x2 x3 y6 x88 x89 S := (show execL (C b) 1 c122 (k123 b) (ee20 x2 x3 x6 x88 x89) S = (fun e S => (fzSlots [] e S).bind (fun r => L1g b r.2.length r.1 r.2)) (ownAll [6] (keepOnly [2, 3, 6, 88, 89] (ee20 x2 x3 x6 x88 x89)) S).1 (ownAll [6] (keepOnly [2, 3, 6, 88, 89] (ee20 x2 x3 x6 x88 x89)) S).2 from by kernel_rfl).trans ((own_cons (fun e S => (fzSlots [] e S).bind (fun r => L1g b r.2.length r.1 r.2)) 6 [] (e := (keepOnly [2, 3, 6, 88, 89] (ee20 x2 x3 x6 x88 x89))) (S := S) (by kernel_rfl) (by decide)).trans ((congrArg (withO S (get (keepOnly [2, 3, 6, 88, 89] (ee20 x2 x3 x6 x88 x89)) 6)) (funext fun y6 => funext fun S => show _ = (L1 b (List.length S) x2 x3 y6 x88 x89 S) from (by kernel_rfl))).trans (by kernel_rfl)))
@[go_sem] theorem k121_n : k121 b .normal (ee20 x2 x3 x6 x88 x89) S =
  withO S x6 fun y6 S => L1 b (List.length S) x2 x3 y6 x88 x89 S := nr (seqN ((blockE (by kernel_rfl)).trans (L1_in b x2 x3 x6 x88 x89 S)))
def k144 (b : Nat) : KT := seqC (fun e S => execL (C b) 0 c118 (k110 b) e S) (k110 b)
@[go_sem] theorem g145 : execL (C b) 0 c119 K (ee19 x2 x3 x6 x85) S =
  withV (evFieldAddr (tyi Try.prog 54) 3 x2) fun x86 =>
    withV (evLoad (tyi Try.prog 52) S x86) fun x87 =>
    withV (lenO (tyi Try.prog 52) x87) fun x88 =>
    withV (some (.int .i64 0)) fun x89 =>
    K .normal (ee20 x2 x3 x6 x88 x89) S := nr (by kernel_rfl)
@[go_sem] theorem k144_n : k144 b .normal e S = execL (C b) 0 c119 (k121 b) e S := nr (seqN (enterS (by kernel_rfl)))
@[go_sem] theorem k144_ret : k144 b .ret e S = (k110 b) .ret e S := nr (seqC_r _ _ _ _)
def c146 : Code := at0 c117
def c147 : Code := at1 c117
def k148 (b : Nat) : KT := seqC (fun e S => execL (C b) 0 c147 (k144 b) e S) (k144 b)
def c149 : Code := atT c147
def c152 : Code := at0 c149
def c153 : Code := at1 c149
def k154 (b : Nat) : KT := seqC (fun e S => execL (C b) 0 c153 (k144 b) e S) (k144 b)
@[go_sem] theorem k154_n : k154 b .normal (ee33 x4) S =
  (k144 b) .ret (ee33 x4) S := nr (seqN (execL_ret (by kernel_rfl)))
@[go_sem] theorem g155 : execL (C b) 0 c152 K (ee19 x2 x3 x6 x85) S =
  withV (some (.bool false)) fun x4 =>
    K .normal (ee33 x4) S := nr (by kernel_rfl)
@[go_sem] theorem k148_n : k148 b .normal (ee19 x2 x3 x6 x85) S =
  condC x85 (execL (C b) 0 c152 (k154 b) (ee19 x2 x3 x6 x85) S)
    ((k144 b) .normal (ee19 x2 x3 x6 x85) S) := nr (seqN (condE (t := 85) (by kernel_rfl) (enterS (by kernel_rfl)) (execL_skip (by kernel_rfl)) rfl))
@[go_sem] theorem g156 : execL (C b) 0 c146 K (ee15 x2 x3 x6 x72 x73) S =
  withV (evFieldAddr (tyi Try.prog 54) 1 x2) fun x76 =>
    withV (evLoad (tyi Try.prog 9) S x76) fun x77 =>
    withN (callO (callL Try.prog hints) S 38 [x77]) S fun x78 S =>
    withV (evUn .not x78) fun x79 =>
    withV (some x79) fun x80 =>
    withV (gval x80 false (evFieldAddr (tyi Try.prog 54) 3 x2)) fun x81 =>
    withV (gval x80 false (evLoad (tyi Try.prog 52) S x81)) fun x82 =>
    withV (gval x80 false (lenO (tyi Try.prog 52) x82)) fun x83 =>
    withV (gval x80 false (evBin .gtr (tyi Try.prog 3) x83 (.int .i64 1))) fun x84 =>
    withV (pickO x80 (.bool true) x84) fun x85 =>
    K .normal (ee19 x2 x3 x6 x85) S := nr (by kernel_rfl)
def c158 : Code := at0 c115
def c159 : Code := at1 c115
def k160 (b : Nat) : KT := seqC (fun e S => execL (C b) 0 c159 (k110 b) e S) (k110 b)
def c161 : Code := atT c159
def c162 : Code := atF c159
def c164 : Code := at0 c161
def c165 : Code := at1 c161
def c166 : Code := at0 c165
def c167 : Code := at1 c165
def c168 : Code := at0 c167
def c169 : Code := at1 c167
def c170 : Code := at0 c169
def c171 : Code := at1 c169
def k172 (b : Nat) : KT := seqC (fun e S => execL (C b) 0 c171 (k110 b) e S) (k110 b)
@[go_sem] theorem g173 : execL (C b) 0 c171 K (ee2 x2 x3 x6) S =
  withV (evFieldAddr (tyi Try.prog 81) 2 x3) fun x160 =>
    withS (storeE (tyi Try.prog 4) S x160 (.bool true)) fun _u S =>
    K .normal (ee21 x2 x3 x6 .undef .undef .undef .undef .undef) S := nr (by kernel_rfl)
@[go_sem] theorem k172_n : k172 b .normal e S = execL (C b) 0 c171 (k110 b) e S := nr (seqN rfl)
def k174 (b : Nat) : KT := seqC (fun e S => execL (C b) 0 c169 (k110 b) e S) (k110 b)
@[go_sem] theorem g175 : execL (C b) 0 c170 K (ee11 x2 x3 x6 x7 x8 x112) S =
  withV (some x6) fun x157 =>
    withN (buildSliceO Try.prog 22 (List.length S) 1 [0] [PV.cells (.int .i64 2)]) S fun x158 S =>
    withE (appendE Try.prog b 22 22 S x157 x158) [(2, x2), (3, x3), (6, x6), (7, x7), (8, x8), (112, x112), (157, x157), (158, x158)] fun x159 e1 S =>
    withV (some (Vs.get (put e1 159 x159) 159)) fun x6 =>
    K .normal (ee2 (Vs.get (put (put e1 159 x159) 6 x6) 2) (Vs.get (put (put e1 159 x159) 6 x6) 3) (Vs.get (put (put e1 159 x159) 6 x6) 6)) S := nr (by kernel_rfl)
@[go_sem] theorem k174_n : k174 b .normal e S = execL (C b) 0 c170 (k172 b) e S := nr (seqN (enterS (by kernel_rfl)))
@[go_sem] theorem k174_ret : k174 b .ret e S = (k110 b) .ret e S := nr (seqC_r _ _ _ _)
def k176 (b : Nat) : KT := seqC (fun e S => execL (C b) 0 c167 (k110 b) e S) (k110 b)
def c177 : Code := at0 c168
def c178 : Code := at1 c168
def k179 (b : Nat) : KT := seqC (fun e S => execL (C b) 0 c178 (k174 b) e S) (k174 b)
def c180 : Code := atB c178
def k181 (b : Nat) : KT := blockC 3 (k174 b)
@[go_sem] theorem k181_ret : k181 b .ret e S = (k174 b) .ret e S := nr (blockC_r _ _ _ _)
@[go_sem] theorem k181_exit : k181 b (.exit i) e S = if i = 3 then (k174 b) .normal e S else (k174 b) (.exit i) e S := nr (blockC_x _ _ _ _ _)
def c182 : Code := atL c180
def k183 (b n3 : Nat) : KT := afterC 3 n3 [2, 3, 6] (k181 b)
def L3g (b n3 : Nat) (e : Env) (S : Store) : RT := loopL (fun K e S => execL (C b) 3 c182 K e S) (normG [2, 3, 6, 7, 8] [] n3) (k183 b n3) e S
def L3 (b n3 : Nat) (x2 x3 x6 x7 x8 : PV) (S : Store) : RT := L3g b n3 (ee4 x2 x3 x6 x7 x8) S
def k184 (b n3 : Nat) : KT := stepC (normG [2, 3, 6, 7, 8] [] n3) (k183 b n3) (L3g b n3)
@[go_sem] theorem k184_n : k184 b n3 .normal (ee4 x2 x3 x6 x7 x8) S = L3 b n3 x2 x3 x6 x7 x8 (gc n3 (ee4 x2 x3 x6 x7 x8) S) := nr (by kernel_rfl)
@[go_sem] theorem k184_ret : k184 b n3 .ret e S = (k181 b) .ret e S := nr ((show k184 b n3 .ret e S = (k183 b n3) .ret e S from stepC_r _ _ _ _ _).trans (afterC_r _ _ _ _ _ _))
@[go_sem] theorem k184_x1 : k184 b n3 (.exit 3) (ee11 x2 x3 x6 x7 x8 x112) S = (k181 b) (.exit 3) (ee11 x2 x3 x6 .undef .undef .undef) (gc n3 (ee11 x2 x3 x6 .undef .undef .undef) S) := nr ((show k184 b n3 (.exit 3) (ee11 x2 x3 x6 x7 x8 x112) S = (k183 b n3) (.exit 3) (ee11 x2 x3 x6 x7 x8 x112) S from stepC_x _ _ _ _ _ _).trans ((show (k183 b n3) (.exit 3) (ee11 x2 x3 x6 x7 x8 x112) S = _ from afterC_x _ _ _ _ _ _ _).trans (if_pos rfl)))
def c185 : Code := at0 c182
def c186 : Code := at1 c182
def c187 : Code := at0 c186
def c188 : Code := at1 c186
def k189 (b n3 : Nat) : KT := seqC (fun e S => execL (C b) 3 c188 (k184 b n3) e S) (k184 b n3)
@[go_sem] theorem g190 : execL (C b) 3 c188 K (ee4 x2 x3 x6 x7 x8) S =
  withV (some x8) fun x113 =>
    withV (evBin .add (tyi Try.prog 3) x113 (.int .i64 1)) fun x114 =>
    withV (some x114) fun x8 =>
    K .normal (ee4 x2 x3 x6 x7 x8) S := nr (by kernel_rfl)
@[go_sem] theorem k189_n : k189 b n3 .normal e S = execL (C b) 3 c188 (k184 b n3) e S := nr (seqN rfl)
@[go_sem] theorem k189_ret : k189 b n3 .ret e S = (k184 b n3) .ret e S := nr (seqC_r _ _ _ _)
def k191 (b n3 : Nat) : KT := seqC (fun e S => execL (C b) 3 c186 (k184 b n3) e S) (k184 b n3)
def c192 : Code := atB c187
def k193 (b n3 : Nat) : KT := blockC 4 (k189 b n3)
@[go_sem] theorem k193_n : k193 b n3 .normal e S = (k189 b n3) .normal e S := nr (blockC_n _ _ _ _)
@[go_sem] theorem k193_ret : k193 b n3 .ret e S = (k189 b n3) .ret e S := nr (blockC_r _ _ _ _)
def c194 : Code := at0 c192
def c195 : Code := at1 c192
def c196 : Code := at0 c195
def c197 : Code := at1 c195
def c198 : Code := at0 c197
def c199 : Code := at1 c197
def k200 (b n3 : Nat) : KT := seqC (fun e S => execL (C b) 4 c199 (k193 b n3) e S) (k193 b n3)
@[go_sem] theorem g201 : execL (C b) 4 c199 K (ee9 x2 x3 x6 x7 x8 x9 x137 x138 x139 x140) S =
  withV (some x6) fun x154 =>
    withN (buildSliceO Try.prog 22 (List.length S) 1 [0] [PV.cells (.int .i64 4)]) S fun x155 S =>
    withE (appendE Try.prog b 22 22 S x154 x155) [(2, x2), (3, x3), (6, x6), (7, x7), (8, x8), (9, x9), (137, x137), (138, x138), (139, x139), (140, x140), (154, x154), (155, x155)] fun x156 e1 S =>
    withV (some (Vs.get (put e1 156 x156) 156)) fun x6 =>
    K .normal (ee4 (Vs.get (put (put e1 156 x156) 6 x6) 2) (Vs.get (put (put e1 156 x156) 6 x6) 3) (Vs.get (put (put e1 156 x156) 6 x6) 6) (Vs.get (put (put e1 156 x156) 6 x6) 7) (Vs.get (put (put e1 156 x156) 6 x6) 8)) S := nr (by kernel_rfl)
@[go_sem] theorem k200_n : k200 b n3 .normal e S = execL (C b) 4 c199 (k193 b n3) e S := nr (seqN rfl)
@[go_sem] theorem k200_ret : k200 b n3 .ret e S = (k193 b n3) .ret e S := nr (seqC_r _ _ _ _)
def k202 (b n3 : Nat) : KT := seqC (fun e S => execL (C b) 4 c197 (k193 b n3) e S) (k193 b n3)
def c203 : Code := at0 c198
def c204 : Code := at1 c198
def k205 (b n3 : Nat) : KT := seqC (fun e S => execL (C b) 4 c204 (k200 b n3) e S) (k200 b n3)
def c206 : Code := atB c204
def k207 (b n3 : Nat) : KT := blockC 5 (k200 b n3)
@[go_sem] theorem k207_ret : k207 b n3 .ret e S = (k200 b n3) .ret e S := nr (blockC_r _ _ _ _)
@[go_sem] theorem k207_exit : k207 b n3 (.exit i) e S = if i = 5 then (k200 b n3) .normal e S else (k200 b n3) (.exit i) e S := nr (blockC_x _ _ _ _ _)
def c208 : Code := atL c206
def k209 (b n3 n5 : Nat) : KT := afterC 5 n5 [2, 3, 6, 7, 8] (k207 b n3)
def L5g (b n3 n5 : Nat) (e : Env) (S : Store) : RT := loopL (fun K e S => execL (C b) 5 c208 K e S) (normG [2, 3, 6, 7, 8, 9, 137, 138, 139] [] n5) (k209 b n3 n5) e S
def L5 (b n3 n5 : Nat) (x2 x3 x6 x7 x8 x9 x137 x138 x139 : PV) (S : Store) : RT := L5g b n3 n5 (ee8 x2 x3 x6 x7 x8 x9 x137 x138 x139) S
def k210 (b n3 n5 : Nat) : KT := stepC (normG [2, 3, 6, 7, 8, 9, 137, 138, 139] [] n5) (k209 b n3 n5) (L5g b n3 n5)
@[go_sem] theorem k210_n : k210 b n3 n5 .normal (ee8 x2 x3 x6 x7 x8 x9 x137 x138 x139) S = L5 b n3 n5 x2 x3 x6 x7 x8 x9 x137 x138 x139 (gc n5 (ee8 x2 x3 x6 x7 x8 x9 x137 x138 x139) S) := nr (by kernel_rfl)
@[go_sem] theorem k210_ret : k210 b n3 n5 .ret e S = (k207 b n3) .ret e S := nr ((show k210 b n3 n5 .ret e S = (k209 b n3 n5) .ret e S from stepC_r _ _ _ _ _).trans (afterC_r _ _ _ _ _ _))
@[go_sem] theorem k210_x1 : k210 b n3 n5 (.exit 5) (ee9 x2 x3 x6 x7 x8 x9 x137 x138 x139 x140) S = (k207 b n3) (.exit 5) (ee9 x2 x3 x6 x7 x8 .undef .undef .undef .undef .undef) (gc n5 (ee9 x2 x3 x6 x7 x8 .undef .undef .undef .undef .undef) S) := nr ((show k210 b n3 n5 (.exit 5) (ee9 x2 x3 x6 x7 x8 x9 x137 x138 x139 x140) S = (k209 b n3 n5) (.exit 5) (ee9 x2 x3 x6 x7 x8 x9 x137 x138 x139 x140) S from stepC_x _ _ _ _ _ _).trans ((show (k209 b n3 n5) (.exit 5) (ee9 x2 x3 x6 x7 x8 x9 x137 x138 x139 x140) S = _ from afterC_x _ _ _ _ _ _ _).trans (if_pos rfl)))
def c211 : Code := at0 c208
def c212 : Code := at1 c208
def c214 : Code := at1 c212
def c215 : Code := at0 c214
def c216 : Code := at1 c214
def k217 (b n3 n5 : Nat) : KT := seqC (fun e S => execL (C b) 5 c216 (k210 b n3 n5) e S) (k210 b n3 n5)
@[go_sem] theorem g218 : execL (C b) 5 c216 K (ee10 x2 x3 x6 x7 x8 x9 x137 x138 x139 x152) S =
  withV (evBin .add (tyi Try.prog 3) x139 (.int .i64 1)) fun x153 =>
    withV (some x153) fun x139 =>
    K .normal (ee8 x2 x3 x6 x7 x8 x9 x137 x138 x139) S := nr (by kernel_rfl)
@[go_sem] theorem k217_n : k217 b n3 n5 .normal e S = execL (C b) 5 c216 (k210 b n3 n5) e S := nr (seqN rfl)
@[go_sem] theorem k217_ret : k217 b n3 n5 .ret e S = (k210 b n3 n5) .ret e S := nr (seqC_r _ _ _ _)
def k219 (b n3 n5 : Nat) : KT := seqC (fun e S => execL (C b) 5 c214 (k210 b n3 n5) e S) (k210 b n3 n5)
def c220 : Code := atB c215
def k221 (b n3 n5 : Nat) : KT := blockC 6 (k217 b n3 n5)
@[go_sem] theorem k221_n : k221 b n3 n5 .normal e S = (k217 b n3 n5) .normal e S := nr (blockC_n _ _ _ _)
@[go_sem] theorem k221_ret : k221 b n3 n5 .ret e S = (k217 b n3 n5) .ret e S := nr (blockC_r _ _ _ _)
def c222 : Code := at0 c220
def c223 : Code := at1 c220
def c224 : Code := at0 c223
def c225 : Code := at1 c223
def k226 (b n3 n5 : Nat) : KT := seqC (fun e S => execL (C b) 6 c225 (k221 b n3 n5) e S) (k221 b n3 n5)
def c227 : Code := atT c225
def c230 : Code := at0 c227
def c231 : Code := at1 c227
def k232 (b n3 n5 : Nat) : KT := seqC (fun e S => execL (C b) 6 c231 (k221 b n3 n5) e S) (k221 b n3 n5)
@[go_sem] theorem k232_n : k232 b n3 n5 .normal (ee33 x4) S =
  (k221 b n3 n5) .ret (ee33 x4) S := nr (seqN (execL_ret (by kernel_rfl)))
@[go_sem] theorem g233 : execL (C b) 6 c230 K (ee10 x2 x3 x6 x7 x8 x9 x137 x138 x139 x152) S =
  withV (some (.bool false)) fun x4 =>
    K .normal (ee33 x4) S := nr (by kernel_rfl)
@[go_sem] theorem k226_n : k226 b n3 n5 .normal (ee10 x2 x3 x6 x7 x8 x9 x137 x138 x139 x152) S =
  condC x152 (execL (C b) 6 c230 (k232 b n3 n5) (ee10 x2 x3 x6 x7 x8 x9 x137 x138 x139 x152) S)
    ((k221 b n3 n5) .normal (ee10 x2 x3 x6 x7 x8 x9 x137 x138 x139 x152) S) := nr (seqN (condE (t := 152) (by kernel_rfl) (enterS (by kernel_rfl)) (execL_skip (by kernel_rfl)) rfl))
def k234 (b n3 n5 : Nat) : KT := seqC (fun e S => execL (C b) 6 c223 (k221 b n3 n5) e S) (k221 b n3 n5)
@[go_sem] theorem g235 : execL (C b) 6 c224 K (ee6 x2 x3 x6 x7 x8 x9 x11 x137 x138 x139) S =
  withV (evFieldAddr (tyi Try.prog 54) 0 x9) fun x143 =>
    withV (evLoad (tyi Try.prog 3) S x143) fun x144 =>
    withV (evBin .eql (tyi Try.prog 3) x144 (.int .i64 55)) fun x145 =>
    withV (some x145) fun x146 =>
    withV (gval x146 true (evFieldAddr (tyi Try.prog 54) 1 x11)) fun x147 =>
    withV (gval x146 true (evLoad (tyi Try.prog 9) S x147)) fun x148 =>
    withV (gval x146 true (evFieldAddr (tyi Try.prog 54) 1 x9)) fun x149 =>
    withV (gval x146 true (evLoad (tyi Try.prog 9) S x149)) fun x150 =>
    withV (gval x146 true (evBin .eql (tyi Try.prog 9) x148 x150)) fun x151 =>
    withV (pickO x146 x151 (.bool false)) fun x152 =>
    K .normal (ee10 x2 x3 x6 x7 x8 x9 x137 x138 x139 x152) S := nr (by kernel_rfl)
@[go_sem] theorem k234_n : k234 b n3 n5 .normal e S = execL (C b) 6 c224 (k226 b n3 n5) e S := nr (seqN (enterS (by kernel_rfl)))
@[go_sem] theorem g236 : execL (C b) 6 c222 K (ee9 x2 x3 x6 x7 x8 x9 x137 x138 x139 x140) S =
  withV (indexAddrO Try.prog 52 S x137 x139) fun x141 =>
    withV (evLoad (tyi Try.prog 54) S x141) fun x142 =>
    withN (allocO (tyi Try.prog 54) (List.length S)) S fun x11 S =>
    withS (storeE (tyi Try.prog 54) S x11 x142) fun _u S =>
    K .normal (ee6 x2 x3 x6 x7 x8 x9 x11 x137 x138 x139) S := nr (by kernel_rfl)
@[go_sem] theorem k219_n : k219 b n3 n5 .normal (ee9 x2 x3 x6 x7 x8 x9 x137 x138 x139 x140) S =
  execL (C b) 6 c222 (k234 b n3 n5) (ee9 x2 x3 x6 x7 x8 x9 x137 x138 x139 x140) S := nr (seqN ((enterS (by kernel_rfl)).trans ((blockE (by kernel_rfl)).trans (enterS (by kernel_rfl)))))
@[go_sem] theorem k219_exit : k219 b n3 n5 (.exit i) e S = (k210 b n3 n5) (.exit i) e S := nr (seqC_x _ _ _ _ _)
def k237 (b n3 n5 : Nat) : KT := seqC (fun e S => execL (C b) 5 c212 (k210 b n3 n5) e S) (k210 b n3 n5)
@[go_sem] theorem k237_n : k237 b n3 n5 .normal (ee9 x2 x3 x6 x7 x8 x9 x137 x138 x139 x140) S =
  condC x140 ((k219 b n3 n5) .normal (ee9 x2 x3 x6 x7 x8 x9 x137 x138 x139 x140) S)
    ((k219 b n3 n5) (.exit 5) (ee9 x2 x3 x6 x7 x8 x9 x137 x138 x139 x140) S) := nr (seqN ((enterS (by kernel_rfl)).trans (condE (t := 140) (by kernel_rfl) (execL_skip (by kernel_rfl)) (execL_exit (by kernel_rfl)) rfl)))
@[go_sem] theorem g240 : execL (C b) 5 c211 K (ee8 x2 x3 x6 x7 x8 x9 x137 x138 x139) S =
  withV (evBin .lss (tyi Try.prog 3) x139 x138) fun x140 =>
    K .normal (ee9 x2 x3 x6 x7 x8 x9 x137 x138 x139 x140) S := nr (by kernel_rfl)
def B5 (b n3 n5 : Nat) (x2 x3 x6 x7 x8 x9 x137 x138 x139 : PV) (S : Store) : RT := execL (C b) 5 c208 (k210 b n3 n5) (ee8 x2 x3 x6 x7 x8 x9 x137 x138 x139) S
@[go_sem] theorem B5_eq : B5 b n3 n5 x2 x3 x6 x7 x8 x9 x137 x138 x139 S =
  execL (C b) 5 c211 (k237 b n3 n5) (ee8 x2 x3 x6 x7 x8 x9 x137 x138 x139) S := nr (enterS (by kernel_rfl))
theorem L5_step {b n3 n5 : Nat} {x2 x3 x6 x7 x8 x9 x137 x138 x139 : PV} {S : Store} {z : PV × Store} (h : B5 b n3 n5 x2 x3 x6 x7 x8 x9 x137 x138 x139 S = some z) : L5 b n3 n5 x2 x3 x6 x7 x8 x9 x137 x138 x139 S = some z := loopL_step h
theorem L5_in (b n3 : Nat) (x2 x3 x6 x7 x8 x9 x137 x138 x139 : PV) (S : Store) : execL (C b) 5 c206 (k207 b n3) (ee8 x2 x3 x6 x7 x8 x9 x137 x138 x139) S = L5 b n3 (List.length S) x2 x3 x6 x7 x8 x9 x137 x138 x139 S := by kernel_rfl
@[go_sem] theorem k205_n : k205 b n3 .normal (ee8 x2 x3 x6 x7 x8 x9 x137 x138 x139) S =
  L5 b n3 (List.length S) x2 x3 x6 x7 x8 x9 x137 x138 x139 S := nr (seqN ((blockE (by kernel_rfl)).trans (L5_in b n3 x2 x3 x6 x7 x8 x9 x137 x138 x139 S)))
@[go_sem] theorem g242 : execL (C b) 4 c203 K (ee7 x2 x3 x6 x7 x8 x9 x133) S =
  withV (evFieldAddr (tyi Try.prog 54) 3 x2) fun x134 =>
    withV (evLoad (tyi Try.prog 52) S x134) fun x135 =>
    withV (some x8) fun x136 =>
    withV (sliceO Try.prog 52 S x135 none (some x136) none) fun x137 =>
    withV (lenO (tyi Try.prog 52) x137) fun x138 =>
    withV (some (.int .i64 0)) fun x139 =>
    K .normal (ee8 x2 x3 x6 x7 x8 x9 x137 x138 x139) S := nr (by kernel_rfl)
@[go_sem] theorem k202_n : k202 b n3 .normal (ee7 x2 x3 x6 x7 x8 x9 x133) S =
  execL (C b) 4 c203 (k205 b n3) (ee7 x2 x3 x6 x7 x8 x9 x133) S := nr (seqN ((enterS (by kernel_rfl)).trans (enterS (by kernel_rfl))))
@[go_sem] theorem k202_ret : k202 b n3 .ret e S = (k193 b n3) .ret e S := nr (seqC_r _ _ _ _)
def k243 (b n3 : Nat) : KT := seqC (fun e S => execL (C b) 4 c195 (k193 b n3) e S) (k193 b n3)
def c244 : Code := at0 c196
def c245 : Code := at1 c196
def k246 (b n3 : Nat) : KT := seqC (fun e S => execL (C b) 4 c245 (k202 b n3) e S) (k202 b n3)
def c247 : Code := atT c245
def c250 : Code := at0 c247
def c251 : Code := at1 c247
def k252 (b n3 : Nat) : KT := seqC (fun e S => execL (C b) 4 c251 (k202 b n3) e S) (k202 b n3)
@[go_sem] theorem k252_n : k252 b n3 .normal (ee33 x4) S =
  (k202 b n3) .ret (ee33 x4) S := nr (seqN (execL_ret (by kernel_rfl)))
@[go_sem] theorem g253 : execL (C b) 4 c250 K (ee7 x2 x3 x6 x7 x8 x9 x133) S =
  withV (some (.bool false)) fun x4 =>
    K .normal (ee33 x4) S := nr (by kernel_rfl)
@[go_sem] theorem k246_n : k246 b n3 .normal (ee7 x2 x3 x6 x7 x8 x9 x133) S =
  condC x133 (execL (C b) 4 c250 (k252 b n3) (ee7 x2 x3 x6 x7 x8 x9 x133) S)
    ((k202 b n3) .normal (ee7 x2 x3 x6 x7 x8 x9 x133) S) := nr (seqN (condE (t := 133) (by kernel_rfl) (enterS (by kernel_rfl)) (execL_skip (by kernel_rfl)) rfl))
@[go_sem] theorem g254 : execL (C b) 4 c244 K (ee5 x2 x3 x6 x7 x8 x9) S =
  withV (evFieldAddr (tyi Try.prog 54) 0 x9) fun x120 =>
    withV (evLoad (tyi Try.prog 3) S x120) fun x121 =>
    withV (evBin .neq (tyi Try.prog 3) x121 (.int .i64 55)) fun x122 =>
    withV (some x122) fun x123 =>
    withV (gval x123 true (evFieldAddr (tyi Try.prog 54) 0 x9)) fun x124 =>
    withV (gval x123 true (evLoad (tyi Try.prog 3) S x124)) fun x125 =>
    withV (gval x123 true (evBin .neq (tyi Try.prog 3) x125 (.int .i64 56))) fun x126 =>
    withV (gval x123 true (some x126)) fun x127 =>
    withV (gval x127 false (some x8)) fun x128 =>
    withV (gval x127 false (some x7)) fun x129 =>
    withV (gval x127 false (evBin .sub (tyi Try.prog 3) x129 (.int .i64 1))) fun x130 =>
    withV (gval x127 false (evBin .neq (tyi Try.prog 3) x128 x130)) fun x131 =>
    withV (gval x123 true (pickO x127 (.bool true) x131)) fun x132 =>
    withV (pickO x123 x132 (.bool false)) fun x133 =>
    K .normal (ee7 x2 x3 x6 x7 x8 x9 x133) S := nr (by kernel_rfl)
@[go_sem] theorem k243_n : k243 b n3 .normal (ee5 x2 x3 x6 x7 x8 x9) S =
  execL (C b) 4 c244 (k246 b n3) (ee5 x2 x3 x6 x7 x8 x9) S := nr (seqN ((enterS (by kernel_rfl)).trans (enterS (by kernel_rfl))))
@[go_sem] theorem g255 : execL (C b) 4 c194 K (ee11 x2 x3 x6 x7 x8 x112) S =
  withV (evFieldAddr (tyi Try.prog 54) 3 x2) fun x115 =>
    withV (evLoad (tyi Try.prog 52) S x115) fun x116 =>
    withV (some x8) fun x117 =>
    withV (indexAddrO Try.prog 52 S x116 x117) fun x118 =>
    withV (evLoad (tyi Try.prog 54) S x118) fun x119 =>
    withN (allocO (tyi Try.prog 54) (List.length S)) S fun x9 S =>
    withS (storeE (tyi Try.prog 54) S x9 x119) fun _u S =>
    K .normal (ee5 x2 x3 x6 x7 x8 x9) S := nr (by kernel_rfl)
@[go_sem] theorem k191_n : k191 b n3 .normal (ee11 x2 x3 x6 x7 x8 x112) S =
  execL (C b) 4 c194 (k243 b n3) (ee11 x2 x3 x6 x7 x8 x112) S := nr (seqN ((enterS (by kernel_rfl)).trans ((blockE (by kernel_rfl)).trans (enterS (by kernel_rfl)))))
@[go_sem] theorem k191_exit : k191 b n3 (.exit i) e S = (k184 b n3) (.exit i) e S := nr (seqC_x _ _ _ _ _)
def c256 : Code := at0 c185
def c257 : Code := at1 c185
def k258 (b n3 : Nat) : KT := seqC (fun e S => execL (C b) 3 c257 (k191 b n3) e S) (k191 b n3)
@[go_sem] theorem k258_n : k258 b n3 .normal (ee11 x2 x3 x6 x7 x8 x112) S =
  condC x112 ((k191 b n3) .normal (ee11 x2 x3 x6 x7 x8 x112) S)
    ((k191 b n3) (.exit 3) (ee11 x2 x3 x6 x7 x8 x112) S) := nr (seqN (condE (t := 112) (by kernel_rfl) (execL_skip (by kernel_rfl)) (execL_exit (by kernel_rfl)) rfl))
@[go_sem] theorem g261 : execL (C b) 3 c256 K (ee4 x2 x3 x6 x7 x8) S =
  withV (some x8) fun x110 =>
    withV (some x7) fun x111 =>
    withV (evBin .lss (tyi Try.prog 3) x110 x111) fun x112 =>
    K .normal (ee11 x2 x3 x6 x7 x8 x112) S := nr (by kernel_rfl)
def B3 (b n3 : Nat) (x2 x3 x6 x7 x8 : PV) (S : Store) : RT := execL (C b) 3 c182 (k184 b n3) (ee4 x2 x3 x6 x7 x8) S
@[go_sem] theorem B3_eq : B3 b n3 x2 x3 x6 x7 x8 S =
  execL (C b) 3 c256 (k258 b n3) (ee4 x2 x3 x6 x7 x8) S := nr ((enterS (by kernel_rfl)).trans (enterS (by kernel_rfl)))
theorem L3_step {b n3 : Nat} {x2 x3 x6 x7 x8 : PV} {S : Store} {z : PV × Store} (h : B3 b n3 x2 x3 x6 x7 x8 S = some z) : L3 b n3 x2 x3 x6 x7 x8 S = some z := loopL_step h
theorem L3_in (b : Nat) (x2 x3 x6 x7 x8 : PV) (S : Store) : execL (C b) 3 c180 (k181 b) (ee4 x2 x3 x6 x7 x8) S = withO S x6 fun y6 S => L3 b (List.length S) x2 x3 y6 x7 x8 S := (show execL (C b) 3 c180 (k181 b) (ee4 x2 x3 x6 x7 x8) S = (fun e S => (fzSlots [] e S).bind (fun r => L3g b r.2.length r.1 r.2)) (ownAll [6] (keepOnly [2, 3, 6, 7, 8] (ee4 x2 x3 x6 x7 x8)) S).1 (ownAll [6] (keepOnly [2, 3, 6, 7, 8] (ee4 x2 x3 x6 x7 x8)) S).2 from by kernel_rfl).trans ((own_cons (fun e S => (fzSlots [] e S).bind (fun r => L3g b r.2.length r.1 r.2)) 6 [] (e := (keepOnly [2, 3, 6, 7, 8] (ee4 x2 x3 x6 x7 x8))) (S := S) (by kernel_rfl) (by decide)).trans ((congrArg (withO S (get (keepOnly [2, 3, 6, 7, 8] (ee4 x2 x3 x6 x7 x8)) 6)) (funext fun y6 => funext fun S => show _ = (L3 b (List.length S) x2 x3 y6 x7 x8 S) from (by kernel_rfl))).trans (by kernel_rfl)))
@[go_sem] theorem k179_n : k179 b .normal (ee4 x2 x3 x6 x7 x8) S =
  withO S x6 fun y6 S => L3 b (List.length S) x2 x3 y6 x7 x8 S := nr (seqN ((blockE (by kernel_rfl)).trans (L3_in b x2 x3 x6 x7 x8 S)))
@[go_sem] theorem g263 : execL (C b) 0 c177 K (ee3 x2 x3 x6 x7) S =
  withV (some (.int .i64 0)) fun x8 =>
    K .normal (ee4 x2 x3 x6 x7 x8) S := nr (by kernel_rfl)
@[go_sem] theorem k176_n : k176 b .normal (ee3 x2 x3 x6 x7) S =
  execL (C b) 0 c177 (k179 b) (ee3 x2 x3 x6 x7) S := nr (seqN ((enterS (by kernel_rfl)).trans (enterS (by kernel_rfl))))
def k264 (b : Nat) : KT := seqC (fun e S => execL (C b) 0 c165 (k110 b) e S) (k110 b)
@[go_sem] theorem g265 : execL (C b) 0 c166 K (ee22 x2 x3 x6 x105) S =
  withV (evFieldAddr (tyi Try.prog 54) 3 x2) fun x106 =>
    withV (evLoad (tyi Try.prog 52) S x106) fun x107 =>
    withV (lenO (tyi Try.prog 52) x107) fun x108 =>
    withV (evBin .sub (tyi Try.prog 3) x108 (.int .i64 1)) fun x109 =>
    withV (some x109) fun x7 =>
    K .normal (ee3 x2 x3 x6 x7) S := nr (by kernel_rfl)
@[go_sem] theorem k264_n : k264 b .normal e S = execL (C b) 0 c166 (k176 b) e S := nr (seqN (enterS (by kernel_rfl)))
@[go_sem] theorem k264_ret : k264 b .ret e S = (k110 b) .ret e S := nr (seqC_r _ _ _ _)
def c266 : Code := at0 c164
def c267 : Code := at1 c164
def k268 (b : Nat) : KT := seqC (fun e S => execL (C b) 0 c267 (k264 b) e S) (k264 b)
def c269 : Code := atT c267
def c272 : Code := at0 c269
def c273 : Code := at1 c269
def k274 (b : Nat) : KT := seqC (fun e S => execL (C b) 0 c273 (k264 b) e S) (k264 b)
@[go_sem] theorem k274_n : k274 b .normal (ee33 x4) S =
  (k264 b) .ret (ee33 x4) S := nr (seqN (execL_ret (by kernel_rfl)))
@[go_sem] theorem g275 : execL (C b) 0 c272 K (ee22 x2 x3 x6 x105) S =
  withV (some (.bool false)) fun x4 =>
    K .normal (ee33 x4) S := nr (by kernel_rfl)
@[go_sem] theorem k268_n : k268 b .normal (ee22 x2 x3 x6 x105) S =
  condC x105 (execL (C b) 0 c272 (k274 b) (ee22 x2 x3 x6 x105) S)
    ((k264 b) .normal (ee22 x2 x3 x6 x105) S) := nr (seqN (condE (t := 105) (by kernel_rfl) (enterS (by kernel_rfl)) (execL_skip (by kernel_rfl)) rfl))
@[go_sem] theorem g276 : execL (C b) 0 c266 K (ee16 x2 x3 x6 x72 x95) S =
  withV (evFieldAddr (tyi Try.prog 54) 1 x2) fun x97 =>
    withV (evLoad (tyi Try.prog 9) S x97) fun x98 =>
    withV (evBin .neq (tyi Try.prog 9) x98 (.str ⟨#[]⟩)) fun x99 =>
    withV (some x99) fun x100 =>
    withV (gval x100 false (evFieldAddr (tyi Try.prog 54) 3 x2)) fun x101 =>
    withV (gval x100 false (evLoad (tyi Try.prog 52) S x101)) fun x102 =>
    withV (gval x100 false (lenO (tyi Try.prog 52) x102)) fun x103 =>
    withV (gval x100 false (evBin .lss (tyi Try.prog 3) x103 (.int .i64 2))) fun x104 =>
    withV (pickO x100 (.bool true) x104) fun x105 =>
    K .normal (ee22 x2 x3 x6 x105) S := nr (by kernel_rfl)
def c278 : Code := at0 c162
def c279 : Code := at1 c162
def k280 (b : Nat) : KT := seqC (fun e S => execL (C b) 0 c279 (k110 b) e S) (k110 b)
def c281 : Code := atT c279
def c282 : Code := atF c279
def c284 : Code := at0 c281
def c285 : Code := at1 c281
def k286 (b : Nat) : KT := seqC (fun e S => execL (C b) 0 c285 (k110 b) e S) (k110 b)
def c287 : Code := atT c285
def c290 : Code := at0 c287
def c291 : Code := at1 c287
def k292 (b : Nat) : KT := seqC (fun e S => execL (C b) 0 c291 (k110 b) e S) (k110 b)
@[go_sem] theorem k292_n : k292 b .normal (ee33 x4) S =
  (k110 b) .ret (ee33 x4) S := nr (seqN (execL_ret (by kernel_rfl)))
@[go_sem] theorem g293 : execL (C b) 0 c290 K (ee21 x2 x3 x6 x88 x89 x90 x172 x182) S =
  withV (some (.bool false)) fun x4 =>
    K .normal (ee33 x4) S := nr (by kernel_rfl)
@[go_sem] theorem k286_n : k286 b .normal (ee21 x2 x3 x6 x88 x89 x90 x172 x182) S =
  condC x172 (execL (C b) 0 c290 (k292 b) (ee21 x2 x3 x6 x88 x89 x90 x172 x182) S)
    ((k110 b) .normal (ee21 x2 x3 x6 x88 x89 x90 x172 x182) S) := nr (seqN (condE (t := 172) (by kernel_rfl) (enterS (by kernel_rfl)) (execL_skip (by kernel_rfl)) rfl))
@[go_sem] theorem g294 : execL (C b) 0 c284 K (ee17 x2 x3 x6 x72 x161) S =
  withV (evFieldAddr (tyi Try.prog 81) 0 x3) fun x163 =>
    withV (evLoad (tyi Try.prog 4) S x163) fun x164 =>
    withV (some x164) fun x165 =>
    withV (gval x165 false (evFieldAddr (tyi Try.prog 81) 1 x3)) fun x166 =>
    withV (gval x165 false (evLoad (tyi Try.prog 4) S x166)) fun x167 =>
    withV (pickO x165 (.bool true) x167) fun x168 =>
    withV (some x168) fun x169 =>
    withV (gval x169 false (evFieldAddr (tyi Try.prog 81) 2 x3)) fun x170 =>
    withV (gval x169 false (evLoad (tyi Try.prog 4) S x170)) fun x171 =>
    withV (pickO x169 (.bool true) x171) fun x172 =>
    K .normal (ee21 x2 x3 x6 .undef .undef .undef x172 .undef) S := nr (by kernel_rfl)
def c296 : Code := at0 c282
def c297 : Code := at1 c282
def k298 (b : Nat) : KT := seqC (fun e S => execL (C b) 0 c297 (k110 b) e S) (k110 b)
def c299 : Code := atT c297
def c300 : Code := atF c297
def c302 : Code := at0 c299
def c303 : Code := at1 c299
def k304 (b : Nat) : KT := seqC (fun e S => execL (C b) 0 c303 (k110 b) e S) (k110 b)
@[go_sem] theorem g305 : execL (C b) 0 c303 K (ee23 x2 x3 x6 x180) S =
  withV (evFieldAddr (tyi Try.prog 81) 0 x3) fun x181 =>
    withS (storeE (tyi Try.prog 4) S x181 (.bool true)) fun _u S =>
    K .normal (ee21 x2 x3 x6 .undef .undef .undef .undef .undef) S := nr (by kernel_rfl)
@[go_sem] theorem k304_n : k304 b .normal e S = execL (C b) 0 c303 (k110 b) e S := nr (seqN rfl)
@[go_sem] theorem k304_ret : k304 b .ret e S = (k110 b) .ret e S := nr (seqC_r _ _ _ _)
def c306 : Code := at0 c302
def c307 : Code := at1 c302
def k308 (b : Nat) : KT := seqC (fun e S => execL (C b) 0 c307 (k304 b) e S) (k304 b)
def c309 : Code := atT c307
def c312 : Code := at0 c309
def c313 : Code := at1 c309
def k314 (b : Nat) : KT := seqC (fun e S => execL (C b) 0 c313 (k304 b) e S) (k304 b)
@[go_sem] theorem k314_n : k314 b .normal (ee33 x4) S =
  (k304 b) .ret (ee33 x4) S := nr (seqN (execL_ret (by kernel_rfl)))
@[go_sem] theorem g315 : execL (C b) 0 c312 K (ee23 x2 x3 x6 x180) S =
  withV (some (.bool false)) fun x4 =>
    K .normal (ee33 x4) S := nr (by kernel_rfl)
@[go_sem] theorem k308_n : k308 b .normal (ee23 x2 x3 x6 x180) S =
  condC x180 (execL (C b) 0 c312 (k314 b) (ee23 x2 x3 x6 x180) S)
    ((k304 b) .normal (ee23 x2 x3 x6 x180) S) := nr (seqN (condE (t := 180) (by kernel_rfl) (enterS (by kernel_rfl)) (execL_skip (by kernel_rfl)) rfl))
@[go_sem] theorem g316 : execL (C b) 0 c306 K (ee18 x2 x3 x6 x72 x173) S =
  withV (evFieldAddr (tyi Try.prog 81) 0 x3) fun x175 =>
    withV (evLoad (tyi Try.prog 4) S x175) fun x176 =>
    withV (some x176) fun x177 =>
    withV (gval x177 false (evFieldAddr (tyi Try.prog 81) 2 x3)) fun x178 =>
    withV (gval x177 false (evLoad (tyi Try.prog 4) S x178)) fun x179 =>
    withV (pickO x177 (.bool true) x179) fun x180 =>
    K .normal (ee23 x2 x3 x6 x180) S := nr (by kernel_rfl)
def c318 : Code := at0 c300
def c319 : Code := at1 c300
def k320 (b : Nat) : KT := seqC (fun e S => execL (C b) 0 c319 (k110 b) e S) (k110 b)
def c321 : Code := atT c319
def c324 : Code := at0 c321
def c325 : Code := at1 c321
def k326 (b : Nat) : KT := seqC (fun e S => execL (C b) 0 c325 (k110 b) e S) (k110 b)
@[go_sem] theorem g327 : execL (C b) 0 c325 K (ee24 x2 x3 x6 x199) S =
  withV (evFieldAddr (tyi Try.prog 81) 1 x3) fun x200 =>
    withS (storeE (tyi Try.prog 4) S x200 (.bool true)) fun _u S =>
    K .normal (ee21 x2 x3 x6 .undef .undef .undef .undef .undef) S := nr (by kernel_rfl)
@[go_sem] theorem k326_n : k326 b .normal e S = execL (C b) 0 c325 (k110 b) e S := nr (seqN rfl)
@[go_sem] theorem k326_ret : k326 b .ret e S = (k110 b) .ret e S := nr (seqC_r _ _ _ _)
def c328 : Code := at0 c324
def c329 : Code := at1 c324
def k330 (b : Nat) : KT := seqC (fun e S => execL (C b) 0 c329 (k326 b) e S) (k326 b)
def c331 : Code := atT c329
def c334 : Code := at0 c331
def c335 : Code := at1 c331
def k336 (b : Nat) : KT := seqC (fun e S => execL (C b) 0 c335 (k326 b) e S) (k326 b)
@[go_sem] theorem k336_n : k336 b .normal (ee33 x4) S =
  (k326 b) .ret (ee33 x4) S := nr (seqN (execL_ret (by kernel_rfl)))
@[go_sem] theorem g337 : execL (C b) 0 c334 K (ee24 x2 x3 x6 x199) S =
  withV (some (.bool false)) fun x4 =>
    K .normal (ee33 x4) S := nr (by kernel_rfl)
@[go_sem] theorem k330_n : k330 b .normal (ee24 x2 x3 x6 x199) S =
  condC x199 (execL (C b) 0 c334 (k336 b) (ee24 x2 x3 x6 x199) S)
    ((k326 b) .normal (ee24 x2 x3 x6 x199) S) := nr (seqN (condE (t := 199) (by kernel_rfl) (enterS (by kernel_rfl)) (execL_skip (by kernel_rfl)) rfl))
@[go_sem] theorem g338 : execL (C b) 0 c328 K (ee21 x2 x3 x6 x88 x89 x90 x172 x182) S =
  withV (evFieldAddr (tyi Try.prog 81) 2 x3) fun x184 =>
    withV (evLoad (tyi Try.prog 4) S x184) fun x185 =>
    withV (some x185) fun x186 =>
    withV (gval x186 false (evFieldAddr (tyi Try.prog 54) 3 x2)) fun x187 =>
    withV (gval x186 false (evLoad (tyi Try.prog 52) S x187)) fun x188 =>
    withV (gval x186 false (lenO (tyi Try.prog 52) x188)) fun x189 =>
    withV (gval x186 false (evBin .neq (tyi Try.prog 3) x189 (.int .i64 1))) fun x190 =>
    withV (pickO x186 (.bool true) x190) fun x191 =>
    withV (some x191) fun x192 =>
    withV (gval x192 false (evFieldAddr (tyi Try.prog 54) 3 x2)) fun x193 =>
    withV (gval x192 false (evLoad (tyi Try.prog 52) S x193)) fun x194 =>
    withV (gval x192 false (indexAddrO Try.prog 52 S x194 (.int .i64 0))) fun x195 =>
    withV (gval x192 false (evLoad (tyi Try.prog 54) S x195)) fun x196 =>
    withN (gout x192 false (callO (callL Try.prog hints) S 86 [x196])) S fun x197 S =>
    withV (gval x192 false (evUn .not x197)) fun x198 =>
    withV (pickO x192 (.bool true) x198) fun x199 =>
    K .normal (ee24 x2 x3 x6 x199) S := nr (by kernel_rfl)
@[go_sem] theorem k320_n : k320 b .normal (ee21 x2 x3 x6 x88 x89 x90 x172 x182) S =
  condC x182 (execL (C b) 0 c328 (k330 b) (ee21 x2 x3 x6 x88 x89 x90 x172 x182) S)
    ((k110 b) .normal (ee21 x2 x3 x6 x88 x89 x90 x172 x182) S) := nr (seqN (condE (t := 182) (by kernel_rfl) ((enterS (by kernel_rfl)).trans (enterS (by kernel_rfl))) (execL_skip (by kernel_rfl)) rfl))
@[go_sem] theorem g339 : execL (C b) 0 c318 K (ee18 x2 x3 x6 x72 x173) S =
  withV (evBin .eql (tyi Try.prog 3) x72 (.int .i64 39)) fun x183 =>
    withV (some x183) fun x182 =>
    K .normal (ee21 x2 x3 x6 .undef .undef .undef .undef x182) S := nr (by kernel_rfl)
@[go_sem] theorem k298_n : k298 b .normal (ee18 x2 x3 x6 x72 x173) S =
  condC x173 (execL (C b) 0 c306 (k308 b) (ee18 x2 x3 x6 x72 x173) S)
    (execL (C b) 0 c318 (k320 b) (ee18 x2 x3 x6 x72 x173) S) := nr (seqN (condE (t := 173) (by kernel_rfl) ((enterS (by kernel_rfl)).trans (enterS (by kernel_rfl))) (enterS (by kernel_rfl)) rfl))
@[go_sem] theorem g340 : execL (C b) 0 c296 K (ee17 x2 x3 x6 x72 x161) S =
  withV (evBin .eql (tyi Try.prog 3) x72 (.int .i64 12)) fun x174 =>
    withV (some x174) fun x173 =>
    K .normal (ee18 x2 x3 x6 x72 x173) S := nr (by kernel_rfl)
@[go_sem] theorem k280_n : k280 b .normal (ee17 x2 x3 x6 x72 x161) S =
  condC x161 (execL (C b) 0 c284 (k286 b) (ee17 x2 x3 x6 x72 x161) S)
    (execL (C b) 0 c296 (k298 b) (ee17 x2 x3 x6 x72 x161) S) := nr (seqN (condE (t := 161) (by kernel_rfl) (enterS (by kernel_rfl)) (enterS (by kernel_rfl)) rfl))
@[go_sem] theorem g341 : execL (C b) 0 c278 K (ee16 x2 x3 x6 x72 x95) S =
  withV (evBin .eql (tyi Try.prog 3) x72 (.int .i64 3)) fun x162 =>
    withV (some x162) fun x161 =>
    K .normal (ee17 x2 x3 x6 x72 x161) S := nr (by kernel_rfl)
@[go_sem] theorem k160_n : k160 b .normal (ee16 x2 x3 x6 x72 x95) S =
  condC x95 (execL (C b) 0 c266 (k268 b) (ee16 x2 x3 x6 x72 x95) S)
    (execL (C b) 0 c278 (k280 b) (ee16 x2 x3 x6 x72 x95) S) := nr (seqN (condE (t := 95) (by kernel_rfl) ((enterS (by kernel_rfl)).trans (enterS (by kernel_rfl))) (enterS (by kernel_rfl)) rfl))
@[go_sem] theorem g342 : execL (C b) 0 c158 K (ee15 x2 x3 x6 x72 x73) S =
  withV (evBin .eql (tyi Try.prog 3) x72 (.int .i64 54)) fun x96 =>
    withV (some x96) fun x95 =>
    K .normal (ee16 x2 x3 x6 x72 x95) S := nr (by kernel_rfl)
@[go_sem] theorem k113_n : k113 b .normal (ee15 x2 x3 x6 x72 x73) S =
  condC x73 (execL (C b) 0 c146 (k148 b) (ee15 x2 x3 x6 x72 x73) S)
    (execL (C b) 0 c158 (k160 b) (ee15 x2 x3 x6 x72 x73) S) := nr (seqN (condE (t := 73) (by kernel_rfl) ((enterS (by kernel_rfl)).trans (enterS (by kernel_rfl))) (enterS (by kernel_rfl)) rfl))
def c343 : Code := at0 c111
def c344 : Code := at1 c111
def k345 (b : Nat) : KT := seqC (fun e S => execL (C b) 0 c344 (k113 b) e S) (k113 b)
def c347 : Code := atF c344
@[go_sem] theorem g349 : execL (C b) 0 c347 K (ee15 x2 x3 x6 x72 x73) S =
  withV (evBin .eql (tyi Try.prog 3) x72 (.int .i64 37)) fun x75 =>
    withV (some x75) fun x73 =>
    K .normal (ee15 x2 x3 x6 x72 x73) S := nr (by kernel_rfl)
@[go_sem] theorem k345_n : k345 b .normal (ee15 x2 x3 x6 x72 x73) S =
  condC x73 ((k113 b) .normal (ee15 x2 x3 x6 x72 x73) S)
    (execL (C b) 0 c347 (k113 b) (ee15 x2 x3 x6 x72 x73) S) := nr (seqN (condE (t := 73) (by kernel_rfl) (execL_skip (by kernel_rfl)) (rfl) rfl))
@[go_sem] theorem g350 : execL (C b) 0 c343 K (ee14 x2 x3 x6 x72) S =
  withV (evBin .eql (tyi Try.prog 3) x72 (.int .i64 10)) fun x74 =>
    withV (some x74) fun x73 =>
    K .normal (ee15 x2 x3 x6 x72 x73) S := nr (by kernel_rfl)
@[go_sem] theorem k108_n : k108 b .normal (ee14 x2 x3 x6 x72) S =
  execL (C b) 0 c343 (k345 b) (ee14 x2 x3 x6 x72) S := nr (seqN ((blockE (by kernel_rfl)).trans ((enterS (by kernel_rfl)).trans (enterS (by kernel_rfl)))))
@[go_sem] theorem g351 : execL (C b) 0 c106 K (ee13 x2 x3 x6 x70) S =
  withV (evFieldAddr (tyi Try.prog 54) 0 x2) fun x71 =>
    withV (evLoad (tyi Try.prog 3) S x71) fun x72 =>
    K .normal (ee14 x2 x3 x6 x72) S := nr (by kernel_rfl)
@[go_sem] theorem k105_n : k105 b .normal (ee13 x2 x3 x6 x70) S =
  execL (C b) 0 c106 (k108 b) (ee13 x2 x3 x6 x70) S := nr (seqN ((enterS (by kernel_rfl)).trans (enterS (by kernel_rfl))))
@[go_sem] theorem k105_ret : k105 b .ret e S = (k0 b) .ret e S := nr (seqC_r _ _ _ _)
def k352 (b : Nat) : KT := seqC (fun e S => execL (C b) 0 c6 (k0 b) e S) (k0 b)
def c353 : Code := at0 c7
def c354 : Code := at1 c7
def k355 (b : Nat) : KT := seqC (fun e S => execL (C b) 0 c354 (k105 b) e S) (k105 b)
def c356 : Code := atT c354
def c359 : Code := at0 c356
def c360 : Code := at1 c356
def k361 (b : Nat) : KT := seqC (fun e S => execL (C b) 0 c360 (k105 b) e S) (k105 b)
@[go_sem] theorem k361_n : k361 b .normal (ee33 x4) S =
  (k105 b) .ret (ee33 x4) S := nr (seqN (execL_ret (by kernel_rfl)))
@[go_sem] theorem g362 : execL (C b) 0 c359 K (ee13 x2 x3 x6 x70) S =
  withV (some (.bool false)) fun x4 =>
    K .normal (ee33 x4) S := nr (by kernel_rfl)
@[go_sem] theorem k355_n : k355 b .normal (ee13 x2 x3 x6 x70) S =
  condC x70 (execL (C b) 0 c359 (k361 b) (ee13 x2 x3 x6 x70) S)
    ((k105 b) .normal (ee13 x2 x3 x6 x70) S) := nr (seqN (condE (t := 70) (by kernel_rfl) (enterS (by kernel_rfl)) (execL_skip (by kernel_rfl)) rfl))
@[go_sem] theorem g363 : execL (C b) 0 c353 K (ee1 x2 x3 x5 x6) S =
  withV (some x5) fun x45 =>
    withV (some x45) fun x46 =>
    withV (gval x46 true (evFieldAddr (tyi Try.prog 54) 1 x2)) fun x47 =>
    withV (gval x46 true (evLoad (tyi Try.prog 9) S x47)) fun x48 =>
    withN (gout x46 true (callO (callL Try.prog hints) S 38 [x48])) S fun x49 S =>
    withV (gval x46 true (evUn .not x49)) fun x50 =>
    withV (pickO x46 x50 (.bool false)) fun x51 =>
    withV (some x51) fun x52 =>
    withV (gval x52 false (some x5)) fun x53 =>
    withV (gval x52 false (evUn .not x53)) fun x54 =>
    withV (gval x52 false (some x54)) fun x55 =>
    withV (gval x55 true (evFieldAddr (tyi Try.prog 54) 1 x2)) fun x56 =>
    withV (gval x55 true (evLoad (tyi Try.prog 9) S x56)) fun x57 =>
    withV (gval x55 true (evBin .neq (tyi Try.prog 9) x57 (.str ⟨#[]⟩))) fun x58 =>
    withV (gval x52 false (pickO x55 x58 (.bool false))) fun x59 =>
    withV (gval x52 false (some x59)) fun x60 =>
    withV (gval x60 true (evFieldAddr (tyi Try.prog 54) 0 x2)) fun x61 =>
    withV (gval x60 true (evLoad (tyi Try.prog 3) S x61)) fun x62 =>
    withV (gval x60 true (evBin .neq (tyi Try.prog 3) x62 (.int .i64 10))) fun x63 =>
    withV (gval x52 false (pickO x60 x63 (.bool false))) fun x64 =>
    withV (gval x52 false (some x64)) fun x65 =>
    withV (gval x65 true (evFieldAddr (tyi Try.prog 54) 0 x2)) fun x66 =>
    withV (gval x65 true (evLoad (tyi Try.prog 3) S x66)) fun x67 =>
    withV (gval x65 true (evBin .neq (tyi Try.prog 3) x67 (.int .i64 37))) fun x68 =>
    withV (gval x52 false (pickO x65 x68 (.bool false))) fun x69 =>
    withV (pickO x52 (.bool true) x69) fun x70 =>
    K .normal (ee13 x2 x3 x6 x70) S := nr (by kernel_rfl)
@[go_sem] theorem k352_n : k352 b .normal (ee1 x2 x3 x5 x6) S =
  execL (C b) 0 c353 (k355 b) (ee1 x2 x3 x5 x6) S := nr (seqN ((enterS (by kernel_rfl)).trans (enterS (by kernel_rfl))))
def k364 (b : Nat) : KT := seqC (fun e S => execL (C b) 0 c4 (k0 b) e S) (k0 b)
@[go_sem] theorem g365 : execL (C b) 0 c5 K (ee30 x2 x3 x21 x38) S =
  withV (evFieldAddr (tyi Try.prog 54) 0 x2) fun x40 =>
    withV (evLoad (tyi Try.prog 3) S x40) fun x41 =>
    withN (callO (callL Try.prog hints) S 85 [x41]) S fun x42 S =>
    withV (some x42) fun x39 =>
    withV (extractO x39 0) fun x43 =>
    withV (extractO x39 1) fun x44 =>
    withV (some x43) fun x5 =>
    withV (some x44) fun x6 =>
    K .normal (ee1 x2 x3 x5 x6) S := nr (by kernel_rfl)
@[go_sem] theorem k364_n : k364 b .normal e S = execL (C b) 0 c5 (k352 b) e S := nr (seqN (enterS (by kernel_rfl)))
@[go_sem] theorem k364_ret : k364 b .ret e S = (k0 b) .ret e S := nr (seqC_r _ _ _ _)
def k366 (b : Nat) : KT := seqC (fun e S => execL (C b) 0 c2 (k0 b) e S) (k0 b)
def c367 : Code := at0 c3
def c368 : Code := at1 c3
def k369 (b : Nat) : KT := seqC (fun e S => execL (C b) 0 c368 (k364 b) e S) (k364 b)
def c370 : Code := atT c368
def c371 : Code := atF c368
def c373 : Code := at0 c370
def c374 : Code := at1 c370
def k375 (b : Nat) : KT := seqC (fun e S => execL (C b) 0 c374 (k364 b) e S) (k364 b)
def c376 : Code := atT c374
def c379 : Code := at0 c376
def c380 : Code := at1 c376
def k381 (b : Nat) : KT := seqC (fun e S => execL (C b) 0 c380 (k364 b) e S) (k364 b)
@[go_sem] theorem k381_n : k381 b .normal (ee33 x4) S =
  (k364 b) .ret (ee33 x4) S := nr (seqN (execL_ret (by kernel_rfl)))
@[go_sem] theorem g382 : execL (C b) 0 c379 K (ee30 x2 x3 x21 x38) S =
  withV (some (.bool false)) fun x4 =>
    K .normal (ee33 x4) S := nr (by kernel_rfl)
@[go_sem] theorem k375_n : k375 b .normal (ee30 x2 x3 x21 x38) S =
  condC x21 (execL (C b) 0 c379 (k381 b) (ee30 x2 x3 x21 x38) S)
    ((k364 b) .normal (ee30 x2 x3 x21 x38) S) := nr (seqN (condE (t := 21) (by kernel_rfl) (enterS (by kernel_rfl)) (execL_skip (by kernel_rfl)) rfl))
@[go_sem] theorem g383 : execL (C b) 0 c373 K (ee29 x2 x3 x17) S =
  withV (evFieldAddr (tyi Try.prog 54) 2 x2) fun x18 =>
    withV (evLoad (tyi Try.prog 51) S x18) fun x19 =>
    withN (callO (callL Try.prog hints) S 84 [x19]) S fun x20 S =>
    withV (evUn .not x20) fun x21 =>
    K .normal (ee30 x2 x3 x21 .undef) S := nr (by kernel_rfl)
def c385 : Code := at0 c371
def c386 : Code := at1 c371
def k387 (b : Nat) : KT := seqC (fun e S => execL (C b) 0 c386 (k364 b) e S) (k364 b)
def c388 : Code := atT c386
def c391 : Code := at0 c388
def c392 : Code := at1 c388
def k393 (b : Nat) : KT := seqC (fun e S => execL (C b) 0 c392 (k364 b) e S) (k364 b)
@[go_sem] theorem k393_n : k393 b .normal (ee33 x4) S =
  (k364 b) .ret (ee33 x4) S := nr (seqN (execL_ret (by kernel_rfl)))
@[go_sem] theorem g394 : execL (C b) 0 c391 K (ee30 x2 x3 x21 x38) S =
  withV (some (.bool false)) fun x4 =>
    K .normal (ee33 x4) S := nr (by kernel_rfl)
@[go_sem] theorem k387_n : k387 b .normal (ee30 x2 x3 x21 x38) S =
  condC x38 (execL (C b) 0 c391 (k393 b) (ee30 x2 x3 x21 x38) S)
    ((k364 b) .normal (ee30 x2 x3 x21 x38) S) := nr (seqN (condE (t := 38) (by kernel_rfl) (enterS (by kernel_rfl)) (execL_skip (by kernel_rfl)) rfl))
@[go_sem] theorem g395 : execL (C b) 0 c385 K (ee29 x2 x3 x17) S =
  withV (evFieldAddr (tyi Try.prog 54) 2 x2) fun x22 =>
    withV (evFieldAddr (tyi Try.prog 51) 0 x22) fun x23 =>
    withV (evLoad (tyi Try.prog 4) S x23) fun x24 =>
    withV (some x24) fun x25 =>
    withV (gval x25 false (evFieldAddr (tyi Try.prog 54) 2 x2)) fun x26 =>
    withV (gval x25 false (evFieldAddr (tyi Try.prog 51) 1 x26)) fun x27 =>
    withV (gval x25 false (evLoad (tyi Try.prog 49) S x27)) fun x28 =>
    withV (gval x25 false (lenO (tyi Try.prog 49) x28)) fun x29 =>
    withV (gval x25 false (evBin .gtr (tyi Try.prog 3) x29 (.int .i64 0))) fun x30 =>
    withV (pickO x25 (.bool true) x30) fun x31 =>
    withV (some x31) fun x32 =>
    withV (gval x32 false (evFieldAddr (tyi Try.prog 54) 2 x2)) fun x33 =>
    withV (gval x32 false (evFieldAddr (tyi Try.prog 51) 2 x33)) fun x34 =>
    withV (gval x32 false (evLoad (tyi Try.prog 49) S x34)) fun x35 =>
    withV (gval x32 false (lenO (tyi Try.prog 49) x35)) fun x36 =>
    withV (gval x32 false (evBin .gtr (tyi Try.prog 3) x36 (.int .i64 0))) fun x37 =>
    withV (pickO x32 (.bool true) x37) fun x38 =>
    K .normal (ee30 x2 x3 .undef x38) S := nr (by kernel_rfl)
@[go_sem] theorem k369_n : k369 b .normal (ee29 x2 x3 x17) S =
  condC x17 (execL (C b) 0 c373 (k375 b) (ee29 x2 x3 x17) S)
    (execL (C b) 0 c385 (k387 b) (ee29 x2 x3 x17) S) := nr (seqN (condE (t := 17) (by kernel_rfl) (enterS (by kernel_rfl)) (enterS (by kernel_rfl)) rfl))
@[go_sem] theorem g396 : execL (C b) 0 c367 K (ee0 x2 x3) S =
  withV (evFieldAddr (tyi Try.prog 54) 0 x2) fun x15 =>
    withV (evLoad (tyi Try.prog 3) S x15) fun x16 =>
    withV (evBin .eql (tyi Try.prog 3) x16 (.int .i64 1)) fun x17 =>
    K .normal (ee29 x2 x3 x17) S := nr (by kernel_rfl)
@[go_sem] theorem k366_n : k366 b .normal (ee0 x2 x3) S =
  execL (C b) 0 c367 (k369 b) (ee0 x2 x3) S := nr (seqN ((enterS (by kernel_rfl)).trans (enterS (by kernel_rfl))))
@[go_sem] theorem g397 : execL (C b) 0 c1 K [(0, x0), (1, x1)] S =
  withN (boxed S (List.length S) (TI.size (tyi Try.prog 54)) x0) S fun x2 S =>
    withN (boxed S (List.length S) (TI.size (tyi Try.prog 81)) x1) S fun x3 S =>
    withV (some (.bool false)) fun x4 =>
    K .normal (ee0 x2 x3) S := nr (by kernel_rfl)
def E (b : Nat) (x0 x1 : PV) (S : Store) : RT := execL (C b) 0 code (k0 b) [(0, x0), (1, x1)] S
@[go_sem] theorem E_eq : E b x0 x1 S =
  execL (C b) 0 c1 (k366 b) [(0, x0), (1, x1)] S := nr (enterS (by kernel_rfl))
@[go_sem] theorem gc_ee4 : gc n (ee4 x2 x3 x6 x7 x8) S = gc n [(2, x2), (3, x3), (6, x6), (7, x7), (8, x8)] S := nr (rfl)
@[go_sem] theorem gc_ee8 : gc n (ee8 x2 x3 x6 x7 x8 x9 x137 x138 x139) S = gc n [(2, x2), (3, x3), (6, x6), (7, x7), (8, x8), (9, x9), (137, x137), (138, x138), (139, x139)] S := nr (rfl)
@[go_sem] theorem gc_ee9 : gc n (ee9 x2 x3 x6 x7 x8 x9 x137 x138 x139 x140) S = gc n [(2, x2), (3, x3), (6, x6), (7, x7), (8, x8), (9, x9), (137, x137), (138, x138), (139, x139), (140, x140)] S := nr (rfl)
@[go_sem] theorem gc_ee11 : gc n (ee11 x2 x3 x6 x7 x8 x112) S = gc n [(2, x2), (3, x3), (6, x6), (7, x7), (8, x8), (112, x112)] S := nr (rfl)
@[go_sem] theorem gc_ee20 : gc n (ee20 x2 x3 x6 x88 x89) S = gc n [(2, x2), (3, x3), (6, x6), (88, x88), (89, x89)] S := nr (rfl)
@[go_sem] theorem gc_ee21 : gc n (ee21 x2 x3 x6 x88 x89 x90 x172 x182) S = gc n [(2, x2), (3, x3), (6, x6), (88, x88), (89, x89), (90, x90), (172, x172), (182, x182)] S := nr (rfl)
@[go_sem] theorem gc_ee26 : gc n (ee26 x2 x3 x6 x208 x209 x210) S = gc n [(2, x2), (3, x3), (6, x6), (208, x208), (209, x209), (210, x210)] S := nr (rfl)
@[go_sem] theorem gc_ee27 : gc n (ee27 x2 x3 x6 x208 x209 x210 x211) S = gc n [(2, x2), (3, x3), (6, x6), (208, x208), (209, x209), (210, x210), (211, x211)] S := nr (rfl)
@[go_sem] theorem k0_ret33 : k0 b .ret (ee33 x4) S = some (x4, S) := nr (by kernel_rfl)
theorem call {x0 x1 : PV} {r : PV × Store} {v : PV} (h : E 0 x0 x1 [] = some r) (hv : fzPV r.2 r.1 = some v) : callL Try.prog hints 64 [x0, x1] = some v := callL_of (fn := Try.f64) (c := code) (by kernel_rfl) (by kernel_rfl) (by decide) (by kernel_rfl) (Nat.le_of_ble_eq_true (by kernel_rfl)) h hv
end
end F64
end
end Go.Vs
