/- Printed by a program of mine (stage1.py): the functions 76, 49, 51, 33, 59, 10, piece by piece. -/

import Derived.Test.YtnddhkcciphhkaaMB9
import Derived.Test.YtnddhkcciphhkaaMB12
import Derived.Test.YtnddhkcciphhkaaMB16
import Derived.Test.YtnddhkcciphhkaaMB21
section
set_option linter.unusedVariables false
set_option linter.unusedSimpArgs false
namespace Go.Vs
open Go Go.Proofs
noncomputable section

/-! ### isochroneref08.walk -/
namespace F76
section
variable (b i n n0 : Nat) (K : KT) (x0 x1 x2 x3 x4 x6 x9 x10 x11 x12 x13 x20 x35 : PV) (e : Env) (S : Store)
end
end F76
/-! ### isochroneref08.Paths -/
namespace F49
section
variable (b : Nat) (K : KT) (x0 x1 x2 x3 x4 x8 : PV) (e : Env) (S : Store)
end
end F49
/-! ### isochroneref08.Find -/
namespace F51
section
variable (b : Nat) (K : KT) (x0 x1 x2 x3 x4 x5 x6 x10 : PV) (e : Env) (S : Store)
end
end F51
/-! ### isochroneref08.SamePaths -/
namespace F33
section
variable (b i n n0 : Nat) (K : KT) (x0 x1 x4 x5 x10 x14 x26 : PV) (e : Env) (S : Store)
end
end F33
/-! ### isochroneref08.SamePath -/
namespace F59
section
variable (b i n n0 : Nat) (K : KT) (x0 x1 x4 x5 x10 x14 x25 : PV) (e : Env) (S : Store)
noncomputable def hint : Hint := { keep := [], loops := [(0, { live := [0, 1, 5], after := [], own := [], fz := [] })], regs := [(0, [0, 1]), (1, [0, 1, 10]), (2, [4]), (3, [0, 1, 5]), (4, [0, 1, 5, 14]), (5, [0, 1, 5]), (6, [0, 1, 5, 25]), (7, [4]), (8, [4])] }
noncomputable def C (b : Nat) : Ctx := ctxL Try.prog hints b hint
noncomputable def code : Code := Try.f59.body.get rfl
noncomputable def k0 (b : Nat) : KT := endC Try.prog Try.f59
def ee0 (x0 x1 : PV) : Env := [(0, x0), (1, x1)]
def ee1 (x0 x1 x5 : PV) : Env := [(0, x0), (1, x1), (5, x5)]
def ee2 (x0 x1 x5 x14 : PV) : Env := [(0, x0), (1, x1), (5, x5), (14, x14)]
def ee3 (x0 x1 x5 x25 : PV) : Env := [(0, x0), (1, x1), (5, x5), (25, x25)]
def ee4 (x0 x1 x10 : PV) : Env := [(0, x0), (1, x1), (10, x10)]
def ee5 (x4 : PV) : Env := [(4, x4)]
def c1 : Code := at0 code
def c2 : Code := at1 code
def c3 : Code := at0 c2
def c4 : Code := at1 c2
def c5 : Code := at0 c4
def c6 : Code := at1 c4
def c7 : Code := at0 c6
def c8 : Code := at1 c6
def k9 (b : Nat) : KT := seqC (fun e S => execL (C b) 0 c8 (k0 b) e S) (k0 b)
@[go_sem] theorem k9_n : k9 b .normal (ee5 x4) S =
  (k0 b) .ret (ee5 x4) S := nr (seqN (execL_ret (by kernel_rfl)))
def k10 (b : Nat) : KT := seqC (fun e S => execL (C b) 0 c6 (k0 b) e S) (k0 b)
@[go_sem] theorem g11 : execL (C b) 0 c7 K (ee2 x0 x1 x5 x14) S =
  withV (some (.bool true)) fun x4 =>
    K .normal (ee5 x4) S := nr (by kernel_rfl)
@[go_sem] theorem k10_n : k10 b .normal e S = execL (C b) 0 c7 (k9 b) e S := nr (seqN (enterS (by kernel_rfl)))
def k12 (b : Nat) : KT := seqC (fun e S => execL (C b) 0 c4 (k0 b) e S) (k0 b)
def c13 : Code := at0 c5
def c14 : Code := at1 c5
def k15 (b : Nat) : KT := seqC (fun e S => execL (C b) 0 c14 (k10 b) e S) (k10 b)
def c16 : Code := atB c14
def k17 (b : Nat) : KT := blockC 0 (k10 b)
@[go_sem] theorem k17_exit : k17 b (.exit i) e S = if i = 0 then (k10 b) .normal e S else (k10 b) (.exit i) e S := nr (blockC_x _ _ _ _ _)
def c18 : Code := atL c16
def k19 (b n0 : Nat) : KT := afterC 0 n0 [] (k17 b)
def L0g (b n0 : Nat) (e : Env) (S : Store) : RT := loopL (fun K e S => execL (C b) 0 c18 K e S) (normG [0, 1, 5] [] n0) (k19 b n0) e S
def L0 (b n0 : Nat) (x0 x1 x5 : PV) (S : Store) : RT := L0g b n0 (ee1 x0 x1 x5) S
def k20 (b n0 : Nat) : KT := stepC (normG [0, 1, 5] [] n0) (k19 b n0) (L0g b n0)
@[go_sem] theorem k20_n : k20 b n0 .normal (ee1 x0 x1 x5) S = L0 b n0 x0 x1 x5 (gc n0 (ee1 x0 x1 x5) S) := nr (by kernel_rfl)
@[go_sem] theorem k20_x1 : k20 b n0 (.exit 0) (ee2 x0 x1 x5 x14) S = (k17 b) (.exit 0) (ee2 .undef .undef .undef .undef) (gc n0 (ee2 .undef .undef .undef .undef) S) := nr ((show k20 b n0 (.exit 0) (ee2 x0 x1 x5 x14) S = (k19 b n0) (.exit 0) (ee2 x0 x1 x5 x14) S from stepC_x _ _ _ _ _ _).trans ((show (k19 b n0) (.exit 0) (ee2 x0 x1 x5 x14) S = _ from afterC_x _ _ _ _ _ _ _).trans (if_pos rfl)))
def c21 : Code := at0 c18
def c22 : Code := at1 c18
def c23 : Code := at0 c22
def c24 : Code := at1 c22
def k25 (b n0 : Nat) : KT := seqC (fun e S => execL (C b) 0 c24 (k20 b n0) e S) (k20 b n0)
@[go_sem] theorem g26 : execL (C b) 0 c24 K (ee3 x0 x1 x5 x25) S =
  withV (some x5) fun x15 =>
    withV (evBin .add (tyi Try.prog 3) x15 (.int .i64 1)) fun x16 =>
    withV (some x16) fun x5 =>
    K .normal (ee1 x0 x1 x5) S := nr (by kernel_rfl)
@[go_sem] theorem k25_n : k25 b n0 .normal e S = execL (C b) 0 c24 (k20 b n0) e S := nr (seqN rfl)
def k27 (b n0 : Nat) : KT := seqC (fun e S => execL (C b) 0 c22 (k20 b n0) e S) (k20 b n0)
def c28 : Code := atB c23
def k29 (b n0 : Nat) : KT := blockC 1 (k25 b n0)
@[go_sem] theorem k29_n : k29 b n0 .normal e S = (k25 b n0) .normal e S := nr (blockC_n _ _ _ _)
def c30 : Code := at0 c28
def c31 : Code := at1 c28
def k32 (b n0 : Nat) : KT := seqC (fun e S => execL (C b) 1 c31 (k29 b n0) e S) (k29 b n0)
def c33 : Code := atT c31
def c36 : Code := at0 c33
def c37 : Code := at1 c33
def k38 (b n0 : Nat) : KT := seqC (fun e S => execL (C b) 1 c37 (k29 b n0) e S) (k29 b n0)
@[go_sem] theorem k32_n : k32 b n0 .normal (ee3 x0 x1 x5 x25) S =
  condC x25 (execL (C b) 1 c36 (k38 b n0) (ee3 x0 x1 x5 x25) S)
    ((k29 b n0) .normal (ee3 x0 x1 x5 x25) S) := nr (seqN (condE (t := 25) (by kernel_rfl) (enterS (by kernel_rfl)) (execL_skip (by kernel_rfl)) rfl))
@[go_sem] theorem g40 : execL (C b) 1 c30 K (ee2 x0 x1 x5 x14) S =
  withV (some x0) fun x17 =>
    withV (some x5) fun x18 =>
    withV (indexAddrO Try.prog 22 S x17 x18) fun x19 =>
    withV (evLoad (tyi Try.prog 3) S x19) fun x20 =>
    withV (some x1) fun x21 =>
    withV (some x5) fun x22 =>
    withV (indexAddrO Try.prog 22 S x21 x22) fun x23 =>
    withV (evLoad (tyi Try.prog 3) S x23) fun x24 =>
    withV (evBin .neq (tyi Try.prog 3) x20 x24) fun x25 =>
    K .normal (ee3 x0 x1 x5 x25) S := nr (by kernel_rfl)
@[go_sem] theorem k27_n : k27 b n0 .normal (ee2 x0 x1 x5 x14) S =
  execL (C b) 1 c30 (k32 b n0) (ee2 x0 x1 x5 x14) S := nr (seqN ((enterS (by kernel_rfl)).trans ((blockE (by kernel_rfl)).trans (enterS (by kernel_rfl)))))
@[go_sem] theorem k27_exit : k27 b n0 (.exit i) e S = (k20 b n0) (.exit i) e S := nr (seqC_x _ _ _ _ _)
def c41 : Code := at0 c21
def c42 : Code := at1 c21
def k43 (b n0 : Nat) : KT := seqC (fun e S => execL (C b) 0 c42 (k27 b n0) e S) (k27 b n0)
@[go_sem] theorem k43_n : k43 b n0 .normal (ee2 x0 x1 x5 x14) S =
  condC x14 ((k27 b n0) .normal (ee2 x0 x1 x5 x14) S)
    ((k27 b n0) (.exit 0) (ee2 x0 x1 x5 x14) S) := nr (seqN (condE (t := 14) (by kernel_rfl) (execL_skip (by kernel_rfl)) (execL_exit (by kernel_rfl)) rfl))
@[go_sem] theorem g46 : execL (C b) 0 c41 K (ee1 x0 x1 x5) S =
  withV (some x5) fun x11 =>
    withV (some x0) fun x12 =>
    withV (lenO (tyi Try.prog 22) x12) fun x13 =>
    withV (evBin .lss (tyi Try.prog 3) x11 x13) fun x14 =>
    K .normal (ee2 x0 x1 x5 x14) S := nr (by kernel_rfl)
def B0 (b n0 : Nat) (x0 x1 x5 : PV) (S : Store) : RT := execL (C b) 0 c18 (k20 b n0) (ee1 x0 x1 x5) S
@[go_sem] theorem B0_eq : B0 b n0 x0 x1 x5 S =
  execL (C b) 0 c41 (k43 b n0) (ee1 x0 x1 x5) S := nr ((enterS (by kernel_rfl)).trans (enterS (by kernel_rfl)))
theorem L0_step {b n0 : Nat} {x0 x1 x5 : PV} {S : Store} {z : PV × Store} (h : B0 b n0 x0 x1 x5 S = some z) : L0 b n0 x0 x1 x5 S = some z := loopL_step h
theorem L0_in (b : Nat) (x0 x1 x5 : PV) (S : Store) : execL (C b) 0 c16 (k17 b) (ee1 x0 x1 x5) S = L0 b (List.length S) x0 x1 x5 S := by kernel_rfl
@[go_sem] theorem k15_n : k15 b .normal (ee1 x0 x1 x5) S =
  L0 b (List.length S) x0 x1 x5 S := nr (seqN ((blockE (by kernel_rfl)).trans (L0_in b x0 x1 x5 S)))
@[go_sem] theorem g48 : execL (C b) 0 c13 K (ee4 x0 x1 x10) S =
  withV (some (.int .i64 0)) fun x5 =>
    K .normal (ee1 x0 x1 x5) S := nr (by kernel_rfl)
@[go_sem] theorem k12_n : k12 b .normal (ee4 x0 x1 x10) S =
  execL (C b) 0 c13 (k15 b) (ee4 x0 x1 x10) S := nr (seqN ((enterS (by kernel_rfl)).trans (enterS (by kernel_rfl))))
def k49 (b : Nat) : KT := seqC (fun e S => execL (C b) 0 c2 (k0 b) e S) (k0 b)
def c50 : Code := at0 c3
def c51 : Code := at1 c3
def k52 (b : Nat) : KT := seqC (fun e S => execL (C b) 0 c51 (k12 b) e S) (k12 b)
def c53 : Code := atT c51
def c56 : Code := at0 c53
def c57 : Code := at1 c53
def k58 (b : Nat) : KT := seqC (fun e S => execL (C b) 0 c57 (k12 b) e S) (k12 b)
@[go_sem] theorem k52_n : k52 b .normal (ee4 x0 x1 x10) S =
  condC x10 (execL (C b) 0 c56 (k58 b) (ee4 x0 x1 x10) S)
    ((k12 b) .normal (ee4 x0 x1 x10) S) := nr (seqN (condE (t := 10) (by kernel_rfl) (enterS (by kernel_rfl)) (execL_skip (by kernel_rfl)) rfl))
@[go_sem] theorem g60 : execL (C b) 0 c50 K (ee0 x0 x1) S =
  withV (some x0) fun x6 =>
    withV (lenO (tyi Try.prog 22) x6) fun x7 =>
    withV (some x1) fun x8 =>
    withV (lenO (tyi Try.prog 22) x8) fun x9 =>
    withV (evBin .neq (tyi Try.prog 3) x7 x9) fun x10 =>
    K .normal (ee4 x0 x1 x10) S := nr (by kernel_rfl)
@[go_sem] theorem k49_n : k49 b .normal (ee0 x0 x1) S =
  execL (C b) 0 c50 (k52 b) (ee0 x0 x1) S := nr (seqN ((enterS (by kernel_rfl)).trans (enterS (by kernel_rfl))))
@[go_sem] theorem g61 : execL (C b) 0 c1 K (ee0 x0 x1) S =
  withV (some (.bool false)) fun x4 =>
    K .normal (ee0 x0 x1) S := nr (by kernel_rfl)
def E (b : Nat) (x0 x1 : PV) (S : Store) : RT := execL (C b) 0 code (k0 b) (ee0 x0 x1) S
@[go_sem] theorem E_eq : E b x0 x1 S =
  execL (C b) 0 c1 (k49 b) (ee0 x0 x1) S := nr (enterS (by kernel_rfl))
@[go_sem] theorem k0_ret5 : k0 b .ret (ee5 x4) S = some (x4, S) := nr (by kernel_rfl)
theorem call {x0 x1 : PV} {r : PV × Store} {v : PV} (h : E 0 x0 x1 [] = some r) (hv : fzPV r.2 r.1 = some v) : callL Try.prog hints 59 [x0, x1] = some v := callL_of (fn := Try.f59) (c := code) (by kernel_rfl) (by kernel_rfl) (by decide) (by kernel_rfl) (Nat.le_of_ble_eq_true (by kernel_rfl)) h hv
end
end F59
/-! ### isochronelaw08.TreePaths -/
namespace F10
section
variable (b : Nat) (K : KT) (x0 x1 x2 x3 x4 x5 x6 x7 x8 x9 x10 x11 x12 x14 x22 : PV) (e : Env) (S : Store)
end
end F10
end
end Go.Vs
end
/- The reference's walk: what it returns, and what it leaves. -/
section
set_option linter.unusedVariables false
set_option linter.unusedSimpArgs false
namespace Go.Vs
open Go Go.Proofs
/- The paths of the nodes for which c holds, in preorder. -/
/-- Is a node's path asked for? -/
def wanted (sm : Bool) (part : Node) (x : Node) : Bool := !sm || decide (x.cmp part = 0)
/-- The part asked for, as it lies in memory. -/
structure PartOK (sm : Bool) (pt : Node) (pc : List PV) : Prop where
  len : pc.length = 6
  all : pc.all PV.cell = true
  refs : refsL pc = []
  part : Vs.part (tyi Try.prog 54) pc = some (.agg pc)
  eq : sm = true → pc = pt.cells
theorem PartOK.node (sm : Bool) (n : Node) : PartOK sm n n.cells := ⟨n.cells_length, n.cells_cell, n.refs, n.part54, fun _ => rfl⟩
theorem PartOK.none (n : Node) : PartOK false n zeroNode := ⟨rfl, rfl, rfl, zeroNode_part54, fun h => by cases h⟩
end Go.Vs
end
/- The reference's walk, Paths, Find: what they return. -/
section
set_option linter.unusedVariables false
set_option linter.unusedSimpArgs false
namespace Go.Vs
open Go Go.Proofs
/-! ### Lists of paths, frozen -/
theorem PathRows.fz {S : Store} {id : Nat} {rows : List (List PV)} {L : List (List Int)} (h : PathRows S id rows L) (d : Nat) : mapO (mapO (fzCell S (d + 2))) rows = some (pathRows L) := by
  induction h with
  | nil => rfl
  | cons h1 _ _ ih =>
    simp only [mapO, h1.fz, Option.bind_some, ih, Option.map_some]
    rfl
theorem OutV.fz {S : Store} {v : PV} {L : List (List Int)} (h : OutV S v L) : ∃ ex, fzPV1 S v = some (.sl (pathRows L) ex) ∧ (ex = true → L = []) := by
  cases h with
  | nil => exact ⟨true, rfl, fun _ => rfl⟩
  | arr id rows L h hr =>
    refine ⟨false, ?_, fun h => by cases h⟩
    have e1 : rowsIn S (.msl id 0 L.length false) = some rows := by
      rw [rowsIn_msl, rowsAt_of h]
      simp only [Option.bind_some, Nat.zero_add, List.drop_zero, ← hr.length, Nat.le_refl, if_true, List.take_length]
    show ((rowsIn S (.msl id 0 L.length false)).bind fun rows => (mapO (mapO (fzCell S 7)) rows).map fun rows => PV.sl rows false) = _
    rw [e1]
    simp only [Option.bind_some, hr.fz 5, Option.map_some]
end Go.Vs
end
/- The reference's held: the game in which a player has but a strategy's moves. -/
section
set_option linter.unusedVariables false
set_option linter.unusedSimpArgs false
set_option maxRecDepth 100000
namespace Go.Vs
open Go Go.Proofs
theorem PathRows.gc {S : Store} {id n : Nat} {e : Env} {rows : List (List PV)} {L : List (List Int)} {g : Option (Option Nat)} {f : Bool} (h : PathRows S id rows L) (hS : S[id]? = some (.arr rows g f)) (hid : id < n) : PathRows (Vs.gc n e S) id rows L := by
  unfold Vs.gc
  split
  case isFalse => exact h
  rename_i hc
  obtain ⟨h1, h2⟩ := hc
  rw [List.all_eq_true] at h2
  have hrows := h2 (.arr rows g f) (by
    have e : (S.take n)[id]? = some (.arr rows g f) := by rw [List.getElem?_take_of_lt hid]; exact hS
    exact List.mem_of_getElem? e)
  simp only [List.all_eq_true, decide_eq_true_eq] at hrows
  exact h.move fun r hrr => ⟨by rw [List.getElem?_take_of_lt (hrows r hrr)], fun e => h.out (e ▸ hrr)⟩
theorem PathRows.put {S : Store} {id : Nat} {rows : List (List PV)} {L : List (List Int)} (h : PathRows S id rows L) {p : PV} {l : List Int} (hp : Ints S p l) (hi : id ∉ p.refs) : ∀ i, PathRows S id (rows.set i [p]) (L.set i l) := by
  induction h with
  | nil => intro i; exact .nil
  | cons h1 h2 t ih =>
    intro i
    cases i with
    | zero => exact .cons hp hi t
    | succ i => exact .cons h1 h2 (ih i)
theorem PathRows.nils (S : Store) (id : Nat) : ∀ n, PathRows S id (List.replicate n [.sl [] true]) (List.replicate n [])
  | 0 => .nil
  | n + 1 => .cons (.sl [] true) (by intro h; cases h) (PathRows.nils S id n)
/-- What is held, of a game and the lists of moves made so far. -/
structure HS (g : Game) (L : List (List Int)) (S : Store) : Prop where
  p0 : S[0]? = some (.arr [g.cells] none false)
  p1 : S[1]? = some (.arr [[.sl [] true, .sl [] true, .sl [] true]] none false)
  p2 : ∃ rows, S[2]? = some (.arr rows (some (some 1)) false) ∧ PathRows S 2 rows L
  len : L.length = g.owner.length
theorem HS.lt {g : Game} {L : List (List Int)} {S : Store} (h : HS g L S) : 3 ≤ S.length := by
  obtain ⟨rows, h2, _⟩ := h.p2
  exact (List.getElem?_eq_some_iff.1 h2).1
theorem HS.gc {g : Game} {L : List (List Int)} {S : Store} (h : HS g L S) (e : Env) : HS g L (Vs.gc 3 e S) := by
  obtain ⟨rows, h2, hr⟩ := h.p2
  obtain ⟨_, g2⟩ := gc_at (e := e) h.lt
  exact ⟨by rw [g2 0 (by omega)]; exact h.p0, by rw [g2 1 (by omega)]; exact h.p1, ⟨rows, by rw [g2 2 (by omega)]; exact h2, hr.gc h2 (by omega)⟩, h.len⟩
theorem HS.ext {g : Game} {L : List (List Int)} {S : Store} (h : HS g L S) (U : Store) : HS g L (S ++ U) := by
  obtain ⟨rows, h2, hr⟩ := h.p2
  have hl := h.lt
  exact ⟨by rw [List.getElem?_append_left (by omega)]; exact h.p0, by rw [List.getElem?_append_left (by omega)]; exact h.p1, ⟨rows, by rw [List.getElem?_append_left (by omega)]; exact h2, hr.move fun r hrr => ⟨by rw [List.getElem?_append_left (hr.lt r hrr)], fun e => hr.out (e ▸ hrr)⟩⟩, h.len⟩
/-- A list of moves is stored. -/
theorem HS.put {g : Game} {L : List (List Int)} {S : Store} (h : HS g L S) {p : PV} {l : List Int} (hp : Ints S p l) (hi : 2 ∉ p.refs) {i : Nat} (hi2 : i < g.owner.length) :
    indexAddrO Try.prog 23 S (.msl 2 0 g.owner.length true) (.int .i64 i) = some (.mp 2 i 0) ∧ ∃ S', storeE (tyi Try.prog 22) S (.mp 2 i 0) p = some { v := .skip, S := S' } ∧ HS g (L.set i l) S' := by
  obtain ⟨rows, h2, hr⟩ := h.p2
  have hl := h.lt
  have hrl := hr.length
  have hL := h.len
  have hc : p.cell = true := hp.cell
  have e1 : (rows.getD i []).length = 1 := by
    have := hr.ok
    simp only [rowsOK, List.all_eq_true, beq_iff_eq] at this
    exact this _ (by
      have : i < rows.length := by omega
      simp [List.getD_eq_getElem?_getD, this])
  refine ⟨idx23m i (rowsAt_of h2) (by omega) hr.ok (by omega), S.set 2 (.arr (rows.set i [p]) (some (some 1)) false), ?_, ?_⟩
  · simp only [storeE_eq, known22, if_true, size22, evStore, h2, hp.cells]
    rw [if_pos ⟨by omega, by omega, rfl, by simp [hc]⟩]
    have e2 : splice (rows.getD i []) 0 [p] = [p] := by
      unfold splice
      rw [if_pos ⟨rfl, by rw [e1]; rfl⟩]
    rw [e2]
    rfl
  · have hm : ∀ r, r ≠ 2 → (S.set 2 (.arr (rows.set i [p]) (some (some 1)) false))[r]? = S[r]? := fun r hr => List.getElem?_set_ne (fun e => hr e.symm)
    refine ⟨by rw [hm 0 (by decide)]; exact h.p0, by rw [hm 1 (by decide)]; exact h.p1, ⟨rows.set i [p], by rw [List.getElem?_set_self (by omega)], ?_⟩, by rw [List.length_set]; exact hL⟩
    have hq := hr.put hp hi i
    exact hq.move fun r hrr => ⟨hm r fun e => hq.out (e ▸ hrr), fun e => hq.out (e ▸ hrr)⟩
def Game.heldAt (g : Game) (p : Int) (s : List Int) (i : Nat) : List Int := if g.owner.getD i 0 = p then (if 0 ≤ s.getD i 0 then [s.getD i 0] else []) else g.moves.getD i []
def heldF (g : Game) (p : Int) (s : List Int) : Nat → Nat → List (List Int) → List (List Int)
  | 0, _, L => L
  | m + 1, i, L => heldF g p s m (i + 1) (L.set i (g.heldAt p s i))
section
attribute [local irreducible] Vs.callL Vs.callRL tyi callO callM callMV appendE storeE evLoad indexAddrO sliceO evFieldAddr evField buildO buildSliceO makeSliceO allocO boxed lenO copyE convertO indexO Vs.gc freezeAll
noncomputable def fx61 : FX := ⟨Try.f61, hints.of 61, []⟩
theorem ok61 : fx61.ok 61 := ⟨by kernel_rfl, of_decide_eq_true (by kernel_rfl), by kernel_rfl, by kernel_rfl, by kernel_rfl⟩
theorem sem61 (b0 : Nat) (m : Md) (fs : List Fr) (e : Env) (S : Store) : sem b0 fx61 m fs e S = run b0 fx61 1000 m fs e S := (sem_eq _ _ _ _ _ _).trans (run_sem b0 fx61 ok61.good 1000 m fs e S).symm
theorem loop61_0 (g : Game) (hgd : g.good) (p : Int) (s : List Int) (e1 : Bool) (hs : s.length = g.owner.length) (fs : List Fr) : ∀ (m i : Nat), i + m = g.owner.length → ∀ (L : List (List Int)) (S : Store), HS g L S →
    ∃ S', HS g (heldF g p s m i L) S' ∧ ∀ z, exitTo 0 fx61 0 fs [(1, .undef), (2, .undef), (3, .mp 0 0 0), (6, .mp 1 0 0), (7, .msl 2 0 g.owner.length true), (8, .undef), (17, .undef)] S' = some z →
    loopAt 0 fx61 0 116 3 fs [(1, .int .i64 p), (2, .sl (intRows s) e1), (3, .mp 0 0 0), (6, .mp 1 0 0), (7, .msl 2 0 g.owner.length true), (8, .int .i64 i)] S = some z := by
  have hN := hgd.n
  have hM := hgd.m
  have hm4 : (4000 : Nat) ≤ maxLen := by decide
  intro m
  induction m with
  | zero =>
    intro i hi L S h
    have h1 : ¬ (i : Int) < (g.moves.length : Int) := by omega
    have r0 := rowsAt_of h.p0
    refine ⟨_, h.gc [(1, .undef), (2, .undef), (3, .mp 0 0 0), (6, .mp 1 0 0), (7, .msl 2 0 g.owner.length true), (8, .undef), (17, .undef)], fun z hz => loopAt_step ok61.good 1000 ?_⟩
    ((repeat ((conv => lhs; whnf); simp only [go_sem, ↓reduceIte, Nat.reduceEqDiff, Nat.reduceBEq, Nat.reduceAdd, Nat.reduceMul, Nat.reduceSub, Nat.reduceLT, Nat.reduceLeDiff, reduceCtorEq, Int.reduceToNat, Int.reduceLE, Int.reduceLT, Int.reduceEq, sem61, h1, r0])); try (conv => lhs; whnf); try rfl)
    exact hz
  | succ m hm =>
    intro i hi L S h
    have h1 : (i : Int) < (g.moves.length : Int) := by omega
    have h2 := wrap_succ (i := i) (n := g.owner.length) (by omega) (by omega)
    have h4 : 0 ≤ (i : Int) ∧ (i : Int) < (s.length : Int) := ⟨by omega, by omega⟩
    have h5 : 0 ≤ (i : Int) ∧ (i : Int) < (g.owner.length : Int) := ⟨by omega, by omega⟩
    have h6 : 0 ≤ (i : Int) ∧ (i : Int) < (g.moves.length : Int) := ⟨by omega, by omega⟩
    have r0 := rowsAt_of h.p0
    obtain ⟨x1, S1, st1, q1⟩ := h.put (p := .sl (intRows (g.moves.getD i [])) false) (.sl _ _) (by intro hh; cases hh) (show i < g.owner.length by omega)
    simp only [storeE_eq, known22, if_true, size22] at st1
    have r1 := rowsAt_of q1.p0
    rw [heldF, Game.heldAt]
    by_cases c1 : g.owner.getD i 0 = p
    · obtain ⟨x2, S2, st2, q2⟩ := q1.put (p := .sl [] true) (l := []) (Ints.sl [] true) (by intro hh; cases hh) (show i < g.owner.length by omega)
      simp only [storeE_eq, known22, if_true, size22] at st2
      rw [List.set_set] at q2
      have r2 := rowsAt_of q2.p0
      rw [if_pos c1]
      by_cases c2 : 0 ≤ s.getD i 0
      · rw [if_pos c2]
        have q3 := q2.ext [.arr [[.int .i64 (s.getD i 0)]] (some (some 1)) false]
        have hl := q2.lt
        obtain ⟨x4, S4, st4, q4⟩ := q3.put (p := .msl S2.length 0 1 true) (l := [s.getD i 0]) (.msl S2.length [s.getD i 0] true (some (some 1)) false (by simp [intRows])) (by simp only [PV.refs, List.mem_singleton]; omega) (show i < g.owner.length by omega)
        simp only [storeE_eq, known22, if_true, size22] at st4
        rw [List.set_set] at q4
        have x4' : indexAddrO Try.prog 23 (S2 ++ [Obj.arr [[.int .i64 (s.getD i 0)]] (some (some 1)) false]) (.msl 2 0 g.owner.length true) (.int .i64 i) = some (.mp 2 i 0) := x4
        obtain ⟨S', a1, a2⟩ := hm (i + 1) (by omega) _ _ (q4.gc [(1, .int .i64 p), (2, .sl (intRows s) e1), (3, .mp 0 0 0), (6, .mp 1 0 0), (7, .msl 2 0 g.owner.length true), (8, .int .i64 (i + 1 : Nat))])
        refine ⟨S', a1, fun z hz => loopAt_step ok61.good 1000 ?_⟩
        have key := a2 z hz
        ((repeat ((conv => lhs; whnf); simp only [go_sem, ↓reduceIte, Nat.reduceEqDiff, Nat.reduceBEq, Nat.reduceAdd, Nat.reduceMul, Nat.reduceSub, Nat.reduceLT, Nat.reduceLeDiff, reduceCtorEq, Int.reduceToNat, Int.reduceLE, Int.reduceLT, Int.reduceEq, sem61, h1, r0, r1, r2, h4, h5, h6, Int.toNat_natCast, x1, st1, c1, x2, st2, c2, x4, st4, h2])); try (conv => lhs; whnf); try rfl)
        exact key
      · rw [if_neg c2]
        obtain ⟨S', a1, a2⟩ := hm (i + 1) (by omega) _ _ (q2.gc [(1, .int .i64 p), (2, .sl (intRows s) e1), (3, .mp 0 0 0), (6, .mp 1 0 0), (7, .msl 2 0 g.owner.length true), (8, .int .i64 (i + 1 : Nat))])
        refine ⟨S', a1, fun z hz => loopAt_step ok61.good 1000 ?_⟩
        have key := a2 z hz
        ((repeat ((conv => lhs; whnf); simp only [go_sem, ↓reduceIte, Nat.reduceEqDiff, Nat.reduceBEq, Nat.reduceAdd, Nat.reduceMul, Nat.reduceSub, Nat.reduceLT, Nat.reduceLeDiff, reduceCtorEq, Int.reduceToNat, Int.reduceLE, Int.reduceLT, Int.reduceEq, sem61, h1, r0, r1, r2, h4, h5, h6, Int.toNat_natCast, x1, st1, c1, x2, st2, c2, h2])); try (conv => lhs; whnf); try rfl)
        exact key
    · rw [if_neg c1]
      obtain ⟨S', a1, a2⟩ := hm (i + 1) (by omega) _ _ (q1.gc [(1, .int .i64 p), (2, .sl (intRows s) e1), (3, .mp 0 0 0), (6, .mp 1 0 0), (7, .msl 2 0 g.owner.length true), (8, .int .i64 (i + 1 : Nat))])
      refine ⟨S', a1, fun z hz => loopAt_step ok61.good 1000 ?_⟩
      have key := a2 z hz
      ((repeat ((conv => lhs; whnf); simp only [go_sem, ↓reduceIte, Nat.reduceEqDiff, Nat.reduceBEq, Nat.reduceAdd, Nat.reduceMul, Nat.reduceSub, Nat.reduceLT, Nat.reduceLeDiff, reduceCtorEq, Int.reduceToNat, Int.reduceLE, Int.reduceLT, Int.reduceEq, sem61, h1, r0, r1, h4, h5, h6, Int.toNat_natCast, x1, st1, c1, h2])); try (conv => lhs; whnf); try rfl)
      exact key
end
theorem heldF_len (g : Game) (p : Int) (s : List Int) : ∀ (m i : Nat) (L : List (List Int)), (heldF g p s m i L).length = L.length
  | 0, _, _ => rfl
  | m + 1, i, L => by rw [heldF, heldF_len g p s m, List.length_set]
theorem heldF_get (g : Game) (p : Int) (s : List Int) : ∀ (m i : Nat) (L : List (List Int)), i + m = L.length → ∀ j, j < L.length → (heldF g p s m i L).getD j [] = if i ≤ j then g.heldAt p s j else L.getD j []
  | 0, i, L, hi, j, hj => by rw [heldF, if_neg (by omega)]
  | m + 1, i, L, hi, j, hj => by
    rw [heldF, heldF_get g p s m (i + 1) _ (by rw [List.length_set]; omega) j (by rw [List.length_set]; exact hj)]
    by_cases e : i = j
    · subst e
      rw [if_neg (by omega), if_pos (Nat.le_refl _)]
      simp [List.getD_eq_getElem?_getD, hj]
    · have e2 : (L.set i (g.heldAt p s i)).getD j [] = L.getD j [] := by simp [List.getD_eq_getElem?_getD, List.getElem?_set_ne e]
      rw [e2]
      by_cases e3 : i ≤ j
      · rw [if_pos (by omega), if_pos e3]
      · rw [if_neg (by omega), if_neg e3]
def Game.heldMoves (g : Game) (p : Int) (s : List Int) : List (List Int) := (List.range g.owner.length).map (g.heldAt p s)
theorem heldF_all (g : Game) (p : Int) (s : List Int) : heldF g p s g.owner.length 0 (List.replicate g.owner.length []) = g.heldMoves p s := by
  have hz : (List.replicate g.owner.length ([] : List Int)).length = g.owner.length := by simp
  apply List.ext_getElem (by rw [heldF_len, hz]; simp [Game.heldMoves])
  intro j h1 h2
  have hj : j < g.owner.length := by rw [heldF_len, hz] at h1; exact h1
  have := heldF_get g p s g.owner.length 0 _ (by rw [hz]; omega) j (by rw [hz]; exact hj)
  rw [if_pos (Nat.zero_le _), List.getD_eq_getElem?_getD, List.getElem?_eq_getElem h1, Option.getD_some] at this
  rw [this]
  simp [Game.heldMoves]
/-- The game in which a player has but a strategy's moves. -/
def Game.held (g : Game) (p : Int) (s : List Int) : Game := ⟨g.owner, g.heldMoves p s, g.goal⟩
theorem zero26 : (tyi Try.prog 26).zero = some [.sl [] true, .sl [] true, .sl [] true] := by kernel_rfl
@[go_sem] theorem alloc26 (id : Nat) : allocO (tyi Try.prog 26) id = some { v := .mp id 0 0, new := some ([[.sl [] true, .sl [] true, .sl [] true]], none) } := by
  simp [allocO, zero26, PV.cell]
theorem build26 {a b c : PV} (ha : a.cells = [a]) (hb : b.cells = [b]) (hc : c.cells = [c]) (ha' : a.cell = true) (hb' : b.cell = true) (hc' : c.cell = true) : buildO (tyi Try.prog 26) [(0, a), (1, b), (2, c)] = some (.agg [a, b, c]) := by
  have e : PV.cell (.sl [] true) = true := rfl
  simp [buildO, d26, zero26, fillV, ha, hb, hc, ha', hb', hc', e]
theorem store26 {S : Store} {id : Nat} {a b c u v w : PV} {g : Option (Option Nat)} (h : S[id]? = some (.arr [[u, v, w]] g false)) (ha' : a.cell = true) (hb' : b.cell = true) (hc' : c.cell = true) : storeE (tyi Try.prog 26) S (.mp id 0 0) (.agg [a, b, c]) = some { v := .skip, S := S.set id (.arr [[a, b, c]] g false) } := by
  simp only [storeE_eq, known26, if_true, size26, evStore, h, PV.cells]
  rw [if_pos ⟨by simp, by simp, rfl, by simp [ha', hb', hc']⟩]
  rfl
@[go_sem] theorem part26 (a b c : PV) (r : List PV) : part (tyi Try.prog 26) (a :: b :: c :: r) = some (.agg [a, b, c]) := by simp [part, known26, TI.isAgg, d26, size26]
theorem PathRows.ints_at {S : Store} {id : Nat} {rows : List (List PV)} {L : List (List Int)} (h : PathRows S id rows L) : ∀ r ∈ rowsRefs rows, ∃ l g f, S[r]? = some (.arr (intRows l) g f) := by
  induction h with
  | nil => intro r hr; cases hr
  | cons h1 _ _ ih =>
    intro r hr
    simp only [rowsRefs_cons, refsL, List.append_nil, List.mem_append] at hr
    rcases hr with hr | hr
    · cases h1 with
      | sl l ex => cases hr
      | msl id l ex g f h =>
        simp only [PV.refs, List.mem_singleton] at hr
        exact ⟨_, g, f, by rw [hr]; exact h⟩
    · exact ih r hr
theorem rows_fz {S : Store} {id n : Nat} {ex : Bool} {rows : List (List PV)} {L : List (List Int)} {g : Option (Option Nat)} {f : Bool} (h : S[id]? = some (.arr rows g f)) (hr : PathRows S id rows L) (hn : L.length = n) : fzCell S 8 (.msl id 0 n ex) = some (.sl (pathRows L) false) := by
  have e1 : rowsIn S (.msl id 0 n false) = some rows := by
    rw [rowsIn_msl, rowsAt_of h]
    simp only [Option.bind_some, Nat.zero_add, List.drop_zero, ← hn, ← hr.length, Nat.le_refl, if_true, List.take_length]
  show ((rowsIn S (.msl id 0 n false)).bind fun rows => (mapO (mapO (fzCell S 7)) rows).map fun rows => PV.sl rows false) = _
  rw [e1]
  simp only [Option.bind_some, hr.fz 5, Option.map_some]
attribute [local irreducible] Vs.callL Vs.callRL tyi callO callM callMV appendE storeE evLoad indexAddrO sliceO evFieldAddr evField buildO buildSliceO makeSliceO allocO boxed lenO copyE convertO indexO Vs.gc freezeAll
theorem call61 (g : Game) (hgd : g.good) (p : Int) (s : List Int) (e1 : Bool) (hs : s.length = g.owner.length) : callL Try.prog hints 61 [.agg g.cells, .int .i64 p, .sl (intRows s) e1] = some (.agg (g.held p s).cells) := by
  have hN := hgd.n
  have hM := hgd.m
  have h0 : HS g (List.replicate g.owner.length []) [.arr [g.cells] none false, .arr [[.sl [] true, .sl [] true, .sl [] true]] none false, .arr (List.replicate g.owner.length [.sl [] true]) (some (some 1)) false] := ⟨rfl, rfl, ⟨_, rfl, .nils _ _ _⟩, by simp⟩
  have m2 : ∀ id, makeSliceO Try.prog 23 id (.int .i64 g.moves.length) (.int .i64 g.moves.length) = some { v := .msl id 0 g.owner.length true, new := some (List.replicate g.owner.length [.sl [] true], some (some 1)) } := fun id => by
    rw [hM, makeSlice23 id g.owner.length (by omega)]
  have fin : ∀ S, HS g (g.heldMoves p s) S → ∃ r : PV × Store, fzPV r.2 r.1 = some (.agg (g.held p s).cells) ∧ exitTo 0 fx61 0 [.blk 0, .seq 0 15] [(1, .undef), (2, .undef), (3, .mp 0 0 0), (6, .mp 1 0 0), (7, .msl 2 0 g.owner.length true), (8, .undef), (17, .undef)] S = some r := fun S h => by
    have r0 := rowsAt_of h.p0
    have hl := h.lt
    have st := store26 (a := .sl (intRows g.owner) false) (b := .msl 2 0 g.owner.length true) (c := .sl (boolRows g.goal) false) h.p1 rfl rfl rfl
    simp only [storeE_eq, known26, if_true, size26] at st
    have b1 := build26 (a := .sl (intRows g.owner) false) (b := .msl 2 0 g.owner.length true) (c := .sl (boolRows g.goal) false) rfl rfl rfl rfl rfl rfl
    have r1 : rowsAt (S.set 1 (.arr [[.sl (intRows g.owner) false, .msl 2 0 g.owner.length true, .sl (boolRows g.goal) false]] none false)) 1 = some [[.sl (intRows g.owner) false, .msl 2 0 g.owner.length true, .sl (boolRows g.goal) false]] := rowsAt_of (by rw [List.getElem?_set_self (by omega)])
    refine ⟨(.agg [.sl (intRows g.owner) false, .msl 2 0 g.owner.length true, .sl (boolRows g.goal) false], S.set 1 (.arr [[.sl (intRows g.owner) false, .msl 2 0 g.owner.length true, .sl (boolRows g.goal) false]] none false)), ?_, ?_⟩
    · obtain ⟨rows, h2, hr⟩ := h.p2
      have hm : ∀ r, r ≠ 1 → (S.set 1 (.arr [[.sl (intRows g.owner) false, .msl 2 0 g.owner.length true, .sl (boolRows g.goal) false]] none false))[r]? = S[r]? := fun r hr => List.getElem?_set_ne (fun e => hr e.symm)
      have hr' := hr.move (id' := 2) fun r hrr => ⟨hm r fun e => by
        obtain ⟨l, gg, f, hh⟩ := hr.ints_at r hrr
        rw [e, h.p1] at hh
        cases l with
        | nil => simp [intRows] at hh
        | cons a l => simp [intRows] at hh, fun e => hr.out (e ▸ hrr)⟩
      have f1 := rows_fz (ex := true) (by rw [hm 2 (by decide)]; exact h2) hr' h.len
      show (mapO (fzCell _ 8) [.sl (intRows g.owner) false, .msl 2 0 g.owner.length true, .sl (boolRows g.goal) false]).map PV.agg = _
      simp only [mapO, f1, fzCell_sl, Option.bind_some, Option.map_some]
      rfl
    · refine exit_run ok61.good 1000 ?_
      ((repeat ((conv => lhs; whnf); simp only [go_sem, ↓reduceIte, Nat.reduceEqDiff, Nat.reduceBEq, Nat.reduceAdd, Nat.reduceMul, Nat.reduceSub, Nat.reduceLT, Nat.reduceLeDiff, reduceCtorEq, Int.reduceToNat, Int.reduceLE, Int.reduceLT, Int.reduceEq, sem61, r0, st, b1, r1])); try (conv => lhs; whnf); try rfl)
  obtain ⟨S', a1, a2⟩ := loop61_0 g hgd p s e1 hs [.blk 0, .seq 0 15] g.owner.length 0 (by omega) _ _ h0
  rw [heldF_all] at a1
  obtain ⟨r, b1, b2⟩ := fin S' a1
  have key := a2 r b2
  refine FX.callL (r := r) ok61 1000 rfl rfl ?_ b1
  ((repeat ((conv => lhs; whnf); simp only [go_sem, ↓reduceIte, Nat.reduceEqDiff, Nat.reduceBEq, Nat.reduceAdd, Nat.reduceMul, Nat.reduceSub, Nat.reduceLT, Nat.reduceLeDiff, reduceCtorEq, Int.reduceToNat, Int.reduceLE, Int.reduceLT, Int.reduceEq, sem61, m2])); try (conv => lhs; whnf); try rfl)
  exact key
end Go.Vs
end
/- The reference's Beats: what it returns. -/
section
set_option linter.unusedVariables false
set_option linter.unusedSimpArgs false
set_option maxRecDepth 100000
namespace Go.Vs
open Go Go.Proofs
theorem hasFrom_mem (x : Int) (l : List Int) : ∀ (m k : Nat), k + m = l.length → hasFrom x l m k = true → x ∈ l
  | 0, k, hk, h => by cases h
  | m + 1, k, hk, h => by
    simp only [hasFrom, Bool.or_eq_true, decide_eq_true_eq] at h
    rcases h with h | h
    · rw [← h, List.getD_eq_getElem?_getD, List.getElem?_eq_getElem (by omega), Option.getD_some]
      exact List.getElem_mem _
    · exact hasFrom_mem x l m (k + 1) (by omega) h
theorem fitFrom_at (g : Game) (p : Int) (s : List Int) : ∀ (m i : Nat), g.fitFrom p s m i = true → ∀ j, i ≤ j → j < i + m → g.fitAt p s j = true
  | 0, i, h, j, h1, h2 => by omega
  | m + 1, i, h, j, h1, h2 => by
    simp only [Game.fitFrom, Bool.and_eq_true] at h
    by_cases e : i = j
    · subst e; exact h.1
    · exact fitFrom_at g p s m (i + 1) h.2 j (by omega) (by omega)
theorem fits_len {g : Game} {p : Int} {s : List Int} (h : g.fits p s = true) : s.length = g.owner.length := by
  simp only [Game.fits, Bool.and_eq_true, decide_eq_true_eq] at h
  exact h.1
/-- What a strategy says. -/
theorem fits_at {g : Game} {p : Int} {s : List Int} (h : g.fits p s = true) {i : Nat} (hi : i < g.owner.length) : s.getD i 0 = -1 ∨ (g.owner.getD i 0 = p ∧ s.getD i 0 ∈ g.moves.getD i []) := by
  have hl := fits_len h
  simp only [Game.fits, Bool.and_eq_true, decide_eq_true_eq] at h
  have := fitFrom_at g p s _ _ h.2 i (by omega) (by omega)
  simp only [Game.fitAt, Bool.or_eq_true, decide_eq_true_eq, Bool.and_eq_true] at this
  rcases this with h1 | ⟨h1, h2⟩
  · exact .inl h1
  · exact .inr ⟨h1, hasFrom_mem _ _ _ _ (by omega) h2⟩
theorem heldMoves_get (g : Game) (p : Int) (s : List Int) {i : Nat} (hi : i < g.owner.length) : (g.heldMoves p s).getD i [] = g.heldAt p s i := by
  simp [Game.heldMoves, List.getD_eq_getElem?_getD, hi]
theorem heldMoves_len (g : Game) (p : Int) (s : List Int) : (g.heldMoves p s).length = g.owner.length := by simp [Game.heldMoves]
theorem heldAt_sub {g : Game} {p : Int} {s : List Int} (h : g.fits p s = true) {i : Nat} (hi : i < g.owner.length) : ∀ m ∈ g.heldAt p s i, m ∈ g.moves.getD i [] := by
  intro m hm
  unfold Game.heldAt at hm
  split at hm
  · split at hm
    · rename_i h2
      rw [List.mem_singleton] at hm
      subst hm
      rcases fits_at h hi with h3 | h3
      · omega
      · exact h3.2
    · cases hm
  · exact hm
theorem held_good {g : Game} (hg : g.good) {p : Int} {s : List Int} (h : g.fits p s = true) : (g.held p s).good := by
  have hN := hg.n
  refine ⟨heldMoves_len g p s, hg.l, hg.n, fun i => ?_, ⟨hg.ok.own, fun i hi m hm => ?_, fun i hi => ?_⟩⟩
  · by_cases hi : i < g.owner.length
    · show ((g.heldMoves p s).getD i []).length ≤ 4000
      rw [heldMoves_get g p s hi]
      unfold Game.heldAt
      split
      · split <;> simp
      · exact hg.s i
    · show ((g.heldMoves p s).getD i []).length ≤ 4000
      rw [List.getD_eq_getElem?_getD, List.getElem?_eq_none (by rw [heldMoves_len]; omega)]
      simp
  · have hm' : m ∈ (g.heldMoves p s).getD i [] := hm
    rw [heldMoves_get g p s hi] at hm'
    exact hg.ok.mv i hi m (heldAt_sub h hi m hm')
  · show ((g.heldMoves p s).getD i []).Pairwise (· < ·)
    rw [heldMoves_get g p s hi]
    unfold Game.heldAt
    split
    · split <;> simp
    · exact hg.ok.inc i hi
/-- What Beats returns. -/
def Game.beats (g : Game) (p : Int) (s : List Int) (fr : Int) : Bool := winB p ((g.held p s).ranks.getD fr.toNat 0)
def Game.beatsRes (g : Game) (p : Int) (s : List Int) (fr : Int) : Bool × Int :=
  if g.check ≠ 0 then (false, g.check)
  else if ¬ (p = 0 ∨ p = 1) ∨ fr < 0 ∨ g.owner.length ≤ fr then (false, 1)
  else if g.fits p s = false then (false, 3)
  else (g.beats p s fr, 0)
theorem callO3 {f : FuncId} {g : Game} {p : Int} {l : List Int} {v : PV} (S : Store) (h : callL Try.prog hints f [.agg g.cells, .int .i64 p, .sl (intRows l) false] = some v) : callO (callL Try.prog hints) S f [.agg g.cells, .int .i64 p, .sl (intRows l) false] = some { v } := callO_plain h (by
  intro a ha
  simp only [List.mem_cons, List.not_mem_nil, or_false] at ha
  rcases ha with rfl | rfl | rfl
  · exact g.plain
  · exact .int _ _
  · exact .sl _)
attribute [local irreducible] Vs.callL Vs.callRL tyi callO callM callMV appendE storeE evLoad indexAddrO sliceO evFieldAddr evField buildO buildSliceO makeSliceO allocO boxed lenO copyE convertO indexO Vs.gc freezeAll
noncomputable def fx27 : FX := ⟨Try.f27, hints.of 27, []⟩
theorem ok27 : fx27.ok 27 := ⟨by kernel_rfl, of_decide_eq_true (by kernel_rfl), by kernel_rfl, by kernel_rfl, by kernel_rfl⟩
theorem sem27 (b0 : Nat) (m : Md) (fs : List Fr) (e : Env) (S : Store) : sem b0 fx27 m fs e S = run b0 fx27 1000 m fs e S := (sem_eq _ _ _ _ _ _).trans (run_sem b0 fx27 ok27.good 1000 m fs e S).symm
theorem call27 (g : Game) (hg : g.ok) (p : Int) (s : List Int) (fr : Int) : callL Try.prog hints 27 [.agg g.cells, .int .i64 p, .sl (intRows s) false, .int .i64 fr] = some (.tup [.bool (g.beatsRes p s fr).1, .int .i64 (g.beatsRes p s fr).2]) := by
  have c1 := fun S => callG S (call18 g hg)
  unfold Game.beatsRes
  by_cases h : g.check = 0
  · have hgd := good_of h
    have c2 := fun S => callO3 S (call30 g hg hgd p s false)
    rw [if_neg (by simpa using h)]
    have bad : (¬ (p = 0 ∨ p = 1) ∨ fr < 0 ∨ (g.owner.length : Int) ≤ fr) → ∃ S, run 0 fx27 1000 (.at 0 1) [] [(0, .agg g.cells), (1, .int .i64 p), (2, .sl (intRows s) false), (3, .int .i64 fr)] [] = some (.tup [.bool false, .int .i64 1], S) := fun hb => by
      refine ⟨[.arr [g.cells] none false], ?_⟩
      by_cases a1 : p = 0
      · subst a1
        by_cases a3 : fr < 0
        · ((repeat ((conv => lhs; whnf); simp only [go_sem, ↓reduceIte, Nat.reduceEqDiff, Nat.reduceBEq, Nat.reduceAdd, Nat.reduceMul, Nat.reduceSub, Nat.reduceLT, Nat.reduceLeDiff, reduceCtorEq, Int.reduceToNat, Int.reduceLE, Int.reduceLT, Int.reduceEq, sem27, c1, h, a3])); try (conv => lhs; whnf); try rfl)
        · have a4 : (g.owner.length : Int) ≤ fr := by
            rcases hb with hb | hb | hb
            · exact absurd (.inl rfl) hb
            · exact absurd hb a3
            · exact hb
          ((repeat ((conv => lhs; whnf); simp only [go_sem, ↓reduceIte, Nat.reduceEqDiff, Nat.reduceBEq, Nat.reduceAdd, Nat.reduceMul, Nat.reduceSub, Nat.reduceLT, Nat.reduceLeDiff, reduceCtorEq, Int.reduceToNat, Int.reduceLE, Int.reduceLT, Int.reduceEq, sem27, c1, h, a3, a4])); try (conv => lhs; whnf); try rfl)
      · by_cases a2 : p = 1
        · subst a2
          by_cases a3 : fr < 0
          · ((repeat ((conv => lhs; whnf); simp only [go_sem, ↓reduceIte, Nat.reduceEqDiff, Nat.reduceBEq, Nat.reduceAdd, Nat.reduceMul, Nat.reduceSub, Nat.reduceLT, Nat.reduceLeDiff, reduceCtorEq, Int.reduceToNat, Int.reduceLE, Int.reduceLT, Int.reduceEq, sem27, c1, h, a3])); try (conv => lhs; whnf); try rfl)
          · have a4 : (g.owner.length : Int) ≤ fr := by
              rcases hb with hb | hb | hb
              · exact absurd (.inr rfl) hb
              · exact absurd hb a3
              · exact hb
            ((repeat ((conv => lhs; whnf); simp only [go_sem, ↓reduceIte, Nat.reduceEqDiff, Nat.reduceBEq, Nat.reduceAdd, Nat.reduceMul, Nat.reduceSub, Nat.reduceLT, Nat.reduceLeDiff, reduceCtorEq, Int.reduceToNat, Int.reduceLE, Int.reduceLT, Int.reduceEq, sem27, c1, h, a3, a4])); try (conv => lhs; whnf); try rfl)
        · ((repeat ((conv => lhs; whnf); simp only [go_sem, ↓reduceIte, Nat.reduceEqDiff, Nat.reduceBEq, Nat.reduceAdd, Nat.reduceMul, Nat.reduceSub, Nat.reduceLT, Nat.reduceLeDiff, reduceCtorEq, Int.reduceToNat, Int.reduceLE, Int.reduceLT, Int.reduceEq, sem27, c1, h, a1, a2])); try (conv => lhs; whnf); try rfl)
    by_cases hb : ¬ (p = 0 ∨ p = 1) ∨ fr < 0 ∨ (g.owner.length : Int) ≤ fr
    · rw [if_pos hb]
      obtain ⟨S, hS⟩ := bad hb
      exact FX.callL ok27 1000 rfl rfl hS rfl
    · rw [if_neg hb]
      have hp : p = 0 ∨ p = 1 := by
        by_cases hp : p = 0 ∨ p = 1
        · exact hp
        · exact absurd (.inl hp) hb
      have a3 : ¬ fr < 0 := fun x => hb (.inr (.inl x))
      have a4 : ¬ (g.owner.length : Int) ≤ fr := fun x => hb (.inr (.inr x))
      by_cases hf : g.fits p s = false
      · rw [if_pos hf]
        refine FX.callL (r := (.tup [.bool false, .int .i64 3], [.arr [g.cells] none false])) ok27 1000 rfl rfl ?_ rfl
        rcases hp with rfl | rfl
        · ((repeat ((conv => lhs; whnf); simp only [go_sem, ↓reduceIte, Nat.reduceEqDiff, Nat.reduceBEq, Nat.reduceAdd, Nat.reduceMul, Nat.reduceSub, Nat.reduceLT, Nat.reduceLeDiff, reduceCtorEq, Int.reduceToNat, Int.reduceLE, Int.reduceLT, Int.reduceEq, sem27, c1, h, a3, a4, c2, hf])); try (conv => lhs; whnf); try rfl)
        · ((repeat ((conv => lhs; whnf); simp only [go_sem, ↓reduceIte, Nat.reduceEqDiff, Nat.reduceBEq, Nat.reduceAdd, Nat.reduceMul, Nat.reduceSub, Nat.reduceLT, Nat.reduceLeDiff, reduceCtorEq, Int.reduceToNat, Int.reduceLE, Int.reduceLT, Int.reduceEq, sem27, c1, h, a3, a4, c2, hf])); try (conv => lhs; whnf); try rfl)
      · rw [if_neg hf]
        have hf' : g.fits p s = true := by simpa using hf
        have hh := held_good hgd hf'
        have c3 := fun S => callO3 S (call61 g hgd p s false (fits_len hf'))
        have c4 : ∀ S, callO (callL Try.prog hints) S 58 [.agg (g.held p s).cells] = some { v := .sl (intRows (g.held p s).ranks) false } := fun S => callG S (call58 (g.held p s) hh)
        have hrl : (g.held p s).ranks.length = g.owner.length := ranks_len _
        have a5 : 0 ≤ fr ∧ fr < ((g.held p s).ranks.length : Int) := ⟨by omega, by omega⟩
        refine FX.callL (r := (.tup [.bool (g.beats p s fr), .int .i64 0], [.arr [g.cells] none false])) ok27 1000 rfl rfl ?_ rfl
        unfold Game.beats winB
        rcases hp with rfl | rfl
        · by_cases b1 : 0 ≤ (g.held 0 s).ranks.getD fr.toNat 0
          · ((repeat ((conv => lhs; whnf); simp only [go_sem, ↓reduceIte, Nat.reduceEqDiff, Nat.reduceBEq, Nat.reduceAdd, Nat.reduceMul, Nat.reduceSub, Nat.reduceLT, Nat.reduceLeDiff, reduceCtorEq, Int.reduceToNat, Int.reduceLE, Int.reduceLT, Int.reduceEq, sem27, c1, h, a3, a4, c2, hf', c3, c4, a5, b1])); try (conv => lhs; whnf); try rfl)
          · ((repeat ((conv => lhs; whnf); simp only [go_sem, ↓reduceIte, Nat.reduceEqDiff, Nat.reduceBEq, Nat.reduceAdd, Nat.reduceMul, Nat.reduceSub, Nat.reduceLT, Nat.reduceLeDiff, reduceCtorEq, Int.reduceToNat, Int.reduceLE, Int.reduceLT, Int.reduceEq, sem27, c1, h, a3, a4, c2, hf', c3, c4, a5, b1])); try (conv => lhs; whnf); try rfl)
        · by_cases b1 : 0 ≤ (g.held 1 s).ranks.getD fr.toNat 0
          · ((repeat ((conv => lhs; whnf); simp only [go_sem, ↓reduceIte, Nat.reduceEqDiff, Nat.reduceBEq, Nat.reduceAdd, Nat.reduceMul, Nat.reduceSub, Nat.reduceLT, Nat.reduceLeDiff, reduceCtorEq, Int.reduceToNat, Int.reduceLE, Int.reduceLT, Int.reduceEq, sem27, c1, h, a3, a4, c2, hf', c3, c4, a5, b1])); try (conv => lhs; whnf); try rfl)
          · ((repeat ((conv => lhs; whnf); simp only [go_sem, ↓reduceIte, Nat.reduceEqDiff, Nat.reduceBEq, Nat.reduceAdd, Nat.reduceMul, Nat.reduceSub, Nat.reduceLT, Nat.reduceLeDiff, reduceCtorEq, Int.reduceToNat, Int.reduceLE, Int.reduceLT, Int.reduceEq, sem27, c1, h, a3, a4, c2, hf', c3, c4, a5, b1])); try (conv => lhs; whnf); try rfl)
  · rw [if_pos h]
    refine FX.callL (r := (.tup [.bool false, .int .i64 g.check], [.arr [g.cells] none false])) ok27 1000 rfl rfl ?_ rfl
    ((repeat ((conv => lhs; whnf); simp only [go_sem, ↓reduceIte, Nat.reduceEqDiff, Nat.reduceBEq, Nat.reduceAdd, Nat.reduceMul, Nat.reduceSub, Nat.reduceLT, Nat.reduceLeDiff, reduceCtorEq, Int.reduceToNat, Int.reduceLE, Int.reduceLT, Int.reduceEq, sem27, c1, h])); try (conv => lhs; whnf); try rfl)
end Go.Vs
end
