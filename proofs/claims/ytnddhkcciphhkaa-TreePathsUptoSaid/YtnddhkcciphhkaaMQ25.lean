/- The reference's walk: what it returns, and what it leaves. -/

import Derived.Test.YtnddhkcciphhkaaMQ17
import Derived.Test.YtnddhkcciphhkaaMQ23
import Derived.Test.YtnddhkcciphhkaaMQ24
section
set_option linter.unusedVariables false
set_option linter.unusedSimpArgs false
namespace Go.Vs
open Go Go.Proofs
/- The paths of the nodes for which c holds, in preorder. -/
mutual
def walkL (c : Node → Bool) : Node → List Int → List (List Int)
  | .mk o s g d e f, path => (if c (.mk o s g d e f) = true then [path] else []) ++ walksL c f path 0
def walksL (c : Node → Bool) : List Node → List Int → Nat → List (List Int)
  | [], _, _ => []
  | k :: r, path, i => walkL c k (path ++ [(i : Int)]) ++ walksL c r path (i + 1)
end
theorem walkL_eq (c : Node → Bool) (n : Node) (path : List Int) : walkL c n path = (if c n = true then [path] else []) ++ walksL c n.kids path 0 := by cases n; rfl
theorem walksL_drop (c : Node → Bool) {l : List Node} {i : Nat} (h : i < l.length) (path : List Int) : walksL c (l.drop i) path i = walkL c (l.getD i default) (path ++ [(i : Int)]) ++ walksL c (l.drop (i + 1)) path (i + 1) := by
  rw [kids_drop h]; rfl
mutual
theorem walkL_length (c : Node → Bool) : ∀ (n : Node) (path : List Int), (walkL c n path).length ≤ n.count
  | .mk o s g d e f, path => by
    have := walksL_length c f path 0
    simp only [walkL, List.length_append, Node.count]
    split <;> simp <;> omega
theorem walksL_length (c : Node → Bool) : ∀ (l : List Node) (path : List Int) (i : Nat), (walksL c l path i).length ≤ Node.counts l
  | [], path, i => by simp [walksL, Node.counts]
  | k :: r, path, i => by
    have h1 := walkL_length c k (path ++ [(i : Int)])
    have h2 := walksL_length c r path (i + 1)
    simp only [walksL, List.length_append, Node.counts]
    omega
end
theorem makeSlice22 (id n : Nat) (h : n ≤ 2000000) : makeSliceO Try.prog 22 id (.int .i64 n) (.int .i64 n) = some { v := .msl id 0 n true, new := some (List.replicate n [.int .i64 0], some (some 1)) } := by
  have e2 : (tyi Try.prog 3).bytes = 8 := by kernel_rfl
  have e3 : (tyi Try.prog 3).zero = some [.int .i64 0] := by kernel_rfl
  simp only [makeSliceO, d22, e3, Option.bind_some, e2, size3]
  rw [if_pos ⟨by omega, by omega, by omega, by omega, rfl, rfl⟩]
  simp
theorem copyE22 {S : Store} {id n : Nat} {ex : Bool} {rows : List (List PV)} {g : Option (Option Nat)} {p : PV} {l : List Int} (hS : S[id]? = some (.arr rows g false)) (h1 : rows.length = n) (h2 : rowsOK 1 rows = true) (hp : Ints S p l) (h3 : l.length ≤ n) :
    copyE Try.prog 22 22 S (.msl id 0 n ex) p = some { v := .int .i64 l.length, S := S.set id (.arr (intRows l ++ rows.drop l.length) g false) } := by
  simp only [copyE, d22, known3, if_true, size3, evCopy, hS, hp.rowsIn, Option.bind_some]
  rw [if_pos ⟨by omega, h2, intRows_ok l⟩]
  have e1 : (intRows l).take n = intRows l := by rw [List.take_of_length_le (by rw [intRows_length]; omega)]
  rw [e1, intRows_length, Nat.min_eq_left h3]
  simp
theorem idx22m {S : Store} {id n : Nat} {ex : Bool} {rows : List (List PV)} (i : Nat) (hS : rowsAt S id = some rows) (hl : rows.length = n) (h2 : rowsOK 1 rows = true) (hi : i < n) : indexAddrO Try.prog 22 S (.msl id 0 n ex) (.int .i64 i) = some (.mp id i 0) := by
  have e1 : elemTy (tyi Try.prog 22) = 3 := by simp [elemTy, d22]
  have e2 : isSlice (tyi Try.prog 22) = true := by simp [isSlice, d22]
  simp only [indexAddrO, e1, e2, known3, size3, and_self, if_true, evIndexAddr, hS, Option.bind_some]
  rw [if_pos ⟨by omega, by omega⟩, if_pos ⟨h2, by omega⟩, Nat.zero_add, Int.toNat_natCast]
theorem rowsOK_replicate (n : Nat) : rowsOK 1 (List.replicate n [PV.int .i64 0]) = true := by simp [rowsOK]
theorem rowsAt_of {S : Store} {id : Nat} {rows : List (List PV)} {g : Option (Option Nat)} {f : Bool} (h : S[id]? = some (.arr rows g f)) : rowsAt S id = some rows := by simp only [rowsAt, h]
@[go_sem] theorem buildSlice23 (id n : Nat) (is : List Nat) (rows : List (List PV)) : buildSliceO Try.prog 23 id n is rows = if is = List.range n ∧ rowsOK 1 rows = true ∧ (rows.all fun r => r.all PV.cell) = true ∧ n * 1 ≤ 16777216 then some { v := .msl id 0 n true, new := some (rows, some (some 1)) } else none := by
  have e : (tyi Try.prog 22).zero.isSome = true := by kernel_rfl
  simp [buildSliceO, d23, size22, e]
theorem withV_any {R : Type} (x : PV) (K : PV → Option R) : withV (some x) K = K x := nr rfl
/-- A path's own copy, appended. -/
theorem own76 (b : Nat) (K : KT) {S : Store} {v pv : PV} {L : List (List Int)} {path : List Int} (x3 x6 x9 x20 : PV) (h : OutV S v L) (hp : Ints S pv path) (hd : ∀ r ∈ pv.refs, r ∉ v.refs) (hL : L.length ≤ 2000000) (hl : path.length ≤ 2000000)
    (h6 : ∀ r ∈ x6.refs, r ∉ v.refs) (h9 : ∀ r ∈ x9.refs, r ∉ v.refs) (h3 : x3.refs = []) :
    ∃ v' S', execL (F76.C b) 0 F76.c58 (F76.k64 b) (F76.ee5 v pv x3 x6 x9 x20) S = execL (F76.C b) 0 F76.c13 (F76.k15 b) (F76.ee5 v' pv x3 x6 x9 .undef) S' ∧ OutV S' v' (L ++ [path]) ∧ Keep S.length v.refs v.refs S S' ∧ (∀ r ∈ v'.refs, r ∈ v.refs ∨ S.length ≤ r) := by
  have e1 := fun id => makeSlice22 id path.length hl
  have hlen := hp.len
  have e2 : (S ++ [Obj.arr (List.replicate path.length [PV.int .i64 0]) (some (some 1)) false])[S.length]? = some (.arr (List.replicate path.length [PV.int .i64 0]) (some (some 1)) false) := by simp
  have hp1 : Ints (S ++ [Obj.arr (List.replicate path.length [PV.int .i64 0]) (some (some 1)) false]) pv path := hp.same fun r hr => by rw [List.getElem?_append_left (hp.refs_lt r hr)]
  have e3 := copyE22 (ex := true) e2 (by simp) (rowsOK_replicate _) hp1 (Nat.le_refl _)
  have e4 : intRows path ++ (List.replicate path.length [PV.int .i64 0]).drop path.length = intRows path := by simp
  rw [e4] at e3
  have e5 : (S ++ [Obj.arr (List.replicate path.length [PV.int .i64 0]) (some (some 1)) false]).set S.length (.arr (intRows path) (some (some 1)) false) = S ++ [.arr (intRows path) (some (some 1)) false] := by
    rw [set_tail0]; rfl
  rw [e5] at e3
  have hpp : Ints (S ++ [Obj.arr (intRows path) (some (some 1)) false] ++ [.arr [[.msl S.length 0 path.length true]] (some (some 1)) false]) (.msl S.length 0 path.length true) path := .msl S.length path true (some (some 1)) false (by simp)
  obtain ⟨v', S', ks, a1, a2, a3, a4, a5⟩ := appendOut (b := b) (bid := S.length + 1) ((h.ext [.arr (intRows path) (some (some 1)) false]).ext [.arr [[.msl S.length 0 path.length true]] (some (some 1)) false]) hpp
    (by intro r hr; simp only [PV.refs, List.mem_singleton] at hr; subst hr; intro hx; have := h.lt _ hx; omega) (by rw [List.getElem?_append_right (by simp)]; simp) (by intro hx; have := h.lt _ hx; omega) hL
  have k0 : kill1 ks x6 = x6 := kill1_id fun r hr hx => h6 r hr (a4 r hx)
  have k1 : kill1 ks x9 = x9 := kill1_id fun r hr hx => h9 r hr (a4 r hx)
  have k2 : kill1 ks pv = pv := kill1_id fun r hr hx => hd r hr (a4 r hx)
  have k3 : kill1 ks x3 = x3 := kill1_id fun r hr hx => by rw [h3] at hr; cases hr
  refine ⟨v', S', ?_, a2, ?_, fun r hr => ?_⟩
  · have s1 : ∀ K : KT, execL (F76.C b) 0 F76.c58 K (F76.ee5 v pv x3 x6 x9 x20) S = K .normal (F76.ee1 v pv x3 x6 x9 (.msl S.length 0 path.length true)) (S ++ [.arr (List.replicate path.length [.int .i64 0]) (some (some 1)) false]) := fun K => by
      simp only [go_sem, ↓reduceIte, Nat.reduceEqDiff, Nat.reduceBEq, Nat.reduceAdd, Nat.reduceMul, Nat.reduceSub, Nat.reduceLT, Nat.reduceLeDiff, reduceCtorEq, Int.reduceToNat, Int.reduceLE, Int.reduceLT, Int.reduceEq, withV_any, hlen, e1]
    have s2 : ∀ K : KT, execL (F76.C b) 0 F76.c60 K (F76.ee1 v pv x3 x6 x9 (.msl S.length 0 path.length true)) (S ++ [.arr (List.replicate path.length [.int .i64 0]) (some (some 1)) false]) = K .normal (F76.ee1 v pv x3 x6 x9 (.msl S.length 0 path.length true)) (S ++ [.arr (intRows path) (some (some 1)) false]) := fun K => by
      simp only [go_sem, ↓reduceIte, Nat.reduceEqDiff, Nat.reduceBEq, Nat.reduceAdd, Nat.reduceMul, Nat.reduceSub, Nat.reduceLT, Nat.reduceLeDiff, reduceCtorEq, Int.reduceToNat, Int.reduceLE, Int.reduceLT, Int.reduceEq, withV_any, e3]
    have s3 : ∀ K : KT, execL (F76.C b) 0 F76.c61 K (F76.ee1 v pv x3 x6 x9 (.msl S.length 0 path.length true)) (S ++ [.arr (intRows path) (some (some 1)) false]) = K .normal (F76.ee5 v' pv x3 x6 x9 .undef) S' := fun K => by
      simp only [go_sem, ↓reduceIte, Nat.reduceEqDiff, Nat.reduceBEq, Nat.reduceAdd, Nat.reduceMul, Nat.reduceSub, Nat.reduceLT, Nat.reduceLeDiff, reduceCtorEq, Int.reduceToNat, Int.reduceLE, Int.reduceLT, Int.reduceEq, List.append_assoc] at a1
      have ku : kill1 ks .undef = .undef := rfl
      simp only [go_sem, ↓reduceIte, Nat.reduceEqDiff, Nat.reduceBEq, Nat.reduceAdd, Nat.reduceMul, Nat.reduceSub, Nat.reduceLT, Nat.reduceLeDiff, reduceCtorEq, Int.reduceToNat, Int.reduceLE, Int.reduceLT, Int.reduceEq, withV_any, a1, get_put, get_killE, k0, k1, k2, k3, ku]
    rw [s1]
    simp only [F76.k64_n, F76.k62_n, F76.k12_n, s2, s3]
  · refine Keep.trans (.same (by simp) fun j hj => ?_) a3 (by simp) (fun r h => .inl h) (fun r h => .inl h)
    rw [List.append_assoc, List.getElem?_append_left hj]
  · rcases a5 r hr with h1 | h1
    · exact .inl h1
    · simp at h1; exact .inr (by omega)
/-- Is a node's path asked for? -/
def wanted (sm : Bool) (part : Node) (x : Node) : Bool := !sm || decide (x.cmp part = 0)
/-- The part asked for, as it lies in memory. -/
structure PartOK (sm : Bool) (pt : Node) (pc : List PV) : Prop where
  len : pc.length = 6
  all : pc.all PV.cell = true
  refs : refsL pc = []
  part : Vs.part (tyi Try.prog 54) pc = some (.agg pc)
  eq : sm = true → pc = pt.cells
theorem PartOK.node (sm : Bool) (n : Node) : PartOK sm n n.cells := ⟨n.cells_length, n.cells_cell, n.refs, n.part54, fun _ => rfl⟩
theorem PartOK.none (n : Node) : PartOK false n zeroNode := ⟨rfl, rfl, rfl, zeroNode_part54, fun h => by cases h⟩
/-- What the walk from a node does. -/
def Walk76 (sm : Bool) (part : Node) (pc : List PV) (n : Node) : Prop := ∀ (path : List Int) (v : PV) (L : List (List Int)) (S : Store) (pv : PV), OutV S v L → Ints S pv path → (∀ r ∈ pv.refs, r ∉ v.refs) → path.length + n.depth ≤ 1500000 → L.length + n.count ≤ 2000000 →
  ∃ v' S', callRL Try.prog hints 76 [v, .agg n.cells, pv, .bool sm, .agg pc] S = some (v', S') ∧ OutV S' v' (L ++ walkL (wanted sm part) n path) ∧ Keep S.length v.refs v.refs S S' ∧ (∀ r ∈ v'.refs, r ∈ v.refs ∨ S.length ≤ r)
theorem set_last (path : List Int) (i : Int) : (intRows path ++ [[PV.int .i64 0]]).set path.length [.int .i64 i] = intRows (path ++ [i]) := by
  have : path.length = (intRows path).length := (intRows_length path).symm
  rw [this, List.set_append, if_neg (by omega), Nat.sub_self, intRows_append]
  rfl
theorem get_last (path : List Int) : (intRows path ++ [[PV.int .i64 0]]).getD path.length [] = [.int .i64 0] := by
  have : path.length = (intRows path).length := (intRows_length path).symm
  rw [this, List.getD_eq_getElem?_getD, List.getElem?_append_right (Nat.le_refl _), Nat.sub_self]
  rfl
theorem drop_last (path : List Int) : (List.replicate (path.length + 1) [PV.int .i64 0]).drop path.length = [[.int .i64 0]] := by
  rw [List.drop_replicate, Nat.add_sub_cancel_left]; rfl
theorem loop76 (sm : Bool) (part n : Node) (pc : List PV) (hpc : PartOK sm part pc) (hn : n.ok) (path : List Int) (ih : ∀ k ∈ n.kids, Walk76 sm part pc k) (b n0 x6 x9 : Nat) (pv : PV) (hpl : path.length + n.depth ≤ 1500000) (hx6 : x6 < n0) (hx9 : x9 < n0) (hpv : ∀ r ∈ pv.refs, r < n0) :
    ∀ (m i : Nat), i + m = n.kids.length → ∀ (v : PV) (L : List (List Int)) (S : Store), n0 ≤ S.length → OutV S v L → S[x6]? = some (.arr [n.cells] none false) → S[x9]? = some (.arr [pc] none false) → Ints S pv path → x6 ∉ v.refs → x9 ∉ v.refs → (∀ r ∈ pv.refs, r ∉ v.refs) → L.length + Node.counts (n.kids.drop i) ≤ 2000000 →
      ∃ v' S', F76.L0 b n0 v pv (.bool sm) (.mp x6 0 0) (.mp x9 0 0) (.int .i64 i) S = some (v', S') ∧ OutV S' v' (L ++ walksL (wanted sm part) (n.kids.drop i) path i) ∧ Keep n0 v.refs v.refs S S' ∧ (∀ r ∈ v'.refs, r ∈ v.refs ∨ n0 ≤ r) := by
  intro m
  induction m with
  | zero =>
    intro i hi v L S hS hO h6 h9 hp d6 d9 dp hL
    have h1 : ¬ (i : Int) < (n.kids.length : Int) := by omega
    have r6 := rowsAt_of h6
    have hg := gc_at (e := F76.ee4 v .undef .undef .undef .undef .undef .undef) hS
    refine ⟨v, Vs.gc n0 (F76.ee4 v .undef .undef .undef .undef .undef .undef) S, F76.L0_step ?_, ?_, .same hg.1 hg.2, fun r hr => .inl hr⟩
    · simp only [go_sem, ↓reduceIte, Nat.reduceEqDiff, Nat.reduceBEq, Nat.reduceAdd, Nat.reduceMul, Nat.reduceSub, Nat.reduceLT, Nat.reduceLeDiff, reduceCtorEq, Int.reduceToNat, Int.reduceLE, Int.reduceLT, Int.reduceEq, withV_any, h1, r6]
    · rw [List.drop_of_length_le (by omega)]
      simp only [walksL, List.append_nil]
      exact hO.gc ⟨0, by simp [F76.ee4]⟩
  | succ m hm =>
    intro i hi v L S hS hO h6 h9 hp d6 d9 dp hL
    have h1 : (i : Int) < (n.kids.length : Int) := by omega
    have h2 := wrap_succ (i := i) (n := n.kids.length) (by omega) hn.len
    have h4 : 0 ≤ (i : Int) ∧ (i : Int) < (n.kids.length : Int) := ⟨by omega, h1⟩
    have r6 := rowsAt_of h6
    have hmem := kids_mem (l := n.kids) (i := i) (by omega)
    have hkd : (n.kids.getD i default).depth ≤ Node.depths n.kids := depths_get (by omega)
    have hnd := n.depth_eq
    have hlen := hp.len
    have hw : IntKind.i64.wrap ((path.length : Int) + 1) = ((path.length + 1 : Nat) : Int) := by rw [IntKind.wrap_i64]; omega
    have e1 := fun id => makeSlice22 id (path.length + 1) (by omega)
    have e2 : (S ++ [Obj.arr (List.replicate (path.length + 1) [PV.int .i64 0]) (some (some 1)) false])[S.length]? = some (.arr (List.replicate (path.length + 1) [PV.int .i64 0]) (some (some 1)) false) := by simp
    have hp1 : ∀ o, Ints (S ++ [o]) pv path := fun o => hp.same fun r hr => by rw [List.getElem?_append_left (hp.refs_lt r hr)]
    have e3 := copyE22 (ex := true) e2 (by simp) (rowsOK_replicate _) (hp1 _) (Nat.le_succ _)
    rw [drop_last] at e3
    have e5 : (S ++ [Obj.arr (List.replicate (path.length + 1) [PV.int .i64 0]) (some (some 1)) false]).set S.length (.arr (intRows path ++ [[.int .i64 0]]) (some (some 1)) false) = S ++ [.arr (intRows path ++ [[.int .i64 0]]) (some (some 1)) false] := by
      rw [set_tail0]; rfl
    rw [e5] at e3
    have hl2 := (hp1 (.arr (intRows path ++ [[.int .i64 0]]) (some (some 1)) false)).len
    have e6 := idx22m (S := S ++ [.arr (intRows path ++ [[.int .i64 0]]) (some (some 1)) false]) (id := S.length) (n := path.length + 1) (ex := true) (rows := intRows path ++ [[.int .i64 0]]) path.length (rowsAt_of (by simp; exact ⟨rfl, rfl⟩)) (by simp [intRows_length]) (by simp [rowsOK, intRows]) (Nat.lt_succ_self _)
    have e7 : Ints (S ++ [.arr (intRows (path ++ [(i : Int)])) (some (some 1)) false]) (.msl S.length 0 (path.length + 1) true) (path ++ [(i : Int)]) := by
      have := Ints.msl (S := S ++ [.arr (intRows (path ++ [(i : Int)])) (some (some 1)) false]) S.length (path ++ [(i : Int)]) true (some (some 1)) false (by simp)
      simpa using this
    have hcd : Node.counts (n.kids.drop i) = (n.kids.getD i default).count + Node.counts (n.kids.drop (i + 1)) := by rw [kids_drop (l := n.kids) (i := i) (by omega)]; rfl
    obtain ⟨v', S', a1, a2, a3, a4⟩ := ih _ hmem (path ++ [(i : Int)]) v L (S ++ [.arr (intRows (path ++ [(i : Int)])) (some (some 1)) false]) (.msl S.length 0 (path.length + 1) true) (hO.ext _) e7
      (by intro r hr; simp only [PV.refs, List.mem_singleton] at hr; subst hr; intro hx; have := hO.lt _ hx; omega) (by simp only [List.length_append, List.length_cons, List.length_nil]; omega) (by omega)
    have hlS : (S ++ [Obj.arr (intRows (path ++ [(i : Int)])) (some (some 1)) false]).length = S.length + 1 := by simp
    rw [hlS] at a3 a4
    have hc := (show callE (F76.C b) _ 76 _ = _ from callE_eq (b := b) (h := F76.hint) (by rfl) a1 (by rw [hlS]; exact a3.len))
    have keepS : Keep n0 v.refs v.refs S S' := Keep.trans (.same (by simp; omega) fun j hj => List.getElem?_append_left (by omega)) a3 (by omega) (fun r h => .inl h) (fun r h => .inl h)
    have hg := gc_at (e := F76.ee2 v' pv (.bool sm) (.mp x6 0 0) (.mp x9 0 0) (.int .i64 ((i + 1 : Nat) : Int))) (show n0 ≤ S'.length from keepS.len)
    have quietN : ∀ x : List PV, refsL x = [] → ∀ r ∈ rowsRefs [x], r < n0 ∧ r ∉ v.refs := fun x hx r hr => by simp only [rowsRefs_cons, hx] at hr; cases hr
    have g6 : (Vs.gc n0 (F76.ee2 v' pv (.bool sm) (.mp x6 0 0) (.mp x9 0 0) (.int .i64 ((i + 1 : Nat) : Int))) S')[x6]? = some (.arr [n.cells] none false) := by rw [hg.2 x6 hx6]; exact keepS.keeps x6 hx6 d6 _ _ _ h6 (quietN _ n.refs)
    have g9 : (Vs.gc n0 (F76.ee2 v' pv (.bool sm) (.mp x6 0 0) (.mp x9 0 0) (.int .i64 ((i + 1 : Nat) : Int))) S')[x9]? = some (.arr [pc] none false) := by rw [hg.2 x9 hx9]; exact keepS.keeps x9 hx9 d9 _ _ _ h9 (quietN _ hpc.refs)
    have gp : Ints (Vs.gc n0 (F76.ee2 v' pv (.bool sm) (.mp x6 0 0) (.mp x9 0 0) (.int .i64 ((i + 1 : Nat) : Int))) S') pv path := (hp.keep keepS fun r hr => ⟨hpv r hr, dp r hr⟩).same fun r hr => hg.2 r (hpv r hr)
    have nv : ∀ r, r < n0 → r ∉ v.refs → r ∉ v'.refs := fun r hr hv hx => by
      rcases a4 r hx with h | h
      · exact hv h
      · omega
    obtain ⟨v2, S2, b1, b2, b3, b4⟩ := hm (i + 1) (by omega) v' (L ++ walkL (wanted sm part) (n.kids.getD i default) (path ++ [(i : Int)])) _ hg.1 (a2.gc ⟨0, by simp [F76.ee2]⟩) g6 g9 gp (nv x6 hx6 d6) (nv x9 hx9 d9) (fun r hr => nv r (hpv r hr) (dp r hr))
      (by have := walkL_length (wanted sm part) (n.kids.getD i default) (path ++ [(i : Int)]); rw [List.length_append]; omega)
    refine ⟨v2, S2, F76.L0_step ?_, ?_, ?_, fun r hr => ?_⟩
    · have t1 : ∀ K : KT, execL (F76.C b) 0 F76.c43 K (F76.ee2 v pv (.bool sm) (.mp x6 0 0) (.mp x9 0 0) (.int .i64 i)) S = K .normal (F76.ee4 v pv (.bool sm) (.mp x6 0 0) (.mp x9 0 0) (.int .i64 i) (.bool true)) S := fun K => by
        simp only [go_sem, ↓reduceIte, Nat.reduceEqDiff, Nat.reduceBEq, Nat.reduceAdd, Nat.reduceMul, Nat.reduceSub, Nat.reduceLT, Nat.reduceLeDiff, reduceCtorEq, Int.reduceToNat, Int.reduceLE, Int.reduceLT, Int.reduceEq, withV_any, h1, r6]
      have t2 : ∀ K : KT, execL (F76.C b) 1 F76.c30 K (F76.ee4 v pv (.bool sm) (.mp x6 0 0) (.mp x9 0 0) (.int .i64 i) (.bool true)) S = K .normal (F76.ee3 v pv (.bool sm) (.mp x6 0 0) (.mp x9 0 0) (.int .i64 i) (.msl S.length 0 (path.length + 1) true)) (S ++ [.arr (List.replicate (path.length + 1) [.int .i64 0]) (some (some 1)) false]) := fun K => by
        simp only [go_sem, ↓reduceIte, Nat.reduceEqDiff, Nat.reduceBEq, Nat.reduceAdd, Nat.reduceMul, Nat.reduceSub, Nat.reduceLT, Nat.reduceLeDiff, reduceCtorEq, Int.reduceToNat, Int.reduceLE, Int.reduceLT, Int.reduceEq, withV_any, hlen, hw, e1]
      have t3 : ∀ K : KT, execL (F76.C b) 1 F76.c32 K (F76.ee3 v pv (.bool sm) (.mp x6 0 0) (.mp x9 0 0) (.int .i64 i) (.msl S.length 0 (path.length + 1) true)) (S ++ [.arr (List.replicate (path.length + 1) [.int .i64 0]) (some (some 1)) false]) = K .normal (F76.ee3 v pv (.bool sm) (.mp x6 0 0) (.mp x9 0 0) (.int .i64 i) (.msl S.length 0 (path.length + 1) true)) (S ++ [.arr (intRows path ++ [[.int .i64 0]]) (some (some 1)) false]) := fun K => by
        simp only [go_sem, ↓reduceIte, Nat.reduceEqDiff, Nat.reduceBEq, Nat.reduceAdd, Nat.reduceMul, Nat.reduceSub, Nat.reduceLT, Nat.reduceLeDiff, reduceCtorEq, Int.reduceToNat, Int.reduceLE, Int.reduceLT, Int.reduceEq, withV_any, e3]
      have t4 : ∀ K : KT, execL (F76.C b) 1 F76.c34 K (F76.ee3 v pv (.bool sm) (.mp x6 0 0) (.mp x9 0 0) (.int .i64 i) (.msl S.length 0 (path.length + 1) true)) (S ++ [.arr (intRows path ++ [[.int .i64 0]]) (some (some 1)) false]) = K .normal (F76.ee3 v pv (.bool sm) (.mp x6 0 0) (.mp x9 0 0) (.int .i64 i) (.msl S.length 0 (path.length + 1) true)) (S ++ [.arr (intRows (path ++ [(i : Int)])) (some (some 1)) false]) := fun K => by
        simp only [go_sem, ↓reduceIte, Nat.reduceEqDiff, Nat.reduceBEq, Nat.reduceAdd, Nat.reduceMul, Nat.reduceSub, Nat.reduceLT, Nat.reduceLeDiff, reduceCtorEq, Int.reduceToNat, Int.reduceLE, Int.reduceLT, Int.reduceEq, withV_any, hl2, e6, get_last, set_last]
      have r6' : rowsAt (S ++ [Obj.arr (intRows (path ++ [(i : Int)])) (some (some 1)) false]) x6 = some [n.cells] := rowsAt_of (by rw [List.getElem?_append_left (by omega)]; exact h6)
      have r9' : rowsAt (S ++ [Obj.arr (intRows (path ++ [(i : Int)])) (some (some 1)) false]) x9 = some [pc] := rowsAt_of (by rw [List.getElem?_append_left (by omega)]; exact h9)
      have t5 : ∀ K : KT, execL (F76.C b) 1 F76.c35 K (F76.ee3 v pv (.bool sm) (.mp x6 0 0) (.mp x9 0 0) (.int .i64 i) (.msl S.length 0 (path.length + 1) true)) (S ++ [.arr (intRows (path ++ [(i : Int)])) (some (some 1)) false]) = K .normal (F76.ee2 v' pv (.bool sm) (.mp x6 0 0) (.mp x9 0 0) (.int .i64 i)) S' := fun K => by
        simp only [go_sem, ↓reduceIte, Nat.reduceEqDiff, Nat.reduceBEq, Nat.reduceAdd, Nat.reduceMul, Nat.reduceSub, Nat.reduceLT, Nat.reduceLeDiff, reduceCtorEq, Int.reduceToNat, Int.reduceLE, Int.reduceLT, Int.reduceEq, withV_any, r6', r9', h4, hc, hpc.part]
      have t6 : ∀ K : KT, execL (F76.C b) 0 F76.c24 K (F76.ee2 v' pv (.bool sm) (.mp x6 0 0) (.mp x9 0 0) (.int .i64 i)) S' = K .normal (F76.ee2 v' pv (.bool sm) (.mp x6 0 0) (.mp x9 0 0) (.int .i64 ((i + 1 : Nat) : Int))) S' := fun K => by
        simp only [go_sem, ↓reduceIte, Nat.reduceEqDiff, Nat.reduceBEq, Nat.reduceAdd, Nat.reduceMul, Nat.reduceSub, Nat.reduceLT, Nat.reduceLeDiff, reduceCtorEq, Int.reduceToNat, Int.reduceLE, Int.reduceLT, Int.reduceEq, withV_any, h2]
      simp only [F76.B0_eq, t1, F76.k45_n, condC_true, F76.k27_n, t2, F76.k40_n, t3, F76.k38_n, t4, F76.k36_n, t5, F76.k29_n, F76.k25_n, t6, F76.k20_n]
      exact b1
    · rw [walksL_drop _ (by omega), ← List.append_assoc]
      exact b2
    · exact (keepS.trans (.same hg.1 hg.2) (Nat.le_refl _) (fun r h => .inl h) (fun r h => .inl h)).trans b3 (Nat.le_refl _) (fun r h => by rcases a4 r h with h | h; exact .inl h; exact .inr (by omega)) (fun r h => by rcases a4 r h with h | h; exact .inl h; exact .inr (by omega))
    · rcases b4 r hr with h | h
      · rcases a4 r h with h | h
        · exact .inl h
        · exact .inr (by omega)
      · exact .inr h
end Go.Vs
end
/- The reference's walk, Paths, Find: what they return. -/
section
set_option linter.unusedVariables false
set_option linter.unusedSimpArgs false
namespace Go.Vs
open Go Go.Proofs
theorem walk76 (sm : Bool) (part : Node) (hpart : part.ok) (pc : List PV) (hpc : PartOK sm part pc) : ∀ n : Node, n.ok → Walk76 sm part pc n := by
  refine Node.ind' fun n ih hn path v L S pv hO hp hd hpl hL => ?_
  have hk := fun k hk => ih k hk (hn.kids k hk)
  have hcount := n.count_eq
  have hv := hO.lt
  have hpr := hp.refs_lt
  -- the boxes
  have hO1 := hO.ext [.arr [n.cells] none false, .arr [pc] none false]
  have hp1 : Ints (S ++ [.arr [n.cells] none false, .arr [pc] none false]) pv path := hp.same fun r hr => by rw [List.getElem?_append_left (hpr r hr)]
  have b6 : (S ++ [Obj.arr [n.cells] none false, .arr [pc] none false])[S.length]? = some (.arr [n.cells] none false) := by simp
  have b9 : (S ++ [Obj.arr [n.cells] none false, .arr [pc] none false])[S.length + 1]? = some (.arr [pc] none false) := by rw [List.getElem?_append_right (by omega)]; simp
  have d6 : S.length ∉ v.refs := fun h => by have := hv _ h; omega
  have d9 : S.length + 1 ∉ v.refs := fun h => by have := hv _ h; omega
  have q6 : ∀ r ∈ PV.refs (.mp S.length 0 0), r ∉ v.refs := by intro r hr; simp only [PV.refs, List.mem_singleton] at hr; subst hr; exact d6
  have q9 : ∀ r ∈ PV.refs (.mp (S.length + 1) 0 0), r ∉ v.refs := by intro r hr; simp only [PV.refs, List.mem_singleton] at hr; subst hr; exact d9
  have hl1 : (S ++ [Obj.arr [n.cells] none false, .arr [pc] none false]).length = S.length + 2 := by simp
  have s0 : ∀ K : KT, execL (F76.C S.length) 0 F76.c1 K [(0, v), (1, .agg n.cells), (2, pv), (3, .bool sm), (4, .agg pc)] S = K .normal (F76.ee0 v pv (.bool sm) (.mp S.length 0 0) (.mp (S.length + 1) 0 0)) (S ++ [.arr [n.cells] none false, .arr [pc] none false]) := fun K => by
    simp only [go_sem, ↓reduceIte, Nat.reduceEqDiff, Nat.reduceBEq, Nat.reduceAdd, Nat.reduceMul, Nat.reduceSub, Nat.reduceLT, Nat.reduceLeDiff, reduceCtorEq, Int.reduceToNat, Int.reduceLE, Int.reduceLT, Int.reduceEq, withV_any, hpc.len, hpc.all]
  have e56 := fun S => callN2 S (call56 n part hn hpart)
  have r6 := rowsAt_of b6
  have r9 := rowsAt_of b9
  have s1 : ∀ K : KT, execL (F76.C S.length) 0 F76.c52 K (F76.ee0 v pv (.bool sm) (.mp S.length 0 0) (.mp (S.length + 1) 0 0)) (S ++ [.arr [n.cells] none false, .arr [pc] none false]) = K .normal (F76.ee5 v pv (.bool sm) (.mp S.length 0 0) (.mp (S.length + 1) 0 0) (.bool (wanted sm part n))) (S ++ [.arr [n.cells] none false, .arr [pc] none false]) := fun K => by
    cases sm with
    | false => simp only [go_sem, ↓reduceIte, Nat.reduceEqDiff, Nat.reduceBEq, Nat.reduceAdd, Nat.reduceMul, Nat.reduceSub, Nat.reduceLT, Nat.reduceLeDiff, reduceCtorEq, Int.reduceToNat, Int.reduceLE, Int.reduceLT, Int.reduceEq]; rfl
    | true =>
      have hw : wanted true part n = decide (n.cmp part = 0) := rfl
      rw [hw]
      obtain rfl := hpc.eq rfl
      by_cases hc : n.cmp part = 0
      · simp only [go_sem, ↓reduceIte, Nat.reduceEqDiff, Nat.reduceBEq, Nat.reduceAdd, Nat.reduceMul, Nat.reduceSub, Nat.reduceLT, Nat.reduceLeDiff, reduceCtorEq, Int.reduceToNat, Int.reduceLE, Int.reduceLT, Int.reduceEq, r6, r9, e56, hc]
      · simp only [go_sem, ↓reduceIte, Nat.reduceEqDiff, Nat.reduceBEq, Nat.reduceAdd, Nat.reduceMul, Nat.reduceSub, Nat.reduceLT, Nat.reduceLeDiff, reduceCtorEq, Int.reduceToNat, Int.reduceLE, Int.reduceLT, Int.reduceEq, r6, r9, e56, hc]
  -- behind the choice
  have key : ∃ v1 S1 x20, F76.k54 S.length .normal (F76.ee5 v pv (.bool sm) (.mp S.length 0 0) (.mp (S.length + 1) 0 0) (.bool (wanted sm part n))) (S ++ [.arr [n.cells] none false, .arr [pc] none false]) =
      execL (F76.C S.length) 0 F76.c13 (F76.k15 S.length) (F76.ee5 v1 pv (.bool sm) (.mp S.length 0 0) (.mp (S.length + 1) 0 0) x20) S1 ∧ OutV S1 v1 (L ++ if wanted sm part n = true then [path] else []) ∧
      Keep (S.length + 2) v.refs v.refs (S ++ [.arr [n.cells] none false, .arr [pc] none false]) S1 ∧ (∀ r ∈ v1.refs, r ∈ v.refs ∨ S.length + 2 ≤ r) := by
    cases hw : wanted sm part n with
    | false =>
      refine ⟨v, _, .bool false, ?_, by simpa using hO1, .refl (by simp), fun r h => .inl h⟩
      simp only [F76.k54_n, condC_false, F76.k12_n]
    | true =>
      obtain ⟨v1, S1, a1, a2, a3, a4⟩ := own76 S.length (F76.k12 S.length) (.bool sm) (.mp S.length 0 0) (.mp (S.length + 1) 0 0) (.bool true) hO1 hp1 hd (by omega) (by omega) q6 q9 rfl
      rw [hl1] at a3 a4
      refine ⟨v1, S1, .undef, ?_, by simpa using a2, a3, a4⟩
      simp only [F76.k54_n, condC_true]
      exact a1
  obtain ⟨v1, S1, x20, a1, a2, a3, a4⟩ := key
  have hl3 := a3.len
  have quietN : ∀ x : List PV, refsL x = [] → ∀ r ∈ rowsRefs [x], r < S.length + 2 ∧ r ∉ v.refs := fun x hx r hr => by simp only [rowsRefs_cons, hx] at hr; cases hr
  have nv : ∀ r, r < S.length + 2 → r ∉ v.refs → r ∉ v1.refs := fun r hr hv hx => by
    rcases a4 r hx with h | h
    · exact hv h
    · omega
  obtain ⟨v2, S2, b1, b2, b3, b4⟩ := loop76 sm part n pc hpc hn path hk S.length S1.length S.length (S.length + 1) pv (by omega) (by omega) (by omega) (fun r hr => by have := hpr r hr; omega)
    n.kids.length 0 (by omega) v1 (L ++ if wanted sm part n = true then [path] else []) S1 (Nat.le_refl _) a2
    (a3.keeps _ (by omega) d6 _ _ _ b6 (quietN _ n.refs)) (a3.keeps _ (by omega) d9 _ _ _ b9 (quietN _ hpc.refs)) (hp1.keep a3 fun r hr => ⟨by have := hpr r hr; omega, hd r hr⟩)
    (nv _ (by omega) d6) (nv _ (by omega) d9) (fun r hr => nv r (by have := hpr r hr; omega) (hd r hr))
    (by simp only [List.drop_zero, List.length_append]; split <;> simp <;> omega)
  simp only [Int.natCast_zero, List.drop_zero] at b1 b2
  refine ⟨v2, S2, F76.callR ?_, ?_, ?_, fun r hr => ?_⟩
  · simp only [F76.E_eq, s0, F76.k51_n, s1, a1, F76.g50, withV_any, F76.k15_n]
    exact b1
  · rw [walkL_eq, ← List.append_assoc]
    exact b2
  · refine Keep.trans (.same (by simp) fun j hj => List.getElem?_append_left hj) (a3.trans b3 (by omega) (fun r h => by rcases a4 r h with h | h; exact .inl h; exact .inr h) (fun r h => by rcases a4 r h with h | h; exact .inl h; exact .inr h)) (by omega) (fun r h => .inl h) (fun r h => .inl h)
  · rcases b4 r hr with h | h
    · rcases a4 r h with h | h
      · exact .inl h
      · exact .inr (by omega)
    · exact .inr (by omega)
/-! ### Lists of paths, frozen -/
def pathRows (L : List (List Int)) : List (List PV) := L.map fun l => [.sl (intRows l) false]
theorem PathRows.fz {S : Store} {id : Nat} {rows : List (List PV)} {L : List (List Int)} (h : PathRows S id rows L) (d : Nat) : mapO (mapO (fzCell S (d + 2))) rows = some (pathRows L) := by
  induction h with
  | nil => rfl
  | cons h1 _ _ ih =>
    simp only [mapO, h1.fz, Option.bind_some, ih, Option.map_some]
    rfl
theorem OutV.fz {S : Store} {v : PV} {L : List (List Int)} (h : OutV S v L) : ∃ ex, fzPV1 S v = some (.sl (pathRows L) ex) ∧ (ex = true → L = []) := by
  cases h with
  | nil => exact ⟨true, rfl, fun _ => rfl⟩
  | arr id rows L h hr =>
    refine ⟨false, ?_, fun h => by cases h⟩
    have e1 : rowsIn S (.msl id 0 L.length false) = some rows := by
      rw [rowsIn_msl, rowsAt_of h]
      simp only [Option.bind_some, Nat.zero_add, List.drop_zero, ← hr.length, Nat.le_refl, if_true, List.take_length]
    show ((rowsIn S (.msl id 0 L.length false)).bind fun rows => (mapO (mapO (fzCell S 7)) rows).map fun rows => PV.sl rows false) = _
    rw [e1]
    simp only [Option.bind_some, hr.fz 5, Option.map_some]
/-- What Paths and Find return. -/
def Node.pathsRes (n : Node) (sm : Bool) (part : Node) : List (List Int) × Int := if n.rootErr ≠ 0 then ([], n.rootErr) else (walkL (wanted sm part) n [], 0)
/-- A list of paths as it is returned: perhaps nothing. -/
def IsPaths (v : PV) (L : List (List Int)) : Prop := ∃ ex, v = .sl (pathRows L) ex ∧ (ex = true → L = [])
theorem call49 (n : Node) (hn : n.ok) (hc : n.count ≤ 1048576) : ∃ v, IsPaths v (n.pathsRes false n).1 ∧ callL Try.prog hints 49 [.agg n.cells] = some (.tup [v, .int .i64 (n.pathsRes false n).2]) := by
  have h1 := fun S => callN S (call75 n hn (by omega))
  unfold Node.pathsRes
  by_cases h3 : n.rootErr = 0
  · rw [if_neg (by simpa using h3)]
    have hd := depth_count n
    obtain ⟨v', S', a1, a2, a3, a4⟩ := walk76 false n hn zeroNode (.none n) n hn [] (.sl [] true) [] [.arr [n.cells] none false] (.sl [] true) .nil (.sl [] true) (by intro r hr; cases hr) (by simp; omega) (by simp; omega)
    have hcall := (show callE (F49.C 0) _ 76 _ = _ from callE_eq (b := 0) (h := F49.hint) (by rfl) a1 a3.len)
    obtain ⟨ex, z1, z2⟩ := a2.fz
    refine ⟨.sl (pathRows (walkL (wanted false n) n [])) ex, ⟨ex, rfl, z2⟩, ?_⟩
    refine F49.call (r := (.tup [v', .int .i64 0], S')) ?_ ?_
    · simp only [go_sem, ↓reduceIte, Nat.reduceEqDiff, Nat.reduceBEq, Nat.reduceAdd, Nat.reduceMul, Nat.reduceSub, Nat.reduceLT, Nat.reduceLeDiff, reduceCtorEq, Int.reduceToNat, Int.reduceLE, Int.reduceLT, Int.reduceEq, h1, h3, hcall, withV_any]
    · show (mapO (fzPV1 S') [v', .int .i64 0]).map PV.tup = _
      simp only [List.nil_append] at z1
      simp only [mapO, z1, Option.bind_some]
      rfl
  · rw [if_pos h3]
    refine ⟨.sl [] true, ⟨true, rfl, fun _ => rfl⟩, ?_⟩
    refine F49.call (r := (.tup [.sl [] true, .int .i64 n.rootErr], [.arr [n.cells] none false])) ?_ rfl
    simp only [go_sem, ↓reduceIte, Nat.reduceEqDiff, Nat.reduceBEq, Nat.reduceAdd, Nat.reduceMul, Nat.reduceSub, Nat.reduceLT, Nat.reduceLeDiff, reduceCtorEq, Int.reduceToNat, Int.reduceLE, Int.reduceLT, Int.reduceEq, h1, h3]
theorem call51 (n part : Node) (hn : n.ok) (hp : part.ok) (hc : n.count ≤ 1048576) : ∃ v, IsPaths v (n.pathsRes true part).1 ∧ callL Try.prog hints 51 [.agg n.cells, .agg part.cells] = some (.tup [v, .int .i64 (n.pathsRes true part).2]) := by
  have h1 := fun S => callN S (call75 n hn (by omega))
  unfold Node.pathsRes
  by_cases h3 : n.rootErr = 0
  · rw [if_neg (by simpa using h3)]
    have hd := depth_count n
    obtain ⟨v', S', a1, a2, a3, a4⟩ := walk76 true part hp part.cells (.node true part) n hn [] (.sl [] true) [] [.arr [n.cells] none false, .arr [part.cells] none false] (.sl [] true) .nil (.sl [] true) (by intro r hr; cases hr) (by simp; omega) (by simp; omega)
    have hcall := (show callE (F51.C 0) _ 76 _ = _ from callE_eq (b := 0) (h := F51.hint) (by rfl) a1 a3.len)
    obtain ⟨ex, z1, z2⟩ := a2.fz
    refine ⟨.sl (pathRows (walkL (wanted true part) n [])) ex, ⟨ex, rfl, z2⟩, ?_⟩
    refine F51.call (r := (.tup [v', .int .i64 0], S')) ?_ ?_
    · simp only [go_sem, ↓reduceIte, Nat.reduceEqDiff, Nat.reduceBEq, Nat.reduceAdd, Nat.reduceMul, Nat.reduceSub, Nat.reduceLT, Nat.reduceLeDiff, reduceCtorEq, Int.reduceToNat, Int.reduceLE, Int.reduceLT, Int.reduceEq, h1, h3, hcall, withV_any]
    · show (mapO (fzPV1 S') [v', .int .i64 0]).map PV.tup = _
      simp only [List.nil_append] at z1
      simp only [mapO, z1, Option.bind_some]
      rfl
  · rw [if_pos h3]
    refine ⟨.sl [] true, ⟨true, rfl, fun _ => rfl⟩, ?_⟩
    refine F51.call (r := (.tup [.sl [] true, .int .i64 n.rootErr], [.arr [n.cells] none false, .arr [part.cells] none false])) ?_ rfl
    simp only [go_sem, ↓reduceIte, Nat.reduceEqDiff, Nat.reduceBEq, Nat.reduceAdd, Nat.reduceMul, Nat.reduceSub, Nat.reduceLT, Nat.reduceLeDiff, reduceCtorEq, Int.reduceToNat, Int.reduceLE, Int.reduceLT, Int.reduceEq, h1, h3]
end Go.Vs
end
