/- tree.Paths, Find: what they return. -/

import Derived.Test.YtnddhkcciphhkaaMQ26
section
set_option linter.unusedVariables false
set_option linter.unusedSimpArgs false
namespace Go.Vs
open Go Go.Proofs
def P93 (f : FuncId) (caps : List PV) (P : List (Nat × List (List PV))) (tb wb : Nat) : List (Nat × List (List PV)) := P ++ [(tb, [[.fn f [] caps]]), (wb, [[.fn 93 [] [.mp tb 0 0, .mp wb 0 0]]])]
def Walk93 (f : FuncId) (caps : List PV) (P : List (Nat × List (List PV))) (tb wb ob : Nat) (c : Node → Bool) (n : Node) : Prop := ∀ (path : List Int) (v : PV) (L : List (List Int)) (S : Store) (pv : PV), Fixed (P93 f caps P tb wb) S.length ob v.refs S → S[ob]? = some (.arr [[v]] none false) → OutV S v L → Ints S pv path → (∀ r ∈ pv.refs, r ∉ v.refs ∧ r ≠ ob) → ob ∉ v.refs → path.length + n.depth ≤ 1500000 → L.length + n.count ≤ 2000000 →
  ∃ v' S', callRL Try.prog hints 93 [.agg n.cells, pv, .mp tb 0 0, .mp wb 0 0] S = some (.bool true, S') ∧ S'[ob]? = some (.arr [[v']] none false) ∧ OutV S' v' (L ++ walkL c n path) ∧ Keep S.length (ob :: v.refs) v.refs S S' ∧ (∀ r ∈ v'.refs, r ∈ v.refs ∨ S.length ≤ r)
theorem Ints.cut {S : Store} {pv : PV} {l : List Int} (h : Ints S pv l) : ∃ pv', sliceO Try.prog 22 S pv none (some (.int .i64 l.length)) (some (.int .i64 l.length)) = some pv' ∧ Ints S pv' l ∧ exact pv' = true ∧ pv'.refs = pv.refs := by
  have e1 : elemTy (tyi Try.prog 22) = 3 := by simp [elemTy, d22]
  cases h with
  | sl l ex =>
    refine ⟨.sl (intRows l) true, ?_, .sl l true, rfl, rfl⟩
    have e7 : (intRows l).take l.length = intRows l := by rw [← intRows_length l, List.take_length]
    simp [sliceO, e1, known3, size3, evSlice, d22, bound, intRows_ok, intRows_length, e7]
  | msl id l ex g f h =>
    refine ⟨.msl id 0 l.length true, ?_, .msl id l true g f h, rfl, rfl⟩
    simp [sliceO, e1, known3, size3, evSlice, d22, bound, intRows_ok, intRows_length, rowsAt_of h]
/-- One int more, behind a fresh copy. -/
theorem appendOne {b : Nat} {S : Store} {pv : PV} {path : List Int} {e : Nat} {i : Int} (hp : Ints S pv path) (hx : exact pv = true) (he : S[e]? = some (.arr [[.int .i64 i]] (some (some 1)) false)) (hl : path.length ≤ 2000000) :
    appendE Try.prog b 22 22 S pv (.msl e 0 1 true) = some { v := .msl S.length 0 (path.length + 1) false, S := S ++ [.arr (intRows (path ++ [i])) (some (some 1)) false] } := by
  have e1 : zeroOK (tyi Try.prog 3) = true := by kernel_rfl
  have e2 : (tyi Try.prog 3).bytes = 8 := by kernel_rfl
  have e3 : rowsIn S (.msl e 0 1 true) = some [[.int .i64 i]] := by rw [rowsIn_msl, rowsAt_of he]; rfl
  have e4 : evAppendNew 8 1 S S.length pv (.msl e 0 1 true) = some { v := .msl S.length 0 (path.length + 1) false, new := some (intRows (path ++ [i]), some (some 1)) } := by
    simp only [evAppendNew, hx, if_true, e3, hp.rowsIn, Option.bind_some]
    rw [if_pos ⟨intRows_ok path, rfl, by rw [intRows_length]; simp only [List.length_cons, List.length_nil]; omega, by rw [intRows_length]; simp only [List.length_cons, List.length_nil]; omega⟩, if_neg (by simp)]
    simp only [intRows_length, List.length_cons, List.length_nil, Nat.zero_add, intRows_append]
    rfl
  simp only [appendE, hx, if_true, appendN, d22, e1, e2, size3, e4, Option.map_some, place]
theorem loop93 (f : FuncId) (caps : List PV) (P : List (Nat × List (List PV))) (tb wb ob : Nat) (c : Node → Bool) (n : Node) (hn : n.ok) (path : List Int) (ih : ∀ k ∈ n.kids, Walk93 f caps P tb wb ob c k) (b n0 : Nat) (pv : PV) (hpl : path.length + n.depth ≤ 1500000) (hob0 : ob < n0) (hpv : ∀ r ∈ pv.refs, r < n0) :
    ∀ (m i : Nat), i + m = n.kids.length → ∀ (v : PV) (L : List (List Int)) (S : Store), n0 ≤ S.length → Fixed (P93 f caps P tb wb) n0 ob v.refs S → S[ob]? = some (.arr [[v]] none false) → OutV S v L → Ints S pv path → (∀ r ∈ pv.refs, r ∉ v.refs ∧ r ≠ ob) → ob ∉ v.refs → L.length + Node.counts (n.kids.drop i) ≤ 2000000 →
      ∃ v' S', F93.L0 b n0 pv (.mp wb 0 0) (.sl (Node.rows n.kids) false) (.int .i64 n.kids.length) (.int .i64 i) S = some (.bool true, S') ∧ S'[ob]? = some (.arr [[v']] none false) ∧ OutV S' v' (L ++ walksL c (n.kids.drop i) path i) ∧ Keep n0 (ob :: v.refs) v.refs S S' ∧ (∀ r ∈ v'.refs, r ∈ v.refs ∨ n0 ≤ r) := by
  intro m
  induction m with
  | zero =>
    intro i hi v L S hS hF hbox hO hp hd hob hL
    have h1 : ¬ (i : Int) < (n.kids.length : Int) := by omega
    have hg := gc_at (e := F93.ee4 .undef .undef .undef .undef .undef .undef) hS
    refine ⟨v, Vs.gc n0 (F93.ee4 .undef .undef .undef .undef .undef .undef) S, F93.L0_step ?_, by rw [hg.2 ob hob0]; exact hbox, ?_, .same hg.1 hg.2, fun r hr => .inl hr⟩
    · simp only [go_sem, ↓reduceIte, Nat.reduceEqDiff, Nat.reduceBEq, Nat.reduceAdd, Nat.reduceMul, Nat.reduceSub, Nat.reduceLT, Nat.reduceLeDiff, reduceCtorEq, Int.reduceToNat, Int.reduceLE, Int.reduceLT, Int.reduceEq, withV_any, h1]
    · rw [List.drop_of_length_le (by omega)]
      simp only [walksL, List.append_nil]
      exact hO.gcBox hbox hob0
  | succ m hm =>
    intro i hi v L S hS hF hbox hO hp hd hob hL
    have h1 : (i : Int) < (n.kids.length : Int) := by omega
    have h2 := wrap_succ (i := i) (n := n.kids.length) (by omega) hn.len
    have h4 : 0 ≤ (i : Int) ∧ (i : Int) < (n.kids.length : Int) := ⟨by omega, h1⟩
    have hmem := kids_mem (l := n.kids) (i := i) (by omega)
    have hkd : (n.kids.getD i default).depth ≤ Node.depths n.kids := depths_get (by omega)
    have hnd := n.depth_eq
    have hcd : Node.counts (n.kids.drop i) = (n.kids.getD i default).count + Node.counts (n.kids.drop (i + 1)) := by rw [kids_drop (l := n.kids) (i := i) (by omega)]; rfl
    have hpr := hp.refs_lt
    have hvl := hO.lt
    obtain ⟨w1, w2, w3, w4, w5⟩ := hF (wb, [[.fn 93 [] [.mp tb 0 0, .mp wb 0 0]]]) (by simp [P93])
    simp only at w1 w2 w3 w4 w5
    -- the stores
    have hp1 : ∀ U, Ints (S ++ U) pv path := fun U => hp.same fun r hr => by rw [List.getElem?_append_left (hpr r hr)]
    have hlen := (hp1 [.arr [(n.kids.getD i default).cells] none false]).len
    obtain ⟨pv', c1, c2, c3, c4⟩ := (hp1 [.arr [(n.kids.getD i default).cells] none false]).cut
    have c2' : Ints (S ++ [Obj.arr [(n.kids.getD i default).cells] none false, .arr [[.int .i64 i]] (some (some 1)) false]) pv' path := c2.same fun r hr => by
      have := hpr r (by rw [← c4]; exact hr)
      rw [List.getElem?_append_left (by omega), List.getElem?_append_left (by omega)]
    have ap := appendOne (b := b) (e := S.length + 1) (i := (i : Int)) c2' c3 (by rw [List.getElem?_append_right (by omega)]; simp) (by omega)
    have hl2 : (S ++ [Obj.arr [(n.kids.getD i default).cells] none false, .arr [[.int .i64 i]] (some (some 1)) false]).length = S.length + 2 := by simp
    rw [hl2] at ap
    simp only [List.append_assoc, List.cons_append, List.nil_append] at ap
    have e7 : Ints (S ++ [.arr [(n.kids.getD i default).cells] none false, .arr [[.int .i64 i]] (some (some 1)) false, .arr (intRows (path ++ [(i : Int)])) (some (some 1)) false]) (.msl (S.length + 2) 0 (path.length + 1) false) (path ++ [(i : Int)]) := by
      have := Ints.msl (S := S ++ [.arr [(n.kids.getD i default).cells] none false, .arr [[.int .i64 i]] (some (some 1)) false, .arr (intRows (path ++ [(i : Int)])) (some (some 1)) false]) (S.length + 2) (path ++ [(i : Int)]) false (some (some 1)) false (by rw [List.getElem?_append_right (by omega)]; simp)
      simpa using this
    have hl3 : (S ++ [Obj.arr [(n.kids.getD i default).cells] none false, .arr [[.int .i64 i]] (some (some 1)) false, .arr (intRows (path ++ [(i : Int)])) (some (some 1)) false]).length = S.length + 3 := by simp
    obtain ⟨v', S', a1, a0, a2, a3, a4⟩ := ih _ hmem (path ++ [(i : Int)]) v L (S ++ [.arr [(n.kids.getD i default).cells] none false, .arr [[.int .i64 i]] (some (some 1)) false, .arr (intRows (path ++ [(i : Int)])) (some (some 1)) false]) (.msl (S.length + 2) 0 (path.length + 1) false)
      (by rw [hl3]; exact (hF.same fun j hj => List.getElem?_append_left (by omega)).mono (by omega)) (by rw [List.getElem?_append_left (by omega)]; exact hbox) (hO.ext _) e7
      (by intro r hr; simp only [PV.refs, List.mem_singleton] at hr; subst hr; exact ⟨fun hx => by have := hvl _ hx; omega, by omega⟩) hob (by simp only [List.length_append, List.length_cons, List.length_nil]; omega) (by omega)
    rw [hl3] at a3 a4
    have hc := (show callE (F93.C b) _ 93 _ = _ from callE_eq (b := b) (h := F93.hint) (by rfl) a1 (by rw [hl3]; exact a3.len))
    have keepS : Keep n0 (ob :: v.refs) v.refs S S' := Keep.trans (.same (by simp; omega) fun j hj => List.getElem?_append_left (by omega)) a3 (by omega) (fun r h => .inl h) (fun r h => .inl h)
    have hg := gc_at (e := F93.ee3 pv (.mp wb 0 0) (.sl (Node.rows n.kids) false) (.int .i64 n.kids.length) (.int .i64 ((i + 1 : Nat) : Int))) (show n0 ≤ S'.length from keepS.len)
    have nv : ∀ r, r < n0 → r ∉ v.refs → r ∉ v'.refs := fun r hr hv hx => by
      rcases a4 r hx with h | h
      · exact hv h
      · omega
    have gF : Fixed (P93 f caps P tb wb) n0 ob v'.refs (Vs.gc n0 (F93.ee3 pv (.mp wb 0 0) (.sl (Node.rows n.kids) false) (.int .i64 n.kids.length) (.int .i64 ((i + 1 : Nat) : Int))) S') := (hF.keep keepS fun r hr => by rcases a4 r hr with h | h; exact .inl h; exact .inr (by omega)).same hg.2
    have gp : Ints (Vs.gc n0 (F93.ee3 pv (.mp wb 0 0) (.sl (Node.rows n.kids) false) (.int .i64 n.kids.length) (.int .i64 ((i + 1 : Nat) : Int))) S') pv path := (hp.keep keepS fun r hr => ⟨hpv r hr, by simp [(hd r hr).1, (hd r hr).2]⟩).same fun r hr => hg.2 r (hpv r hr)
    obtain ⟨v2, S2, b1, b0, b2, b3, b4⟩ := hm (i + 1) (by omega) v' (L ++ walkL c (n.kids.getD i default) (path ++ [(i : Int)])) _ hg.1 gF (by rw [hg.2 ob hob0]; exact a0) (a2.gcBox a0 hob0) gp (fun r hr => ⟨nv r (hpv r hr) (hd r hr).1, (hd r hr).2⟩) (nv ob hob0 hob)
      (by have := walkL_length c (n.kids.getD i default) (path ++ [(i : Int)]); rw [List.length_append]; omega)
    refine ⟨v2, S2, F93.L0_step ?_, b0, ?_, ?_, fun r hr => ?_⟩
    · have t1 : ∀ K : KT, execL (F93.C b) 0 F93.c21 K (F93.ee3 pv (.mp wb 0 0) (.sl (Node.rows n.kids) false) (.int .i64 n.kids.length) (.int .i64 i)) S = K .normal (F93.ee4 pv (.mp wb 0 0) (.sl (Node.rows n.kids) false) (.int .i64 n.kids.length) (.int .i64 i) (.bool true)) S := fun K => by
        simp only [go_sem, ↓reduceIte, Nat.reduceEqDiff, Nat.reduceBEq, Nat.reduceAdd, Nat.reduceMul, Nat.reduceSub, Nat.reduceLT, Nat.reduceLeDiff, reduceCtorEq, Int.reduceToNat, Int.reduceLE, Int.reduceLT, Int.reduceEq, withV_any, h1]
      have t2 : ∀ K : KT, execL (F93.C b) 1 F93.c32 K (F93.ee4 pv (.mp wb 0 0) (.sl (Node.rows n.kids) false) (.int .i64 n.kids.length) (.int .i64 i) (.bool true)) S = K .normal (F93.ee2 pv (.mp wb 0 0) (.int .i64 i) (.mp S.length 0 0) (.sl (Node.rows n.kids) false) (.int .i64 n.kids.length) (.int .i64 i)) (S ++ [.arr [(n.kids.getD i default).cells] none false]) := fun K => by
        simp only [go_sem, ↓reduceIte, Nat.reduceEqDiff, Nat.reduceBEq, Nat.reduceAdd, Nat.reduceMul, Nat.reduceSub, Nat.reduceLT, Nat.reduceLeDiff, reduceCtorEq, Int.reduceToNat, Int.reduceLE, Int.reduceLT, Int.reduceEq, withV_any, h4]
      have rw1 : rowsAt (S ++ [Obj.arr [(n.kids.getD i default).cells] none false]) wb = some [[.fn 93 [] [.mp tb 0 0, .mp wb 0 0]]] := rowsAt_of (by rw [List.getElem?_append_left (by omega)]; exact w4)
      have t3 : ∀ K : KT, execL (F93.C b) 1 F93.c34 K (F93.ee2 pv (.mp wb 0 0) (.int .i64 i) (.mp S.length 0 0) (.sl (Node.rows n.kids) false) (.int .i64 n.kids.length) (.int .i64 i)) (S ++ [.arr [(n.kids.getD i default).cells] none false]) = K .normal (F93.ee5 pv (.mp wb 0 0) (.sl (Node.rows n.kids) false) (.int .i64 n.kids.length) (.int .i64 i) (.bool false)) S' := fun K => by
        simp only [go_sem, ↓reduceIte, Nat.reduceEqDiff, Nat.reduceBEq, Nat.reduceAdd, Nat.reduceMul, Nat.reduceSub, Nat.reduceLT, Nat.reduceLeDiff, reduceCtorEq, Int.reduceToNat, Int.reduceLE, Int.reduceLT, Int.reduceEq, withV_any, rw1, hlen, c1, ap, hc]
      have t4 : ∀ K : KT, execL (F93.C b) 0 F93.c26 K (F93.ee5 pv (.mp wb 0 0) (.sl (Node.rows n.kids) false) (.int .i64 n.kids.length) (.int .i64 i) (.bool false)) S' = K .normal (F93.ee3 pv (.mp wb 0 0) (.sl (Node.rows n.kids) false) (.int .i64 n.kids.length) (.int .i64 ((i + 1 : Nat) : Int))) S' := fun K => by
        simp only [go_sem, ↓reduceIte, Nat.reduceEqDiff, Nat.reduceBEq, Nat.reduceAdd, Nat.reduceMul, Nat.reduceSub, Nat.reduceLT, Nat.reduceLeDiff, reduceCtorEq, Int.reduceToNat, Int.reduceLE, Int.reduceLT, Int.reduceEq, withV_any, h2]
      simp only [F93.B0_eq, t1, F93.k47_n, condC_true, F93.k29_n, t2, F93.k44_n, t3, F93.k36_n, condC_false, F93.k31_n, F93.k27_n, t4, F93.k20_n]
      exact b1
    · rw [walksL_drop _ (by omega), ← List.append_assoc]
      exact b2
    · refine (keepS.trans (.same hg.1 hg.2) (Nat.le_refl _) (fun r h => .inl h) (fun r h => .inl h)).trans b3 (Nat.le_refl _) (fun r h => ?_) (fun r h => by rcases a4 r h with h | h; exact .inl h; exact .inr (by omega))
      rcases List.mem_cons.1 h with h | h
      · exact .inl (by simp [h])
      · rcases a4 r h with h | h
        · exact .inl (by simp [h])
        · exact .inr (by omega)
    · rcases b4 r hr with h | h
      · rcases a4 r h with h | h
        · exact .inl h
        · exact .inr (by omega)
      · exact .inr h
theorem walk93 (f : FuncId) (caps : List PV) (P : List (Nat × List (List PV))) (tb wb ob : Nat) (c : Node → Bool) (hrf : hints.refs f = true) (hy : Yields f caps P ob c) : ∀ n : Node, n.ok → Walk93 f caps P tb wb ob c n := by
  refine Node.ind' fun n ih hn path v L S pv hF hbox hO hp hd hob hpl hL => ?_
  have hk := fun k hk => ih k hk (hn.kids k hk)
  have hcount := n.count_eq
  have hv := hO.lt
  have hpr := hp.refs_lt
  have hobl := (List.getElem?_eq_some_iff.1 hbox).1
  obtain ⟨t1, t2, t3, t4, t5⟩ := hF (tb, [[.fn f [] caps]]) (by simp [P93])
  simp only at t1 t2 t3 t4 t5
  have hl1 : (S ++ [Obj.arr [n.cells] none false]).length = S.length + 1 := by simp
  have hF1 : Fixed (P93 f caps P tb wb) (S.length + 1) ob v.refs (S ++ [.arr [n.cells] none false]) := (hF.same fun j hj => List.getElem?_append_left hj).mono (by omega)
  have hp1 : Ints (S ++ [.arr [n.cells] none false]) pv path := hp.same fun r hr => by rw [List.getElem?_append_left (hpr r hr)]
  obtain ⟨v1, S1, a1, a0, a2, a3, a4⟩ := hy n hn path v L (S ++ [.arr [n.cells] none false]) pv (by rw [hl1]; exact hF1.sub fun q hq => by simp [P93, hq]) (by rw [List.getElem?_append_left hobl]; exact hbox) (hO.ext _) hp1 hd hob (by omega) (by omega)
  rw [hl1] at a3 a4
  have hc := (show callE (F93.C S.length) _ f _ = _ from callE_eq (b := S.length) (h := F93.hint) hrf a1 (by rw [hl1]; exact a3.len))
  have hb4 : S1[S.length]? = some (.arr [n.cells] none false) := a3.keeps S.length (by omega) (by simp only [List.mem_cons, not_or]; exact ⟨by omega, fun hx => by have := hv _ hx; omega⟩) _ _ _ (by simp) (fun r hr => by simp only [rowsRefs_cons, Node.refs] at hr; cases hr)
  have r4 := rowsAt_of hb4
  have nv : ∀ r, r < S.length + 1 → r ∉ v.refs → r ∉ v1.refs := fun r hr hv hx => by
    rcases a4 r hx with h | h
    · exact hv h
    · omega
  have hl3 := a3.len
  obtain ⟨v2, S2, b1, b0, b2, b3, b4⟩ := loop93 f caps P tb wb ob c n hn path hk S.length S1.length pv (by omega) (by omega) (fun r hr => by have := hpr r hr; omega)
    n.kids.length 0 (by omega) v1 (L ++ if c n = true then [path] else []) S1 (Nat.le_refl _) ((hF1.keep a3 a4).mono hl3) a0 a2
    (hp1.keep a3 fun r hr => ⟨by have := hpr r hr; omega, by simp [(hd r hr).1, (hd r hr).2]⟩) (fun r hr => ⟨nv r (by have := hpr r hr; omega) (hd r hr).1, (hd r hr).2⟩) (nv ob (by omega) hob)
    (by simp only [List.drop_zero, List.length_append]; split <;> simp <;> omega)
  simp only [Int.natCast_zero, List.drop_zero] at b1 b2
  refine ⟨v2, S2, F93.callR ?_, b0, ?_, ?_, fun r hr => ?_⟩
  · have rt : rowsAt (S ++ [Obj.arr [n.cells] none false]) tb = some [[.fn f [] caps]] := rowsAt_of (by rw [List.getElem?_append_left t1]; exact t4)
    have s0 : ∀ K : KT, execL (F93.C S.length) 0 F93.c1 K [(0, .agg n.cells), (1, pv), (2, .mp tb 0 0), (3, .mp wb 0 0)] S = K .normal (F93.ee0 pv (.mp tb 0 0) (.mp wb 0 0) (.mp S.length 0 0)) (S ++ [.arr [n.cells] none false]) := fun K => by
      simp only [go_sem, ↓reduceIte, Nat.reduceEqDiff, Nat.reduceBEq, Nat.reduceAdd, Nat.reduceMul, Nat.reduceSub, Nat.reduceLT, Nat.reduceLeDiff, reduceCtorEq, Int.reduceToNat, Int.reduceLE, Int.reduceLT, Int.reduceEq, withV_any]
    have s1 : ∀ K : KT, execL (F93.C S.length) 0 F93.c54 K (F93.ee0 pv (.mp tb 0 0) (.mp wb 0 0) (.mp S.length 0 0)) (S ++ [.arr [n.cells] none false]) = K .normal (F93.ee1 pv (.mp wb 0 0) (.mp S.length 0 0) (.bool false)) S1 := fun K => by
      simp only [go_sem, ↓reduceIte, Nat.reduceEqDiff, Nat.reduceBEq, Nat.reduceAdd, Nat.reduceMul, Nat.reduceSub, Nat.reduceLT, Nat.reduceLeDiff, reduceCtorEq, Int.reduceToNat, Int.reduceLE, Int.reduceLT, Int.reduceEq, withV_any, rt, hc]
    have s2 : ∀ K : KT, execL (F93.C S.length) 0 F93.c13 K (F93.ee1 pv (.mp wb 0 0) (.mp S.length 0 0) (.bool false)) S1 = K .normal (F93.ee3 pv (.mp wb 0 0) (.sl (Node.rows n.kids) false) (.int .i64 n.kids.length) (.int .i64 0)) S1 := fun K => by
      simp only [go_sem, ↓reduceIte, Nat.reduceEqDiff, Nat.reduceBEq, Nat.reduceAdd, Nat.reduceMul, Nat.reduceSub, Nat.reduceLT, Nat.reduceLeDiff, reduceCtorEq, Int.reduceToNat, Int.reduceLE, Int.reduceLT, Int.reduceEq, withV_any, r4]
    simp only [F93.E_eq, s0, F93.k53_n, s1, F93.k56_n, condC_false, F93.k12_n, s2, F93.k15_n]
    exact b1
  · rw [walkL_eq, ← List.append_assoc]
    exact b2
  · refine Keep.trans (.same (by simp) fun j hj => List.getElem?_append_left hj) (a3.trans b3 hl3 (fun r h => ?_) (fun r h => by rcases a4 r h with h | h; exact .inl h; exact .inr h)) (by omega) (fun r h => .inl h) (fun r h => .inl h)
    rcases List.mem_cons.1 h with h | h
    · exact .inl (by simp [h])
    · rcases a4 r h with h | h
      · exact .inl (by simp [h])
      · exact .inr h
  · rcases b4 r hr with h | h
    · rcases a4 r h with h | h
      · exact .inl h
      · exact .inr (by omega)
    · exact .inr (by omega)
/-- all, over a store where the list's place is empty. -/
theorem call73 (f : FuncId) (caps : List PV) (P : List (Nat × List (List PV))) (ob : Nat) (c : Node → Bool) (hrf : hints.refs f = true) (hy : Yields f caps P ob c) (n : Node) (hn : n.ok) (hc : n.count ≤ 1048576) (S : Store) (hF : Fixed P S.length ob [] S) (hcr : ∀ r ∈ refsL caps, r < S.length) (hbox : S[ob]? = some (.arr [[.sl [] true]] none false)) :
    ∃ v S', callRL Try.prog hints 73 [.agg n.cells, .fn f [] caps] S = some (.bool true, S') ∧ S'[ob]? = some (.arr [[v]] none false) ∧ OutV S' v (walkL c n []) ∧ S.length ≤ S'.length := by
  have hobl := (List.getElem?_eq_some_iff.1 hbox).1
  have hdc := depth_count n
  have hl : (S ++ [Obj.arr [n.cells] none false, .arr [[.fn f [] caps]] none false, .arr [[.fn 93 [] [.mp (S.length + 1) 0 0, .mp (S.length + 2) 0 0]]] none false]).length = S.length + 3 := by simp
  have hFw : Fixed (P93 f caps P (S.length + 1) (S.length + 2)) (S.length + 3) ob [] (S ++ [.arr [n.cells] none false, .arr [[.fn f [] caps]] none false, .arr [[.fn 93 [] [.mp (S.length + 1) 0 0, .mp (S.length + 2) 0 0]]] none false]) := by
    intro q hq
    simp only [P93, List.mem_append, List.mem_cons, List.not_mem_nil, or_false] at hq
    rcases hq with hq | hq | hq
    · exact ((hF.same fun j hj => List.getElem?_append_left hj).mono (by omega)) q hq
    · subst hq
      refine ⟨by simp only; omega, by simp only; omega, by simp, by simp only; rw [List.getElem?_append_right (by omega)]; simp, fun r hr => ?_⟩
      simp only [rowsRefs_cons, rowsRefs_nil, refsL, PV.refs, List.nil_append, List.append_nil] at hr
      exact ⟨by have := hcr r hr; omega, by simp⟩
    · subst hq
      refine ⟨by simp only; omega, by simp only; omega, by simp, by simp only; rw [List.getElem?_append_right (by omega)]; simp, fun r hr => ?_⟩
      simp [rowsRefs_cons, rowsRefs_nil, refsL, PV.refs] at hr
      exact ⟨by omega, by simp⟩
  obtain ⟨v, S', a1, a0, a2, a3, a4⟩ := walk93 f caps P (S.length + 1) (S.length + 2) ob c hrf hy n hn [] (.sl [] true) [] (S ++ [.arr [n.cells] none false, .arr [[.fn f [] caps]] none false, .arr [[.fn 93 [] [.mp (S.length + 1) 0 0, .mp (S.length + 2) 0 0]]] none false]) (.sl [] true)
    (by rw [hl]; exact hFw) (by rw [List.getElem?_append_left hobl]; exact hbox) .nil (.sl [] true) (by intro r hr; cases hr) (by simp [PV.refs]) (by simp; omega) (by simp; omega)
  rw [hl] at a3
  have hcall := (show callE (F73.C S.length) _ 93 _ = _ from callE_eq (b := S.length) (h := F73.hint) (by rfl) a1 (by rw [hl]; exact a3.len))
  refine ⟨v, S', F73.callR ?_, a0, by simpa using a2, by have := a3.len; omega⟩
  have s0 : ∀ K : KT, execL (F73.C S.length) 0 F73.c1 K [(0, .agg n.cells), (1, .fn f [] caps)] S = K .normal (F73.ee0 (.mp S.length 0 0) (.mp (S.length + 1) 0 0)) (S ++ [.arr [n.cells] none false, .arr [[.fn f [] caps]] none false]) := fun K => by
    simp only [go_sem, ↓reduceIte, Nat.reduceEqDiff, Nat.reduceBEq, Nat.reduceAdd, Nat.reduceMul, Nat.reduceSub, Nat.reduceLT, Nat.reduceLeDiff, reduceCtorEq, Int.reduceToNat, Int.reduceLE, Int.reduceLT, Int.reduceEq, withV_any]
  have s1 : ∀ K : KT, execL (F73.C S.length) 0 F73.c3 K (F73.ee0 (.mp S.length 0 0) (.mp (S.length + 1) 0 0)) (S ++ [.arr [n.cells] none false, .arr [[.fn f [] caps]] none false]) = K .normal (F73.ee1 (.mp S.length 0 0) (.mp (S.length + 1) 0 0) (.mp (S.length + 2) 0 0)) (S ++ [.arr [n.cells] none false, .arr [[.fn f [] caps]] none false, .arr [[zero104]] none false]) := fun K => by
    simp only [go_sem, ↓reduceIte, Nat.reduceEqDiff, Nat.reduceBEq, Nat.reduceAdd, Nat.reduceMul, Nat.reduceSub, Nat.reduceLT, Nat.reduceLeDiff, reduceCtorEq, Int.reduceToNat, Int.reduceLE, Int.reduceLT, Int.reduceEq, withV_any]
  have s2 : ∀ K : KT, execL (F73.C S.length) 0 F73.c5 K (F73.ee1 (.mp S.length 0 0) (.mp (S.length + 1) 0 0) (.mp (S.length + 2) 0 0)) (S ++ [.arr [n.cells] none false, .arr [[.fn f [] caps]] none false, .arr [[zero104]] none false]) = K .normal (F73.ee2 (.mp S.length 0 0) (.mp (S.length + 2) 0 0)) (S ++ [.arr [n.cells] none false, .arr [[.fn f [] caps]] none false, .arr [[.fn 93 [] [.mp (S.length + 1) 0 0, .mp (S.length + 2) 0 0]]] none false]) := fun K => by
    simp only [go_sem, ↓reduceIte, Nat.reduceEqDiff, Nat.reduceBEq, Nat.reduceAdd, Nat.reduceMul, Nat.reduceSub, Nat.reduceLT, Nat.reduceLeDiff, reduceCtorEq, Int.reduceToNat, Int.reduceLE, Int.reduceLT, Int.reduceEq, withV_any]
  have s3 : ∀ K : KT, execL (F73.C S.length) 0 F73.c7 K (F73.ee2 (.mp S.length 0 0) (.mp (S.length + 2) 0 0)) (S ++ [.arr [n.cells] none false, .arr [[.fn f [] caps]] none false, .arr [[.fn 93 [] [.mp (S.length + 1) 0 0, .mp (S.length + 2) 0 0]]] none false]) = K .normal (F73.ee3 (.bool true)) S' := fun K => by
    simp only [go_sem, ↓reduceIte, Nat.reduceEqDiff, Nat.reduceBEq, Nat.reduceAdd, Nat.reduceMul, Nat.reduceSub, Nat.reduceLT, Nat.reduceLeDiff, reduceCtorEq, Int.reduceToNat, Int.reduceLE, Int.reduceLT, Int.reduceEq, withV_any, hcall]
  simp only [F73.E_eq, s0, F73.k14_n, s1, F73.k12_n, s2, F73.k10_n, s3, F73.k9_n, F73.k0_ret3]
theorem call48 (n : Node) (hn : n.ok) (hc : n.count ≤ 1048576) : ∃ v, IsPaths v (n.pathsRes false n).1 ∧ callL Try.prog hints 48 [.agg n.cells] = some (.tup [v, .int .i64 (n.pathsRes false n).2]) := by
  have h1 := fun S => callN S (call72 n hn)
  unfold Node.pathsRes
  by_cases h3 : n.rootErr = 0
  · rw [if_neg (by simpa using h3)]
    obtain ⟨v', S', a1, a0, a2, a3⟩ := call73 74 [.mp 1 0 0] [] 1 (wanted false n) (by rfl) (yields74 n 1) n hn hc [.arr [n.cells] none false, .arr [[.sl [] true]] none false] (by intro q hq; cases hq) (by intro r hr; simp [refsL, PV.refs] at hr; simp only [List.length_cons, List.length_nil]; omega) rfl
    have hcall := (show callE (F48.C 0) _ 73 _ = _ from callE_eq (b := 0) (h := F48.hint) (by rfl) a1 a3)
    obtain ⟨ex, z1, z2⟩ := a2.fz
    have r1 := rowsAt_of a0
    refine ⟨.sl (pathRows (walkL (wanted false n) n [])) ex, ⟨ex, rfl, z2⟩, ?_⟩
    refine F48.call (r := (.tup [v', .int .i64 0], S')) ?_ ?_
    · simp only [go_sem, ↓reduceIte, Nat.reduceEqDiff, Nat.reduceBEq, Nat.reduceAdd, Nat.reduceMul, Nat.reduceSub, Nat.reduceLT, Nat.reduceLeDiff, reduceCtorEq, Int.reduceToNat, Int.reduceLE, Int.reduceLT, Int.reduceEq, h1, h3, hcall, withV_any, r1]
    · show (mapO (fzPV1 S') [v', .int .i64 0]).map PV.tup = _
      simp only [mapO, z1, Option.bind_some]
      rfl
  · rw [if_pos h3]
    refine ⟨.sl [] true, ⟨true, rfl, fun _ => rfl⟩, ?_⟩
    refine F48.call (r := (.tup [.sl [] true, .int .i64 n.rootErr], [.arr [n.cells] none false])) ?_ rfl
    simp only [go_sem, ↓reduceIte, Nat.reduceEqDiff, Nat.reduceBEq, Nat.reduceAdd, Nat.reduceMul, Nat.reduceSub, Nat.reduceLT, Nat.reduceLeDiff, reduceCtorEq, Int.reduceToNat, Int.reduceLE, Int.reduceLT, Int.reduceEq, h1, h3]
theorem call50 (n part : Node) (hn : n.ok) (hp : part.ok) (hc : n.count ≤ 1048576) : ∃ v, IsPaths v (n.pathsRes true part).1 ∧ callL Try.prog hints 50 [.agg n.cells, .agg part.cells] = some (.tup [v, .int .i64 (n.pathsRes true part).2]) := by
  have h1 := fun S => callN S (call72 n hn)
  unfold Node.pathsRes
  by_cases h3 : n.rootErr = 0
  · rw [if_neg (by simpa using h3)]
    obtain ⟨v', S', a1, a0, a2, a3⟩ := call73 77 [.mp 1 0 0, .mp 2 0 0] [(1, [part.cells])] 2 (wanted true part) (by rfl) (yields77 part hp 1 2) n hn hc [.arr [n.cells] none false, .arr [part.cells] none false, .arr [[.sl [] true]] none false]
      (by intro q hq; simp only [List.mem_singleton] at hq; subst hq; exact ⟨by simp, by simp, by simp, rfl, fun r hr => by simp only [rowsRefs_cons, Node.refs] at hr; cases hr⟩) (by intro r hr; simp [refsL, PV.refs] at hr; simp only [List.length_cons, List.length_nil]; omega) rfl
    have hcall := (show callE (F50.C 0) _ 73 _ = _ from callE_eq (b := 0) (h := F50.hint) (by rfl) a1 a3)
    obtain ⟨ex, z1, z2⟩ := a2.fz
    have r1 := rowsAt_of a0
    refine ⟨.sl (pathRows (walkL (wanted true part) n [])) ex, ⟨ex, rfl, z2⟩, ?_⟩
    refine F50.call (r := (.tup [v', .int .i64 0], S')) ?_ ?_
    · simp only [go_sem, ↓reduceIte, Nat.reduceEqDiff, Nat.reduceBEq, Nat.reduceAdd, Nat.reduceMul, Nat.reduceSub, Nat.reduceLT, Nat.reduceLeDiff, reduceCtorEq, Int.reduceToNat, Int.reduceLE, Int.reduceLT, Int.reduceEq, h1, h3, hcall, withV_any, r1]
    · show (mapO (fzPV1 S') [v', .int .i64 0]).map PV.tup = _
      simp only [mapO, z1, Option.bind_some]
      rfl
  · rw [if_pos h3]
    refine ⟨.sl [] true, ⟨true, rfl, fun _ => rfl⟩, ?_⟩
    refine F50.call (r := (.tup [.sl [] true, .int .i64 n.rootErr], [.arr [n.cells] none false, .arr [part.cells] none false])) ?_ rfl
    simp only [go_sem, ↓reduceIte, Nat.reduceEqDiff, Nat.reduceBEq, Nat.reduceAdd, Nat.reduceMul, Nat.reduceSub, Nat.reduceLT, Nat.reduceLeDiff, reduceCtorEq, Int.reduceToNat, Int.reduceLE, Int.reduceLT, Int.reduceEq, h1, h3]
end Go.Vs
end
/- TreePaths gives true for all arguments of bulk at most 1048576. -/
section
set_option linter.unusedVariables false
set_option linter.unusedSimpArgs false
namespace Go.Vs
open Go Go.Proofs
theorem loop59 (l : List Int) (hl : l.length ≤ maxLen) : ∀ (m i : Nat), i + m = l.length → F59.L0 0 0 (.sl (intRows l) false) (.sl (intRows l) false) (.int .i64 i) [] = some (.bool true, []) := by
  intro m
  induction m with
  | zero =>
    intro i hi
    have h1 : ¬ (i : Int) < (l.length : Int) := by omega
    apply F59.L0_step
    simp only [go_sem, ↓reduceIte, Nat.reduceEqDiff, Nat.reduceBEq, Nat.reduceAdd, Nat.reduceMul, Nat.reduceSub, Nat.reduceLT, Nat.reduceLeDiff, reduceCtorEq, Int.reduceToNat, Int.reduceLE, Int.reduceLT, Int.reduceEq, h1]
  | succ m hm =>
    intro i hi
    have h1 : (i : Int) < (l.length : Int) := by omega
    have h2 := wrap_succ (i := i) (n := l.length) (by omega) hl
    have h4 : 0 ≤ (i : Int) ∧ (i : Int) < (l.length : Int) := ⟨by omega, h1⟩
    apply F59.L0_step
    simp only [go_sem, ↓reduceIte, Nat.reduceEqDiff, Nat.reduceBEq, Nat.reduceAdd, Nat.reduceMul, Nat.reduceSub, Nat.reduceLT, Nat.reduceLeDiff, reduceCtorEq, Int.reduceToNat, Int.reduceLE, Int.reduceLT, Int.reduceEq, h1, h2, h4, hm (i + 1) (by omega)]
theorem call59 (l : List Int) (hl : l.length ≤ maxLen) : callL Try.prog hints 59 [.sl (intRows l) false, .sl (intRows l) false] = some (.bool true) := by
  refine F59.call (r := (.bool true, [])) ?_ rfl
  have h := loop59 l hl l.length 0 (by omega)
  simp only [Int.natCast_zero] at h
  simp only [go_sem, ↓reduceIte, Nat.reduceEqDiff, Nat.reduceBEq, Nat.reduceAdd, Nat.reduceMul, Nat.reduceSub, Nat.reduceLT, Nat.reduceLeDiff, reduceCtorEq, Int.reduceToNat, Int.reduceLE, Int.reduceLT, Int.reduceEq, h]
@[go_sem] theorem pathRows_length (L : List (List Int)) : (pathRows L).length = L.length := nr (by simp [pathRows])
@[go_sem] theorem idx23 (S : Store) (L : List (List Int)) (ex : Bool) (i : Int) : indexAddrO Try.prog 23 S (.sl (pathRows L) ex) (.int .i64 i) = if 0 ≤ i ∧ i < L.length then some (.cp [.sl (intRows (L.getD i.toNat [])) false]) else none := by
  have e1 : elemTy (tyi Try.prog 23) = 22 := by simp [elemTy, d23]
  have e2 : isSlice (tyi Try.prog 23) = true := by simp [isSlice, d23]
  simp only [indexAddrO, e1, e2, known22, size22, and_self, if_true, evIndexAddr, pathRows_length]
  split
  · rename_i h
    have hl : i.toNat < L.length := by omega
    have e3 : (pathRows L).getD i.toNat [] = [.sl (intRows (L.getD i.toNat [])) false] := by
      simp [pathRows, List.getD_eq_getElem?_getD, hl]
    rw [e3]
    rfl
  · rfl
theorem IsPaths.plain {v : PV} {L : List (List Int)} (h : IsPaths v L) : Plain v := by
  obtain ⟨ex, rfl, h2⟩ := h
  cases ex with
  | false => exact .sl _
  | true => rw [h2 rfl]; exact .nil
theorem loop33 (L : List (List Int)) (e1 e2 : Bool) (hL : L.length ≤ maxLen) (hl : ∀ l ∈ L, l.length ≤ maxLen) : ∀ (m i : Nat), i + m = L.length → F33.L0 0 0 (.sl (pathRows L) e1) (.sl (pathRows L) e2) (.int .i64 i) [] = some (.bool true, []) := by
  intro m
  induction m with
  | zero =>
    intro i hi
    have h1 : ¬ (i : Int) < (L.length : Int) := by omega
    apply F33.L0_step
    simp only [go_sem, ↓reduceIte, Nat.reduceEqDiff, Nat.reduceBEq, Nat.reduceAdd, Nat.reduceMul, Nat.reduceSub, Nat.reduceLT, Nat.reduceLeDiff, reduceCtorEq, Int.reduceToNat, Int.reduceLE, Int.reduceLT, Int.reduceEq, withV_any, h1]
  | succ m hm =>
    intro i hi
    have h1 : (i : Int) < (L.length : Int) := by omega
    have h2 := wrap_succ (i := i) (n := L.length) (by omega) hL
    have h4 : 0 ≤ (i : Int) ∧ (i : Int) < (L.length : Int) := ⟨by omega, h1⟩
    have h5 := fun S => callO_plain (S := S) (call59 (L.getD i []) (hl _ (by simp [List.getD_eq_getElem?_getD, show i < L.length by omega]))) (by simp [Plain.sl])
    apply F33.L0_step
    simp only [go_sem, ↓reduceIte, Nat.reduceEqDiff, Nat.reduceBEq, Nat.reduceAdd, Nat.reduceMul, Nat.reduceSub, Nat.reduceLT, Nat.reduceLeDiff, reduceCtorEq, Int.reduceToNat, Int.reduceLE, Int.reduceLT, Int.reduceEq, h1, h2, h4, h5, hm (i + 1) (by omega)]
theorem call33 {v w : PV} {L : List (List Int)} (hv : IsPaths v L) (hw : IsPaths w L) (hL : L.length ≤ maxLen) (hl : ∀ l ∈ L, l.length ≤ maxLen) : callL Try.prog hints 33 [v, w] = some (.bool true) := by
  obtain ⟨e1, rfl, _⟩ := hv
  obtain ⟨e2, rfl, _⟩ := hw
  refine F33.call (r := (.bool true, [])) ?_ rfl
  have h := loop33 L e1 e2 hL hl L.length 0 (by omega)
  simp only [Int.natCast_zero] at h
  simp only [go_sem, ↓reduceIte, Nat.reduceEqDiff, Nat.reduceBEq, Nat.reduceAdd, Nat.reduceMul, Nat.reduceSub, Nat.reduceLT, Nat.reduceLeDiff, reduceCtorEq, Int.reduceToNat, Int.reduceLE, Int.reduceLT, Int.reduceEq, withV_any, h]
mutual
theorem walkL_short (c : Node → Bool) : ∀ (n : Node) (path : List Int), ∀ l ∈ walkL c n path, l.length ≤ path.length + n.depth
  | .mk o s g d e f, path, l, h => by
    simp only [walkL, List.mem_append] at h
    simp only [Node.depth]
    rcases h with h | h
    · split at h
      · simp only [List.mem_singleton] at h; subst h; omega
      · cases h
    · have := walksL_short c f path 0 l h; omega
theorem walksL_short (c : Node → Bool) : ∀ (k : List Node) (path : List Int) (i : Nat), ∀ l ∈ walksL c k path i, l.length ≤ path.length + 1 + Node.depths k
  | [], path, i, l, h => by cases h
  | k :: r, path, i, l, h => by
    simp only [walksL, List.mem_append] at h
    simp only [Node.depths]
    rcases h with h | h
    · have := walkL_short c k (path ++ [(i : Int)]) l h
      simp only [List.length_append, List.length_cons, List.length_nil] at this
      omega
    · have := walksL_short c r path (i + 1) l h; omega
end
mutual
theorem walkL_all (n0 : Node) : ∀ (n : Node) (path : List Int), (walkL (wanted false n0) n path).length = n.count
  | .mk o s g d e f, path => by
    have := walksL_all n0 f path 0
    have hw : wanted false n0 (.mk o s g d e f) = true := rfl
    simp only [walkL, hw, if_true, List.length_append, List.length_cons, List.length_nil, Node.count]
    omega
theorem walksL_all (n0 : Node) : ∀ (l : List Node) (path : List Int) (i : Nat), (walksL (wanted false n0) l path i).length = Node.counts l
  | [], path, i => rfl
  | k :: r, path, i => by
    have h1 := walkL_all n0 k (path ++ [(i : Int)])
    have h2 := walksL_all n0 r path (i + 1)
    simp only [walksL, List.length_append, Node.counts]
    omega
end
theorem pathsRes_len (n : Node) (sm : Bool) (part : Node) (hc : n.count ≤ 1048576) : (n.pathsRes sm part).1.length ≤ maxLen ∧ ∀ l ∈ (n.pathsRes sm part).1, l.length ≤ maxLen := by
  have hm : (2000000 : Nat) ≤ maxLen := by decide
  have hd := depth_count n
  unfold Node.pathsRes
  split
  · exact ⟨Nat.zero_le _, by intro l h; cases h⟩
  · have h1 := walkL_length (wanted sm part) n []
    exact ⟨by simp only; omega, fun l h => by have := walkL_short (wanted sm part) n [] l h; simp only [List.length_nil] at this; omega⟩
theorem IsPaths.len {v : PV} {L : List (List Int)} (h : IsPaths v L) : lenO (tyi Try.prog 23) v = some (.int .i64 L.length) := by
  obtain ⟨ex, rfl, _⟩ := h
  rw [len23, pathRows_length]
theorem call10 (n part : Node) (hn : n.ok) (hp : part.ok) (hc : n.count ≤ 1048576) : callL Try.prog hints 10 [.agg n.cells, .agg part.cells] = some (.bool true) := by
  have s1 := fun S => callN S (call35 n hn)
  have s2 := fun S => callN S (call35 part hp)
  obtain ⟨v1, i1, c1⟩ := call48 n hn hc
  obtain ⟨v2, i2, c2⟩ := call49 n hn hc
  obtain ⟨v3, i3, c3⟩ := call50 n part hn hp hc
  obtain ⟨v4, i4, c4⟩ := call51 n part hn hp hc
  have a1 := fun S => callN S c1
  have a2 := fun S => callN S c2
  have a3 := fun S => callN2 S c3
  have a4 := fun S => callN2 S c4
  have l1 := pathsRes_len n false n hc
  have l3 := pathsRes_len n true part hc
  have b1 := fun S => callO_plain (S := S) (call33 i1 i2 l1.1 l1.2) (by simp [i1.plain, i2.plain])
  have b2 := fun S => callO_plain (S := S) (call33 i3 i4 l3.1 l3.2) (by simp [i3.plain, i4.plain])
  have hlen := i1.len
  have t1 := fun S => callN S (call43 n hn)
  rw [size_count n (by omega)] at t1
  have key : ∃ S0, F10.E 0 (.agg n.cells) (.agg part.cells) [] = some (.bool true, S0) := by
    by_cases d1 : 1000 < n.size
    · refine ⟨?S1, ?h1⟩
      case h1 => simp only [go_sem, ↓reduceIte, Nat.reduceEqDiff, Nat.reduceBEq, Nat.reduceAdd, Nat.reduceMul, Nat.reduceSub, Nat.reduceLT, Nat.reduceLeDiff, reduceCtorEq, Int.reduceToNat, Int.reduceLE, Int.reduceLT, Int.reduceEq, s1, d1]; rfl
    by_cases d2 : 1000 < part.size
    · refine ⟨?S2, ?h2⟩
      case h2 => simp only [go_sem, ↓reduceIte, Nat.reduceEqDiff, Nat.reduceBEq, Nat.reduceAdd, Nat.reduceMul, Nat.reduceSub, Nat.reduceLT, Nat.reduceLeDiff, reduceCtorEq, Int.reduceToNat, Int.reduceLE, Int.reduceLT, Int.reduceEq, s1, s2, d1, d2]; rfl
    by_cases d3 : (n.pathsRes false n).2 = 0
    · have hl : (n.pathsRes false n).1.length = n.count := by
        unfold Node.pathsRes at d3 ⊢
        by_cases h3 : n.rootErr = 0
        · rw [if_neg (by simpa using h3)]; exact walkL_all n n []
        · rw [if_pos h3] at d3; exact absurd d3 h3
      rw [hl] at hlen
      refine ⟨?S3, ?h3⟩
      case h3 =>
        simp only [go_sem, ↓reduceIte, Nat.reduceEqDiff, Nat.reduceBEq, Nat.reduceAdd, Nat.reduceMul, Nat.reduceSub, Nat.reduceLT, Nat.reduceLeDiff, reduceCtorEq, Int.reduceToNat, Int.reduceLE, Int.reduceLT, Int.reduceEq, withV_any, s1, s2, d1, d2, a1, a2, a3, a4, b1, b2, d3, hlen, t1]
        rfl
    · refine ⟨?S4, ?h4⟩
      case h4 =>
        simp only [go_sem, ↓reduceIte, Nat.reduceEqDiff, Nat.reduceBEq, Nat.reduceAdd, Nat.reduceMul, Nat.reduceSub, Nat.reduceLT, Nat.reduceLeDiff, reduceCtorEq, Int.reduceToNat, Int.reduceLE, Int.reduceLT, Int.reduceEq, withV_any, s1, s2, d1, d2, a1, a2, a3, a4, b1, b2, d3]
        rfl
  obtain ⟨S0, hE⟩ := key
  exact F10.call hE rfl
theorem law10 (pvs : List PV) (h : Args Try.prog [54, 54] pvs) (hb : pvsB pvs ≤ 1048576) : callL Try.prog hints 10 pvs = some (.bool true) := by
  obtain ⟨pv, r, k, rfl, h1, h⟩ := h.cons_inv
  obtain ⟨pv2, r, k2, rfl, h2, h⟩ := h.cons_inv
  obtain rfl := h.nil_inv
  obtain ⟨n, hn, rfl⟩ := h1.node
  obtain ⟨w, hw, rfl⟩ := h2.node
  have c1 := count_bulk n
  simp only [pvsB, pvB] at hb
  exact call10 n w hn hw (by omega)
end Go.Vs
end
