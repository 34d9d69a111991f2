
import Derived.Test.YtkaeejkajfinhaaGreatMI26
set_option linter.unusedVariables false
set_option linter.unusedSimpArgs false
set_option maxRecDepth 100000
namespace Go.Vs
open Go Go.Proofs
def wantOf (o : Int) : Int := if o = 10 ∨ o = 11 then 1 else if o = 37 ∨ o = 38 then 2 else 0
def badOps : List Int := [33, 34, 35, 36, 39, 12, 3]
def twice (I : List Pr) (i : Nat) (p : Pr) : Bool := (I.take i).any fun q => decide (q.what.cmp p.what = 0)
def okP (I : List Pr) (i : Nat) (p : Pr) : Bool :=
  decide (wantOf p.what.op ≠ 0) && (decide (p.what.check (wantOf p.what.op) = 0) && (decide (p.rates.length = 0) && (decide (p.what.sym.cmp p.what = 0) && (!twice I i p &&
  (decide (p.wth.check (wantOf p.what.op) = 0) && (!p.wth.has (inOps badOps) && (!p.wth.has isSym && !(decide (p.what.kids.length = 0) && p.wth.has (inOps [13])))))))))
def okPs (I : List Pr) : Nat → Nat → Bool
  | 0, _ => true
  | m + 1, i => okP I i (I.getD i pr0) && okPs I m (i + 1)
theorem prs_take_drop {I : List Pr} {i j : Nat} (hj : j < i) (hi : i ≤ I.length) : (I.take i).drop j = I.getD j pr0 :: (I.take i).drop (j + 1) := by
  have h : j < (I.take i).length := by simp; omega
  rw [prs_drop h]
  congr 1
  simp [List.getD_eq_getElem?_getD, List.getElem?_take, hj]
theorem prs_getD_take {I : List Pr} {i j : Nat} (hj : j < i) : (I.take i).getD j pr0 = I.getD j pr0 := by
  simp [List.getD_eq_getElem?_getD, List.getElem?_take, hj]
theorem Uses_m {S : Store} {id k : Nat} {ops : List Int} {g : Option (Option Nat)} {f ex : Bool} (n : Node) (hn : n.ok) (hl : ops.length ≤ 1000) (hS : S[id]? = some (.arr (kRows .i64 ops) g f)) (hk : ops.length = k) : callO (callL Tryz.prog hints) S 40 [.agg n.cells, .msl id 0 k ex] = some { v := .bool (n.has (inOps ops)), fz := [id] } := by
  have hid := (List.getElem?_eq_some_iff.1 hS).1
  refine callO_of (call_Uses ops hl n hn) ?_ ?_ ?_
  · simp only [mapO, Node.fz, kRows_fzV (rowsAt_of hS) hk, Option.bind_some]
    rfl
  · have : List.flatMap PV.refs [.agg n.cells, .msl id 0 k ex] = [id] := by
      simp [List.flatMap_cons, PV.refs, Node.refs]
    rw [this]
    exact reach_one (rowsAt_of hS) (kRows_refs _ _) 7
  · simp [hid]
section
attribute [local irreducible] Vs.callL Vs.callRL tyi callO callM callMV appendE storeE evLoad indexAddrO sliceO evFieldAddr evField buildO buildSliceO makeSliceO allocO boxed lenO copyE convertO indexO Vs.gc freezeAll
noncomputable def fx10_ : FX := ⟨Tryz.f10, hints.of 10, []⟩
theorem ok10_ : fx10_.ok 10 := ⟨by kernel_rfl, of_decide_eq_true (by kernel_rfl), by kernel_rfl, by kernel_rfl, by kernel_rfl, by kernel_rfl⟩
theorem sem10_ (b0 : Nat) (m : Md) (fs : List Fr) (e : Env) (S : Store) : sem b0 fx10_ m fs e S = run b0 fx10_ 1000 m fs e S := (sem_eq _ _ _ _ _ _).trans (run_sem b0 fx10_ ok10_.good 1000 m fs e S).symm
theorem loop3_Check (I : List Pr) (hI : ∀ p ∈ I, p.ok) (hl : I.length ≤ 60) (i : Nat) (hi : i < I.length) (w : Int) (sy : List PV) (hsy : refsL sy = []) (fs : List Fr) : ∀ (m j : Nat), j + m = i →
    ((((I.take i).drop j).any fun q => decide (q.what.cmp (I.getD i pr0).what = 0)) = false → ∀ z, exitTo 0 fx10_ 3 fs [(0, .sl (prRows I) false), (4, .mp 0 0 0), (5, .int .i64 w), (13, .sl (prRows I) false), (14, .int .i64 I.length), (15, .int .i64 i), (53, .undef), (54, .undef), (55, .undef), (56, .undef)] [.arr [(I.getD i pr0).cells] none false, .arr [sy] none false] = some z →
      loopAt 0 fx10_ 3 956916 2 fs [(0, .sl (prRows I) false), (4, .mp 0 0 0), (5, .int .i64 w), (13, .sl (prRows I) false), (14, .int .i64 I.length), (15, .int .i64 i), (53, .sl (prRows (I.take i)) false), (54, .int .i64 i), (55, .int .i64 j)] [.arr [(I.getD i pr0).cells] none false, .arr [sy] none false] = some z) ∧
    ((((I.take i).drop j).any fun q => decide (q.what.cmp (I.getD i pr0).what = 0)) = true → ∃ S',
      loopAt 0 fx10_ 3 956916 2 fs [(0, .sl (prRows I) false), (4, .mp 0 0 0), (5, .int .i64 w), (13, .sl (prRows I) false), (14, .int .i64 I.length), (15, .int .i64 i), (53, .sl (prRows (I.take i)) false), (54, .int .i64 i), (55, .int .i64 j)] [.arr [(I.getD i pr0).cells] none false, .arr [sy] none false] = some (.int .i64 3, S')) := by
  intro m
  induction m with
  | zero =>
    intro j hj
    have h1 : ¬ (j : Int) < (i : Int) := by omega
    have e0 : ((I.take i).drop j) = [] := List.drop_of_length_le (by simp; omega)
    rw [e0]
    refine ⟨fun _ z hz => ?_, fun h => by simp at h⟩
    refine loopAt_step ok10_.good 1000 ?_
    ((repeat ((conv => lhs; whnf); simp only [go_sem, simprocAttr, sem10_, h1])); try (conv => lhs; whnf); try rfl)
    exact hz
  | succ m hm =>
    intro j hj
    have h1 : (j : Int) < (i : Int) := by omega
    have h2 := wrap_succ (i := j) (n := I.length) (by omega) (by unfold maxLen; omega)
    have h3 : 0 ≤ (j : Int) ∧ (j : Int) < ((I.take i).length : Int) := ⟨by omega, by simp; omega⟩
    have hg := prs_getD_take (I := I) (i := i) (j := j) (by omega)
    have hp := hI _ (prs_mem (I := I) (i := i) hi)
    have hq := hI _ (prs_mem (I := I) (i := j) (by omega))
    have hE := fun S => tEqual_o S _ _ hq.what hp.what
    obtain ⟨k1, k2⟩ := hm (j + 1) (by omega)
    rw [prs_take_drop (I := I) (i := i) (j := j) (by omega) (by omega), List.any_cons]
    generalize hK : I.getD i pr0 = K at *
    by_cases c : (I.getD j pr0).what.cmp K.what = 0
    · refine ⟨fun h => by (rw [decide_eq_true c, Bool.true_or] at h; cases h), fun _ => ?_⟩
      apply Exists.intro
      refine loopAt_step ok10_.good 1000 ?_
      ((repeat ((conv => lhs; whnf); simp only [go_sem, simprocAttr, sem10_, h1, h2, h3, Int.toNat_natCast, hg, hE, c, alloc_Pair, hsy])); try (conv => lhs; whnf); try rfl)
    · rw [decide_eq_false c, Bool.false_or]
      refine ⟨fun h z hz => ?_, fun h => ?_⟩
      · refine loopAt_step ok10_.good 1000 ?_
        ((repeat ((conv => lhs; whnf); simp only [go_sem, simprocAttr, sem10_, h1, h2, h3, Int.toNat_natCast, hg, hE, c, alloc_Pair, hsy])); try (conv => lhs; whnf); try rfl)
        exact k1 h z hz
      · obtain ⟨S', k⟩ := k2 h
        refine ⟨S', loopAt_step ok10_.good 1000 ?_⟩
        ((repeat ((conv => lhs; whnf); simp only [go_sem, simprocAttr, sem10_, h1, h2, h3, Int.toNat_natCast, hg, hE, c, alloc_Pair, hsy])); try (conv => lhs; whnf); try rfl)
        exact k
theorem iter_10 (I : List Pr) (hI : ∀ p ∈ I, p.ok) (hl : I.length ≤ 60) (i : Nat) (hi : i < I.length) (K : Pr) (hK : I.getD i pr0 = K) (hwc : K.wth.count ≤ 1000) (R : Bool) (Sn : Store) (key : loopAt 0 fx10_ 0 116 0 [.blk 0, .seq 0 15] [(0, .sl (prRows I) false), (13, .sl (prRows I) false), (14, .int .i64 I.length), (15, .int .i64 ((i + 1 : Nat) : Int))] [] = some (.int .i64 (if R = true then 0 else 3), Sn)) (ho : K.what.op = 10) :
    ∃ S', loopAt 0 fx10_ 0 116 0 [.blk 0, .seq 0 15] [(0, .sl (prRows I) false), (13, .sl (prRows I) false), (14, .int .i64 I.length), (15, .int .i64 i)] [] = some (.int .i64 (if ((decide (K.what.check 1 = 0) && (decide (K.rates.length = 0) && (decide (K.what.sym.cmp K.what = 0) && (!twice I i K && (decide (K.wth.check 1 = 0) && (!K.wth.has (inOps badOps) && (!K.wth.has isSym && !(decide (K.what.kids.length = 0) && K.wth.has (inOps [13]))))))))) && R) = true then 0 else 3), S') := by
  have h1 : (i : Int) < (I.length : Int) := by omega
  have h2 := wrap_succ (i := i) (n := I.length) (by omega) (by unfold maxLen; omega)
  have h4 : 0 ≤ (i : Int) ∧ (i : Int) < (I.length : Int) := ⟨by omega, h1⟩
  have hp : K.ok := hK ▸ hI _ (prs_mem (I := I) (i := i) (by omega))
  have hlt : (I.take i).length = i := by simp; omega
  have hcut := fun S => cut_prs S I i (by omega)
  have L3 := fun fs => loop3_Check I hI hl i (by omega) 1 K.what.sym.cells (Node.refs _) fs i 0 (by omega)
  simp only [List.drop_zero, hK] at L3
  have tCheck_c := fun S s => tCheck_o S K.what hp.what s
  have wCheck_c := fun S s => tCheck_o S K.wth hp.wth s
  have hE := fun S => tEqual_o S _ _ (sym_ok hp.what) hp.what
  by_cases c1 : K.what.check 1 = 0
  case neg =>
    rw [decide_eq_false c1, Bool.false_and, Bool.false_and, if_neg (by simp)]
    apply Exists.intro
    refine loopAt_step ok10_.good 1000 ?_
    ((repeat ((conv => lhs; whnf); simp only [go_sem, simprocAttr, sem10_, h1, h4, Int.toNat_natCast, hK, alloc_Pair, ho, Int.reduceEq, tCheck_c, c1])); try (conv => lhs; whnf); try rfl)
  rw [decide_eq_true c1, Bool.true_and]
  by_cases c2 : K.rates.length = 0
  case neg =>
    have c2' : 0 < (K.rates.length : Int) := by omega
    rw [decide_eq_false c2, Bool.false_and, Bool.false_and, if_neg (by simp)]
    apply Exists.intro
    refine loopAt_step ok10_.good 1000 ?_
    ((repeat ((conv => lhs; whnf); simp only [go_sem, simprocAttr, sem10_, h1, h4, Int.toNat_natCast, hK, alloc_Pair, ho, Int.reduceEq, tCheck_c, c1, c2'])); try (conv => lhs; whnf); try rfl)
  have c2' : ¬ 0 < (K.rates.length : Int) := by omega
  rw [decide_eq_true c2, Bool.true_and]
  by_cases c3 : K.what.sym.cmp K.what = 0
  case neg =>
    rw [decide_eq_false c3, Bool.false_and, Bool.false_and, if_neg (by simp)]
    apply Exists.intro
    refine loopAt_step ok10_.good 1000 ?_
    ((repeat ((conv => lhs; whnf); simp only [go_sem, simprocAttr, sem10_, h1, h4, Int.toNat_natCast, hK, alloc_Pair, ho, Int.reduceEq, tCheck_c, c1, c2', SymbolOf_o, alloc_Nd, hE, c3])); try (conv => lhs; whnf); try rfl)
  rw [decide_eq_true c3, Bool.true_and]
  cases c4 : twice I i K
  case true =>
    rw [Bool.not_true, Bool.false_and, Bool.false_and, if_neg (by simp)]
    obtain ⟨S', k⟩ := (L3 _).2 c4
    refine ⟨S', ?_⟩
    refine loopAt_step ok10_.good 1000 ?_
    ((repeat ((conv => lhs; whnf); simp only [go_sem, simprocAttr, sem10_, h1, h4, Int.toNat_natCast, hK, alloc_Pair, ho, Int.reduceEq, tCheck_c, c1, c2', SymbolOf_o, alloc_Nd, hE, c3, hcut, hlt])); try (conv => lhs; whnf); try rfl)
    exact k
  rw [Bool.not_false, Bool.true_and]
  have go_on : ∀ z, (∀ fs, fs = [Fr.blk 3, .seq 1 119615, .blk 1, .seq 0 935, .lop 0 116 0, .blk 0, .seq 0 15] → exitTo 0 fx10_ 3 fs [(0, .sl (prRows I) false), (4, .mp 0 0 0), (5, .int .i64 1), (13, .sl (prRows I) false), (14, .int .i64 I.length), (15, .int .i64 i), (53, .undef), (54, .undef), (55, .undef), (56, .undef)] [.arr [K.cells] none false, .arr [K.what.sym.cells] none false] = some z) → loopAt 0 fx10_ 0 116 0 [.blk 0, .seq 0 15] [(0, .sl (prRows I) false), (13, .sl (prRows I) false), (14, .int .i64 I.length), (15, .int .i64 i)] [] = some z := fun z hz => by
    refine loopAt_step ok10_.good 1000 ?_
    ((repeat ((conv => lhs; whnf); simp only [go_sem, simprocAttr, sem10_, h1, h4, Int.toNat_natCast, hK, alloc_Pair, ho, Int.reduceEq, tCheck_c, c1, c2', SymbolOf_o, alloc_Nd, hE, c3, hcut, hlt])); try (conv => lhs; whnf); try rfl)
    exact (L3 _).1 c4 z (hz _ rfl)
  by_cases c5 : K.wth.check 1 = 0
  case neg =>
    rw [decide_eq_false c5, Bool.false_and, Bool.false_and, if_neg (by simp)]
    apply Exists.intro
    refine go_on _ fun fs hfs => ?_
    subst hfs
    refine exit_run ok10_.good 1000 ?_
    ((repeat ((conv => lhs; whnf); simp only [go_sem, simprocAttr, sem10_, wCheck_c, c5])); try (conv => lhs; whnf); try rfl)
  rw [decide_eq_true c5, Bool.true_and]
  have u1 := Uses_m (S := [.arr [K.cells] none false, .arr [K.what.sym.cells] none false, .arr [[PV.int .i64 33], [.int .i64 34], [.int .i64 35], [.int .i64 36], [.int .i64 39], [.int .i64 12], [.int .i64 3]] (some (some 1)) false]) (id := 2) (ops := badOps) (k := 7) (ex := true) K.wth hp.wth (by decide) rfl rfl
  cases c6 : K.wth.has (inOps badOps)
  case true =>
    rw [c6] at u1
    rw [Bool.not_true, Bool.false_and, Bool.false_and, if_neg (by simp)]
    apply Exists.intro
    refine go_on _ fun fs hfs => ?_
    subst hfs
    refine exit_run ok10_.good 1000 ?_
    ((repeat ((conv => lhs; whnf); simp only [go_sem, simprocAttr, sem10_, wCheck_c, c5, u1])); try (conv => lhs; whnf); try rfl)
  rw [c6] at u1
  rw [Bool.not_false, Bool.true_and]
  obtain ⟨L, ex, hso, hme, _, _⟩ := SymbolsOf_o K.wth hp.wth (by omega)
  cases c7 : K.wth.has isSym
  case true =>
    have hL : 0 < (L.length : Int) := by
      have : L ≠ [] := fun h => by
        have := (syms_has K.wth).1 (hme.1 h)
        rw [c7] at this; cases this
      have := List.length_pos_iff.2 this
      omega
    rw [Bool.not_true, Bool.false_and, Bool.false_and, if_neg (by simp)]
    apply Exists.intro
    refine go_on _ fun fs hfs => ?_
    subst hfs
    refine exit_run ok10_.good 1000 ?_
    ((repeat ((conv => lhs; whnf); simp only [go_sem, simprocAttr, sem10_, wCheck_c, c5, u1, hso, hL])); try (conv => lhs; whnf); try rfl)
  have hL : ¬ 0 < (L.length : Int) := by
    have := hme.2 ((syms_has K.wth).2 c7)
    rw [this]; simp
  rw [Bool.not_false, Bool.true_and]
  by_cases c8 : K.what.kids.length = 0
  · have c8' : (K.what.kids.length : Int) = 0 := by omega
    have u2 := Uses_m (S := [.arr [K.cells] none false, .arr [K.what.sym.cells] none false, .arr [[PV.int .i64 33], [.int .i64 34], [.int .i64 35], [.int .i64 36], [.int .i64 39], [.int .i64 12], [.int .i64 3]] (some (some 1)) true, .arr [[PV.int .i64 13]] (some (some 1)) false]) (id := 3) (ops := [13]) (k := 1) (ex := true) K.wth hp.wth (by decide) rfl rfl
    rw [decide_eq_true c8, Bool.true_and]
    cases c9 : K.wth.has (inOps [13])
    case true =>
      rw [c9] at u2
      rw [Bool.not_true, Bool.false_and, if_neg (by simp)]
      apply Exists.intro
      refine go_on _ fun fs hfs => ?_
      subst hfs
      refine exit_run ok10_.good 1000 ?_
      ((repeat ((conv => lhs; whnf); simp only [go_sem, simprocAttr, sem10_, wCheck_c, c5, u1, hso, hL, c8', u2])); try (conv => lhs; whnf); try rfl)
    rw [c9] at u2
    rw [Bool.not_false, Bool.true_and]
    refine ⟨Sn, ?_⟩
    refine go_on _ fun fs hfs => ?_
    subst hfs
    refine exit_run ok10_.good 1000 ?_
    ((repeat ((conv => lhs; whnf); simp only [go_sem, simprocAttr, sem10_, wCheck_c, c5, u1, hso, hL, c8', u2, h2])); try (conv => lhs; whnf); try rfl)
    exact key
  · have c8' : ¬ (K.what.kids.length : Int) = 0 := by omega
    rw [decide_eq_false c8, Bool.false_and, Bool.not_false, Bool.true_and]
    refine ⟨Sn, ?_⟩
    refine go_on _ fun fs hfs => ?_
    subst hfs
    refine exit_run ok10_.good 1000 ?_
    ((repeat ((conv => lhs; whnf); simp only [go_sem, simprocAttr, sem10_, wCheck_c, c5, u1, hso, hL, c8', h2])); try (conv => lhs; whnf); try rfl)
    exact key
theorem iter_11 (I : List Pr) (hI : ∀ p ∈ I, p.ok) (hl : I.length ≤ 60) (i : Nat) (hi : i < I.length) (K : Pr) (hK : I.getD i pr0 = K) (hwc : K.wth.count ≤ 1000) (R : Bool) (Sn : Store) (key : loopAt 0 fx10_ 0 116 0 [.blk 0, .seq 0 15] [(0, .sl (prRows I) false), (13, .sl (prRows I) false), (14, .int .i64 I.length), (15, .int .i64 ((i + 1 : Nat) : Int))] [] = some (.int .i64 (if R = true then 0 else 3), Sn)) (ho : K.what.op = 11) :
    ∃ S', loopAt 0 fx10_ 0 116 0 [.blk 0, .seq 0 15] [(0, .sl (prRows I) false), (13, .sl (prRows I) false), (14, .int .i64 I.length), (15, .int .i64 i)] [] = some (.int .i64 (if ((decide (K.what.check 1 = 0) && (decide (K.rates.length = 0) && (decide (K.what.sym.cmp K.what = 0) && (!twice I i K && (decide (K.wth.check 1 = 0) && (!K.wth.has (inOps badOps) && (!K.wth.has isSym && !(decide (K.what.kids.length = 0) && K.wth.has (inOps [13]))))))))) && R) = true then 0 else 3), S') := by
  have h1 : (i : Int) < (I.length : Int) := by omega
  have h2 := wrap_succ (i := i) (n := I.length) (by omega) (by unfold maxLen; omega)
  have h4 : 0 ≤ (i : Int) ∧ (i : Int) < (I.length : Int) := ⟨by omega, h1⟩
  have hp : K.ok := hK ▸ hI _ (prs_mem (I := I) (i := i) (by omega))
  have hlt : (I.take i).length = i := by simp; omega
  have hcut := fun S => cut_prs S I i (by omega)
  have L3 := fun fs => loop3_Check I hI hl i (by omega) 1 K.what.sym.cells (Node.refs _) fs i 0 (by omega)
  simp only [List.drop_zero, hK] at L3
  have tCheck_c := fun S s => tCheck_o S K.what hp.what s
  have wCheck_c := fun S s => tCheck_o S K.wth hp.wth s
  have hE := fun S => tEqual_o S _ _ (sym_ok hp.what) hp.what
  by_cases c1 : K.what.check 1 = 0
  case neg =>
    rw [decide_eq_false c1, Bool.false_and, Bool.false_and, if_neg (by simp)]
    apply Exists.intro
    refine loopAt_step ok10_.good 1000 ?_
    ((repeat ((conv => lhs; whnf); simp only [go_sem, simprocAttr, sem10_, h1, h4, Int.toNat_natCast, hK, alloc_Pair, ho, Int.reduceEq, tCheck_c, c1])); try (conv => lhs; whnf); try rfl)
  rw [decide_eq_true c1, Bool.true_and]
  by_cases c2 : K.rates.length = 0
  case neg =>
    have c2' : 0 < (K.rates.length : Int) := by omega
    rw [decide_eq_false c2, Bool.false_and, Bool.false_and, if_neg (by simp)]
    apply Exists.intro
    refine loopAt_step ok10_.good 1000 ?_
    ((repeat ((conv => lhs; whnf); simp only [go_sem, simprocAttr, sem10_, h1, h4, Int.toNat_natCast, hK, alloc_Pair, ho, Int.reduceEq, tCheck_c, c1, c2'])); try (conv => lhs; whnf); try rfl)
  have c2' : ¬ 0 < (K.rates.length : Int) := by omega
  rw [decide_eq_true c2, Bool.true_and]
  by_cases c3 : K.what.sym.cmp K.what = 0
  case neg =>
    rw [decide_eq_false c3, Bool.false_and, Bool.false_and, if_neg (by simp)]
    apply Exists.intro
    refine loopAt_step ok10_.good 1000 ?_
    ((repeat ((conv => lhs; whnf); simp only [go_sem, simprocAttr, sem10_, h1, h4, Int.toNat_natCast, hK, alloc_Pair, ho, Int.reduceEq, tCheck_c, c1, c2', SymbolOf_o, alloc_Nd, hE, c3])); try (conv => lhs; whnf); try rfl)
  rw [decide_eq_true c3, Bool.true_and]
  cases c4 : twice I i K
  case true =>
    rw [Bool.not_true, Bool.false_and, Bool.false_and, if_neg (by simp)]
    obtain ⟨S', k⟩ := (L3 _).2 c4
    refine ⟨S', ?_⟩
    refine loopAt_step ok10_.good 1000 ?_
    ((repeat ((conv => lhs; whnf); simp only [go_sem, simprocAttr, sem10_, h1, h4, Int.toNat_natCast, hK, alloc_Pair, ho, Int.reduceEq, tCheck_c, c1, c2', SymbolOf_o, alloc_Nd, hE, c3, hcut, hlt])); try (conv => lhs; whnf); try rfl)
    exact k
  rw [Bool.not_false, Bool.true_and]
  have go_on : ∀ z, (∀ fs, fs = [Fr.blk 3, .seq 1 119615, .blk 1, .seq 0 935, .lop 0 116 0, .blk 0, .seq 0 15] → exitTo 0 fx10_ 3 fs [(0, .sl (prRows I) false), (4, .mp 0 0 0), (5, .int .i64 1), (13, .sl (prRows I) false), (14, .int .i64 I.length), (15, .int .i64 i), (53, .undef), (54, .undef), (55, .undef), (56, .undef)] [.arr [K.cells] none false, .arr [K.what.sym.cells] none false] = some z) → loopAt 0 fx10_ 0 116 0 [.blk 0, .seq 0 15] [(0, .sl (prRows I) false), (13, .sl (prRows I) false), (14, .int .i64 I.length), (15, .int .i64 i)] [] = some z := fun z hz => by
    refine loopAt_step ok10_.good 1000 ?_
    ((repeat ((conv => lhs; whnf); simp only [go_sem, simprocAttr, sem10_, h1, h4, Int.toNat_natCast, hK, alloc_Pair, ho, Int.reduceEq, tCheck_c, c1, c2', SymbolOf_o, alloc_Nd, hE, c3, hcut, hlt])); try (conv => lhs; whnf); try rfl)
    exact (L3 _).1 c4 z (hz _ rfl)
  by_cases c5 : K.wth.check 1 = 0
  case neg =>
    rw [decide_eq_false c5, Bool.false_and, Bool.false_and, if_neg (by simp)]
    apply Exists.intro
    refine go_on _ fun fs hfs => ?_
    subst hfs
    refine exit_run ok10_.good 1000 ?_
    ((repeat ((conv => lhs; whnf); simp only [go_sem, simprocAttr, sem10_, wCheck_c, c5])); try (conv => lhs; whnf); try rfl)
  rw [decide_eq_true c5, Bool.true_and]
  have u1 := Uses_m (S := [.arr [K.cells] none false, .arr [K.what.sym.cells] none false, .arr [[PV.int .i64 33], [.int .i64 34], [.int .i64 35], [.int .i64 36], [.int .i64 39], [.int .i64 12], [.int .i64 3]] (some (some 1)) false]) (id := 2) (ops := badOps) (k := 7) (ex := true) K.wth hp.wth (by decide) rfl rfl
  cases c6 : K.wth.has (inOps badOps)
  case true =>
    rw [c6] at u1
    rw [Bool.not_true, Bool.false_and, Bool.false_and, if_neg (by simp)]
    apply Exists.intro
    refine go_on _ fun fs hfs => ?_
    subst hfs
    refine exit_run ok10_.good 1000 ?_
    ((repeat ((conv => lhs; whnf); simp only [go_sem, simprocAttr, sem10_, wCheck_c, c5, u1])); try (conv => lhs; whnf); try rfl)
  rw [c6] at u1
  rw [Bool.not_false, Bool.true_and]
  obtain ⟨L, ex, hso, hme, _, _⟩ := SymbolsOf_o K.wth hp.wth (by omega)
  cases c7 : K.wth.has isSym
  case true =>
    have hL : 0 < (L.length : Int) := by
      have : L ≠ [] := fun h => by
        have := (syms_has K.wth).1 (hme.1 h)
        rw [c7] at this; cases this
      have := List.length_pos_iff.2 this
      omega
    rw [Bool.not_true, Bool.false_and, Bool.false_and, if_neg (by simp)]
    apply Exists.intro
    refine go_on _ fun fs hfs => ?_
    subst hfs
    refine exit_run ok10_.good 1000 ?_
    ((repeat ((conv => lhs; whnf); simp only [go_sem, simprocAttr, sem10_, wCheck_c, c5, u1, hso, hL])); try (conv => lhs; whnf); try rfl)
  have hL : ¬ 0 < (L.length : Int) := by
    have := hme.2 ((syms_has K.wth).2 c7)
    rw [this]; simp
  rw [Bool.not_false, Bool.true_and]
  by_cases c8 : K.what.kids.length = 0
  · have c8' : (K.what.kids.length : Int) = 0 := by omega
    have u2 := Uses_m (S := [.arr [K.cells] none false, .arr [K.what.sym.cells] none false, .arr [[PV.int .i64 33], [.int .i64 34], [.int .i64 35], [.int .i64 36], [.int .i64 39], [.int .i64 12], [.int .i64 3]] (some (some 1)) true, .arr [[PV.int .i64 13]] (some (some 1)) false]) (id := 3) (ops := [13]) (k := 1) (ex := true) K.wth hp.wth (by decide) rfl rfl
    rw [decide_eq_true c8, Bool.true_and]
    cases c9 : K.wth.has (inOps [13])
    case true =>
      rw [c9] at u2
      rw [Bool.not_true, Bool.false_and, if_neg (by simp)]
      apply Exists.intro
      refine go_on _ fun fs hfs => ?_
      subst hfs
      refine exit_run ok10_.good 1000 ?_
      ((repeat ((conv => lhs; whnf); simp only [go_sem, simprocAttr, sem10_, wCheck_c, c5, u1, hso, hL, c8', u2])); try (conv => lhs; whnf); try rfl)
    rw [c9] at u2
    rw [Bool.not_false, Bool.true_and]
    refine ⟨Sn, ?_⟩
    refine go_on _ fun fs hfs => ?_
    subst hfs
    refine exit_run ok10_.good 1000 ?_
    ((repeat ((conv => lhs; whnf); simp only [go_sem, simprocAttr, sem10_, wCheck_c, c5, u1, hso, hL, c8', u2, h2])); try (conv => lhs; whnf); try rfl)
    exact key
  · have c8' : ¬ (K.what.kids.length : Int) = 0 := by omega
    rw [decide_eq_false c8, Bool.false_and, Bool.not_false, Bool.true_and]
    refine ⟨Sn, ?_⟩
    refine go_on _ fun fs hfs => ?_
    subst hfs
    refine exit_run ok10_.good 1000 ?_
    ((repeat ((conv => lhs; whnf); simp only [go_sem, simprocAttr, sem10_, wCheck_c, c5, u1, hso, hL, c8', h2])); try (conv => lhs; whnf); try rfl)
    exact key
theorem iter_37 (I : List Pr) (hI : ∀ p ∈ I, p.ok) (hl : I.length ≤ 60) (i : Nat) (hi : i < I.length) (K : Pr) (hK : I.getD i pr0 = K) (hwc : K.wth.count ≤ 1000) (R : Bool) (Sn : Store) (key : loopAt 0 fx10_ 0 116 0 [.blk 0, .seq 0 15] [(0, .sl (prRows I) false), (13, .sl (prRows I) false), (14, .int .i64 I.length), (15, .int .i64 ((i + 1 : Nat) : Int))] [] = some (.int .i64 (if R = true then 0 else 3), Sn)) (ho : K.what.op = 37) :
    ∃ S', loopAt 0 fx10_ 0 116 0 [.blk 0, .seq 0 15] [(0, .sl (prRows I) false), (13, .sl (prRows I) false), (14, .int .i64 I.length), (15, .int .i64 i)] [] = some (.int .i64 (if ((decide (K.what.check 2 = 0) && (decide (K.rates.length = 0) && (decide (K.what.sym.cmp K.what = 0) && (!twice I i K && (decide (K.wth.check 2 = 0) && (!K.wth.has (inOps badOps) && (!K.wth.has isSym && !(decide (K.what.kids.length = 0) && K.wth.has (inOps [13]))))))))) && R) = true then 0 else 3), S') := by
  have h1 : (i : Int) < (I.length : Int) := by omega
  have h2 := wrap_succ (i := i) (n := I.length) (by omega) (by unfold maxLen; omega)
  have h4 : 0 ≤ (i : Int) ∧ (i : Int) < (I.length : Int) := ⟨by omega, h1⟩
  have hp : K.ok := hK ▸ hI _ (prs_mem (I := I) (i := i) (by omega))
  have hlt : (I.take i).length = i := by simp; omega
  have hcut := fun S => cut_prs S I i (by omega)
  have L3 := fun fs => loop3_Check I hI hl i (by omega) 2 K.what.sym.cells (Node.refs _) fs i 0 (by omega)
  simp only [List.drop_zero, hK] at L3
  have tCheck_c := fun S s => tCheck_o S K.what hp.what s
  have wCheck_c := fun S s => tCheck_o S K.wth hp.wth s
  have hE := fun S => tEqual_o S _ _ (sym_ok hp.what) hp.what
  by_cases c1 : K.what.check 2 = 0
  case neg =>
    rw [decide_eq_false c1, Bool.false_and, Bool.false_and, if_neg (by simp)]
    apply Exists.intro
    refine loopAt_step ok10_.good 1000 ?_
    ((repeat ((conv => lhs; whnf); simp only [go_sem, simprocAttr, sem10_, h1, h4, Int.toNat_natCast, hK, alloc_Pair, ho, Int.reduceEq, tCheck_c, c1])); try (conv => lhs; whnf); try rfl)
  rw [decide_eq_true c1, Bool.true_and]
  by_cases c2 : K.rates.length = 0
  case neg =>
    have c2' : 0 < (K.rates.length : Int) := by omega
    rw [decide_eq_false c2, Bool.false_and, Bool.false_and, if_neg (by simp)]
    apply Exists.intro
    refine loopAt_step ok10_.good 1000 ?_
    ((repeat ((conv => lhs; whnf); simp only [go_sem, simprocAttr, sem10_, h1, h4, Int.toNat_natCast, hK, alloc_Pair, ho, Int.reduceEq, tCheck_c, c1, c2'])); try (conv => lhs; whnf); try rfl)
  have c2' : ¬ 0 < (K.rates.length : Int) := by omega
  rw [decide_eq_true c2, Bool.true_and]
  by_cases c3 : K.what.sym.cmp K.what = 0
  case neg =>
    rw [decide_eq_false c3, Bool.false_and, Bool.false_and, if_neg (by simp)]
    apply Exists.intro
    refine loopAt_step ok10_.good 1000 ?_
    ((repeat ((conv => lhs; whnf); simp only [go_sem, simprocAttr, sem10_, h1, h4, Int.toNat_natCast, hK, alloc_Pair, ho, Int.reduceEq, tCheck_c, c1, c2', SymbolOf_o, alloc_Nd, hE, c3])); try (conv => lhs; whnf); try rfl)
  rw [decide_eq_true c3, Bool.true_and]
  cases c4 : twice I i K
  case true =>
    rw [Bool.not_true, Bool.false_and, Bool.false_and, if_neg (by simp)]
    obtain ⟨S', k⟩ := (L3 _).2 c4
    refine ⟨S', ?_⟩
    refine loopAt_step ok10_.good 1000 ?_
    ((repeat ((conv => lhs; whnf); simp only [go_sem, simprocAttr, sem10_, h1, h4, Int.toNat_natCast, hK, alloc_Pair, ho, Int.reduceEq, tCheck_c, c1, c2', SymbolOf_o, alloc_Nd, hE, c3, hcut, hlt])); try (conv => lhs; whnf); try rfl)
    exact k
  rw [Bool.not_false, Bool.true_and]
  have go_on : ∀ z, (∀ fs, fs = [Fr.blk 3, .seq 1 119615, .blk 1, .seq 0 935, .lop 0 116 0, .blk 0, .seq 0 15] → exitTo 0 fx10_ 3 fs [(0, .sl (prRows I) false), (4, .mp 0 0 0), (5, .int .i64 2), (13, .sl (prRows I) false), (14, .int .i64 I.length), (15, .int .i64 i), (53, .undef), (54, .undef), (55, .undef), (56, .undef)] [.arr [K.cells] none false, .arr [K.what.sym.cells] none false] = some z) → loopAt 0 fx10_ 0 116 0 [.blk 0, .seq 0 15] [(0, .sl (prRows I) false), (13, .sl (prRows I) false), (14, .int .i64 I.length), (15, .int .i64 i)] [] = some z := fun z hz => by
    refine loopAt_step ok10_.good 1000 ?_
    ((repeat ((conv => lhs; whnf); simp only [go_sem, simprocAttr, sem10_, h1, h4, Int.toNat_natCast, hK, alloc_Pair, ho, Int.reduceEq, tCheck_c, c1, c2', SymbolOf_o, alloc_Nd, hE, c3, hcut, hlt])); try (conv => lhs; whnf); try rfl)
    exact (L3 _).1 c4 z (hz _ rfl)
  by_cases c5 : K.wth.check 2 = 0
  case neg =>
    rw [decide_eq_false c5, Bool.false_and, Bool.false_and, if_neg (by simp)]
    apply Exists.intro
    refine go_on _ fun fs hfs => ?_
    subst hfs
    refine exit_run ok10_.good 1000 ?_
    ((repeat ((conv => lhs; whnf); simp only [go_sem, simprocAttr, sem10_, wCheck_c, c5])); try (conv => lhs; whnf); try rfl)
  rw [decide_eq_true c5, Bool.true_and]
  have u1 := Uses_m (S := [.arr [K.cells] none false, .arr [K.what.sym.cells] none false, .arr [[PV.int .i64 33], [.int .i64 34], [.int .i64 35], [.int .i64 36], [.int .i64 39], [.int .i64 12], [.int .i64 3]] (some (some 1)) false]) (id := 2) (ops := badOps) (k := 7) (ex := true) K.wth hp.wth (by decide) rfl rfl
  cases c6 : K.wth.has (inOps badOps)
  case true =>
    rw [c6] at u1
    rw [Bool.not_true, Bool.false_and, Bool.false_and, if_neg (by simp)]
    apply Exists.intro
    refine go_on _ fun fs hfs => ?_
    subst hfs
    refine exit_run ok10_.good 1000 ?_
    ((repeat ((conv => lhs; whnf); simp only [go_sem, simprocAttr, sem10_, wCheck_c, c5, u1])); try (conv => lhs; whnf); try rfl)
  rw [c6] at u1
  rw [Bool.not_false, Bool.true_and]
  obtain ⟨L, ex, hso, hme, _, _⟩ := SymbolsOf_o K.wth hp.wth (by omega)
  cases c7 : K.wth.has isSym
  case true =>
    have hL : 0 < (L.length : Int) := by
      have : L ≠ [] := fun h => by
        have := (syms_has K.wth).1 (hme.1 h)
        rw [c7] at this; cases this
      have := List.length_pos_iff.2 this
      omega
    rw [Bool.not_true, Bool.false_and, Bool.false_and, if_neg (by simp)]
    apply Exists.intro
    refine go_on _ fun fs hfs => ?_
    subst hfs
    refine exit_run ok10_.good 1000 ?_
    ((repeat ((conv => lhs; whnf); simp only [go_sem, simprocAttr, sem10_, wCheck_c, c5, u1, hso, hL])); try (conv => lhs; whnf); try rfl)
  have hL : ¬ 0 < (L.length : Int) := by
    have := hme.2 ((syms_has K.wth).2 c7)
    rw [this]; simp
  rw [Bool.not_false, Bool.true_and]
  by_cases c8 : K.what.kids.length = 0
  · have c8' : (K.what.kids.length : Int) = 0 := by omega
    have u2 := Uses_m (S := [.arr [K.cells] none false, .arr [K.what.sym.cells] none false, .arr [[PV.int .i64 33], [.int .i64 34], [.int .i64 35], [.int .i64 36], [.int .i64 39], [.int .i64 12], [.int .i64 3]] (some (some 1)) true, .arr [[PV.int .i64 13]] (some (some 1)) false]) (id := 3) (ops := [13]) (k := 1) (ex := true) K.wth hp.wth (by decide) rfl rfl
    rw [decide_eq_true c8, Bool.true_and]
    cases c9 : K.wth.has (inOps [13])
    case true =>
      rw [c9] at u2
      rw [Bool.not_true, Bool.false_and, if_neg (by simp)]
      apply Exists.intro
      refine go_on _ fun fs hfs => ?_
      subst hfs
      refine exit_run ok10_.good 1000 ?_
      ((repeat ((conv => lhs; whnf); simp only [go_sem, simprocAttr, sem10_, wCheck_c, c5, u1, hso, hL, c8', u2])); try (conv => lhs; whnf); try rfl)
    rw [c9] at u2
    rw [Bool.not_false, Bool.true_and]
    refine ⟨Sn, ?_⟩
    refine go_on _ fun fs hfs => ?_
    subst hfs
    refine exit_run ok10_.good 1000 ?_
    ((repeat ((conv => lhs; whnf); simp only [go_sem, simprocAttr, sem10_, wCheck_c, c5, u1, hso, hL, c8', u2, h2])); try (conv => lhs; whnf); try rfl)
    exact key
  · have c8' : ¬ (K.what.kids.length : Int) = 0 := by omega
    rw [decide_eq_false c8, Bool.false_and, Bool.not_false, Bool.true_and]
    refine ⟨Sn, ?_⟩
    refine go_on _ fun fs hfs => ?_
    subst hfs
    refine exit_run ok10_.good 1000 ?_
    ((repeat ((conv => lhs; whnf); simp only [go_sem, simprocAttr, sem10_, wCheck_c, c5, u1, hso, hL, c8', h2])); try (conv => lhs; whnf); try rfl)
    exact key
theorem iter_38 (I : List Pr) (hI : ∀ p ∈ I, p.ok) (hl : I.length ≤ 60) (i : Nat) (hi : i < I.length) (K : Pr) (hK : I.getD i pr0 = K) (hwc : K.wth.count ≤ 1000) (R : Bool) (Sn : Store) (key : loopAt 0 fx10_ 0 116 0 [.blk 0, .seq 0 15] [(0, .sl (prRows I) false), (13, .sl (prRows I) false), (14, .int .i64 I.length), (15, .int .i64 ((i + 1 : Nat) : Int))] [] = some (.int .i64 (if R = true then 0 else 3), Sn)) (ho : K.what.op = 38) :
    ∃ S', loopAt 0 fx10_ 0 116 0 [.blk 0, .seq 0 15] [(0, .sl (prRows I) false), (13, .sl (prRows I) false), (14, .int .i64 I.length), (15, .int .i64 i)] [] = some (.int .i64 (if ((decide (K.what.check 2 = 0) && (decide (K.rates.length = 0) && (decide (K.what.sym.cmp K.what = 0) && (!twice I i K && (decide (K.wth.check 2 = 0) && (!K.wth.has (inOps badOps) && (!K.wth.has isSym && !(decide (K.what.kids.length = 0) && K.wth.has (inOps [13]))))))))) && R) = true then 0 else 3), S') := by
  have h1 : (i : Int) < (I.length : Int) := by omega
  have h2 := wrap_succ (i := i) (n := I.length) (by omega) (by unfold maxLen; omega)
  have h4 : 0 ≤ (i : Int) ∧ (i : Int) < (I.length : Int) := ⟨by omega, h1⟩
  have hp : K.ok := hK ▸ hI _ (prs_mem (I := I) (i := i) (by omega))
  have hlt : (I.take i).length = i := by simp; omega
  have hcut := fun S => cut_prs S I i (by omega)
  have L3 := fun fs => loop3_Check I hI hl i (by omega) 2 K.what.sym.cells (Node.refs _) fs i 0 (by omega)
  simp only [List.drop_zero, hK] at L3
  have tCheck_c := fun S s => tCheck_o S K.what hp.what s
  have wCheck_c := fun S s => tCheck_o S K.wth hp.wth s
  have hE := fun S => tEqual_o S _ _ (sym_ok hp.what) hp.what
  by_cases c1 : K.what.check 2 = 0
  case neg =>
    rw [decide_eq_false c1, Bool.false_and, Bool.false_and, if_neg (by simp)]
    apply Exists.intro
    refine loopAt_step ok10_.good 1000 ?_
    ((repeat ((conv => lhs; whnf); simp only [go_sem, simprocAttr, sem10_, h1, h4, Int.toNat_natCast, hK, alloc_Pair, ho, Int.reduceEq, tCheck_c, c1])); try (conv => lhs; whnf); try rfl)
  rw [decide_eq_true c1, Bool.true_and]
  by_cases c2 : K.rates.length = 0
  case neg =>
    have c2' : 0 < (K.rates.length : Int) := by omega
    rw [decide_eq_false c2, Bool.false_and, Bool.false_and, if_neg (by simp)]
    apply Exists.intro
    refine loopAt_step ok10_.good 1000 ?_
    ((repeat ((conv => lhs; whnf); simp only [go_sem, simprocAttr, sem10_, h1, h4, Int.toNat_natCast, hK, alloc_Pair, ho, Int.reduceEq, tCheck_c, c1, c2'])); try (conv => lhs; whnf); try rfl)
  have c2' : ¬ 0 < (K.rates.length : Int) := by omega
  rw [decide_eq_true c2, Bool.true_and]
  by_cases c3 : K.what.sym.cmp K.what = 0
  case neg =>
    rw [decide_eq_false c3, Bool.false_and, Bool.false_and, if_neg (by simp)]
    apply Exists.intro
    refine loopAt_step ok10_.good 1000 ?_
    ((repeat ((conv => lhs; whnf); simp only [go_sem, simprocAttr, sem10_, h1, h4, Int.toNat_natCast, hK, alloc_Pair, ho, Int.reduceEq, tCheck_c, c1, c2', SymbolOf_o, alloc_Nd, hE, c3])); try (conv => lhs; whnf); try rfl)
  rw [decide_eq_true c3, Bool.true_and]
  cases c4 : twice I i K
  case true =>
    rw [Bool.not_true, Bool.false_and, Bool.false_and, if_neg (by simp)]
    obtain ⟨S', k⟩ := (L3 _).2 c4
    refine ⟨S', ?_⟩
    refine loopAt_step ok10_.good 1000 ?_
    ((repeat ((conv => lhs; whnf); simp only [go_sem, simprocAttr, sem10_, h1, h4, Int.toNat_natCast, hK, alloc_Pair, ho, Int.reduceEq, tCheck_c, c1, c2', SymbolOf_o, alloc_Nd, hE, c3, hcut, hlt])); try (conv => lhs; whnf); try rfl)
    exact k
  rw [Bool.not_false, Bool.true_and]
  have go_on : ∀ z, (∀ fs, fs = [Fr.blk 3, .seq 1 119615, .blk 1, .seq 0 935, .lop 0 116 0, .blk 0, .seq 0 15] → exitTo 0 fx10_ 3 fs [(0, .sl (prRows I) false), (4, .mp 0 0 0), (5, .int .i64 2), (13, .sl (prRows I) false), (14, .int .i64 I.length), (15, .int .i64 i), (53, .undef), (54, .undef), (55, .undef), (56, .undef)] [.arr [K.cells] none false, .arr [K.what.sym.cells] none false] = some z) → loopAt 0 fx10_ 0 116 0 [.blk 0, .seq 0 15] [(0, .sl (prRows I) false), (13, .sl (prRows I) false), (14, .int .i64 I.length), (15, .int .i64 i)] [] = some z := fun z hz => by
    refine loopAt_step ok10_.good 1000 ?_
    ((repeat ((conv => lhs; whnf); simp only [go_sem, simprocAttr, sem10_, h1, h4, Int.toNat_natCast, hK, alloc_Pair, ho, Int.reduceEq, tCheck_c, c1, c2', SymbolOf_o, alloc_Nd, hE, c3, hcut, hlt])); try (conv => lhs; whnf); try rfl)
    exact (L3 _).1 c4 z (hz _ rfl)
  by_cases c5 : K.wth.check 2 = 0
  case neg =>
    rw [decide_eq_false c5, Bool.false_and, Bool.false_and, if_neg (by simp)]
    apply Exists.intro
    refine go_on _ fun fs hfs => ?_
    subst hfs
    refine exit_run ok10_.good 1000 ?_
    ((repeat ((conv => lhs; whnf); simp only [go_sem, simprocAttr, sem10_, wCheck_c, c5])); try (conv => lhs; whnf); try rfl)
  rw [decide_eq_true c5, Bool.true_and]
  have u1 := Uses_m (S := [.arr [K.cells] none false, .arr [K.what.sym.cells] none false, .arr [[PV.int .i64 33], [.int .i64 34], [.int .i64 35], [.int .i64 36], [.int .i64 39], [.int .i64 12], [.int .i64 3]] (some (some 1)) false]) (id := 2) (ops := badOps) (k := 7) (ex := true) K.wth hp.wth (by decide) rfl rfl
  cases c6 : K.wth.has (inOps badOps)
  case true =>
    rw [c6] at u1
    rw [Bool.not_true, Bool.false_and, Bool.false_and, if_neg (by simp)]
    apply Exists.intro
    refine go_on _ fun fs hfs => ?_
    subst hfs
    refine exit_run ok10_.good 1000 ?_
    ((repeat ((conv => lhs; whnf); simp only [go_sem, simprocAttr, sem10_, wCheck_c, c5, u1])); try (conv => lhs; whnf); try rfl)
  rw [c6] at u1
  rw [Bool.not_false, Bool.true_and]
  obtain ⟨L, ex, hso, hme, _, _⟩ := SymbolsOf_o K.wth hp.wth (by omega)
  cases c7 : K.wth.has isSym
  case true =>
    have hL : 0 < (L.length : Int) := by
      have : L ≠ [] := fun h => by
        have := (syms_has K.wth).1 (hme.1 h)
        rw [c7] at this; cases this
      have := List.length_pos_iff.2 this
      omega
    rw [Bool.not_true, Bool.false_and, Bool.false_and, if_neg (by simp)]
    apply Exists.intro
    refine go_on _ fun fs hfs => ?_
    subst hfs
    refine exit_run ok10_.good 1000 ?_
    ((repeat ((conv => lhs; whnf); simp only [go_sem, simprocAttr, sem10_, wCheck_c, c5, u1, hso, hL])); try (conv => lhs; whnf); try rfl)
  have hL : ¬ 0 < (L.length : Int) := by
    have := hme.2 ((syms_has K.wth).2 c7)
    rw [this]; simp
  rw [Bool.not_false, Bool.true_and]
  by_cases c8 : K.what.kids.length = 0
  · have c8' : (K.what.kids.length : Int) = 0 := by omega
    have u2 := Uses_m (S := [.arr [K.cells] none false, .arr [K.what.sym.cells] none false, .arr [[PV.int .i64 33], [.int .i64 34], [.int .i64 35], [.int .i64 36], [.int .i64 39], [.int .i64 12], [.int .i64 3]] (some (some 1)) true, .arr [[PV.int .i64 13]] (some (some 1)) false]) (id := 3) (ops := [13]) (k := 1) (ex := true) K.wth hp.wth (by decide) rfl rfl
    rw [decide_eq_true c8, Bool.true_and]
    cases c9 : K.wth.has (inOps [13])
    case true =>
      rw [c9] at u2
      rw [Bool.not_true, Bool.false_and, if_neg (by simp)]
      apply Exists.intro
      refine go_on _ fun fs hfs => ?_
      subst hfs
      refine exit_run ok10_.good 1000 ?_
      ((repeat ((conv => lhs; whnf); simp only [go_sem, simprocAttr, sem10_, wCheck_c, c5, u1, hso, hL, c8', u2])); try (conv => lhs; whnf); try rfl)
    rw [c9] at u2
    rw [Bool.not_false, Bool.true_and]
    refine ⟨Sn, ?_⟩
    refine go_on _ fun fs hfs => ?_
    subst hfs
    refine exit_run ok10_.good 1000 ?_
    ((repeat ((conv => lhs; whnf); simp only [go_sem, simprocAttr, sem10_, wCheck_c, c5, u1, hso, hL, c8', u2, h2])); try (conv => lhs; whnf); try rfl)
    exact key
  · have c8' : ¬ (K.what.kids.length : Int) = 0 := by omega
    rw [decide_eq_false c8, Bool.false_and, Bool.not_false, Bool.true_and]
    refine ⟨Sn, ?_⟩
    refine go_on _ fun fs hfs => ?_
    subst hfs
    refine exit_run ok10_.good 1000 ?_
    ((repeat ((conv => lhs; whnf); simp only [go_sem, simprocAttr, sem10_, wCheck_c, c5, u1, hso, hL, c8', h2])); try (conv => lhs; whnf); try rfl)
    exact key
theorem loop_Check (I : List Pr) (hI : ∀ p ∈ I, p.ok) (hl : I.length ≤ 60) (hc : ∀ p ∈ I, p.wth.count ≤ 1000 ∧ p.what.count ≤ 1000) : ∀ (m i : Nat), i + m = I.length →
    ∃ S', loopAt 0 fx10_ 0 116 0 [.blk 0, .seq 0 15] [(0, .sl (prRows I) false), (13, .sl (prRows I) false), (14, .int .i64 I.length), (15, .int .i64 i)] [] = some (.int .i64 (if okPs I m i = true then 0 else 3), S') := by
  intro m
  induction m with
  | zero =>
    intro i hi
    have h1 : ¬ (i : Int) < (I.length : Int) := by omega
    apply Exists.intro
    refine loopAt_step ok10_.good 1000 ?_
    unfold okPs
    rw [if_pos rfl]
    ((repeat ((conv => lhs; whnf); simp only [go_sem, simprocAttr, sem10_, h1])); try (conv => lhs; whnf); try rfl)
    refine exit_run ok10_.good 1000 ?_
    ((repeat ((conv => lhs; whnf); simp only [go_sem, simprocAttr, sem10_])); try (conv => lhs; whnf); try rfl)
  | succ m hm =>
    intro i hi
    have h1 : (i : Int) < (I.length : Int) := by omega
    have h4 : 0 ≤ (i : Int) ∧ (i : Int) < (I.length : Int) := ⟨by omega, h1⟩
    have hpc := hc _ (prs_mem (I := I) (i := i) (by omega))
    obtain ⟨Sn, key⟩ := hm (i + 1) (by omega)
    unfold okPs okP
    generalize hK : I.getD i pr0 = K at *
    by_cases g10 : K.what.op = 10
    · have := iter_10 I hI hl i (by omega) K hK hpc.1 _ Sn key g10
      rw [g10]
      exact this
    by_cases g11 : K.what.op = 11
    · have := iter_11 I hI hl i (by omega) K hK hpc.1 _ Sn key g11
      rw [g11]
      exact this
    by_cases g37 : K.what.op = 37
    · have := iter_37 I hI hl i (by omega) K hK hpc.1 _ Sn key g37
      rw [g37]
      exact this
    by_cases g38 : K.what.op = 38
    · have := iter_38 I hI hl i (by omega) K hK hpc.1 _ Sn key g38
      rw [g38]
      exact this
    have hw : wantOf K.what.op = 0 := by
      unfold wantOf
      rw [if_neg (by omega), if_neg (by omega)]
    have e : decide (wantOf K.what.op ≠ 0) = false := by simp [hw]
    rw [e, Bool.false_and, Bool.false_and, if_neg (by simp)]
    apply Exists.intro
    refine loopAt_step ok10_.good 1000 ?_
    ((repeat ((conv => lhs; whnf); simp only [go_sem, simprocAttr, sem10_, h1, h4, Int.toNat_natCast, hK, alloc_Pair, g10, g11, g37, g38])); try (conv => lhs; whnf); try rfl)
def checkI (I : List Pr) : Int := if I.length ≤ 40 ∧ okPs I I.length 0 = true then 0 else 3
theorem call_stCheck (I : List Pr) (hI : ∀ p ∈ I, p.ok) (hl : I.length ≤ 60) (hc : ∀ p ∈ I, p.wth.count ≤ 1000 ∧ p.what.count ≤ 1000) : callL Tryz.prog hints 10 [.sl (prRows I) false] = some (.int .i64 (checkI I)) := by
  unfold checkI
  by_cases h : I.length ≤ 40
  · have h' : ¬ 40 < (I.length : Int) := by omega
    obtain ⟨S', k⟩ := loop_Check I hI hl hc I.length 0 (by omega)
    have e : (I.length ≤ 40 ∧ okPs I I.length 0 = true) ↔ okPs I I.length 0 = true := ⟨fun x => x.2, fun x => ⟨h, x⟩⟩
    simp only [e]
    apply FX.callV ok10_ 1000 rfl rfl
    · ((repeat ((conv => lhs; whnf); simp only [go_sem, simprocAttr, sem10_, h'])); try (conv => lhs; whnf); try rfl)
      exact k
    · rfl
  · have h' : 40 < (I.length : Int) := by omega
    rw [if_neg (fun x => h x.1)]
    apply FX.callV ok10_ 1000 rfl rfl
    · ((repeat ((conv => lhs; whnf); simp only [go_sem, simprocAttr, sem10_, h'])); try (conv => lhs; whnf); try rfl)
    · rfl
theorem stCheck_o (S : Store) (I : List Pr) (hI : ∀ p ∈ I, p.ok) (hl : I.length ≤ 60) (hc : ∀ p ∈ I, p.wth.count ≤ 1000 ∧ p.what.count ≤ 1000) : callO (callL Tryz.prog hints) S 10 [.sl (prRows I) false] = some { v := .int .i64 (checkI I) } := callO_plain (call_stCheck I hI hl hc) (by simp [Plain.sl])
end
end Go.Vs
