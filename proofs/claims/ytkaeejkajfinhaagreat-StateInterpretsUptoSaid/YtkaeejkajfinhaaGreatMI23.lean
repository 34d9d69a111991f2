
import Derived.Test.YtkaeejkajfinhaaGreatMI22
section
set_option linter.unusedVariables false
set_option linter.unusedSimpArgs false
set_option maxRecDepth 100000
namespace Go.Vs
open Go Go.Proofs
def KidsW (n : Node) : Prop := ∀ k ∈ n.kids, ∀ s t f, callL Tryz.prog hints 87 [.agg k.cells, .int .i64 s, .bool t, .bool f] = some (.bool (k.well s t f))
theorem callWell {k : Node} {s : Int} {t f v : Bool} (S : Store) (h : callL Tryz.prog hints 87 [.agg k.cells, .int .i64 s, .bool t, .bool f] = some (.bool v)) : callO (callL Tryz.prog hints) S 87 [.agg k.cells, .int .i64 s, .bool t, .bool f] = some { v := .bool v } := callO_plain h (by simp [Node.plain, Plain.int, Plain.bool])
section
attribute [local irreducible] Vs.callL Vs.callRL tyi callO callM callMV appendE storeE evLoad indexAddrO sliceO evFieldAddr evField buildO buildSliceO makeSliceO allocO boxed lenO copyE convertO indexO Vs.gc freezeAll
noncomputable def fx131_ : FX := ⟨Tryz.f131, hints.of 131, []⟩
theorem ok131_ : fx131_.ok 131 := ⟨by kernel_rfl, of_decide_eq_true (by kernel_rfl), by kernel_rfl, by kernel_rfl, by kernel_rfl, by kernel_rfl⟩
theorem sem131_ (b0 : Nat) (m : Md) (fs : List Fr) (e : Env) (S : Store) : sem b0 fx131_ m fs e S = run b0 fx131_ 1000 m fs e S := (sem_eq _ _ _ _ _ _).trans (run_sem b0 fx131_ ok131_.good 1000 m fs e S).symm
theorem loop2_flow (n : Node) (hn : n.ok) (t f : Bool) (i : Nat) (hi : i < n.kids.length) (fs : List Fr) : ∀ (m j : Nat), j + m = i →
    ((((n.kids.take i).drop j).all (otherVar (n.kids.getD i nd0))) = true → ∀ z, exitTo 0 fx131_ 2 fs [(1, .bool t), (2, .bool f), (3, .mp 0 0 0), (7, .int .i64 n.kids.length), (8, .int .i64 i), (9, .undef), (10, .undef), (71, .undef)] [.arr [n.cells] none false, .arr [(n.kids.getD i nd0).cells] none false] = some z →
      loopAt 0 fx131_ 2 62620 2 fs [(1, .bool t), (2, .bool f), (3, .mp 0 0 0), (7, .int .i64 n.kids.length), (8, .int .i64 i), (9, .mp 1 0 0), (10, .int .i64 j)] [.arr [n.cells] none false, .arr [(n.kids.getD i nd0).cells] none false] = some z) ∧
    ((((n.kids.take i).drop j).all (otherVar (n.kids.getD i nd0))) = false → ∃ S',
      loopAt 0 fx131_ 2 62620 2 fs [(1, .bool t), (2, .bool f), (3, .mp 0 0 0), (7, .int .i64 n.kids.length), (8, .int .i64 i), (9, .mp 1 0 0), (10, .int .i64 j)] [.arr [n.cells] none false, .arr [(n.kids.getD i nd0).cells] none false] = some (.bool false, S')) := by
  intro m
  induction m with
  | zero =>
    intro j hj
    have h1 : ¬ (j : Int) < (i : Int) := by omega
    have e0 : ((n.kids.take i).drop j) = [] := List.drop_of_length_le (by simp; omega)
    rw [e0]
    refine ⟨fun _ z hz => ?_, fun h => by simp at h⟩
    refine loopAt_step ok131_.good 1000 ?_
    ((repeat ((conv => lhs; whnf); simp only [go_sem, simprocAttr, sem131_, h1])); try (conv => lhs; whnf); try rfl)
    exact hz
  | succ m hm =>
    intro j hj
    have h1 : (j : Int) < (i : Int) := by omega
    have h2 := wrap_succ (i := j) (n := n.kids.length) (by omega) hn.len
    have h3 : 0 ≤ (j : Int) ∧ (j : Int) < (n.kids.length : Int) := ⟨by omega, by omega⟩
    obtain ⟨k1, k2⟩ := hm (j + 1) (by omega)
    rw [take_drop_cons (l := n.kids) (i := i) (j := j) (by omega) (by omega), List.all_cons]
    generalize hK : n.kids.getD i nd0 = K at *
    unfold otherVar at *
    by_cases hop : K.op = 55
    · cases hnm : (n.kids.getD j nd0).name.toList == K.name.toList
      · simp only [hop, hnm, decide_true, Bool.true_and, Bool.not_false] at k1 k2 ⊢
        refine ⟨fun ha z hz => ?_, fun ha => ?_⟩
        · refine loopAt_step ok131_.good 1000 ?_
          ((repeat ((conv => lhs; whnf); simp only [go_sem, simprocAttr, sem131_, h1, h2, h3, Int.toNat_natCast, hop, hnm])); try (conv => lhs; whnf); try rfl)
          exact k1 ha z hz
        · obtain ⟨S', k⟩ := k2 ha
          refine ⟨S', loopAt_step ok131_.good 1000 ?_⟩
          ((repeat ((conv => lhs; whnf); simp only [go_sem, simprocAttr, sem131_, h1, h2, h3, Int.toNat_natCast, hop, hnm])); try (conv => lhs; whnf); try rfl)
          exact k
      · refine ⟨fun ha => by simp [hop, hnm] at ha, fun _ => ?_⟩
        apply Exists.intro
        refine loopAt_step ok131_.good 1000 ?_
        ((repeat ((conv => lhs; whnf); simp only [go_sem, simprocAttr, sem131_, h1, h2, h3, Int.toNat_natCast, hop, hnm])); try (conv => lhs; whnf); try rfl)
    · simp only [hop, decide_false, Bool.false_and, Bool.not_false, Bool.true_and] at k1 k2 ⊢
      refine ⟨fun ha z hz => ?_, fun ha => ?_⟩
      · refine loopAt_step ok131_.good 1000 ?_
        ((repeat ((conv => lhs; whnf); simp only [go_sem, simprocAttr, sem131_, h1, h2, h3, Int.toNat_natCast, hop])); try (conv => lhs; whnf); try rfl)
        exact k1 ha z hz
      · obtain ⟨S', k⟩ := k2 ha
        refine ⟨S', loopAt_step ok131_.good 1000 ?_⟩
        ((repeat ((conv => lhs; whnf); simp only [go_sem, simprocAttr, sem131_, h1, h2, h3, Int.toNat_natCast, hop])); try (conv => lhs; whnf); try rfl)
        exact k
theorem loop_flow (n : Node) (hn : n.ok) (t f : Bool) (ih : KidsW n) (last : Nat) (hlast : last + 1 = n.kids.length) : ∀ (m i : Nat), i + m = last →
    ∃ S', loopAt 0 fx131_ 0 244 1 [.blk 0, .seq 0 31] [(1, .bool t), (2, .bool f), (3, .mp 0 0 0), (7, .int .i64 n.kids.length), (8, .int .i64 i)] [.arr [n.cells] none false] = some (.bool (flowRest n.kids last t f m i), S') := by
  have hM := maxLen_le
  have hnl := hn.len
  have w1 : IntKind.i64.wrap ((n.kids.length : Int) - 1) = (last : Int) := by rw [IntKind.wrap_i64]; omega
  have w2 : IntKind.i64.wrap ((n.kids.length : Int) - 2) = (last : Int) - 1 := by rw [IntKind.wrap_i64]; omega
  intro m
  induction m with
  | zero =>
    intro i hi
    obtain rfl : i = last := by omega
    have h1 : ¬ (i : Int) < (i : Int) := by omega
    apply Exists.intro
    refine loopAt_step ok131_.good 1000 ?_
    unfold flowRest
    ((repeat ((conv => lhs; whnf); simp only [go_sem, simprocAttr, sem131_, w1, h1])); try (conv => lhs; whnf); try rfl)
    refine exit_run ok131_.good 1000 ?_
    ((repeat ((conv => lhs; whnf); simp only [go_sem, simprocAttr, sem131_])); try (conv => lhs; whnf); try rfl)
  | succ m hm =>
    intro i hi
    have h1 : (i : Int) < (last : Int) := by omega
    have h3 : 0 ≤ (i : Int) ∧ (i : Int) < (n.kids.length : Int) := ⟨by omega, by omega⟩
    have h5 := wrap_succ (i := i) (n := n.kids.length) (by omega) hn.len
    have h6 := fun S => callWell S (ih _ (kids_mem (l := n.kids) (i := i) (by omega)) 4 t f)
    have L2 := fun fs => loop2_flow n hn t f i (by omega) fs i 0 (by omega)
    simp only [List.drop_zero] at L2
    obtain ⟨Sn, key⟩ := hm (i + 1) (by omega)
    have e0 : flowRest n.kids last t f (m + 1) i = (((decide ((n.kids.getD i nd0).op = 55) || (decide ((n.kids.getD i nd0).op = 56) && decide (i = last - 1))) && (n.kids.getD i nd0).well 4 t f) && ((n.kids.take i).all (otherVar (n.kids.getD i nd0)) && flowRest n.kids last t f m (i + 1))) := rfl
    rw [e0]
    generalize hK : n.kids.getD i nd0 = K at *
    by_cases c2 : K.op = 56
    · have c1 : ¬ K.op = 55 := by omega
      by_cases c3 : (i : Int) < (last : Int) - 1
      · have c3' : ¬ i = last - 1 := by omega
        rw [decide_eq_false c1, decide_eq_false c3', Bool.and_false, Bool.or_self, Bool.false_and, Bool.false_and]
        apply Exists.intro
        refine loopAt_step ok131_.good 1000 ?_
        ((repeat ((conv => lhs; whnf); simp only [go_sem, simprocAttr, sem131_, h1, h3, w1, w2, Int.toNat_natCast, hK, c2, c3])); try (conv => lhs; whnf); try rfl)
      · have c3' : i = last - 1 := by omega
        rw [decide_eq_false c1, decide_eq_true c2, decide_eq_true c3', Bool.and_self, Bool.or_true, Bool.true_and]
        cases hw : K.well 4 t f
        · rw [hw] at h6
          rw [Bool.false_and]
          apply Exists.intro
          refine loopAt_step ok131_.good 1000 ?_
          ((repeat ((conv => lhs; whnf); simp only [go_sem, simprocAttr, sem131_, h1, h3, w1, w2, Int.toNat_natCast, hK, c2, c3, h6])); try (conv => lhs; whnf); try rfl)
        · rw [hw] at h6
          rw [Bool.true_and]
          cases f2 : ((n.kids.take i).all (otherVar K))
          · obtain ⟨S', k⟩ := (L2 _).2 f2
            refine ⟨S', loopAt_step ok131_.good 1000 ?_⟩
            rw [Bool.false_and]
            ((repeat ((conv => lhs; whnf); simp only [go_sem, simprocAttr, sem131_, h1, h3, w1, w2, Int.toNat_natCast, hK, c2, c3, h6])); try (conv => lhs; whnf); try rfl)
            exact k
          · rw [Bool.true_and]
            refine ⟨Sn, loopAt_step ok131_.good 1000 ?_⟩
            ((repeat ((conv => lhs; whnf); simp only [go_sem, simprocAttr, sem131_, h1, h3, w1, w2, Int.toNat_natCast, hK, c2, c3, h6])); try (conv => lhs; whnf); try rfl)
            refine (L2 _).1 f2 _ ?_
            refine exit_run ok131_.good 1000 ?_
            ((repeat ((conv => lhs; whnf); simp only [go_sem, simprocAttr, sem131_, h5])); try (conv => lhs; whnf); try rfl)
            exact key
    · by_cases c1 : K.op = 55
      · rw [decide_eq_true c1, Bool.true_or, Bool.true_and]
        cases hw : K.well 4 t f
        · rw [hw] at h6
          rw [Bool.false_and]
          apply Exists.intro
          refine loopAt_step ok131_.good 1000 ?_
          ((repeat ((conv => lhs; whnf); simp only [go_sem, simprocAttr, sem131_, h1, h3, w1, w2, Int.toNat_natCast, hK, c1, h6])); try (conv => lhs; whnf); try rfl)
        · rw [hw] at h6
          rw [Bool.true_and]
          cases f2 : ((n.kids.take i).all (otherVar K))
          · obtain ⟨S', k⟩ := (L2 _).2 f2
            refine ⟨S', loopAt_step ok131_.good 1000 ?_⟩
            rw [Bool.false_and]
            ((repeat ((conv => lhs; whnf); simp only [go_sem, simprocAttr, sem131_, h1, h3, w1, w2, Int.toNat_natCast, hK, c1, h6])); try (conv => lhs; whnf); try rfl)
            exact k
          · rw [Bool.true_and]
            refine ⟨Sn, loopAt_step ok131_.good 1000 ?_⟩
            ((repeat ((conv => lhs; whnf); simp only [go_sem, simprocAttr, sem131_, h1, h3, w1, w2, Int.toNat_natCast, hK, c1, h6])); try (conv => lhs; whnf); try rfl)
            refine (L2 _).1 f2 _ ?_
            refine exit_run ok131_.good 1000 ?_
            ((repeat ((conv => lhs; whnf); simp only [go_sem, simprocAttr, sem131_, h5])); try (conv => lhs; whnf); try rfl)
            exact key
      · rw [decide_eq_false c1, decide_eq_false c2, Bool.false_and, Bool.or_self, Bool.false_and, Bool.false_and]
        apply Exists.intro
        refine loopAt_step ok131_.good 1000 ?_
        ((repeat ((conv => lhs; whnf); simp only [go_sem, simprocAttr, sem131_, h1, h3, w1, w2, Int.toNat_natCast, hK, c1, c2])); try (conv => lhs; whnf); try rfl)
theorem call_flow8 (n : Node) (hn : n.ok) (t f : Bool) (ih : KidsW n) : callL Tryz.prog hints 131 [.agg n.cells, .bool t, .bool f] = some (.bool (flowRef n t f)) := by
  have hM := maxLen_le
  have hnl := hn.len
  have hp := fun S => primed8_o S n hn
  by_cases hl : 2 ≤ n.kids.length
  · have hl' : ¬ (n.kids.length : Int) < 2 := by omega
    obtain ⟨last, hlast⟩ : ∃ last, last + 1 = n.kids.length := ⟨n.kids.length - 1, by omega⟩
    have hlast' : n.kids.length - 1 = last := by omega
    have w1 : IntKind.i64.wrap ((n.kids.length : Int) - 1) = (last : Int) := by rw [IntKind.wrap_i64]; omega
    have hx : 0 ≤ (last : Int) ∧ (last : Int) < (n.kids.length : Int) := by omega
    have hwl := fun S => callWell S (ih _ (kids_mem (l := n.kids) (i := last) (by omega)) 2 t f)
    have e : flowRef n t f = (!n.primed && ((n.kids.getD last nd0).well 2 t f && flowRest n.kids last t f last 0)) := by
      have h := wells_flow n.kids last hlast t f last 0 (by omega)
      simp only [List.drop_zero] at h
      simp only [flowRef, hl, decide_true, Bool.true_and, hlast', flowOK, h]
    rw [e]
    cases hpr : n.primed
    · rw [hpr] at hp
      rw [Bool.not_false, Bool.true_and]
      cases hwv : (n.kids.getD last nd0).well 2 t f
      · rw [hwv] at hwl
        rw [Bool.false_and]
        apply FX.callB2 ok131_ 1000 rfl rfl
        ((repeat ((conv => lhs; whnf); simp only [go_sem, simprocAttr, sem131_, hl', hp, w1, hx, Int.toNat_natCast, hwl])); try (conv => lhs; whnf); try rfl)
      · rw [hwv] at hwl
        rw [Bool.true_and]
        obtain ⟨S', k⟩ := loop_flow n hn t f ih last hlast last 0 (by omega)
        apply FX.callB2 ok131_ 1000 rfl rfl
        ((repeat ((conv => lhs; whnf); simp only [go_sem, simprocAttr, sem131_, hl', hp, w1, hx, Int.toNat_natCast, hwl])); try (conv => lhs; whnf); try rfl)
        exact k
    · rw [hpr] at hp
      rw [Bool.not_true, Bool.false_and]
      apply FX.callB2 ok131_ 1000 rfl rfl
      ((repeat ((conv => lhs; whnf); simp only [go_sem, simprocAttr, sem131_, hl', hp])); try (conv => lhs; whnf); try rfl)
  · have hl' : (n.kids.length : Int) < 2 := by omega
    have e : flowRef n t f = false := by simp only [flowRef, hl, decide_false, Bool.false_and]
    rw [e]
    apply FX.callB2 ok131_ 1000 rfl rfl
    ((repeat ((conv => lhs; whnf); simp only [go_sem, simprocAttr, sem131_, hl'])); try (conv => lhs; whnf); try rfl)
end
end Go.Vs
end
section
set_option linter.unusedVariables false
set_option linter.unusedSimpArgs false
set_option maxRecDepth 100000
namespace Go.Vs
open Go Go.Proofs
theorem cv_uint8_int' (S : Store) (k : IntKind) (n : Int) : convertO Tryz.prog 5 3 S (.int k n) = some (.int .i64 (IntKind.i64.wrap n)) := by
  simp [convertO, show (tyi Tryz.prog 5).known = true by kernel_rfl, evConvert, show (tyi Tryz.prog 3).d = .int .i64 by kernel_rfl]
section
attribute [local irreducible] Vs.callL Vs.callRL tyi callO callM callMV appendE storeE evLoad indexAddrO sliceO evFieldAddr evField buildO buildSliceO makeSliceO allocO boxed lenO copyE convertO indexO Vs.gc freezeAll
noncomputable def fx87_ : FX := ⟨Tryz.f87, hints.of 87, []⟩
theorem ok87_ : fx87_.ok 87 := ⟨by kernel_rfl, of_decide_eq_true (by kernel_rfl), by kernel_rfl, by kernel_rfl, by kernel_rfl, by kernel_rfl⟩
theorem sem87_ (b0 : Nat) (m : Md) (fs : List Fr) (e : Env) (S : Store) : sem b0 fx87_ m fs e S = run b0 fx87_ 1000 m fs e S := (sem_eq _ _ _ _ _ _).trans (run_sem b0 fx87_ ok87_.good 1000 m fs e S).symm
theorem tail_well (n : Node) (hn : n.ok) (h2 : n.op = 8 ∨ n.op = 9 → n.kids.length = 2) (h3 : n.op = 39 → n.kids.length = 1) :
    ∃ S', exitTo 0 fx87_ 0 [.blk 0, .seq 0 1023] [(2, .undef), (3, .undef), (4, .mp 0 0 0), (9, .undef), (10, .undef), (108, .undef)] [.arr [n.cells] none false] = some (.bool (tailRef n.op n.kids), S') := by
  unfold tailRef
  by_cases h8 : n.op = 8
  · have h1 : (n.kids.length : Int) = 2 := by have := h2 (.inl h8); omega
    rw [if_pos h8]
    generalize hk : n.kids.getD 1 nd0 = k
    apply Exists.intro
    refine exit_run ok87_.good 1000 ?_
    by_cases e1 : k.op = 1
    · by_cases e2 : 0 < k.num.length
      · have e2' : 0 < (k.num.length : Int) := by omega
        rw [decide_eq_true e1, decide_eq_true e2, Bool.and_self]
        ((repeat ((conv => lhs; whnf); simp only [go_sem, simprocAttr, sem87_, h8, h1, hk, e1, e2'])); try (conv => lhs; whnf); try rfl)
      · have e2' : ¬ 0 < (k.num.length : Int) := by omega
        rw [decide_eq_true e1, decide_eq_false e2, Bool.and_false]
        ((repeat ((conv => lhs; whnf); simp only [go_sem, simprocAttr, sem87_, h8, h1, hk, e1, e2'])); try (conv => lhs; whnf); try rfl)
    · rw [decide_eq_false e1, Bool.false_and]
      ((repeat ((conv => lhs; whnf); simp only [go_sem, simprocAttr, sem87_, h8, h1, hk, e1])); try (conv => lhs; whnf); try rfl)
  by_cases h9 : n.op = 9
  · have h1 : (n.kids.length : Int) = 2 := by have := h2 (.inr h9); omega
    have hko := hn.kids _ (kids_mem (l := n.kids) (i := 1) (by have := h2 (.inr h9); omega))
    rw [if_neg h8, if_pos h9]
    generalize hk : n.kids.getD 1 nd0 = k at *
    have hc := fun S => Natural8_o S k hko 20
    apply Exists.intro
    refine exit_run ok87_.good 1000 ?_
    by_cases e1 : k.op = 1
    · rw [decide_eq_true e1, Bool.true_and]
      by_cases e2 : 0 ≤ natVal k.num 20
      · rw [decide_eq_true e2]
        ((repeat ((conv => lhs; whnf); simp only [go_sem, simprocAttr, sem87_, h8, h9, h1, hk, e1, hc, e2])); try (conv => lhs; whnf); try rfl)
      · rw [decide_eq_false e2]
        ((repeat ((conv => lhs; whnf); simp only [go_sem, simprocAttr, sem87_, h8, h9, h1, hk, e1, hc, e2])); try (conv => lhs; whnf); try rfl)
    · rw [decide_eq_false e1, Bool.false_and]
      ((repeat ((conv => lhs; whnf); simp only [go_sem, simprocAttr, sem87_, h8, h9, h1, hk, e1])); try (conv => lhs; whnf); try rfl)
  by_cases h39 : n.op = 39
  · have h1 : (n.kids.length : Int) = 1 := by have := h3 h39; omega
    have hc := fun S => diff8_o S _ (hn.kids _ (kids_mem (l := n.kids) (i := 0) (by omega)))
    rw [if_neg h8, if_neg h9, if_pos h39]
    apply Exists.intro
    refine exit_run ok87_.good 1000 ?_
    ((repeat ((conv => lhs; whnf); simp only [go_sem, simprocAttr, sem87_, h8, h9, h39, h1, hc, Int.toNat_zero])); try (conv => lhs; whnf); try rfl)
  · rw [if_neg h8, if_neg h9, if_neg h39]
    apply Exists.intro
    refine exit_run ok87_.good 1000 ?_
    ((repeat ((conv => lhs; whnf); simp only [go_sem, simprocAttr, sem87_, h8, h9, h39])); try (conv => lhs; whnf); try rfl)
theorem loop_well (n : Node) (hn : n.ok) (t f : Bool) (s : List Int) (hs : s.length = n.kids.length) (hd : ∀ d ∈ s, 0 ≤ d ∧ d ≤ 100) (ih : KidsW n) (h2 : n.op = 8 ∨ n.op = 9 → n.kids.length = 2) (h3 : n.op = 39 → n.kids.length = 1) :
    ∀ (m i : Nat), i + m = n.kids.length → ∃ S', loopAt 0 fx87_ 0 8180 1 [.blk 0, .seq 0 1023] [(2, .bool t), (3, .bool f), (4, .mp 0 0 0), (9, .str (digits s)), (10, .int .i64 i)] [.arr [n.cells] none false] =
      some (.bool (Node.wells (n.kids.drop i) (s.drop i) (t || decide (n.op = 12)) (f || decide (n.op = 39)) && tailRef n.op n.kids), S') := by
  have hsz := digits_size s
  intro m
  induction m with
  | zero =>
    intro i hi
    have h1 : ¬ (i : Int) < (s.length : Int) := by omega
    obtain ⟨S', k⟩ := tail_well n hn h2 h3
    rw [List.drop_of_length_le (l := n.kids) (by omega)]
    refine ⟨S', loopAt_step ok87_.good 1000 ?_⟩
    unfold Node.wells
    rw [Bool.true_and]
    ((repeat ((conv => lhs; whnf); simp only [go_sem, simprocAttr, sem87_, hsz, h1])); try (conv => lhs; whnf); try rfl)
    exact k
  | succ m hm =>
    intro i hi
    have h1 : (i : Int) < (s.length : Int) := by omega
    have h1' : (i : Int) < (n.kids.length : Int) := by omega
    have h4 : (0 : Int) ≤ (i : Int) := by omega
    have h5 := wrap_succ (i := i) (n := n.kids.length) (by omega) hn.len
    have hsi : s.getD i 0 ∈ s := by
      have : i < s.length := by omega
      simp [List.getD_eq_getElem?_getD, this]
    have hdi := hd _ hsi
    have hb := digits_at (l := s) (i := i) (by omega) hdi
    have hw1 : IntKind.u8.wrap (48 + s.getD i 0 - 48) = s.getD i 0 := by rw [IntKind.wrap_u8]; omega
    have hw2 : IntKind.i64.wrap (s.getD i 0) = s.getD i 0 := by rw [IntKind.wrap_i64]; omega
    obtain ⟨S', h6⟩ := hm (i + 1) (by omega)
    have e : Node.wells (n.kids.drop i) (s.drop i) (t || decide (n.op = 12)) (f || decide (n.op = 39)) = ((n.kids.getD i nd0).well (s.getD i 0) (t || decide (n.op = 12)) (f || decide (n.op = 39)) && Node.wells (n.kids.drop (i + 1)) (s.drop (i + 1)) (t || decide (n.op = 12)) (f || decide (n.op = 39))) := by
      rw [kids_drop (l := n.kids) (by omega)]
      simp only [Node.wells, List.tail_drop]
      have : (s.drop i).getD 0 0 = s.getD i 0 := by simp [List.getD_eq_getElem?_getD]
      rw [this]
    rw [e]
    have hc := fun S => callWell S (ih _ (kids_mem (l := n.kids) (i := i) (by omega)) (s.getD i 0) (t || decide (n.op = 12)) (f || decide (n.op = 39)))
    cases hv : (n.kids.getD i nd0).well (s.getD i 0) (t || decide (n.op = 12)) (f || decide (n.op = 39))
    · rw [hv] at hc
      rw [Bool.false_and, Bool.false_and]
      clear hv e h6
      by_cases h12 : n.op = 12
      · have h39 : ¬ n.op = 39 := by omega
        simp only [h12, decide_true, Bool.or_true, Int.reduceEq, decide_false, Bool.or_false] at hc
        cases t <;> cases f <;> (apply Exists.intro; refine loopAt_step ok87_.good 1000 ?_; ((repeat ((conv => lhs; whnf); simp only [go_sem, simprocAttr, sem87_, hsz, h1, h1', h4, h5, Int.toNat_natCast, hb, hw1, hw2, cv_uint8_int', h12, hc, Int.reduceEq])); try (conv => lhs; whnf); try rfl))
      · by_cases h39 : n.op = 39
        · simp only [h39, decide_true, Bool.or_true, Int.reduceEq, decide_false, Bool.or_false] at hc
          cases t <;> cases f <;> (apply Exists.intro; refine loopAt_step ok87_.good 1000 ?_; ((repeat ((conv => lhs; whnf); simp only [go_sem, simprocAttr, sem87_, hsz, h1, h1', h4, h5, Int.toNat_natCast, hb, hw1, hw2, cv_uint8_int', h39, hc, Int.reduceEq])); try (conv => lhs; whnf); try rfl))
        · simp only [h12, h39, decide_false, Bool.or_false] at hc
          cases t <;> cases f <;> (apply Exists.intro; refine loopAt_step ok87_.good 1000 ?_; ((repeat ((conv => lhs; whnf); simp only [go_sem, simprocAttr, sem87_, hsz, h1, h1', h4, h5, Int.toNat_natCast, hb, hw1, hw2, cv_uint8_int', h12, h39, hc])); try (conv => lhs; whnf); try rfl))
    · rw [hv] at hc
      rw [Bool.true_and]
      refine ⟨S', loopAt_step ok87_.good 1000 ?_⟩
      clear hv e
      by_cases h12 : n.op = 12
      · have h39 : ¬ n.op = 39 := by omega
        simp only [h12, decide_true, Bool.or_true, Int.reduceEq, decide_false, Bool.or_false] at hc
        cases t <;> cases f <;> (((repeat ((conv => lhs; whnf); simp only [go_sem, simprocAttr, sem87_, hsz, h1, h1', h4, h5, Int.toNat_natCast, hb, hw1, hw2, cv_uint8_int', h12, hc, Int.reduceEq])); try (conv => lhs; whnf); try rfl); rw [h12] at h6; exact h6)
      · by_cases h39 : n.op = 39
        · simp only [h39, decide_true, Bool.or_true, Int.reduceEq, decide_false, Bool.or_false] at hc
          cases t <;> cases f <;> (((repeat ((conv => lhs; whnf); simp only [go_sem, simprocAttr, sem87_, hsz, h1, h1', h4, h5, Int.toNat_natCast, hb, hw1, hw2, cv_uint8_int', h39, hc, Int.reduceEq])); try (conv => lhs; whnf); try rfl); rw [h39] at h6; exact h6)
        · simp only [h12, h39, decide_false, Bool.or_false] at hc
          cases t <;> cases f <;> (((repeat ((conv => lhs; whnf); simp only [go_sem, simprocAttr, sem87_, hsz, h1, h1', h4, h5, Int.toNat_natCast, hb, hw1, hw2, cv_uint8_int', h12, h39, hc])); try (conv => lhs; whnf); try rfl); simpa only [h12, h39, decide_false, Bool.or_false] using h6)
end
end Go.Vs
end
section
set_option linter.unusedVariables false
set_option linter.unusedSimpArgs false
set_option maxRecDepth 100000
namespace Go.Vs
open Go Go.Proofs
theorem within_small (n : Node) : (n.within 4000 60).1 = n.small := by
  have hw := within_iff n 4000 60 (by omega) (by omega)
  cases h : (n.within 4000 60).1
  · have := hw.1
    rw [h] at this
    cases h2 : n.small
    · rfl
    · exfalso
      simp only [Node.small, Bool.and_eq_true, decide_eq_true_eq] at h2
      have := this.2 (by omega)
      cases this
  · have := hw.1.1 h
    simp only [Node.small]
    rw [decide_eq_true (show n.count ≤ 4000 by omega), decide_eq_true (show n.depth ≤ 60 by omega)]
    rfl
theorem build_Plc0 : buildO (tyi Tryz.prog 112) [] = some (.agg [.bool false, .bool false, .bool false]) := by
  unfold buildO; rw [d_Plc, zero_Plc]; rfl
section
attribute [local irreducible] Vs.callL Vs.callRL tyi callO callM callMV appendE storeE evLoad indexAddrO sliceO evFieldAddr evField buildO buildSliceO makeSliceO allocO boxed lenO copyE convertO indexO Vs.gc freezeAll
noncomputable def fx37_ : FX := ⟨Tryz.f37, hints.of 37, []⟩
theorem ok37_ : fx37_.ok 37 := ⟨by kernel_rfl, of_decide_eq_true (by kernel_rfl), by kernel_rfl, by kernel_rfl, by kernel_rfl, by kernel_rfl⟩
theorem sem37_ (b0 : Nat) (m : Md) (fs : List Fr) (e : Env) (S : Store) : sem b0 fx37_ m fs e S = run b0 fx37_ 1000 m fs e S := (sem_eq _ _ _ _ _ _).trans (run_sem b0 fx37_ ok37_.good 1000 m fs e S).symm
theorem call_tCheck (n : Node) (hn : n.ok) (sort : Int) : callL Tryz.prog hints 37 [.agg n.cells, .int .i64 sort] = some (.int .i64 (n.check sort)) := by
  obtain ⟨G, hG⟩ := call_within n hn 60 4000 (by omega) (by omega) [n.cells] (node_flat n) [] .nil
  have hc := callM_eq (by kernel_rfl) hG (by simp [st2_len]) (st2_flat (node_flat n) rfl .nil).closed (by simp [belowL, refsL_cons, refsL_nil, refs_agg, Node.refs, refs_mp, refs_int, st2_len])
  rw [within_small] at hc
  unfold wSt st2 at hc
  rw [List.nil_append] at hc
  unfold Node.check
  by_cases h1 : sort < 1
  · rw [if_pos (.inl h1)]
    apply FX.callV ok37_ 1000 rfl rfl
    · ((repeat ((conv => lhs; whnf); simp only [go_sem, simprocAttr, sem37_, h1])); try (conv => lhs; whnf); try rfl)
    · rfl
  by_cases h2 : 3 < sort
  · rw [if_pos (.inr h2)]
    apply FX.callV ok37_ 1000 rfl rfl
    · ((repeat ((conv => lhs; whnf); simp only [go_sem, simprocAttr, sem37_, h1, h2])); try (conv => lhs; whnf); try rfl)
    · rfl
  rw [if_neg (by omega)]
  cases hsm : n.small
  · rw [hsm] at hc
    rw [if_pos rfl]
    apply FX.callV ok37_ 1000 rfl rfl
    · ((repeat ((conv => lhs; whnf); simp only [go_sem, simprocAttr, sem37_, h1, h2, alloc_int, part_int1, hc])); try (conv => lhs; whnf); try rfl)
    · rfl
  · rw [hsm] at hc
    have hcount : n.count ≤ 4000 := by
      simp only [Node.small, Bool.and_eq_true, decide_eq_true_eq] at hsm
      exact hsm.1
    have hf := fun S => callFormed S (call_formed n hn (by omega) false false false)
    rw [if_neg (by simp)]
    by_cases h3 : sortOf n.op = sort
    · rw [if_neg (by simpa using h3)]
      cases hfm : n.formed false false false
      · rw [hfm] at hf
        rw [if_pos rfl]
        apply FX.callV ok37_ 1000 rfl rfl
        · ((repeat ((conv => lhs; whnf); simp only [go_sem, simprocAttr, sem37_, h1, h2, alloc_int, part_int1, hc, Sort_o, h3, hf, build_Plc0])); try (conv => lhs; whnf); try rfl)
        · rfl
      · rw [hfm] at hf
        rw [if_neg (by simp)]
        apply FX.callV ok37_ 1000 rfl rfl
        · ((repeat ((conv => lhs; whnf); simp only [go_sem, simprocAttr, sem37_, h1, h2, alloc_int, part_int1, hc, Sort_o, h3, hf, build_Plc0])); try (conv => lhs; whnf); try rfl)
        · rfl
    · rw [if_pos h3]
      apply FX.callV ok37_ 1000 rfl rfl
      · ((repeat ((conv => lhs; whnf); simp only [go_sem, simprocAttr, sem37_, h1, h2, alloc_int, part_int1, hc, Sort_o, h3])); try (conv => lhs; whnf); try rfl)
      · rfl
theorem tCheck_o (S : Store) (n : Node) (hn : n.ok) (sort : Int) : callO (callL Tryz.prog hints) S 37 [.agg n.cells, .int .i64 sort] = some { v := .int .i64 (n.check sort) } := callO_plain (call_tCheck n hn sort) (by simp [Node.plain, Plain.int])
end
end Go.Vs
end
section
set_option linter.unusedVariables false
set_option linter.unusedSimpArgs false
set_option maxRecDepth 100000
namespace Go.Vs
open Go Go.Proofs
def Node.wellRest (n : Node) (t f : Bool) : Bool := !((t && decide (n.op = 12)) || ((t || f) && decide (n.op = 3))) && (if n.op = 54 then flowRef n t f else n.wellKids t f)
theorem well_rest (n : Node) (s : Int) (t f : Bool) : n.well s t f = ((decide (sortOf n.op = s) && (decide (hasName' n.op = nameOK n.name) && (hasName' n.op || noName n.name))) && ((if n.op = 1 then natOK n.neg n.num n.den else (!n.neg && (decide (n.num.length = 0) && decide (n.den.length = 0)))) && n.wellRest t f)) := by
  rw [Node.well_eq]; rfl
section
attribute [local irreducible] Vs.callL Vs.callRL tyi callO callM callMV appendE storeE evLoad indexAddrO sliceO evFieldAddr evField buildO buildSliceO makeSliceO allocO boxed lenO copyE convertO indexO Vs.gc freezeAll
theorem fin_well (n : Node) (hn : n.ok) (t f : Bool) (s : List Int) (hd : ∀ d ∈ s, 0 ≤ d ∧ d ≤ 100) (ih : KidsW n) (h2 : n.op = 8 ∨ n.op = 9 → s.length = 2) (h3 : n.op = 39 → s.length = 1) (hl : s.length = n.kids.length) :
    ∃ S', loopAt 0 fx87_ 0 8180 1 [.blk 0, .seq 0 1023] [(2, .bool t), (3, .bool f), (4, .mp 0 0 0), (9, .str (digits s)), (10, .int .i64 0)] [.arr [n.cells] none false] = some (.bool (Node.wells n.kids s (t || decide (n.op = 12)) (f || decide (n.op = 39)) && tailRef n.op n.kids), S') :=
  loop_well n hn t f s hl hd ih (fun h => by rw [← hl]; exact h2 h) (fun h => by rw [← hl]; exact h3 h) n.kids.length 0 (by omega)
theorem well_named (n : Node) (hn : n.ok) (s : Int) (t f : Bool) (ih : KidsW n) (hs : sortOf n.op = s) (hneg : n.neg = false) (hnum : ¬ 0 < (n.num.length : Int)) (hden : ¬ 0 < (n.den.length : Int)) (hh : hasName' n.op = true) (hm : nameOK n.name = true) (h1 : ¬ n.op = 1) (h3 : ¬ n.op = 3) (h12 : ¬ n.op = 12) (h54 : ¬ n.op = 54) (h10 : ¬ n.op = 10) (h37 : ¬ n.op = 37) : callL Tryz.prog hints 87 [.agg n.cells, .int .i64 s, .bool t, .bool f] = some (.bool (n.wellRest t f)) := by
  have e : n.wellRest t f = (decide ((kidSorts n.op).length = n.kids.length) && (Node.wells n.kids (kidSorts n.op) (t || decide (n.op = 12)) (f || decide (n.op = 39)) && tailRef n.op n.kids)) := by
    have es : sortsRef n.op n.kids.length = kidSorts n.op := by simp [sortsRef, h10, h37]
    simp only [Node.wellRest, Node.wellKids, es, if_neg h54, h12, h3, decide_false, Bool.and_false, Bool.or_self, Bool.not_false, Bool.true_and]
  rw [e]
  clear e
  by_cases hl : (kidSorts n.op).length = n.kids.length
  · have hq : ((kidSorts n.op).length : Int) = (n.kids.length : Int) := by omega
    obtain ⟨S', k⟩ := fin_well n hn t f (kidSorts n.op) (kidSorts_small _) ih (fun ho => by rcases ho with ho | ho <;> rw [ho] <;> rfl) (fun ho => by rw [ho]; rfl) hl
    rw [decide_eq_true hl, Bool.true_and]
    generalize (Node.wells n.kids (kidSorts n.op) (t || decide (n.op = 12)) (f || decide (n.op = 39)) && tailRef n.op n.kids) = R at k ⊢
    cases t <;> cases f <;> (apply FX.callB2 ok87_ 1000 rfl rfl; ((repeat ((conv => lhs; whnf); simp only [go_sem, simprocAttr, sem87_, Sort8_o, named8_o, Name8_o, kids8_o, digits_size, hh, hm, hs, h1, h3, h12, h54, h10, h37, hl, hq, hneg, hnum, hden])); try (conv => lhs; whnf); try rfl); exact k)
  · have hq : ¬ ((kidSorts n.op).length : Int) = (n.kids.length : Int) := by omega
    rw [decide_eq_false hl, Bool.false_and]
    cases t <;> cases f <;> (apply FX.callB2 ok87_ 1000 rfl rfl; ((repeat ((conv => lhs; whnf); simp only [go_sem, simprocAttr, sem87_, Sort8_o, named8_o, Name8_o, kids8_o, digits_size, hh, hm, hs, h1, h3, h12, h54, h10, h37, hl, hq, hneg, hnum, hden])); try (conv => lhs; whnf); try rfl))
theorem well_bare (n : Node) (hn : n.ok) (s : Int) (t f : Bool) (ih : KidsW n) (hs : sortOf n.op = s) (hneg : n.neg = false) (hnum : ¬ 0 < (n.num.length : Int)) (hden : ¬ 0 < (n.den.length : Int)) (hh : hasName' n.op = false) (hm : nameOK n.name = false) (hq0 : noName n.name = true) (h1 : ¬ n.op = 1) (h3 : ¬ n.op = 3) (h12 : ¬ n.op = 12) (h54 : ¬ n.op = 54) (h10 : ¬ n.op = 10) (h37 : ¬ n.op = 37) : callL Tryz.prog hints 87 [.agg n.cells, .int .i64 s, .bool t, .bool f] = some (.bool (n.wellRest t f)) := by
  have e : n.wellRest t f = (decide ((kidSorts n.op).length = n.kids.length) && (Node.wells n.kids (kidSorts n.op) (t || decide (n.op = 12)) (f || decide (n.op = 39)) && tailRef n.op n.kids)) := by
    have es : sortsRef n.op n.kids.length = kidSorts n.op := by simp [sortsRef, h10, h37]
    simp only [Node.wellRest, Node.wellKids, es, if_neg h54, h12, h3, decide_false, Bool.and_false, Bool.or_self, Bool.not_false, Bool.true_and]
  rw [e]
  clear e
  unfold noName at hq0
  by_cases hl : (kidSorts n.op).length = n.kids.length
  · have hq : ((kidSorts n.op).length : Int) = (n.kids.length : Int) := by omega
    obtain ⟨S', k⟩ := fin_well n hn t f (kidSorts n.op) (kidSorts_small _) ih (fun ho => by rcases ho with ho | ho <;> rw [ho] <;> rfl) (fun ho => by rw [ho]; rfl) hl
    rw [decide_eq_true hl, Bool.true_and]
    generalize (Node.wells n.kids (kidSorts n.op) (t || decide (n.op = 12)) (f || decide (n.op = 39)) && tailRef n.op n.kids) = R at k ⊢
    cases t <;> cases f <;> (apply FX.callB2 ok87_ 1000 rfl rfl; ((repeat ((conv => lhs; whnf); simp only [go_sem, simprocAttr, sem87_, Sort8_o, named8_o, Name8_o, kids8_o, digits_size, hh, hm, hq0, hs, h1, h3, h12, h54, h10, h37, hl, hq, hneg, hnum, hden])); try (conv => lhs; whnf); try rfl); exact k)
  · have hq : ¬ ((kidSorts n.op).length : Int) = (n.kids.length : Int) := by omega
    rw [decide_eq_false hl, Bool.false_and]
    cases t <;> cases f <;> (apply FX.callB2 ok87_ 1000 rfl rfl; ((repeat ((conv => lhs; whnf); simp only [go_sem, simprocAttr, sem87_, Sort8_o, named8_o, Name8_o, kids8_o, digits_size, hh, hm, hq0, hs, h1, h3, h12, h54, h10, h37, hl, hq, hneg, hnum, hden])); try (conv => lhs; whnf); try rfl))
theorem well_num (n : Node) (hn : n.ok) (s : Int) (t f : Bool) (ih : KidsW n) (hs : sortOf n.op = s) (hnat : natOK n.neg n.num n.den = true) (hm : nameOK n.name = false) (hq0 : noName n.name = true) (h : n.op = 1) : callL Tryz.prog hints 87 [.agg n.cells, .int .i64 s, .bool t, .bool f] = some (.bool (n.wellRest t f)) := by
  have hh : hasName' 1 = false := rfl
  have hk : kidSorts 1 = [] := rfl
  have hso : sortOf 1 = s := by rw [← h]; exact hs
  have es : sortsRef n.op n.kids.length = [] := by rw [h]; simp [sortsRef]; try rfl
  have cn := fun S => natural8_o S n hn
  rw [hnat] at cn
  unfold noName at hq0
  have e : n.wellRest t f = (true && (decide (([] : List Int).length = n.kids.length) && (Node.wells n.kids [] (t || decide (n.op = 12)) (f || decide (n.op = 39)) && tailRef n.op n.kids))) := by
    unfold Node.wellRest Node.wellKids
    rw [es, h]
    simp
  rw [e]
  clear e
  have k7 := fin_well n hn t f [] (by simp) ih (fun ho => by omega) (fun ho => by omega)
  rw [h] at k7 ⊢
  by_cases hl : ([] : List Int).length = n.kids.length
  · have hl' : n.kids.length = 0 := by simpa using hl.symm
    have hq : (n.kids.length : Int) = 0 := by omega
    obtain ⟨S', k⟩ := k7 hl
    rw [decide_eq_true hl, Bool.true_and]
    clear k7
    generalize (Node.wells n.kids [] (t || decide ((1 : Int) = 12)) (f || decide ((1 : Int) = 39)) && tailRef 1 n.kids) = R at k ⊢
    cases t <;> cases f
    · apply FX.callB2 ok87_ 1000 rfl rfl
      ((repeat ((conv => lhs; whnf); simp only [go_sem, simprocAttr, sem87_, Sort8_o, named8_o, Name8_o, kids8_o, digits_size, hm, hq0, h, hh, hk, hso, hl', hq, Int.reduceEq, List.length_nil, List.length_cons, cn])); try (conv => lhs; whnf); try rfl)
      exact k
    · apply FX.callB2 ok87_ 1000 rfl rfl
      ((repeat ((conv => lhs; whnf); simp only [go_sem, simprocAttr, sem87_, Sort8_o, named8_o, Name8_o, kids8_o, digits_size, hm, hq0, h, hh, hk, hso, hl', hq, Int.reduceEq, List.length_nil, List.length_cons, cn])); try (conv => lhs; whnf); try rfl)
      exact k
    · apply FX.callB2 ok87_ 1000 rfl rfl
      ((repeat ((conv => lhs; whnf); simp only [go_sem, simprocAttr, sem87_, Sort8_o, named8_o, Name8_o, kids8_o, digits_size, hm, hq0, h, hh, hk, hso, hl', hq, Int.reduceEq, List.length_nil, List.length_cons, cn])); try (conv => lhs; whnf); try rfl)
      exact k
    · apply FX.callB2 ok87_ 1000 rfl rfl
      ((repeat ((conv => lhs; whnf); simp only [go_sem, simprocAttr, sem87_, Sort8_o, named8_o, Name8_o, kids8_o, digits_size, hm, hq0, h, hh, hk, hso, hl', hq, Int.reduceEq, List.length_nil, List.length_cons, cn])); try (conv => lhs; whnf); try rfl)
      exact k
  · have hr : ¬ ((0 : Nat) : Int) = (n.kids.length : Int) := by intro x; apply hl; simp only [List.length_nil, List.length_cons]; omega
    have hq : ¬ (0 : Int) = (n.kids.length : Int) := by omega
    rw [decide_eq_false hl, Bool.false_and, Bool.and_false]
    cases t <;> cases f <;> (apply FX.callB2 ok87_ 1000 rfl rfl; ((repeat ((conv => lhs; whnf); simp only [go_sem, simprocAttr, sem87_, Sort8_o, named8_o, Name8_o, kids8_o, digits_size, hm, hq0, h, hh, hk, hso, hq, hr, Int.reduceEq, List.length_nil, List.length_cons, cn])); try (conv => lhs; whnf); try rfl))
theorem well_prime (n : Node) (hn : n.ok) (s : Int) (t f : Bool) (ih : KidsW n) (hs : sortOf n.op = s) (hneg : n.neg = false) (hnum : ¬ 0 < (n.num.length : Int)) (hden : ¬ 0 < (n.den.length : Int)) (hm : nameOK n.name = true) (h : n.op = 3) : callL Tryz.prog hints 87 [.agg n.cells, .int .i64 s, .bool t, .bool f] = some (.bool (n.wellRest t f)) := by
  have hh : hasName' 3 = true := rfl
  have hk : kidSorts 3 = [] := rfl
  have hso : sortOf 3 = s := by rw [← h]; exact hs
  have es : sortsRef n.op n.kids.length = [] := by rw [h]; simp [sortsRef]; try rfl
  have e : n.wellRest t f = (!(t || f) && (decide (([] : List Int).length = n.kids.length) && (Node.wells n.kids [] (t || decide (n.op = 12)) (f || decide (n.op = 39)) && tailRef n.op n.kids))) := by
    unfold Node.wellRest Node.wellKids
    rw [es, h]
    simp
  rw [e]
  clear e
  have k7 := fin_well n hn t f [] (by simp) ih (fun ho => by omega) (fun ho => by omega)
  rw [h] at k7 ⊢
  by_cases hl : ([] : List Int).length = n.kids.length
  · have hl' : n.kids.length = 0 := by simpa using hl.symm
    have hq : (n.kids.length : Int) = 0 := by omega
    obtain ⟨S', k⟩ := k7 hl
    rw [decide_eq_true hl, Bool.true_and]
    clear k7
    generalize (Node.wells n.kids [] (t || decide ((3 : Int) = 12)) (f || decide ((3 : Int) = 39)) && tailRef 3 n.kids) = R at k ⊢
    cases t <;> cases f
    · apply FX.callB2 ok87_ 1000 rfl rfl
      ((repeat ((conv => lhs; whnf); simp only [go_sem, simprocAttr, sem87_, Sort8_o, named8_o, Name8_o, kids8_o, digits_size, hm, h, hh, hk, hso, hl', hq, Int.reduceEq, List.length_nil, List.length_cons, hneg, hnum, hden])); try (conv => lhs; whnf); try rfl)
      exact k
    · apply FX.callB2 ok87_ 1000 rfl rfl
      ((repeat ((conv => lhs; whnf); simp only [go_sem, simprocAttr, sem87_, Sort8_o, named8_o, Name8_o, kids8_o, digits_size, hm, h, hh, hk, hso, hl', hq, Int.reduceEq, List.length_nil, List.length_cons, hneg, hnum, hden])); try (conv => lhs; whnf); try rfl)
    · apply FX.callB2 ok87_ 1000 rfl rfl
      ((repeat ((conv => lhs; whnf); simp only [go_sem, simprocAttr, sem87_, Sort8_o, named8_o, Name8_o, kids8_o, digits_size, hm, h, hh, hk, hso, hl', hq, Int.reduceEq, List.length_nil, List.length_cons, hneg, hnum, hden])); try (conv => lhs; whnf); try rfl)
    · apply FX.callB2 ok87_ 1000 rfl rfl
      ((repeat ((conv => lhs; whnf); simp only [go_sem, simprocAttr, sem87_, Sort8_o, named8_o, Name8_o, kids8_o, digits_size, hm, h, hh, hk, hso, hl', hq, Int.reduceEq, List.length_nil, List.length_cons, hneg, hnum, hden])); try (conv => lhs; whnf); try rfl)
  · have hr : ¬ ((0 : Nat) : Int) = (n.kids.length : Int) := by intro x; apply hl; simp only [List.length_nil, List.length_cons]; omega
    have hq : ¬ (0 : Int) = (n.kids.length : Int) := by omega
    rw [decide_eq_false hl, Bool.false_and, Bool.and_false]
    cases t <;> cases f <;> (apply FX.callB2 ok87_ 1000 rfl rfl; ((repeat ((conv => lhs; whnf); simp only [go_sem, simprocAttr, sem87_, Sort8_o, named8_o, Name8_o, kids8_o, digits_size, hm, h, hh, hk, hso, hq, hr, Int.reduceEq, List.length_nil, List.length_cons, hneg, hnum, hden])); try (conv => lhs; whnf); try rfl))
theorem well_diff (n : Node) (hn : n.ok) (s : Int) (t f : Bool) (ih : KidsW n) (hs : sortOf n.op = s) (hneg : n.neg = false) (hnum : ¬ 0 < (n.num.length : Int)) (hden : ¬ 0 < (n.den.length : Int)) (hm : nameOK n.name = false) (hq0 : noName n.name = true) (h : n.op = 12) : callL Tryz.prog hints 87 [.agg n.cells, .int .i64 s, .bool t, .bool f] = some (.bool (n.wellRest t f)) := by
  have hh : hasName' 12 = false := rfl
  have hk : kidSorts 12 = [1] := rfl
  have hso : sortOf 12 = s := by rw [← h]; exact hs
  have es : sortsRef n.op n.kids.length = [1] := by rw [h]; simp [sortsRef]; try rfl
  unfold noName at hq0
  have e : n.wellRest t f = (!t && (decide (([1] : List Int).length = n.kids.length) && (Node.wells n.kids [1] (t || decide (n.op = 12)) (f || decide (n.op = 39)) && tailRef n.op n.kids))) := by
    unfold Node.wellRest Node.wellKids
    rw [es, h]
    simp
  rw [e]
  clear e
  have k7 := fin_well n hn t f [1] (by simp) ih (fun ho => by omega) (fun ho => by omega)
  rw [h] at k7 ⊢
  by_cases hl : ([1] : List Int).length = n.kids.length
  · have hl' : n.kids.length = 1 := by simpa using hl.symm
    have hq : (n.kids.length : Int) = 1 := by omega
    obtain ⟨S', k⟩ := k7 hl
    rw [decide_eq_true hl, Bool.true_and]
    clear k7
    generalize (Node.wells n.kids [1] (t || decide ((12 : Int) = 12)) (f || decide ((12 : Int) = 39)) && tailRef 12 n.kids) = R at k ⊢
    cases t <;> cases f
    · apply FX.callB2 ok87_ 1000 rfl rfl
      ((repeat ((conv => lhs; whnf); simp only [go_sem, simprocAttr, sem87_, Sort8_o, named8_o, Name8_o, kids8_o, digits_size, hm, hq0, h, hh, hk, hso, hl', hq, Int.reduceEq, List.length_nil, List.length_cons, hneg, hnum, hden])); try (conv => lhs; whnf); try rfl)
      exact k
    · apply FX.callB2 ok87_ 1000 rfl rfl
      ((repeat ((conv => lhs; whnf); simp only [go_sem, simprocAttr, sem87_, Sort8_o, named8_o, Name8_o, kids8_o, digits_size, hm, hq0, h, hh, hk, hso, hl', hq, Int.reduceEq, List.length_nil, List.length_cons, hneg, hnum, hden])); try (conv => lhs; whnf); try rfl)
      exact k
    · apply FX.callB2 ok87_ 1000 rfl rfl
      ((repeat ((conv => lhs; whnf); simp only [go_sem, simprocAttr, sem87_, Sort8_o, named8_o, Name8_o, kids8_o, digits_size, hm, hq0, h, hh, hk, hso, hl', hq, Int.reduceEq, List.length_nil, List.length_cons, hneg, hnum, hden])); try (conv => lhs; whnf); try rfl)
    · apply FX.callB2 ok87_ 1000 rfl rfl
      ((repeat ((conv => lhs; whnf); simp only [go_sem, simprocAttr, sem87_, Sort8_o, named8_o, Name8_o, kids8_o, digits_size, hm, hq0, h, hh, hk, hso, hl', hq, Int.reduceEq, List.length_nil, List.length_cons, hneg, hnum, hden])); try (conv => lhs; whnf); try rfl)
  · have hr : ¬ ((1 : Nat) : Int) = (n.kids.length : Int) := by intro x; apply hl; simp only [List.length_nil, List.length_cons]; omega
    have hq : ¬ (1 : Int) = (n.kids.length : Int) := by omega
    rw [decide_eq_false hl, Bool.false_and, Bool.and_false]
    cases t <;> cases f <;> (apply FX.callB2 ok87_ 1000 rfl rfl; ((repeat ((conv => lhs; whnf); simp only [go_sem, simprocAttr, sem87_, Sort8_o, named8_o, Name8_o, kids8_o, digits_size, hm, hq0, h, hh, hk, hso, hq, hr, Int.reduceEq, List.length_nil, List.length_cons, hneg, hnum, hden])); try (conv => lhs; whnf); try rfl))
theorem well_flow8 (n : Node) (hn : n.ok) (s : Int) (t f : Bool) (ih : KidsW n) (hs : sortOf n.op = s) (hneg : n.neg = false) (hnum : ¬ 0 < (n.num.length : Int)) (hden : ¬ 0 < (n.den.length : Int)) (hm : nameOK n.name = false) (hq0 : noName n.name = true) (h : n.op = 54) : callL Tryz.prog hints 87 [.agg n.cells, .int .i64 s, .bool t, .bool f] = some (.bool (n.wellRest t f)) := by
  have hh : hasName' 54 = false := rfl
  have hso : sortOf 54 = s := by rw [← h]; exact hs
  have e : n.wellRest t f = flowRef n t f := by
    unfold Node.wellRest
    rw [h]
    simp
  rw [e]
  unfold noName at hq0
  have hc := fun S => callO_plain (S := S) (call_flow8 n hn t f ih) (by simp [Node.plain, Plain.bool])
  cases t <;> cases f <;> (apply FX.callB2 ok87_ 1000 rfl rfl; ((repeat ((conv => lhs; whnf); simp only [go_sem, simprocAttr, sem87_, Sort8_o, named8_o, Name8_o, kids8_o, digits_size, hm, hq0, h, hh, hso, hc, Int.reduceEq, hneg, hnum, hden])); try (conv => lhs; whnf); try rfl))
theorem well_fun8_10 (n : Node) (hn : n.ok) (s : Int) (t f : Bool) (ih : KidsW n) (hs : sortOf n.op = s) (hneg : n.neg = false) (hnum : ¬ 0 < (n.num.length : Int)) (hden : ¬ 0 < (n.den.length : Int)) (hm : nameOK n.name = true) (h : n.op = 10) : callL Tryz.prog hints 87 [.agg n.cells, .int .i64 s, .bool t, .bool f] = some (.bool (n.wellRest t f)) := by
  have hh : hasName' 10 = true := rfl
  have hk : kidSorts 10 = [] := rfl
  have hso : sortOf 10 = s := by rw [← h]; exact hs
  have e : n.wellRest t f = n.wellKids t f := by
    unfold Node.wellRest
    rw [h]; simp
  rw [e]
  unfold Node.wellKids
  by_cases h1 : n.kids.length = 1
  · have h1' : (n.kids.length : Int) = 1 := by omega
    have es : sortsRef n.op n.kids.length = [1] := by rw [h]; simp [sortsRef, h1]
    obtain ⟨S', k⟩ := fin_well n hn t f [1] (by simp) ih (fun ho => by omega) (fun ho => by omega) h1.symm
    have hd : digits [1] = ⟨#[49]⟩ := rfl
    have hds : (⟨#[49]⟩ : ByteArray).size = 1 := rfl
    rw [hd] at k
    rw [es]
    rw [h] at k ⊢
    have hl : ([1] : List Int).length = n.kids.length := h1.symm
    rw [decide_eq_true hl, Bool.true_and]
    generalize (Node.wells n.kids [1] (t || decide ((10 : Int) = 12)) (f || decide ((10 : Int) = 39)) && tailRef 10 n.kids) = R at k ⊢
    cases t <;> cases f <;> (apply FX.callB2 ok87_ 1000 rfl rfl; ((repeat ((conv => lhs; whnf); simp only [go_sem, simprocAttr, sem87_, Sort8_o, named8_o, Name8_o, kids8_o, digits_size, hm, h, hh, hk, hso, h1, h1', hds, Int.reduceEq, hneg, hnum, hden])); try (conv => lhs; whnf); try rfl); exact k)
  · have h1' : ¬ (n.kids.length : Int) = 1 := by omega
    have es : sortsRef n.op n.kids.length = [] := by rw [h]; simp [sortsRef, h1, hk]
    rw [es]
    by_cases h0 : n.kids.length = 0
    · have h0' : (n.kids.length : Int) = 0 := by omega
      obtain ⟨S', k⟩ := fin_well n hn t f [] (by simp) ih (fun ho => by omega) (fun ho => by omega) h0.symm
      rw [h] at k ⊢
      have hl : ([] : List Int).length = n.kids.length := h0.symm
      rw [decide_eq_true hl, Bool.true_and]
      generalize (Node.wells n.kids [] (t || decide ((10 : Int) = 12)) (f || decide ((10 : Int) = 39)) && tailRef 10 n.kids) = R at k ⊢
      cases t <;> cases f <;> (apply FX.callB2 ok87_ 1000 rfl rfl; ((repeat ((conv => lhs; whnf); simp only [go_sem, simprocAttr, sem87_, Sort8_o, named8_o, Name8_o, kids8_o, digits_size, hm, h, hh, hk, hso, h0, h0', Int.reduceEq, List.length_nil, hneg, hnum, hden])); try (conv => lhs; whnf); try rfl); exact k)
    · have hr : ¬ ((0 : Nat) : Int) = (n.kids.length : Int) := by omega
      have hq : ¬ (0 : Int) = (n.kids.length : Int) := by omega
      have hl : ¬ ([] : List Int).length = n.kids.length := fun e => h0 e.symm
      rw [decide_eq_false hl, Bool.false_and]
      cases t <;> cases f <;> (apply FX.callB2 ok87_ 1000 rfl rfl; ((repeat ((conv => lhs; whnf); simp only [go_sem, simprocAttr, sem87_, Sort8_o, named8_o, Name8_o, kids8_o, digits_size, hm, h, hh, hk, hso, h1', hq, hr, Int.reduceEq, List.length_nil, hneg, hnum, hden])); try (conv => lhs; whnf); try rfl))
theorem well_fun8_37 (n : Node) (hn : n.ok) (s : Int) (t f : Bool) (ih : KidsW n) (hs : sortOf n.op = s) (hneg : n.neg = false) (hnum : ¬ 0 < (n.num.length : Int)) (hden : ¬ 0 < (n.den.length : Int)) (hm : nameOK n.name = true) (h : n.op = 37) : callL Tryz.prog hints 87 [.agg n.cells, .int .i64 s, .bool t, .bool f] = some (.bool (n.wellRest t f)) := by
  have hh : hasName' 37 = true := rfl
  have hk : kidSorts 37 = [] := rfl
  have hso : sortOf 37 = s := by rw [← h]; exact hs
  have e : n.wellRest t f = n.wellKids t f := by
    unfold Node.wellRest
    rw [h]; simp
  rw [e]
  unfold Node.wellKids
  by_cases h1 : n.kids.length = 1
  · have h1' : (n.kids.length : Int) = 1 := by omega
    have es : sortsRef n.op n.kids.length = [1] := by rw [h]; simp [sortsRef, h1]
    obtain ⟨S', k⟩ := fin_well n hn t f [1] (by simp) ih (fun ho => by omega) (fun ho => by omega) h1.symm
    have hd : digits [1] = ⟨#[49]⟩ := rfl
    have hds : (⟨#[49]⟩ : ByteArray).size = 1 := rfl
    rw [hd] at k
    rw [es]
    rw [h] at k ⊢
    have hl : ([1] : List Int).length = n.kids.length := h1.symm
    rw [decide_eq_true hl, Bool.true_and]
    generalize (Node.wells n.kids [1] (t || decide ((37 : Int) = 12)) (f || decide ((37 : Int) = 39)) && tailRef 37 n.kids) = R at k ⊢
    cases t <;> cases f <;> (apply FX.callB2 ok87_ 1000 rfl rfl; ((repeat ((conv => lhs; whnf); simp only [go_sem, simprocAttr, sem87_, Sort8_o, named8_o, Name8_o, kids8_o, digits_size, hm, h, hh, hk, hso, h1, h1', hds, Int.reduceEq, hneg, hnum, hden])); try (conv => lhs; whnf); try rfl); exact k)
  · have h1' : ¬ (n.kids.length : Int) = 1 := by omega
    have es : sortsRef n.op n.kids.length = [] := by rw [h]; simp [sortsRef, h1, hk]
    rw [es]
    by_cases h0 : n.kids.length = 0
    · have h0' : (n.kids.length : Int) = 0 := by omega
      obtain ⟨S', k⟩ := fin_well n hn t f [] (by simp) ih (fun ho => by omega) (fun ho => by omega) h0.symm
      rw [h] at k ⊢
      have hl : ([] : List Int).length = n.kids.length := h0.symm
      rw [decide_eq_true hl, Bool.true_and]
      generalize (Node.wells n.kids [] (t || decide ((37 : Int) = 12)) (f || decide ((37 : Int) = 39)) && tailRef 37 n.kids) = R at k ⊢
      cases t <;> cases f <;> (apply FX.callB2 ok87_ 1000 rfl rfl; ((repeat ((conv => lhs; whnf); simp only [go_sem, simprocAttr, sem87_, Sort8_o, named8_o, Name8_o, kids8_o, digits_size, hm, h, hh, hk, hso, h0, h0', Int.reduceEq, List.length_nil, hneg, hnum, hden])); try (conv => lhs; whnf); try rfl); exact k)
    · have hr : ¬ ((0 : Nat) : Int) = (n.kids.length : Int) := by omega
      have hq : ¬ (0 : Int) = (n.kids.length : Int) := by omega
      have hl : ¬ ([] : List Int).length = n.kids.length := fun e => h0 e.symm
      rw [decide_eq_false hl, Bool.false_and]
      cases t <;> cases f <;> (apply FX.callB2 ok87_ 1000 rfl rfl; ((repeat ((conv => lhs; whnf); simp only [go_sem, simprocAttr, sem87_, Sort8_o, named8_o, Name8_o, kids8_o, digits_size, hm, h, hh, hk, hso, h1', hq, hr, Int.reduceEq, List.length_nil, hneg, hnum, hden])); try (conv => lhs; whnf); try rfl))
end
end Go.Vs
end
section
set_option linter.unusedVariables false
set_option linter.unusedSimpArgs false
set_option maxRecDepth 100000
namespace Go.Vs
open Go Go.Proofs
section
attribute [local irreducible] Vs.callL Vs.callRL tyi callO callM callMV appendE storeE evLoad indexAddrO sliceO evFieldAddr evField buildO buildSliceO makeSliceO allocO boxed lenO copyE convertO indexO Vs.gc freezeAll
theorem call_well : ∀ n : Node, n.ok → ∀ s t f, callL Tryz.prog hints 87 [.agg n.cells, .int .i64 s, .bool t, .bool f] = some (.bool (n.well s t f)) := by
  refine Node.ind' fun n ih0 hn s t f => ?_
  have ih : KidsW n := fun k hk => ih0 k hk (hn.kids k hk)
  rw [well_rest]
  by_cases hs : sortOf n.op = s
  case neg =>
    rw [decide_eq_false hs, Bool.false_and, Bool.false_and]
    apply FX.callB2 ok87_ 1000 rfl rfl
    ((repeat ((conv => lhs; whnf); simp only [go_sem, simprocAttr, sem87_, Sort8_o, hs])); try (conv => lhs; whnf); try rfl)
  rw [decide_eq_true hs, Bool.true_and]
  cases hh : hasName' n.op
  · cases hm : nameOK n.name
    case true =>
      have e : decide (false = true) = false := rfl
      rw [e, Bool.false_and, Bool.false_and]
      apply FX.callB2 ok87_ 1000 rfl rfl
      ((repeat ((conv => lhs; whnf); simp only [go_sem, simprocAttr, sem87_, Sort8_o, hs, named8_o, hh, Name8_o, hm])); try (conv => lhs; whnf); try rfl)
    have e : decide (false = false) = true := rfl
    rw [e, Bool.true_and, Bool.false_or]
    cases hq : noName n.name
    · unfold noName at hq
      rw [Bool.false_and]
      apply FX.callB2 ok87_ 1000 rfl rfl
      ((repeat ((conv => lhs; whnf); simp only [go_sem, simprocAttr, sem87_, Sort8_o, hs, named8_o, hh, Name8_o, hm, hq])); try (conv => lhs; whnf); try rfl)
    rw [Bool.true_and]
    by_cases h1 : n.op = 1
    · rw [if_pos h1]
      cases hnat : natOK n.neg n.num n.den
      · have cn := fun S => natural8_o S n hn
        rw [hnat] at cn
        unfold noName at hq
        rw [h1] at hh hs
        rw [Bool.false_and]
        apply FX.callB2 ok87_ 1000 rfl rfl
        ((repeat ((conv => lhs; whnf); simp only [go_sem, simprocAttr, sem87_, Sort8_o, hs, named8_o, h1, hh, Name8_o, hm, hq, cn, Int.reduceEq])); try (conv => lhs; whnf); try rfl)
      · rw [Bool.true_and]
        exact well_num n hn s t f ih hs hnat hm hq h1
    rw [if_neg h1]
    have hq' := hq
    unfold noName at hq'
    cases hneg : n.neg
    · by_cases hnum0 : n.num.length = 0
      · have hnum : ¬ 0 < (n.num.length : Int) := by omega
        by_cases hden0 : n.den.length = 0
        · have hden : ¬ 0 < (n.den.length : Int) := by omega
          rw [decide_eq_true hnum0, decide_eq_true hden0, Bool.not_false, Bool.and_self, Bool.and_self, Bool.true_and]
          have h10 : ¬ n.op = 10 := fun h => by rw [h] at hh; cases hh
          have h37 : ¬ n.op = 37 := fun h => by rw [h] at hh; cases hh
          have h3 : ¬ n.op = 3 := fun h => by rw [h] at hh; cases hh
          by_cases h12 : n.op = 12
          · exact well_diff n hn s t f ih hs hneg hnum hden hm hq h12
          by_cases h54 : n.op = 54
          · exact well_flow8 n hn s t f ih hs hneg hnum hden hm hq h54
          · exact well_bare n hn s t f ih hs hneg hnum hden hh hm hq h1 h3 h12 h54 h10 h37
        · have hden : 0 < (n.den.length : Int) := by omega
          rw [decide_eq_true hnum0, decide_eq_false hden0, Bool.and_false, Bool.and_false, Bool.false_and]
          apply FX.callB2 ok87_ 1000 rfl rfl
          ((repeat ((conv => lhs; whnf); simp only [go_sem, simprocAttr, sem87_, Sort8_o, hs, named8_o, hh, Name8_o, hm, hq', h1, hneg, hnum, hden])); try (conv => lhs; whnf); try rfl)
      · have hnum : 0 < (n.num.length : Int) := by omega
        rw [decide_eq_false hnum0, Bool.false_and, Bool.and_false, Bool.false_and]
        apply FX.callB2 ok87_ 1000 rfl rfl
        ((repeat ((conv => lhs; whnf); simp only [go_sem, simprocAttr, sem87_, Sort8_o, hs, named8_o, hh, Name8_o, hm, hq', h1, hneg, hnum])); try (conv => lhs; whnf); try rfl)
    · rw [Bool.not_true, Bool.false_and, Bool.false_and]
      apply FX.callB2 ok87_ 1000 rfl rfl
      ((repeat ((conv => lhs; whnf); simp only [go_sem, simprocAttr, sem87_, Sort8_o, hs, named8_o, hh, Name8_o, hm, hq', h1, hneg])); try (conv => lhs; whnf); try rfl)
  · cases hm : nameOK n.name
    · have e : decide (true = false) = false := rfl
      rw [e, Bool.false_and, Bool.false_and]
      apply FX.callB2 ok87_ 1000 rfl rfl
      ((repeat ((conv => lhs; whnf); simp only [go_sem, simprocAttr, sem87_, Sort8_o, hs, named8_o, hh, Name8_o, hm])); try (conv => lhs; whnf); try rfl)
    have e : decide (true = true) = true := rfl
    rw [e, Bool.true_and, Bool.true_or, Bool.true_and]
    have h1 : ¬ n.op = 1 := fun h => by rw [h] at hh; cases hh
    rw [if_neg h1]
    cases hneg : n.neg
    · by_cases hnum0 : n.num.length = 0
      · have hnum : ¬ 0 < (n.num.length : Int) := by omega
        by_cases hden0 : n.den.length = 0
        · have hden : ¬ 0 < (n.den.length : Int) := by omega
          rw [decide_eq_true hnum0, decide_eq_true hden0, Bool.not_false, Bool.and_self, Bool.and_self, Bool.true_and]
          have h12 : ¬ n.op = 12 := fun h => by rw [h] at hh; cases hh
          have h54 : ¬ n.op = 54 := fun h => by rw [h] at hh; cases hh
          by_cases h10 : n.op = 10
          · exact well_fun8_10 n hn s t f ih hs hneg hnum hden hm h10
          by_cases h37 : n.op = 37
          · exact well_fun8_37 n hn s t f ih hs hneg hnum hden hm h37
          by_cases h3 : n.op = 3
          · exact well_prime n hn s t f ih hs hneg hnum hden hm h3
          · exact well_named n hn s t f ih hs hneg hnum hden hh hm h1 h3 h12 h54 h10 h37
        · have hden : 0 < (n.den.length : Int) := by omega
          rw [decide_eq_true hnum0, decide_eq_false hden0, Bool.and_false, Bool.and_false, Bool.false_and]
          apply FX.callB2 ok87_ 1000 rfl rfl
          ((repeat ((conv => lhs; whnf); simp only [go_sem, simprocAttr, sem87_, Sort8_o, hs, named8_o, hh, Name8_o, hm, h1, hneg, hnum, hden])); try (conv => lhs; whnf); try rfl)
      · have hnum : 0 < (n.num.length : Int) := by omega
        rw [decide_eq_false hnum0, Bool.false_and, Bool.and_false, Bool.false_and]
        apply FX.callB2 ok87_ 1000 rfl rfl
        ((repeat ((conv => lhs; whnf); simp only [go_sem, simprocAttr, sem87_, Sort8_o, hs, named8_o, hh, Name8_o, hm, h1, hneg, hnum])); try (conv => lhs; whnf); try rfl)
    · rw [Bool.not_true, Bool.false_and, Bool.false_and]
      apply FX.callB2 ok87_ 1000 rfl rfl
      ((repeat ((conv => lhs; whnf); simp only [go_sem, simprocAttr, sem87_, Sort8_o, hs, named8_o, hh, Name8_o, hm, h1, hneg])); try (conv => lhs; whnf); try rfl)
noncomputable def fx44_ : FX := ⟨Tryz.f44, hints.of 44, []⟩
theorem ok44_ : fx44_.ok 44 := ⟨by kernel_rfl, of_decide_eq_true (by kernel_rfl), by kernel_rfl, by kernel_rfl, by kernel_rfl, by kernel_rfl⟩
theorem sem44_ (b0 : Nat) (m : Md) (fs : List Fr) (e : Env) (S : Store) : sem b0 fx44_ m fs e S = run b0 fx44_ 1000 m fs e S := (sem_eq _ _ _ _ _ _).trans (run_sem b0 fx44_ ok44_.good 1000 m fs e S).symm
theorem call_Check8 (n : Node) (hn : n.ok) (sort : Int) : callL Tryz.prog hints 44 [.agg n.cells, .int .i64 sort] = some (.int .i64 (n.checkRef sort)) := by
  refine FX.callL (r := (.int .i64 (n.checkRef sort), [.arr [n.cells] none false])) ok44_ 1000 rfl rfl ?_ rfl
  have hs := fun S => callN S (call_Size n hn)
  have hl := fun S => callN S (call_Levels n hn)
  have hw := fun S => callWell S (call_well n hn sort false false)
  unfold Node.checkRef
  by_cases h1 : sort < 1
  · rw [if_pos (.inl h1)]
    ((repeat ((conv => lhs; whnf); simp only [go_sem, simprocAttr, sem44_, h1])); try (conv => lhs; whnf); try rfl)
  by_cases h2 : 3 < sort
  · rw [if_pos (.inr h2)]
    ((repeat ((conv => lhs; whnf); simp only [go_sem, simprocAttr, sem44_, h1, h2])); try (conv => lhs; whnf); try rfl)
  rw [if_neg (by omega)]
  by_cases h3 : 4000 < n.size
  · rw [if_pos (.inl h3)]
    ((repeat ((conv => lhs; whnf); simp only [go_sem, simprocAttr, sem44_, h1, h2, hs, h3])); try (conv => lhs; whnf); try rfl)
  by_cases h4 : 60 < n.levels
  · rw [if_pos (.inr h4)]
    ((repeat ((conv => lhs; whnf); simp only [go_sem, simprocAttr, sem44_, h1, h2, hs, h3, hl, h4])); try (conv => lhs; whnf); try rfl)
  rw [if_neg (by omega)]
  by_cases h5 : sortOf n.op = sort
  · rw [if_neg (by simpa using h5)]
    cases hv : n.well sort false false
    · rw [hv] at hw
      rw [if_pos rfl]
      ((repeat ((conv => lhs; whnf); simp only [go_sem, simprocAttr, sem44_, h1, h2, hs, h3, hl, h4, Sort8_o, h5, hw])); try (conv => lhs; whnf); try rfl)
    · rw [hv] at hw
      rw [if_neg (by simp)]
      ((repeat ((conv => lhs; whnf); simp only [go_sem, simprocAttr, sem44_, h1, h2, hs, h3, hl, h4, Sort8_o, h5, hw])); try (conv => lhs; whnf); try rfl)
  · rw [if_pos h5]
    ((repeat ((conv => lhs; whnf); simp only [go_sem, simprocAttr, sem44_, h1, h2, hs, h3, hl, h4, Sort8_o, h5])); try (conv => lhs; whnf); try rfl)
theorem Check8_o (S : Store) (n : Node) (hn : n.ok) (hc : n.count ≤ 1000000000) (sort : Int) : callO (callL Tryz.prog hints) S 44 [.agg n.cells, .int .i64 sort] = some { v := .int .i64 (n.check sort) } := by
  have h := call_Check8 n hn sort
  rw [check_same n hn hc] at h
  exact callO_plain h (by simp [Node.plain, Plain.int])
end
end Go.Vs
end
