/- States: the order of names, find's answer, get. -/

import Derived.Test.YtkaeejkajfinhaaGreatMS23
section
set_option linter.unusedVariables false
set_option linter.unusedSimpArgs false
set_option maxRecDepth 100000
namespace Go.Vs
open Go Go.Proofs
theorem bytesLess_irrefl : ∀ a, Op.bytesLess a a = false
  | [] => rfl
  | a :: r => by simp [Op.bytesLess, bytesLess_irrefl r]
theorem bytesLess_total : ∀ a b, a ≠ b → (Op.bytesLess b a = !Op.bytesLess a b)
  | [], [], h => absurd rfl h
  | [], _ :: _, _ => rfl
  | _ :: _, [], _ => rfl
  | a :: x, b :: y, h => by
    simp only [Op.bytesLess]
    by_cases hab : a = b
    · subst hab
      have : x ≠ y := fun e => h (by rw [e])
      simp [bytesLess_total x y this]
    · have h1 : (a == b) = false := by simpa using hab
      have h2 : (b == a) = false := by simpa using fun e : b = a => hab e.symm
      have h3 : a.toNat ≠ b.toNat := fun e => hab (UInt8.toNat.inj e)
      simp only [h1, h2, Bool.false_and, Bool.or_false, UInt8.lt_iff_toNat_lt]
      by_cases h4 : a.toNat < b.toNat <;> simp [h4] <;> omega
theorem bytesLess_trans : ∀ a b c, Op.bytesLess a b = true → Op.bytesLess b c = true → Op.bytesLess a c = true
  | _, [], _, h, _ => by simp [Op.bytesLess] at h
  | _, _ :: _, [], _, h => by simp [Op.bytesLess] at h
  | [], _ :: _, _ :: _, _, _ => rfl
  | a :: x, b :: y, c :: z, h, k => by
    simp only [Op.bytesLess, Bool.or_eq_true, Bool.and_eq_true, beq_iff_eq, decide_eq_true_eq, UInt8.lt_iff_toNat_lt] at h k ⊢
    rcases h with h | ⟨rfl, h⟩
    · rcases k with k | ⟨rfl, k⟩
      · left; omega
      · left; exact h
    · rcases k with k | ⟨rfl, k⟩
      · left; exact k
      · right; exact ⟨rfl, bytesLess_trans x y z h k⟩
/-- One name before another. -/
def before (a b : ByteArray) : Prop := Op.bytesLess a.toList b.toList = true
theorem before.trans {a b c : ByteArray} (h : before a b) (k : before b c) : before a c := bytesLess_trans _ _ _ h k
theorem before.ne {a b : ByteArray} (h : before a b) : a.toList ≠ b.toList := fun e => by
  unfold before at h
  rw [e, bytesLess_irrefl] at h
  cases h
theorem before_or (a b : ByteArray) : before a b ∨ a.toList = b.toList ∨ before b a := by
  by_cases h : a.toList = b.toList
  · exact .inr (.inl h)
  · have := bytesLess_total _ _ h
    unfold before
    cases k : Op.bytesLess a.toList b.toList
    · right; right; rw [this, k]; rfl
    · left; rfl
theorem not_before {a b : ByteArray} : Op.bytesLess a.toList b.toList = false ↔ a.toList = b.toList ∨ before b a := by
  constructor
  · intro h
    rcases before_or a b with k | k | k
    · unfold before at k; rw [h] at k; cases k
    · exact .inl k
    · exact .inr k
  · intro h
    cases k : Op.bytesLess a.toList b.toList
    · rfl
    · rcases h with h | h
      · exact absurd h (before.ne k)
      · exact absurd rfl (before.ne (before.trans k h))
def Sorted (L : List Bd) : Prop := L.Pairwise fun a b => before a.name b.name
theorem bdsOK_at {L : List Bd} : ∀ {m i : Nat}, bdsOK L m i = true → ∀ j, i ≤ j → j < i + m → bdOK L j = true
  | 0, i, _, j, h1, h2 => by omega
  | m + 1, i, h, j, h1, h2 => by
    simp only [bdsOK, Bool.and_eq_true] at h
    rcases Nat.eq_or_lt_of_le h1 with rfl | h3
    · exact h.1
    · exact bdsOK_at h.2 j h3 (by omega)
theorem bdsOK_of {L : List Bd} : ∀ {m i : Nat}, (∀ j, i ≤ j → j < i + m → bdOK L j = true) → bdsOK L m i = true
  | 0, i, _ => rfl
  | m + 1, i, h => by
    simp only [bdsOK, Bool.and_eq_true]
    exact ⟨h i (Nat.le_refl _) (by omega), bdsOK_of fun j h1 h2 => h j (by omega) (by omega)⟩
/-- What is known of one binding of a valid state. -/
structure Bd.good (b : Bd) : Prop where
  var : varOK b.name = true
  some : b.val.num.length ≠ 0
  fit : b.val.fit = true
theorem getD_lt {α : Type} {L : List α} {d : α} {i : Nat} (h : i < L.length) : L.getD i d = L[i] := by
  rw [List.getD_eq_getElem?_getD, List.getElem?_eq_getElem h, Option.getD_some]
theorem stOK_iff {L : List Bd} : stOK L = true ↔ L.length ≤ 40 ∧ (∀ b ∈ L, b.good) ∧ Sorted L := by
  unfold stOK
  simp only [Bool.and_eq_true, decide_eq_true_eq]
  constructor
  · rintro ⟨h1, h2⟩
    have h3 : ∀ j, j < L.length → bdOK L j = true := fun j hj => bdsOK_at h2 j (by omega) (by omega)
    refine ⟨h1, fun b hb => ?_, ?_⟩
    · obtain ⟨i, hi, rfl⟩ := List.mem_iff_getElem.1 hb
      have := h3 i hi
      unfold bdOK at this
      simp only [Bool.and_eq_true, decide_eq_true_eq, getD_lt hi] at this
      exact ⟨this.1.1.1, this.1.2, this.2⟩
    · have step : ∀ j, 0 < j → j < L.length → before (L.getD (j - 1) bd0).name (L.getD j bd0).name := fun j h0 hj => by
        have := h3 j hj
        unfold bdOK at this
        simp only [Bool.and_eq_true, Bool.or_eq_true, decide_eq_true_eq] at this
        rcases this.1.1.2 with h | h
        · omega
        · exact h
      have far : ∀ d i, i + d + 1 < L.length → before (L.getD i bd0).name (L.getD (i + d + 1) bd0).name := by
        intro d
        induction d with
        | zero => intro i hi; have := step (i + 1) (by omega) hi; rwa [Nat.add_sub_cancel] at this
        | succ d ih =>
          intro i hi
          have a := ih i (by omega)
          have b := step (i + (d + 1) + 1) (by omega) hi
          rw [Nat.add_sub_cancel] at b
          exact a.trans b
      unfold Sorted
      rw [List.pairwise_iff_getElem]
      intro i j hi hj hij
      have := far (j - i - 1) i (by omega)
      rw [show i + (j - i - 1) + 1 = j by omega, getD_lt hi, getD_lt hj] at this
      exact this
  · rintro ⟨h1, h2, h3⟩
    refine ⟨h1, bdsOK_of fun j _ hj => ?_⟩
    have hj' : j < L.length := by omega
    have g := h2 _ (List.getElem_mem hj')
    unfold bdOK
    simp only [Bool.and_eq_true, Bool.or_eq_true, decide_eq_true_eq, getD_lt hj']
    refine ⟨⟨⟨g.var, ?_⟩, g.some⟩, g.fit⟩
    by_cases h0 : j = 0
    · exact .inl h0
    · right
      rw [getD_lt (show j - 1 < L.length by omega)]
      exact (List.pairwise_iff_getElem.1 h3) (j - 1) j (by omega) hj' (by omega)
/-- The first place that is not before a name. -/
def posL (nm : ByteArray) : List Bd → Nat
  | [] => 0
  | b :: r => if Op.bytesLess b.name.toList nm.toList = true then posL nm r + 1 else 0
theorem posL_turns (nm : ByteArray) : ∀ {L : List Bd}, Sorted L → Turns L.length (atLeast L nm) (posL nm L)
  | [], _ => ⟨by simp [posL], fun k hk => by simp [posL] at hk, fun k _ hk => by simp at hk⟩
  | b :: r, h => by
    unfold Sorted at h
    rw [List.pairwise_cons] at h
    obtain ⟨t1, t2, t3⟩ := posL_turns nm h.2
    simp only [posL]
    split
    · rename_i hb
      refine ⟨by simp; exact t1, fun k hk => ?_, fun k h1 h2 => ?_⟩
      · cases k with
        | zero => unfold atLeast; simp [hb]
        | succ k => have := t2 k (by omega); unfold atLeast at this ⊢; simpa using this
      · cases k with
        | zero => omega
        | succ k => have := t3 k (by omega) (by simpa using h2); unfold atLeast at this ⊢; simpa using this
    · rename_i hb
      have hb' : Op.bytesLess b.name.toList nm.toList = false := by simpa using hb
      refine ⟨by simp, fun k hk => by omega, fun k _ h2 => ?_⟩
      cases k with
      | zero => unfold atLeast; simp [hb']
      | succ k =>
        have hk : k < r.length := by simpa using h2
        have q := h.1 _ (List.getElem_mem hk)
        have : Op.bytesLess r[k].name.toList nm.toList = false := by
          rw [not_before] at hb' ⊢
          right
          rcases hb' with e | e
          · unfold before at q ⊢; rw [← e]; exact q
          · exact e.trans q
        unfold atLeast
        simp [List.getD_eq_getElem?_getD, List.getElem?_eq_getElem hk, this]
def rv0 : RV := ⟨false, [], [1]⟩
/-- The value of a name. -/
def getV (nm : ByteArray) : List Bd → RV
  | [] => rv0
  | b :: r => if b.name.toList = nm.toList then b.val else getV nm r
theorem getV_none {nm : ByteArray} : ∀ {L : List Bd}, (∀ b ∈ L, b.name.toList ≠ nm.toList) → getV nm L = rv0
  | [], _ => rfl
  | b :: r, h => by
    simp only [getV, h b (by simp), if_false]
    exact getV_none fun c hc => h c (by simp [hc])
def foundL (nm : ByteArray) (L : List Bd) : Bool := decide (posL nm L < L.length) && ((L.getD (posL nm L) bd0).name.toList == nm.toList)
theorem getV_pos (nm : ByteArray) : ∀ {L : List Bd}, Sorted L → (if foundL nm L = true then (L.getD (posL nm L) bd0).val else rv0) = getV nm L
  | [], _ => rfl
  | b :: r, h => by
    unfold Sorted at h
    rw [List.pairwise_cons] at h
    have ih := getV_pos nm h.2
    unfold foundL at ih ⊢
    by_cases hb : Op.bytesLess b.name.toList nm.toList = true
    · have e0 : posL nm (b :: r) = posL nm r + 1 := by simp [posL, hb]
      rw [e0]
      simp only [List.length_cons, Nat.add_lt_add_iff_right, List.getD_cons_succ, getV, before.ne hb, if_false]
      exact ih
    · have e0 : posL nm (b :: r) = 0 := by simp [posL, hb]
      rw [e0]
      simp only [List.length_cons, Nat.zero_lt_succ, decide_true, Bool.true_and, List.getD_cons_zero, beq_iff_eq, getV]
      by_cases e : b.name.toList = nm.toList
      · rw [if_pos e, if_pos e]
      · rw [if_neg e, if_neg e]
        have hb' : Op.bytesLess b.name.toList nm.toList = false := by simpa using hb
        have e2 : before nm b.name := (not_before.1 hb').resolve_left e
        exact (getV_none fun c hc ec => before.ne (e2.trans (h.1 c hc)) ec.symm).symm
end Go.Vs
end
/- States: get and Get, the program's and the reference's. -/
section
set_option linter.unusedVariables false
set_option linter.unusedSimpArgs false
set_option maxRecDepth 100000
namespace Go.Vs
open Go Go.Proofs
theorem fit_rat {v : RV} (h : v.ok) (hf : v.fit = true) : ∃ q : Rat, .agg v.cells = ratV q ∧ v.neg = neg? q ∧ v.num = words q.num.natAbs ∧ v.den = words q.den ∧ RatW q 400 := by
  unfold RV.fit at hf
  simp only [Bool.and_eq_true, decide_eq_true_eq] at hf
  obtain ⟨q, h1, h2, h3, h4, h5⟩ := (validR_iff h.n h.d).1 hf.2
  refine ⟨q, ?_, h1, h2, h3, ?_, ?_⟩
  · unfold RV.cells ratV ratL
    rw [h1, h2, h3]
  · rw [← h2]; exact hf.1.1
  · rw [← h3]; exact hf.1.2
theorem call_CopyV (v : RV) (h : v.ok) (hf : v.fit = true) : callL Tryz.prog hints 63 [.agg v.cells] = some (.agg v.cells) := by
  obtain ⟨q, h1, _, _, _, h2⟩ := fit_rat h hf
  rw [h1]
  exact call_num_Copy q (h2.mono (by omega))
theorem CopyV_o (S : Store) (v : RV) (h : v.ok) (hf : v.fit = true) : callO (callL Tryz.prog hints) S 63 [.agg v.cells] = some { v := .agg v.cells } := callO_plain (call_CopyV v h hf) (by simp; exact rv_plain v)
theorem rv0_cells : ratV 0 = .agg rv0.cells := by
  have h0 : words 0 = [] := (digs_nil WB2).2 rfl
  have h1 : words 1 = [1] := words1
  show ratL _ (words 0) (words 1) = _
  rw [h0, h1]
  rfl
theorem Zero_o (S : Store) : callO (callL Tryz.prog hints) S 54 [] = some { v := .agg rv0.cells } := callO_plain (by rw [call_num_Zero, rv0_cells]) (by simp)
theorem good_fit {L : List Bd} (hg : ∀ b ∈ L, b.good) {i : Nat} (hi : i < L.length) : (L.getD i bd0).val.fit = true := by
  rw [getD_lt hi]; exact (hg _ (List.getElem_mem hi)).fit
section
attribute [local irreducible] Vs.callL Vs.callRL tyi callO callM callMV appendE storeE evLoad indexAddrO sliceO evFieldAddr evField buildO buildSliceO makeSliceO allocO boxed lenO copyE convertO indexO Vs.gc freezeAll
noncomputable def fx_state_get : FX := ⟨Tryz.f59, hints.of 59, []⟩
theorem ok_state_get : fx_state_get.ok 59 := ⟨by kernel_rfl, of_decide_eq_true (by kernel_rfl), by kernel_rfl, by kernel_rfl, by kernel_rfl, by kernel_rfl⟩
theorem sem_state_get (b0 : Nat) (m : Md) (fs : List Fr) (e : Env) (S : Store) : sem b0 fx_state_get m fs e S = run b0 fx_state_get 1000 m fs e S := (sem_eq _ _ _ _ _ _).trans (run_sem b0 fx_state_get ok_state_get.good 1000 m fs e S).symm
theorem call_get (L : List Bd) (nm : ByteArray) (hL : StOk L) (hg : ∀ b ∈ L, b.good) (hs : Sorted L) (hl : L.length ≤ 1000000) : callL Tryz.prog hints 59 [.sl (stRows L) false, .str nm] = some (.agg (getV nm L).cells) := by
  have cf := fun S => callO_plain (S := S) (call_find L nm hl (posL_turns nm hs)) (by simp [Plain.str]; exact st_plain L)
  have gp := getV_pos nm hs
  have zo := fun S => Zero_o S
  unfold RV.cells at zo
  change ∀ S, callO _ S _ _ = some { v := (.tup [.int .i64 (posL nm L), .bool (foundL nm L)] : PV) } at cf
  cases hf : foundL nm L
  · rw [hf] at cf gp
    simp only [Bool.false_eq_true, if_false] at gp
    rw [← gp]
    refine FX.callL (r := (.agg [.bool rv0.neg, .sl (kRows .u32 rv0.num) false, .sl (kRows .u32 rv0.den) false], [.arr [[.bool rv0.neg, .sl (kRows .u32 rv0.num) false, .sl (kRows .u32 rv0.den) false]] none false])) ok_state_get 1000 rfl rfl ?_ rfl
    ((repeat ((conv => lhs; whnf); simp only [go_sem, ↓reduceIte, Nat.reduceEqDiff, Nat.reduceBEq, Nat.reduceAdd, Nat.reduceMul, Nat.reduceSub, Nat.reduceLT, Nat.reduceLeDiff, reduceCtorEq, Int.reduceToNat, Int.reduceLE, Int.reduceLT, Int.reduceEq, sem_state_get, cf, zo])); try (conv => lhs; whnf); try rfl)
  · rw [hf] at cf gp
    simp only [if_true] at gp
    have hp : posL nm L < L.length := by
      unfold foundL at hf
      simp only [Bool.and_eq_true, decide_eq_true_eq] at hf
      exact hf.1
    have x1 : 0 ≤ (posL nm L : Int) ∧ (posL nm L : Int) < (L.length : Int) := ⟨by omega, by omega⟩
    have cc := fun S => CopyV_o S (L.getD (posL nm L) bd0).val (hL.at hp).v (good_fit hg hp)
    unfold RV.cells at cc
    rw [← gp]
    refine FX.callL (r := (.agg (L.getD (posL nm L) bd0).val.cells, [.arr [(L.getD (posL nm L) bd0).val.cells] none false])) ok_state_get 1000 rfl rfl ?_ rfl
    unfold RV.cells
    ((repeat ((conv => lhs; whnf); simp only [go_sem, ↓reduceIte, Nat.reduceEqDiff, Nat.reduceBEq, Nat.reduceAdd, Nat.reduceMul, Nat.reduceSub, Nat.reduceLT, Nat.reduceLeDiff, reduceCtorEq, Int.reduceToNat, Int.reduceLE, Int.reduceLT, Int.reduceEq, sem_state_get, cf, x1, Int.toNat_natCast, Bd.cells, cc])); try (conv => lhs; whnf); try rfl)
noncomputable def fx_isochroneref11_get : FX := ⟨Tryz.f60, hints.of 60, []⟩
theorem ok_isochroneref11_get : fx_isochroneref11_get.ok 60 := ⟨by kernel_rfl, of_decide_eq_true (by kernel_rfl), by kernel_rfl, by kernel_rfl, by kernel_rfl, by kernel_rfl⟩
theorem sem_isochroneref11_get (b0 : Nat) (m : Md) (fs : List Fr) (e : Env) (S : Store) : sem b0 fx_isochroneref11_get m fs e S = run b0 fx_isochroneref11_get 1000 m fs e S := (sem_eq _ _ _ _ _ _).trans (run_sem b0 fx_isochroneref11_get ok_isochroneref11_get.good 1000 m fs e S).symm
theorem loop_get11 (L : List Bd) (nm : ByteArray) (hl : L.length ≤ 1000000) : ∀ (m i : Nat), i + m = L.length → (∀ k, k < i → (L.getD k bd0).name.toList ≠ nm.toList) → loopAt 0 fx_isochroneref11_get 0 52 1 [.blk 0, .seq 0 7] [(0, .sl (stRows L) false), (1, .str nm), (4, .mp 0 0 0), (5, .int .i64 i)] [.arr [[.bool false, .sl [] true, .sl [] true]] none false] = some (.agg (getV nm (L.drop i)).cells, [.arr [(getV nm (L.drop i)).cells] none false]) := by
  have zz : ∀ S, callO (callL Tryz.prog hints) S 51 [] = some { v := rrV 0 } := fun S => callO_plain call_rr_Zero (by simp)
  have zt : ∀ S, callO (callL Tryz.prog hints) S 32 [rrV 0] = some { v := .agg rv0.cells } := fun S => callO_plain (by rw [call_rr_To 0 ⟨by decide +kernel, by decide +kernel⟩, rv0_cells]) (by simp; exact rrV_plain 0)
  unfold RV.cells at zt
  intro m
  induction m with
  | zero =>
    intro i hi hk
    have h1 : ¬ (i : Int) < (L.length : Int) := by omega
    have e : L.drop i = [] := List.drop_eq_nil_of_le (by omega)
    rw [e]
    refine loopAt_step ok_isochroneref11_get.good 1000 ?_
    ((repeat ((conv => lhs; whnf); simp only [go_sem, ↓reduceIte, Nat.reduceEqDiff, Nat.reduceBEq, Nat.reduceAdd, Nat.reduceMul, Nat.reduceSub, Nat.reduceLT, Nat.reduceLeDiff, reduceCtorEq, Int.reduceToNat, Int.reduceLE, Int.reduceLT, Int.reduceEq, sem_isochroneref11_get, h1])); try (conv => lhs; whnf); try rfl)
    refine exit_run ok_isochroneref11_get.good 1000 ?_
    unfold getV RV.cells
    ((repeat ((conv => lhs; whnf); simp only [go_sem, ↓reduceIte, Nat.reduceEqDiff, Nat.reduceBEq, Nat.reduceAdd, Nat.reduceMul, Nat.reduceSub, Nat.reduceLT, Nat.reduceLeDiff, reduceCtorEq, Int.reduceToNat, Int.reduceLE, Int.reduceLT, Int.reduceEq, sem_isochroneref11_get, zz, zt])); try (conv => lhs; whnf); try rfl)
  | succ m ih =>
    intro i hi hk
    have h1 : (i : Int) < (L.length : Int) := by omega
    have h2 := wrap_succ (i := i) (n := L.length) (by omega) (by unfold maxLen; omega)
    have x1 : 0 ≤ (i : Int) ∧ (i : Int) < (L.length : Int) := ⟨by omega, h1⟩
    have e : L.drop i = L.getD i bd0 :: L.drop (i + 1) := by rw [getD_lt (by omega)]; exact List.drop_eq_getElem_cons (by omega)
    rw [e]
    refine loopAt_step ok_isochroneref11_get.good 1000 ?_
    by_cases c : (L.getD i bd0).name.toList = nm.toList
    · have c' : ((L.getD i bd0).name.toList == nm.toList) = true := beq_iff_eq.2 c
      simp only [getV, c, if_true]
      unfold RV.cells
      ((repeat ((conv => lhs; whnf); simp only [go_sem, ↓reduceIte, Nat.reduceEqDiff, Nat.reduceBEq, Nat.reduceAdd, Nat.reduceMul, Nat.reduceSub, Nat.reduceLT, Nat.reduceLeDiff, reduceCtorEq, Int.reduceToNat, Int.reduceLE, Int.reduceLT, Int.reduceEq, sem_isochroneref11_get, h1, x1, Int.toNat_natCast, Bd.cells, c'])); try (conv => lhs; whnf); try rfl)
    · have c' : ((L.getD i bd0).name.toList == nm.toList) = false := beq_eq_false_iff_ne.2 c
      have key := ih (i + 1) (by omega) (fun k hk' => by
        rcases Nat.lt_or_eq_of_le (Nat.le_of_lt_succ hk') with h | rfl
        · exact hk k h
        · exact c)
      simp only [getV, c, if_false]
      ((repeat ((conv => lhs; whnf); simp only [go_sem, ↓reduceIte, Nat.reduceEqDiff, Nat.reduceBEq, Nat.reduceAdd, Nat.reduceMul, Nat.reduceSub, Nat.reduceLT, Nat.reduceLeDiff, reduceCtorEq, Int.reduceToNat, Int.reduceLE, Int.reduceLT, Int.reduceEq, sem_isochroneref11_get, h1, x1, Int.toNat_natCast, Bd.cells, c', h2])); try (conv => lhs; whnf); try rfl)
      exact key
theorem call_get11 (L : List Bd) (nm : ByteArray) (hl : L.length ≤ 1000000) : callL Tryz.prog hints 60 [.sl (stRows L) false, .str nm] = some (.agg (getV nm L).cells) := by
  refine FX.callL (r := (.agg (getV nm L).cells, [.arr [(getV nm L).cells] none false])) ok_isochroneref11_get 1000 rfl rfl ?_ rfl
  have key := loop_get11 L nm hl L.length 0 (by omega) (fun k hk => absurd hk (by omega))
  ((repeat ((conv => lhs; whnf); simp only [go_sem, ↓reduceIte, Nat.reduceEqDiff, Nat.reduceBEq, Nat.reduceAdd, Nat.reduceMul, Nat.reduceSub, Nat.reduceLT, Nat.reduceLeDiff, reduceCtorEq, Int.reduceToNat, Int.reduceLE, Int.reduceLT, Int.reduceEq, sem_isochroneref11_get])); try (conv => lhs; whnf); try rfl)
  exact key
end
end Go.Vs
end
/- States: Get, the program's and the reference's. -/
section
set_option linter.unusedVariables false
set_option linter.unusedSimpArgs false
set_option maxRecDepth 100000
namespace Go.Vs
open Go Go.Proofs
/-- No number. -/
def rvE : RV := ⟨false, [], []⟩
def getOK (L : List Bd) (nm : ByteArray) : Bool := stOK L && varOK nm
/-- What Get answers. -/
def getR (L : List Bd) (nm : ByteArray) : PV := .tup [.agg (if getOK L nm then getV nm L else rvE).cells, .int .i64 (if getOK L nm then 0 else 3)]
theorem get_o (S : Store) (L : List Bd) (nm : ByteArray) (hL : StOk L) (h : stOK L = true) : callO (callL Tryz.prog hints) S 59 [.sl (stRows L) false, .str nm] = some { v := .agg (getV nm L).cells } :=
  have h' := stOK_iff.1 h
  callO_plain (call_get L nm hL h'.2.1 h'.2.2 (by have := h'.1; omega)) (by simp [Plain.str]; exact st_plain L)
theorem get11_o (S : Store) (L : List Bd) (nm : ByteArray) (h : L.length ≤ 1000000) : callO (callL Tryz.prog hints) S 60 [.sl (stRows L) false, .str nm] = some { v := .agg (getV nm L).cells } := callO_plain (call_get11 L nm h) (by simp [Plain.str]; exact st_plain L)
section
attribute [local irreducible] Vs.callL Vs.callRL tyi callO callM callMV appendE storeE evLoad indexAddrO sliceO evFieldAddr evField buildO buildSliceO makeSliceO allocO boxed lenO copyE convertO indexO Vs.gc freezeAll
noncomputable def fx_state_Get : FX := ⟨Tryz.f20, hints.of 20, []⟩
theorem ok_state_Get : fx_state_Get.ok 20 := ⟨by kernel_rfl, of_decide_eq_true (by kernel_rfl), by kernel_rfl, by kernel_rfl, by kernel_rfl, by kernel_rfl⟩
theorem sem_state_Get (b0 : Nat) (m : Md) (fs : List Fr) (e : Env) (S : Store) : sem b0 fx_state_Get m fs e S = run b0 fx_state_Get 1000 m fs e S := (sem_eq _ _ _ _ _ _).trans (run_sem b0 fx_state_Get ok_state_Get.good 1000 m fs e S).symm
theorem call_Get (L : List Bd) (nm : ByteArray) (hL : StOk L) (hl : L.length ≤ maxLen) (hn : nm.size ≤ maxLen) : callL Tryz.prog hints 20 [.sl (stRows L) false, .str nm] = some (getR L nm) := by
  have cv := fun S => stValid_o S L hL hl
  have cn := fun S => var_o S nm hn
  unfold getR getOK
  cases k1 : stOK L
  · rw [k1] at cv
    simp only [Bool.false_and, Bool.false_eq_true, if_false]
    refine FX.callL (r := (.tup [.agg [.bool false, .sl [] true, .sl [] true], .int .i64 3], [.arr [[.bool false, .sl [] true, .sl [] true]] none false])) ok_state_Get 1000 rfl rfl ?_ rfl
    ((repeat ((conv => lhs; whnf); simp only [go_sem, ↓reduceIte, Nat.reduceEqDiff, Nat.reduceBEq, Nat.reduceAdd, Nat.reduceMul, Nat.reduceSub, Nat.reduceLT, Nat.reduceLeDiff, reduceCtorEq, Int.reduceToNat, Int.reduceLE, Int.reduceLT, Int.reduceEq, sem_state_Get, cv])); try (conv => lhs; whnf); try rfl)
  · rw [k1] at cv
    cases k2 : varOK nm
    · rw [k2] at cn
      simp only [Bool.and_false, Bool.false_eq_true, if_false]
      refine FX.callL (r := (.tup [.agg [.bool false, .sl [] true, .sl [] true], .int .i64 3], [.arr [[.bool false, .sl [] true, .sl [] true]] none false])) ok_state_Get 1000 rfl rfl ?_ rfl
      ((repeat ((conv => lhs; whnf); simp only [go_sem, ↓reduceIte, Nat.reduceEqDiff, Nat.reduceBEq, Nat.reduceAdd, Nat.reduceMul, Nat.reduceSub, Nat.reduceLT, Nat.reduceLeDiff, reduceCtorEq, Int.reduceToNat, Int.reduceLE, Int.reduceLT, Int.reduceEq, sem_state_Get, cv, cn])); try (conv => lhs; whnf); try rfl)
    · rw [k2] at cn
      simp only [Bool.and_self, if_true]
      have cg := fun S => get_o S L nm hL k1
      unfold RV.cells at cg
      refine FX.callL (r := (.tup [.agg (getV nm L).cells, .int .i64 0], [.arr [(getV nm L).cells] none false])) ok_state_Get 1000 rfl rfl ?_ rfl
      unfold RV.cells
      ((repeat ((conv => lhs; whnf); simp only [go_sem, ↓reduceIte, Nat.reduceEqDiff, Nat.reduceBEq, Nat.reduceAdd, Nat.reduceMul, Nat.reduceSub, Nat.reduceLT, Nat.reduceLeDiff, reduceCtorEq, Int.reduceToNat, Int.reduceLE, Int.reduceLT, Int.reduceEq, sem_state_Get, cv, cn, cg])); try (conv => lhs; whnf); try rfl)
noncomputable def fx_isochroneref11_Get : FX := ⟨Tryz.f21, hints.of 21, []⟩
theorem ok_isochroneref11_Get : fx_isochroneref11_Get.ok 21 := ⟨by kernel_rfl, of_decide_eq_true (by kernel_rfl), by kernel_rfl, by kernel_rfl, by kernel_rfl, by kernel_rfl⟩
theorem sem_isochroneref11_Get (b0 : Nat) (m : Md) (fs : List Fr) (e : Env) (S : Store) : sem b0 fx_isochroneref11_Get m fs e S = run b0 fx_isochroneref11_Get 1000 m fs e S := (sem_eq _ _ _ _ _ _).trans (run_sem b0 fx_isochroneref11_Get ok_isochroneref11_Get.good 1000 m fs e S).symm
theorem call_Get11 (L : List Bd) (nm : ByteArray) (hL : StOk L) (hl : L.length ≤ maxLen) (hn : nm.size ≤ maxLen) : callL Tryz.prog hints 21 [.sl (stRows L) false, .str nm] = some (getR L nm) := by
  have cv := fun S => Valid11_o S L hL hl
  have cn := fun S => Var_o S nm hn
  unfold getR getOK
  cases k1 : stOK L
  · rw [k1] at cv
    simp only [Bool.false_and, Bool.false_eq_true, if_false]
    refine FX.callL (r := (.tup [.agg [.bool false, .sl [] true, .sl [] true], .int .i64 3], [.arr [[.bool false, .sl [] true, .sl [] true]] none false])) ok_isochroneref11_Get 1000 rfl rfl ?_ rfl
    ((repeat ((conv => lhs; whnf); simp only [go_sem, ↓reduceIte, Nat.reduceEqDiff, Nat.reduceBEq, Nat.reduceAdd, Nat.reduceMul, Nat.reduceSub, Nat.reduceLT, Nat.reduceLeDiff, reduceCtorEq, Int.reduceToNat, Int.reduceLE, Int.reduceLT, Int.reduceEq, sem_isochroneref11_Get, cv])); try (conv => lhs; whnf); try rfl)
  · rw [k1] at cv
    cases k2 : varOK nm
    · rw [k2] at cn
      simp only [Bool.and_false, Bool.false_eq_true, if_false]
      refine FX.callL (r := (.tup [.agg [.bool false, .sl [] true, .sl [] true], .int .i64 3], [.arr [[.bool false, .sl [] true, .sl [] true]] none false])) ok_isochroneref11_Get 1000 rfl rfl ?_ rfl
      ((repeat ((conv => lhs; whnf); simp only [go_sem, ↓reduceIte, Nat.reduceEqDiff, Nat.reduceBEq, Nat.reduceAdd, Nat.reduceMul, Nat.reduceSub, Nat.reduceLT, Nat.reduceLeDiff, reduceCtorEq, Int.reduceToNat, Int.reduceLE, Int.reduceLT, Int.reduceEq, sem_isochroneref11_Get, cv, cn])); try (conv => lhs; whnf); try rfl)
    · rw [k2] at cn
      simp only [Bool.and_self, if_true]
      have cg := fun S => get11_o S L nm (by have := (stOK_iff.1 k1).1; omega)
      unfold RV.cells at cg
      refine FX.callL (r := (.tup [.agg (getV nm L).cells, .int .i64 0], [.arr [(getV nm L).cells] none false])) ok_isochroneref11_Get 1000 rfl rfl ?_ rfl
      unfold RV.cells
      ((repeat ((conv => lhs; whnf); simp only [go_sem, ↓reduceIte, Nat.reduceEqDiff, Nat.reduceBEq, Nat.reduceAdd, Nat.reduceMul, Nat.reduceSub, Nat.reduceLT, Nat.reduceLeDiff, reduceCtorEq, Int.reduceToNat, Int.reduceLE, Int.reduceLT, Int.reduceEq, sem_isochroneref11_Get, cv, cn, cg])); try (conv => lhs; whnf); try rfl)
end
theorem Get_o (S : Store) (L : List Bd) (nm : ByteArray) (hL : StOk L) (hl : L.length ≤ maxLen) (hn : nm.size ≤ maxLen) : callO (callL Tryz.prog hints) S 20 [.sl (stRows L) false, .str nm] = some { v := getR L nm } := callO_plain (call_Get L nm hL hl hn) (by simp [Plain.str]; exact st_plain L)
theorem Get11_o (S : Store) (L : List Bd) (nm : ByteArray) (hL : StOk L) (hl : L.length ≤ maxLen) (hn : nm.size ≤ maxLen) : callO (callL Tryz.prog hints) S 21 [.sl (stRows L) false, .str nm] = some { v := getR L nm } := callO_plain (call_Get11 L nm hL hl hn) (by simp [Plain.str]; exact st_plain L)
end Go.Vs
end
/- States in memory: appends, reading back. -/
section
set_option linter.unusedVariables false
set_option linter.unusedSimpArgs false
set_option maxRecDepth 100000
namespace Go.Vs
open Go Go.Proofs
theorem stRows_refs : ∀ L : List Bd, rowsRefs (stRows L) = []
  | [] => rfl
  | a :: r => by
    have := stRows_refs r
    simp only [stRows, List.map_cons, rowsRefs_cons] at this ⊢
    rw [this]; rfl
theorem stRows_append (a b : List Bd) : stRows (a ++ b) = stRows a ++ stRows b := by simp [stRows]
theorem stRows_take (L : List Bd) (n : Nat) : (stRows L).take n = stRows (L.take n) := by simp [stRows, List.map_take]
theorem stRows_drop (L : List Bd) (n : Nat) : (stRows L).drop n = stRows (L.drop n) := by simp [stRows, List.map_drop]
@[go_sem] theorem build_st (id n : Nat) (is : List Nat) (rows : List (List PV)) : buildSliceO Tryz.prog 35 id n is rows = if is = List.range n ∧ rowsOK 4 rows = true ∧ (rows.all fun r => r.all PV.cell) = true ∧ n * 4 ≤ 16777216 then some { v := .msl id 0 n true, new := some (rows, some (some 4)) } else none := sl_st.buildSlice (by decide) id n is rows
/-- A binding appended to a list of one's own at place 1, the new row at the store's end. -/
theorem app_st {S S' : Store} {j : Nat} (L : List Bd) (b : Bd) (g : Option Nat) (hg : g = none ∨ g = some 4) (hl : L.length ≤ 10000000) (ex : Bool)
    (h1 : S[1]? = some (.arr (stRows L) (some g) false)) (hj : S[j]? = some (.arr [b.cells] (some (some 4)) false)) (hS : (S.map (killObj [1])).set 1 (.arr (stRows (L ++ [b])) (some (some 4)) false) = S') :
    appendE Tryz.prog 0 35 35 S (.msl 1 0 L.length false) (.msl j 0 1 ex) = some { v := .msl 1 0 (L.length + 1) false, S := S', kill := [1] } := by
  have := sl_st.app (b := 0) (S := S) (id := 1) (rows := stRows L) (new := stRows [b]) (g := g) (p := .msl j 0 1 ex) h1 (by decide) hg (RowsV.msl j (stRows [b]) ex _ _ hj) (stRows_ok _) (stRows_ok _) (by rw [stRows_length, stRows_length]; simp only [List.length_singleton]; omega) (by rw [stRows_length, stRows_length]; simp; omega) (by rw [stRows_refs]; simp) (by rw [stRows_refs]; simp)
  rw [stRows_length, ← stRows_append, hS] at this
  exact this
theorem Bd.refs (b : Bd) : rowsRefs [b.cells] = [] := rfl
theorem RV.refs (v : RV) : rowsRefs [v.cells] = [] := rfl
theorem killObj_flat {rows : List (List PV)} {g : Option (Option Nat)} {f : Bool} {l : List Nat} (h : rowsRefs rows = []) : killObj l (.arr rows g f) = .arr rows g f := by
  simp only [killObj, killRows, h, List.any_nil, Bool.false_eq_true, if_false]
theorem Bd_fz (S : Store) (d : Nat) (b : Bd) : mapO (fzCell S (d + 2)) b.cells = some b.cells := by
  obtain ⟨nm, ⟨ng, N, D⟩⟩ := b
  rfl
theorem stRows_fzR (S : Store) (d : Nat) (L : List Bd) : mapO (mapO (fzCell S (d + 2))) (stRows L) = some (stRows L) := by
  have := mapO_all (f := mapO (fzCell S (d + 2))) (g := fun x => x) (l := stRows L) (fun a ha => by
    obtain ⟨w, _, rfl⟩ := List.mem_map.1 ha
    exact Bd_fz S d w)
  simpa using this
theorem stRows_fz {S : Store} {id n : Nat} {L : List Bd} {ex : Bool} (h : rowsAt S id = some (stRows L)) (hn : L.length = n) (d : Nat) : fzCell S (d + 3) (.msl id 0 n ex) = some (.sl (stRows L) false) := by
  have e1 : rowsIn S (.msl id 0 n false) = some (stRows L) := by
    rw [rowsIn_msl, h]
    simp only [Option.bind_some, Nat.zero_add, List.drop_zero, stRows_length, hn, Nat.le_refl, if_true]
    rw [← hn, ← stRows_length L, List.take_length]
  show ((rowsIn S (.msl id 0 n false)).bind fun rows => (mapO (mapO (fzCell S (d + 2))) rows).map fun rows => PV.sl rows false) = _
  rw [e1]
  simp only [Option.bind_some, stRows_fzR, Option.map_some]
theorem stRows_fzV {S : Store} {id n : Nat} {L : List Bd} {ex : Bool} (h : rowsAt S id = some (stRows L)) (hn : L.length = n) : fzPV S (.msl id 0 n ex) = some (.sl (stRows L) false) := stRows_fz (ex := ex) h hn 5
theorem stTup_fzV {S : Store} {id n : Nat} {L : List Bd} {ex : Bool} {k : IntKind} {c : Int} (h : rowsAt S id = some (stRows L)) (hn : L.length = n) : fzPV S (.tup [.msl id 0 n ex, .int k c]) = some (.tup [.sl (stRows L) false, .int k c]) := by
  have e : fzPV1 S (.msl id 0 n ex) = some (.sl (stRows L) false) := stRows_fzV (ex := ex) h hn
  show (mapO (fzPV1 S) [.msl id 0 n ex, .int k c]).map PV.tup = _
  simp only [mapO, e, Option.bind_some]
  rfl
/-- The first so many, the rest. -/
theorem cut_st (S : Store) (L : List Bd) (i : Nat) (hi : i ≤ L.length) : sliceO Tryz.prog 35 S (.sl (stRows L) false) none (some (.int .i64 i)) none = some (.sl (stRows (L.take i)) false) := by
  have := sl_st.firsts S (rows := stRows L) false i (by rw [stRows_length]; exact hi) (stRows_ok L)
  rw [stRows_take] at this
  exact this
theorem rest_st (S : Store) (L : List Bd) (i : Nat) (hi : i ≤ L.length) : sliceO Tryz.prog 35 S (.sl (stRows L) false) (some (.int .i64 i)) none none = some (.sl (stRows (L.drop i)) false) := by
  have e : (stRows L).take (stRows L).length = stRows L := List.take_length
  simp [sliceO, sl_st.el, sl_st.is, sl_st.k, sl_st.s, evSlice, sl_st.d, bound, hi, stRows_ok, stRows_length]
  rw [← stRows_length L, e, stRows_drop]
end Go.Vs
end
/- States: Set. -/
section
set_option linter.unusedVariables false
set_option linter.unusedSimpArgs false
set_option maxRecDepth 100000
namespace Go.Vs
open Go Go.Proofs
section
attribute [local irreducible] Vs.callL Vs.callRL tyi callO callM callMV appendE storeE evLoad indexAddrO sliceO evFieldAddr evField buildO buildSliceO makeSliceO allocO boxed lenO copyE convertO indexO Vs.gc freezeAll
noncomputable def fx_state_Set : FX := ⟨Tryz.f22, hints.of 22, []⟩
theorem ok_state_Set : fx_state_Set.ok 22 := ⟨by kernel_rfl, of_decide_eq_true (by kernel_rfl), by kernel_rfl, by kernel_rfl, by kernel_rfl, by kernel_rfl⟩
theorem sem_state_Set (b0 : Nat) (m : Md) (fs : List Fr) (e : Env) (S : Store) : sem b0 fx_state_Set m fs e S = run b0 fx_state_Set 1000 m fs e S := (sem_eq _ _ _ _ _ _).trans (run_sem b0 fx_state_Set ok_state_Set.good 1000 m fs e S).symm
theorem loop_Set0 (v : RV) (nm : ByteArray) (L : List Bd) (r : Nat) (ok : Bool) (M : List Bd) (hM : M.length ≤ 1000) (hMo : ∀ b ∈ M, b.val.ok ∧ b.val.fit = true) (fs : List Fr) : ∀ (m j : Nat) (g : Option Nat), j + m = M.length → (g = none ∨ g = some 4) →
    ∃ g' : Option Nat, (g' = none ∨ g' = some 4) ∧ ∀ z : PV × Store, exitTo 0 fx_state_Set 0 fs [(0, .sl (stRows L) false), (1, .str nm), (5, .mp 0 0 0), (8, .int .i64 r), (9, .bool ok), (10, .msl 1 0 M.length false), (36, .undef), (37, .undef), (38, .undef), (39, .undef)] [.arr [[.bool v.neg, .sl (kRows .u32 v.num) false, .sl (kRows .u32 v.den) false]] none false, .arr (stRows M) (some g') false] = some z →
    loopAt 0 fx_state_Set 0 500 2 fs [(0, .sl (stRows L) false), (1, .str nm), (5, .mp 0 0 0), (8, .int .i64 r), (9, .bool ok), (10, .msl 1 0 j false), (36, .sl (stRows M) false), (37, .int .i64 M.length), (38, .int .i64 j)] [.arr [[.bool v.neg, .sl (kRows .u32 v.num) false, .sl (kRows .u32 v.den) false]] none false, .arr (stRows (M.take j)) (some g) false] = some z := by
  intro m
  induction m with
  | zero =>
    intro j g hj hg
    refine ⟨g, hg, fun z hz => ?_⟩
    have h1 : ¬ (j : Int) < (M.length : Int) := by omega
    have e : M.take j = M := List.take_of_length_le (by omega)
    have ej : j = M.length := by omega
    rw [e]
    refine loopAt_step ok_state_Set.good 1000 ?_
    ((repeat ((conv => lhs; whnf); simp only [go_sem, ↓reduceIte, Nat.reduceEqDiff, Nat.reduceBEq, Nat.reduceAdd, Nat.reduceMul, Nat.reduceSub, Nat.reduceLT, Nat.reduceLeDiff, reduceCtorEq, Int.reduceToNat, Int.reduceLE, Int.reduceLT, Int.reduceEq, sem_state_Set, h1])); try (conv => lhs; whnf); try rfl)
    rw [← ej] at hz
    exact hz
  | succ m ih =>
    intro j g hj hg
    have h1 : (j : Int) < (M.length : Int) := by omega
    have h2 := wrap_succ (i := j) (n := M.length) (by omega) (by unfold maxLen; omega)
    have x1 : 0 ≤ (j : Int) ∧ (j : Int) < (M.length : Int) := ⟨by omega, h1⟩
    have hj' : j < M.length := by omega
    have et : M.take (j + 1) = M.take j ++ [M.getD j bd0] := by
      rw [List.take_add_one, List.getElem?_eq_getElem hj', getD_lt hj']; rfl
    obtain ⟨g', hg', key⟩ := ih (j + 1) (some 4) (by omega) (.inr rfl)
    refine ⟨g', hg', fun z hz => ?_⟩
    replace key := key z hz
    clear hz
    rw [et] at key
    obtain ⟨bo, bf⟩ := hMo (M.getD j bd0) (by rw [getD_lt hj']; exact List.getElem_mem hj')
    generalize hB : M.getD j bd0 = B at key bo bf
    have cc := fun S => CopyV_o S B.val bo bf
    unfold RV.cells at cc
    have el : (M.take j).length = j := by rw [List.length_take]; omega
    have ap := app_st (S := [.arr [[.bool v.neg, .sl (kRows .u32 v.num) false, .sl (kRows .u32 v.den) false]] none false, .arr (stRows (M.take j)) (some g) false, .arr [[.str B.name, .bool B.val.neg, .sl (kRows .u32 B.val.num) false, .sl (kRows .u32 B.val.den) false]] none false, .arr [[.str B.name, .bool B.val.neg, .sl (kRows .u32 B.val.num) false, .sl (kRows .u32 B.val.den) false]] (some (some 4)) false])
      (S' := [.arr [[.bool v.neg, .sl (kRows .u32 v.num) false, .sl (kRows .u32 v.den) false]] none false, .arr (stRows (M.take j ++ [B])) (some (some 4)) false, .arr [[.str B.name, .bool B.val.neg, .sl (kRows .u32 B.val.num) false, .sl (kRows .u32 B.val.den) false]] none false, .arr [[.str B.name, .bool B.val.neg, .sl (kRows .u32 B.val.num) false, .sl (kRows .u32 B.val.den) false]] (some (some 4)) false]) (j := 3) (M.take j) B g hg (by omega) true rfl rfl
      (by simp only [List.map_cons, List.map_nil, killObj_flat (stRows_refs _)]; rfl)
    rw [el] at ap
    refine loopAt_step ok_state_Set.good 1000 ?_
    ((repeat ((conv => lhs; whnf); simp only [go_sem, ↓reduceIte, Nat.reduceEqDiff, Nat.reduceBEq, Nat.reduceAdd, Nat.reduceMul, Nat.reduceSub, Nat.reduceLT, Nat.reduceLeDiff, reduceCtorEq, Int.reduceToNat, Int.reduceLE, Int.reduceLT, Int.reduceEq, sem_state_Set, h1, h2, x1, Int.toNat_natCast, hB, Bd.cells, cc, ap, stRows_refs])); try (conv => lhs; whnf); try rfl)
    exact key
theorem loop_Set2 (v : RV) (nm : ByteArray) (A M : List Bd) (hA : A.length ≤ 1000) (hM : M.length ≤ 1000) (hMo : ∀ b ∈ M, b.val.ok ∧ b.val.fit = true) (fs : List Fr) : ∀ (m j : Nat) (g : Option Nat), j + m = M.length → (g = none ∨ g = some 4) →
    ∃ g' : Option Nat, (g' = none ∨ g' = some 4) ∧ ∀ z : PV × Store, exitTo 0 fx_state_Set 2 fs [(10, .msl 1 0 (A ++ M).length false), (68, .undef), (69, .undef), (70, .undef), (71, .undef)] [.arr [[.bool v.neg, .sl (kRows .u32 v.num) false, .sl (kRows .u32 v.den) false]] none false, .arr (stRows (A ++ M)) (some g') false] = some z →
    loopAt 0 fx_state_Set 2 4084 2 fs [(10, .msl 1 0 (A ++ M.take j).length false), (68, .sl (stRows M) false), (69, .int .i64 M.length), (70, .int .i64 j)] [.arr [[.bool v.neg, .sl (kRows .u32 v.num) false, .sl (kRows .u32 v.den) false]] none false, .arr (stRows (A ++ M.take j)) (some g) false] = some z := by
  intro m
  induction m with
  | zero =>
    intro j g hj hg
    refine ⟨g, hg, fun z hz => ?_⟩
    have h1 : ¬ (j : Int) < (M.length : Int) := by omega
    have e : M.take j = M := List.take_of_length_le (by omega)
    rw [e]
    refine loopAt_step ok_state_Set.good 1000 ?_
    ((repeat ((conv => lhs; whnf); simp only [go_sem, ↓reduceIte, Nat.reduceEqDiff, Nat.reduceBEq, Nat.reduceAdd, Nat.reduceMul, Nat.reduceSub, Nat.reduceLT, Nat.reduceLeDiff, reduceCtorEq, Int.reduceToNat, Int.reduceLE, Int.reduceLT, Int.reduceEq, sem_state_Set, h1])); try (conv => lhs; whnf); try rfl)
    exact hz
  | succ m ih =>
    intro j g hj hg
    have h1 : (j : Int) < (M.length : Int) := by omega
    have h2 := wrap_succ (i := j) (n := M.length) (by omega) (by unfold maxLen; omega)
    have x1 : 0 ≤ (j : Int) ∧ (j : Int) < (M.length : Int) := ⟨by omega, h1⟩
    have hj' : j < M.length := by omega
    have et : A ++ M.take (j + 1) = (A ++ M.take j) ++ [M.getD j bd0] := by
      rw [List.take_add_one, List.getElem?_eq_getElem hj', getD_lt hj', List.append_assoc]; rfl
    obtain ⟨g', hg', key⟩ := ih (j + 1) (some 4) (by omega) (.inr rfl)
    refine ⟨g', hg', fun z hz => ?_⟩
    replace key := key z hz
    clear hz
    rw [et] at key
    obtain ⟨bo, bf⟩ := hMo (M.getD j bd0) (by rw [getD_lt hj']; exact List.getElem_mem hj')
    generalize hB : M.getD j bd0 = B at key bo bf
    have cc := fun S => CopyV_o S B.val bo bf
    unfold RV.cells at cc
    have hC : (A ++ M.take j).length ≤ 10000 := by simp only [List.length_append, List.length_take]; omega
    generalize A ++ M.take j = C at key hC ⊢
    have ap := app_st (S := [.arr [[.bool v.neg, .sl (kRows .u32 v.num) false, .sl (kRows .u32 v.den) false]] none false, .arr (stRows C) (some g) false, .arr [[.str B.name, .bool B.val.neg, .sl (kRows .u32 B.val.num) false, .sl (kRows .u32 B.val.den) false]] none false, .arr [[.str B.name, .bool B.val.neg, .sl (kRows .u32 B.val.num) false, .sl (kRows .u32 B.val.den) false]] (some (some 4)) false])
      (S' := [.arr [[.bool v.neg, .sl (kRows .u32 v.num) false, .sl (kRows .u32 v.den) false]] none false, .arr (stRows (C ++ [B])) (some (some 4)) false, .arr [[.str B.name, .bool B.val.neg, .sl (kRows .u32 B.val.num) false, .sl (kRows .u32 B.val.den) false]] none false, .arr [[.str B.name, .bool B.val.neg, .sl (kRows .u32 B.val.num) false, .sl (kRows .u32 B.val.den) false]] (some (some 4)) false]) (j := 3) C B g hg (by omega) true rfl rfl
      (by simp only [List.map_cons, List.map_nil, killObj_flat (stRows_refs _)]; rfl)
    rw [List.length_append, List.length_singleton] at key
    refine loopAt_step ok_state_Set.good 1000 ?_
    ((repeat ((conv => lhs; whnf); simp only [go_sem, ↓reduceIte, Nat.reduceEqDiff, Nat.reduceBEq, Nat.reduceAdd, Nat.reduceMul, Nat.reduceSub, Nat.reduceLT, Nat.reduceLeDiff, reduceCtorEq, Int.reduceToNat, Int.reduceLE, Int.reduceLT, Int.reduceEq, sem_state_Set, h1, h2, x1, Int.toNat_natCast, hB, Bd.cells, cc, ap, stRows_refs])); try (conv => lhs; whnf); try rfl)
    exact key
theorem loop_Set2' (v : RV) (nm : ByteArray) (A M : List Bd) (hA : A.length ≤ 1000) (hM : M.length ≤ 1000) (hMo : ∀ b ∈ M, b.val.ok ∧ b.val.fit = true) (fs : List Fr) : ∀ (m j : Nat) (g : Option Nat), j + m = M.length → (g = none ∨ g = some 4) →
    ∃ g' : Option Nat, (g' = none ∨ g' = some 4) ∧ ∀ z : PV × Store, exitTo 0 fx_state_Set 2 fs [(10, .msl 1 0 (A ++ M).length false), (68, .undef), (69, .undef), (70, .undef), (71, .undef)] [.arr [[.bool v.neg, .sl (kRows .u32 v.num) false, .sl (kRows .u32 v.den) false]] none false, .arr (stRows (A ++ M)) (some g') false, .arr [[.str nm, .bool v.neg, .sl (kRows .u32 v.num) false, .sl (kRows .u32 v.den) false]] (some (some 4)) false] = some z →
    loopAt 0 fx_state_Set 2 4084 3 fs [(10, .msl 1 0 (A ++ M.take j).length false), (68, .sl (stRows M) false), (69, .int .i64 M.length), (70, .int .i64 j)] [.arr [[.bool v.neg, .sl (kRows .u32 v.num) false, .sl (kRows .u32 v.den) false]] none false, .arr (stRows (A ++ M.take j)) (some g) false, .arr [[.str nm, .bool v.neg, .sl (kRows .u32 v.num) false, .sl (kRows .u32 v.den) false]] (some (some 4)) false] = some z := by
  intro m
  induction m with
  | zero =>
    intro j g hj hg
    refine ⟨g, hg, fun z hz => ?_⟩
    have h1 : ¬ (j : Int) < (M.length : Int) := by omega
    have e : M.take j = M := List.take_of_length_le (by omega)
    rw [e]
    refine loopAt_step ok_state_Set.good 1000 ?_
    ((repeat ((conv => lhs; whnf); simp only [go_sem, ↓reduceIte, Nat.reduceEqDiff, Nat.reduceBEq, Nat.reduceAdd, Nat.reduceMul, Nat.reduceSub, Nat.reduceLT, Nat.reduceLeDiff, reduceCtorEq, Int.reduceToNat, Int.reduceLE, Int.reduceLT, Int.reduceEq, sem_state_Set, h1])); try (conv => lhs; whnf); try rfl)
    exact hz
  | succ m ih =>
    intro j g hj hg
    have h1 : (j : Int) < (M.length : Int) := by omega
    have h2 := wrap_succ (i := j) (n := M.length) (by omega) (by unfold maxLen; omega)
    have x1 : 0 ≤ (j : Int) ∧ (j : Int) < (M.length : Int) := ⟨by omega, h1⟩
    have hj' : j < M.length := by omega
    have et : A ++ M.take (j + 1) = (A ++ M.take j) ++ [M.getD j bd0] := by
      rw [List.take_add_one, List.getElem?_eq_getElem hj', getD_lt hj', List.append_assoc]; rfl
    obtain ⟨g', hg', key⟩ := ih (j + 1) (some 4) (by omega) (.inr rfl)
    refine ⟨g', hg', fun z hz => ?_⟩
    replace key := key z hz
    clear hz
    rw [et] at key
    obtain ⟨bo, bf⟩ := hMo (M.getD j bd0) (by rw [getD_lt hj']; exact List.getElem_mem hj')
    generalize hB : M.getD j bd0 = B at key bo bf
    have cc := fun S => CopyV_o S B.val bo bf
    unfold RV.cells at cc
    have hC : (A ++ M.take j).length ≤ 10000 := by simp only [List.length_append, List.length_take]; omega
    generalize A ++ M.take j = C at key hC ⊢
    have ap := app_st (S := [.arr [[.bool v.neg, .sl (kRows .u32 v.num) false, .sl (kRows .u32 v.den) false]] none false, .arr (stRows C) (some g) false, .arr [[.str nm, .bool v.neg, .sl (kRows .u32 v.num) false, .sl (kRows .u32 v.den) false]] (some (some 4)) false, .arr [[.str B.name, .bool B.val.neg, .sl (kRows .u32 B.val.num) false, .sl (kRows .u32 B.val.den) false]] none false, .arr [[.str B.name, .bool B.val.neg, .sl (kRows .u32 B.val.num) false, .sl (kRows .u32 B.val.den) false]] (some (some 4)) false])
      (S' := [.arr [[.bool v.neg, .sl (kRows .u32 v.num) false, .sl (kRows .u32 v.den) false]] none false, .arr (stRows (C ++ [B])) (some (some 4)) false, .arr [[.str nm, .bool v.neg, .sl (kRows .u32 v.num) false, .sl (kRows .u32 v.den) false]] (some (some 4)) false, .arr [[.str B.name, .bool B.val.neg, .sl (kRows .u32 B.val.num) false, .sl (kRows .u32 B.val.den) false]] none false, .arr [[.str B.name, .bool B.val.neg, .sl (kRows .u32 B.val.num) false, .sl (kRows .u32 B.val.den) false]] (some (some 4)) false]) (j := 4) C B g hg (by omega) true rfl rfl
      (by simp only [List.map_cons, List.map_nil, killObj_flat (stRows_refs _)]; rfl)
    rw [List.length_append, List.length_singleton] at key
    refine loopAt_step ok_state_Set.good 1000 ?_
    ((repeat ((conv => lhs; whnf); simp only [go_sem, ↓reduceIte, Nat.reduceEqDiff, Nat.reduceBEq, Nat.reduceAdd, Nat.reduceMul, Nat.reduceSub, Nat.reduceLT, Nat.reduceLeDiff, reduceCtorEq, Int.reduceToNat, Int.reduceLE, Int.reduceLT, Int.reduceEq, sem_state_Set, h1, h2, x1, Int.toNat_natCast, hB, Bd.cells, cc, ap, stRows_refs])); try (conv => lhs; whnf); try rfl)
    exact key
end
end Go.Vs
end
