/- Variables: names with a prime or without. -/

import Derived.Test.YtkaeejkajfinhaaGreatMS22
section
set_option linter.unusedVariables false
set_option linter.unusedSimpArgs false
set_option maxRecDepth 100000
namespace Go.Vs
open Go Go.Proofs
theorem slice_str (S : Store) (s : ByteArray) (n : Nat) (h : n ≤ s.size) : sliceO Tryz.prog 9 S (.str s) none (some (.int .i64 (n : Int))) none = some (.str (s.extract 0 n)) := by
  have b : bound s.size (some (.int .i64 (n : Int))) = some n := by simp [bound]
  have b0 : bound 0 none = some 0 := rfl
  have k : isSlice (tyi Tryz.prog 9) = false := by kernel_rfl
  simp [sliceO, tyStr, evSlice, b, b0, h, k]
def primed (s : ByteArray) : Bool := decide (0 < s.size) && decide (byteAt s (s.size - 1) = 39)
def varOK (s : ByteArray) : Bool := nameOK (if primed s = true then s.extract 0 (s.size - 1) else s)
section
attribute [local irreducible] Vs.callL Vs.callRL tyi callO callM callMV appendE storeE evLoad indexAddrO sliceO evFieldAddr evField buildO buildSliceO makeSliceO allocO boxed lenO copyE convertO indexO Vs.gc freezeAll
noncomputable def fx_state_variable : FX := ⟨Tryz.f58, hints.of 58, []⟩
theorem ok_state_variable : fx_state_variable.ok 58 := ⟨by kernel_rfl, of_decide_eq_true (by kernel_rfl), by kernel_rfl, by kernel_rfl, by kernel_rfl, by kernel_rfl⟩
theorem sem_state_variable (b0 : Nat) (m : Md) (fs : List Fr) (e : Env) (S : Store) : sem b0 fx_state_variable m fs e S = run b0 fx_state_variable 1000 m fs e S := (sem_eq _ _ _ _ _ _).trans (run_sem b0 fx_state_variable ok_state_variable.good 1000 m fs e S).symm
theorem call_variable (s : ByteArray) (hs : s.size ≤ maxLen) : callL Tryz.prog hints 58 [.str s] = some (.bool (varOK s)) := by
  refine FX.callL (r := (.bool (varOK s), [])) ok_state_variable 1000 rfl rfl ?_ rfl
  have hM := maxLen_le
  unfold varOK primed
  by_cases h0 : 0 < s.size
  · have h1 : (0 : Int) < (s.size : Int) := by omega
    have w1 : IntKind.i64.wrap ((s.size : Int) - 1) = ((s.size - 1 : Nat) : Int) := by rw [IntKind.wrap_i64]; omega
    have x1 : 0 ≤ ((s.size - 1 : Nat) : Int) ∧ ((s.size - 1 : Nat) : Int) < s.size := ⟨by omega, by omega⟩
    have sl := fun S => slice_str S s (s.size - 1) (by omega)
    by_cases h2 : byteAt s (s.size - 1) = 39
    · simp only [h0, h2, decide_true, Bool.and_self, if_true]
      ((repeat ((conv => lhs; whnf); simp only [go_sem, ↓reduceIte, Nat.reduceEqDiff, Nat.reduceBEq, Nat.reduceAdd, Nat.reduceMul, Nat.reduceSub, Nat.reduceLT, Nat.reduceLeDiff, reduceCtorEq, Int.reduceToNat, Int.reduceLE, Int.reduceLT, Int.reduceEq, sem_state_variable, h1, w1, x1, h2, sl, Int.toNat_natCast, Name_o])); try (conv => lhs; whnf); try rfl)
    · simp only [h0, h2, decide_true, decide_false, Bool.and_false, Bool.false_eq_true, if_false]
      ((repeat ((conv => lhs; whnf); simp only [go_sem, ↓reduceIte, Nat.reduceEqDiff, Nat.reduceBEq, Nat.reduceAdd, Nat.reduceMul, Nat.reduceSub, Nat.reduceLT, Nat.reduceLeDiff, reduceCtorEq, Int.reduceToNat, Int.reduceLE, Int.reduceLT, Int.reduceEq, sem_state_variable, h1, w1, x1, h2, Int.toNat_natCast, Name_o])); try (conv => lhs; whnf); try rfl)
  · have h1 : ¬ (0 : Int) < (s.size : Int) := by omega
    simp only [h0, decide_false, Bool.false_and, Bool.false_eq_true, if_false]
    ((repeat ((conv => lhs; whnf); simp only [go_sem, ↓reduceIte, Nat.reduceEqDiff, Nat.reduceBEq, Nat.reduceAdd, Nat.reduceMul, Nat.reduceSub, Nat.reduceLT, Nat.reduceLeDiff, reduceCtorEq, Int.reduceToNat, Int.reduceLE, Int.reduceLT, Int.reduceEq, sem_state_variable, h1, Name_o])); try (conv => lhs; whnf); try rfl)
noncomputable def fx_static_variable : FX := ⟨Tryz.f112, hints.of 112, []⟩
theorem ok_static_variable : fx_static_variable.ok 112 := ⟨by kernel_rfl, of_decide_eq_true (by kernel_rfl), by kernel_rfl, by kernel_rfl, by kernel_rfl, by kernel_rfl⟩
theorem sem_static_variable (b0 : Nat) (m : Md) (fs : List Fr) (e : Env) (S : Store) : sem b0 fx_static_variable m fs e S = run b0 fx_static_variable 1000 m fs e S := (sem_eq _ _ _ _ _ _).trans (run_sem b0 fx_static_variable ok_static_variable.good 1000 m fs e S).symm
theorem call_svariable (s : ByteArray) (hs : s.size ≤ maxLen) : callL Tryz.prog hints 112 [.str s] = some (.bool (varOK s)) := by
  refine FX.callL (r := (.bool (varOK s), [])) ok_static_variable 1000 rfl rfl ?_ rfl
  have hM := maxLen_le
  unfold varOK primed
  by_cases h0 : 0 < s.size
  · have h1 : (0 : Int) < (s.size : Int) := by omega
    have w1 : IntKind.i64.wrap ((s.size : Int) - 1) = ((s.size - 1 : Nat) : Int) := by rw [IntKind.wrap_i64]; omega
    have x1 : 0 ≤ ((s.size - 1 : Nat) : Int) ∧ ((s.size - 1 : Nat) : Int) < s.size := ⟨by omega, by omega⟩
    have sl := fun S => slice_str S s (s.size - 1) (by omega)
    by_cases h2 : byteAt s (s.size - 1) = 39
    · simp only [h0, h2, decide_true, Bool.and_self, if_true]
      ((repeat ((conv => lhs; whnf); simp only [go_sem, ↓reduceIte, Nat.reduceEqDiff, Nat.reduceBEq, Nat.reduceAdd, Nat.reduceMul, Nat.reduceSub, Nat.reduceLT, Nat.reduceLeDiff, reduceCtorEq, Int.reduceToNat, Int.reduceLE, Int.reduceLT, Int.reduceEq, sem_static_variable, h1, w1, x1, h2, sl, Int.toNat_natCast, Name_o])); try (conv => lhs; whnf); try rfl)
    · simp only [h0, h2, decide_true, decide_false, Bool.and_false, Bool.false_eq_true, if_false]
      ((repeat ((conv => lhs; whnf); simp only [go_sem, ↓reduceIte, Nat.reduceEqDiff, Nat.reduceBEq, Nat.reduceAdd, Nat.reduceMul, Nat.reduceSub, Nat.reduceLT, Nat.reduceLeDiff, reduceCtorEq, Int.reduceToNat, Int.reduceLE, Int.reduceLT, Int.reduceEq, sem_static_variable, h1, w1, x1, h2, Int.toNat_natCast, Name_o])); try (conv => lhs; whnf); try rfl)
  · have h1 : ¬ (0 : Int) < (s.size : Int) := by omega
    simp only [h0, decide_false, Bool.false_and, Bool.false_eq_true, if_false]
    ((repeat ((conv => lhs; whnf); simp only [go_sem, ↓reduceIte, Nat.reduceEqDiff, Nat.reduceBEq, Nat.reduceAdd, Nat.reduceMul, Nat.reduceSub, Nat.reduceLT, Nat.reduceLeDiff, reduceCtorEq, Int.reduceToNat, Int.reduceLE, Int.reduceLT, Int.reduceEq, sem_static_variable, h1, Name_o])); try (conv => lhs; whnf); try rfl)
noncomputable def fx_isochroneref10_Variable : FX := ⟨Tryz.f29, hints.of 29, []⟩
theorem ok_isochroneref10_Variable : fx_isochroneref10_Variable.ok 29 := ⟨by kernel_rfl, of_decide_eq_true (by kernel_rfl), by kernel_rfl, by kernel_rfl, by kernel_rfl, by kernel_rfl⟩
theorem sem_isochroneref10_Variable (b0 : Nat) (m : Md) (fs : List Fr) (e : Env) (S : Store) : sem b0 fx_isochroneref10_Variable m fs e S = run b0 fx_isochroneref10_Variable 1000 m fs e S := (sem_eq _ _ _ _ _ _).trans (run_sem b0 fx_isochroneref10_Variable ok_isochroneref10_Variable.good 1000 m fs e S).symm
theorem call_Variable (s : ByteArray) (hs : s.size ≤ maxLen) : callL Tryz.prog hints 29 [.str s] = some (.bool (varOK s)) := by
  refine FX.callL (r := (.bool (varOK s), [])) ok_isochroneref10_Variable 1000 rfl rfl ?_ rfl
  have hM := maxLen_le
  unfold varOK primed
  by_cases h0 : 0 < s.size
  · have h1 : (0 : Int) < (s.size : Int) := by omega
    have w1 : IntKind.i64.wrap ((s.size : Int) - 1) = ((s.size - 1 : Nat) : Int) := by rw [IntKind.wrap_i64]; omega
    have x1 : 0 ≤ ((s.size - 1 : Nat) : Int) ∧ ((s.size - 1 : Nat) : Int) < s.size := ⟨by omega, by omega⟩
    have sl := fun S => slice_str S s (s.size - 1) (by omega)
    by_cases h2 : byteAt s (s.size - 1) = 39
    · simp only [h0, h2, decide_true, Bool.and_self, if_true]
      ((repeat ((conv => lhs; whnf); simp only [go_sem, ↓reduceIte, Nat.reduceEqDiff, Nat.reduceBEq, Nat.reduceAdd, Nat.reduceMul, Nat.reduceSub, Nat.reduceLT, Nat.reduceLeDiff, reduceCtorEq, Int.reduceToNat, Int.reduceLE, Int.reduceLT, Int.reduceEq, sem_isochroneref10_Variable, h1, w1, x1, h2, sl, Int.toNat_natCast, Name8_o])); try (conv => lhs; whnf); try rfl)
    · simp only [h0, h2, decide_true, decide_false, Bool.and_false, Bool.false_eq_true, if_false]
      ((repeat ((conv => lhs; whnf); simp only [go_sem, ↓reduceIte, Nat.reduceEqDiff, Nat.reduceBEq, Nat.reduceAdd, Nat.reduceMul, Nat.reduceSub, Nat.reduceLT, Nat.reduceLeDiff, reduceCtorEq, Int.reduceToNat, Int.reduceLE, Int.reduceLT, Int.reduceEq, sem_isochroneref10_Variable, h1, w1, x1, h2, Int.toNat_natCast, Name8_o])); try (conv => lhs; whnf); try rfl)
  · have h1 : ¬ (0 : Int) < (s.size : Int) := by omega
    simp only [h0, decide_false, Bool.false_and, Bool.false_eq_true, if_false]
    ((repeat ((conv => lhs; whnf); simp only [go_sem, ↓reduceIte, Nat.reduceEqDiff, Nat.reduceBEq, Nat.reduceAdd, Nat.reduceMul, Nat.reduceSub, Nat.reduceLT, Nat.reduceLeDiff, reduceCtorEq, Int.reduceToNat, Int.reduceLE, Int.reduceLT, Int.reduceEq, sem_isochroneref10_Variable, h1, Name8_o])); try (conv => lhs; whnf); try rfl)
theorem var_o (S : Store) (s : ByteArray) (hs : s.size ≤ maxLen) : callO (callL Tryz.prog hints) S 58 [.str s] = some { v := .bool (varOK s) } := callO_plain (call_variable s hs) (by simp [Plain.str])
theorem svar_o (S : Store) (s : ByteArray) (hs : s.size ≤ maxLen) : callO (callL Tryz.prog hints) S 112 [.str s] = some { v := .bool (varOK s) } := callO_plain (call_svariable s hs) (by simp [Plain.str])
theorem Var_o (S : Store) (s : ByteArray) (hs : s.size ≤ maxLen) : callO (callL Tryz.prog hints) S 29 [.str s] = some { v := .bool (varOK s) } := callO_plain (call_Variable s hs) (by simp [Plain.str])
end
end Go.Vs
end
/- States: numbers that fit, Valid. -/
section
set_option linter.unusedVariables false
set_option linter.unusedSimpArgs false
set_option maxRecDepth 100000
namespace Go.Vs
open Go Go.Proofs
/-- A number as it lies in memory. -/
structure RV where
  neg : Bool
  num : List Int
  den : List Int
def RV.cells (v : RV) : List PV := [.bool v.neg, .sl (kRows .u32 v.num) false, .sl (kRows .u32 v.den) false]
structure RV.ok (v : RV) : Prop where
  n : OkD WB v.num
  d : OkD WB v.den
  ln : v.num.length ≤ maxLen
  ld : v.den.length ≤ maxLen
structure Bd where
  name : ByteArray
  val : RV
def Bd.cells (b : Bd) : List PV := [.str b.name, .bool b.val.neg, .sl (kRows .u32 b.val.num) false, .sl (kRows .u32 b.val.den) false]
structure Bd.ok (b : Bd) : Prop where
  s : b.name.size ≤ maxLen
  v : b.val.ok
def bd0 : Bd := ⟨⟨#[]⟩, ⟨false, [], []⟩⟩
def stRows (L : List Bd) : List (List PV) := L.map Bd.cells
@[go_sem] theorem stRows_length (L : List Bd) : (stRows L).length = L.length := nr (by simp [stRows])
@[go_sem] theorem stRows_ok (L : List Bd) : rowsOK 4 (stRows L) = true := nr (enc_ok (enc := Bd.cells) (fun _ => rfl) L)
theorem d_Bind : (tyi Tryz.prog 98).d = .struct [(0, 1, false), (1, 3, true)] := by kernel_rfl
@[go_sem] theorem size_Bind : (tyi Tryz.prog 98).size = 4 := nr (by kernel_rfl)
@[go_sem] theorem known_Bind : (tyi Tryz.prog 98).known = true := nr (by kernel_rfl)
@[go_sem] theorem zero_Bind : (tyi Tryz.prog 98).zero = some [.str ⟨#[]⟩, .bool false, .sl [] true, .sl [] true] := nr (by kernel_rfl)
@[go_sem] theorem alloc_Bind (n : Nat) : allocO (tyi Tryz.prog 98) n = some { v := .mp n 0 0, new := some ([[.str ⟨#[]⟩, .bool false, .sl [] true, .sl [] true]], none) } := nr (by unfold allocO; rw [zero_Bind]; rfl)
@[go_sem] theorem build_Bind (l : List (Nat × PV)) : buildO (tyi Tryz.prog 98) l = (fillV [(0, 1, false), (1, 3, true)] [.str ⟨#[]⟩, .bool false, .sl [] true, .sl [] true] l).map .agg := nr (by unfold buildO; rw [d_Bind, zero_Bind]; rfl)
@[go_sem] theorem fm_Bind_0 (id i off : Nat) : evFieldAddr (tyi Tryz.prog 98) 0 (.mp id i off) = some (.mp id i (off + 0)) := by simp [evFieldAddr, d_Bind]
@[go_sem] theorem fk_Bind_0 (r : List PV) : evFieldAddr (tyi Tryz.prog 98) 0 (.cp r) = some (.cp (r.drop 0)) := by simp [evFieldAddr, d_Bind]
@[go_sem] theorem fv_Bind_0 (cs : List PV) : evField (tyi Tryz.prog 98) 0 (.agg cs) = cs[0]? := by simp [evField, d_Bind]
@[go_sem] theorem fm_Bind_1 (id i off : Nat) : evFieldAddr (tyi Tryz.prog 98) 1 (.mp id i off) = some (.mp id i (off + 1)) := by simp [evFieldAddr, d_Bind]
@[go_sem] theorem fk_Bind_1 (r : List PV) : evFieldAddr (tyi Tryz.prog 98) 1 (.cp r) = some (.cp (r.drop 1)) := by simp [evFieldAddr, d_Bind]
@[go_sem] theorem fv_Bind_1 (cs : List PV) : evField (tyi Tryz.prog 98) 1 (.agg cs) = if 1 + 3 ≤ cs.length then some (.agg ((cs.drop 1).take 3)) else none := by simp [evField, d_Bind]
theorem sl_st : SlT 35 98 4 72 := ⟨by kernel_rfl, by kernel_rfl, by kernel_rfl, by kernel_rfl, by kernel_rfl⟩
theorem sl_ss : SlT 45 9 1 16 := ⟨by kernel_rfl, by kernel_rfl, by kernel_rfl, by kernel_rfl, by kernel_rfl⟩
@[go_sem] theorem len_st (r : List (List PV)) (ex : Bool) : lenO (tyi Tryz.prog 35) (.sl r ex) = some (.int .i64 r.length) := nr (sl_st.len r ex)
@[go_sem] theorem lenm_st (i o l : Nat) (ex : Bool) : lenO (tyi Tryz.prog 35) (.msl i o l ex) = some (.int .i64 l) := nr (sl_st.lenm i o l ex)
@[go_sem] theorem len_ss (r : List (List PV)) (ex : Bool) : lenO (tyi Tryz.prog 45) (.sl r ex) = some (.int .i64 r.length) := nr (sl_ss.len r ex)
@[go_sem] theorem idx_st (S : Store) (L : List Bd) (ex : Bool) (i : Int) : indexAddrO Tryz.prog 35 S (.sl (stRows L) ex) (.int .i64 i) = if 0 ≤ i ∧ i < L.length then some (.cp (L.getD i.toNat bd0).cells) else none := nr (sl_st.idx (fun _ => rfl) bd0 S L ex i)
@[go_sem] theorem part_str (v : PV) (r : List PV) : part (tyi Tryz.prog 9) (v :: r) = some v := by
  have e : (tyi Tryz.prog 9).isAgg = false := by kernel_rfl
  simp [part, kn_str, e]
@[go_sem] theorem part_st (v : PV) (r : List PV) : part (tyi Tryz.prog 35) (v :: r) = some v := by
  have e : (tyi Tryz.prog 35).isAgg = false := by kernel_rfl
  have k : (tyi Tryz.prog 35).known = true := by kernel_rfl
  simp [part, k, e]
@[go_sem] theorem part_ss (v : PV) (r : List PV) : part (tyi Tryz.prog 45) (v :: r) = some v := by
  have e : (tyi Tryz.prog 45).isAgg = false := by kernel_rfl
  have k : (tyi Tryz.prog 45).known = true := by kernel_rfl
  simp [part, k, e]
@[go_sem] theorem size_st : (tyi Tryz.prog 35).size = 1 := nr (by kernel_rfl)
@[go_sem] theorem size_ss : (tyi Tryz.prog 45).size = 1 := nr (by kernel_rfl)
theorem d_Nms : (tyi Tryz.prog 47).d = .struct [(0, 1, false), (1, 1, false)] := by kernel_rfl
@[go_sem] theorem size_Nms : (tyi Tryz.prog 47).size = 2 := nr (by kernel_rfl)
@[go_sem] theorem known_Nms : (tyi Tryz.prog 47).known = true := nr (by kernel_rfl)
@[go_sem] theorem zero_Nms : (tyi Tryz.prog 47).zero = some [.bool false, .sl [] true] := nr (by kernel_rfl)
@[go_sem] theorem alloc_Nms (n : Nat) : allocO (tyi Tryz.prog 47) n = some { v := .mp n 0 0, new := some ([[.bool false, .sl [] true]], none) } := nr (by unfold allocO; rw [zero_Nms]; rfl)
@[go_sem] theorem build_Nms (l : List (Nat × PV)) : buildO (tyi Tryz.prog 47) l = (fillV [(0, 1, false), (1, 1, false)] [.bool false, .sl [] true] l).map .agg := nr (by unfold buildO; rw [d_Nms, zero_Nms]; rfl)
@[go_sem] theorem fm_Nms_0 (id i off : Nat) : evFieldAddr (tyi Tryz.prog 47) 0 (.mp id i off) = some (.mp id i (off + 0)) := by simp [evFieldAddr, d_Nms]
@[go_sem] theorem fk_Nms_0 (r : List PV) : evFieldAddr (tyi Tryz.prog 47) 0 (.cp r) = some (.cp (r.drop 0)) := by simp [evFieldAddr, d_Nms]
@[go_sem] theorem fv_Nms_0 (cs : List PV) : evField (tyi Tryz.prog 47) 0 (.agg cs) = cs[0]? := by simp [evField, d_Nms]
@[go_sem] theorem fm_Nms_1 (id i off : Nat) : evFieldAddr (tyi Tryz.prog 47) 1 (.mp id i off) = some (.mp id i (off + 1)) := by simp [evFieldAddr, d_Nms]
@[go_sem] theorem fk_Nms_1 (r : List PV) : evFieldAddr (tyi Tryz.prog 47) 1 (.cp r) = some (.cp (r.drop 1)) := by simp [evFieldAddr, d_Nms]
@[go_sem] theorem fv_Nms_1 (cs : List PV) : evField (tyi Tryz.prog 47) 1 (.agg cs) = cs[1]? := by simp [evField, d_Nms]
@[go_sem] theorem part_Nms (a b : PV) (r : List PV) : part (tyi Tryz.prog 47) (a :: b :: r) = some (.agg [a, b]) := by simp [part, known_Nms, TI.isAgg, d_Nms, size_Nms]
@[go_sem] theorem part_Bind (a b c d : PV) (r : List PV) : part (tyi Tryz.prog 98) (a :: b :: c :: d :: r) = some (.agg [a, b, c, d]) := by simp [part, known_Bind, TI.isAgg, d_Bind, size_Bind]
/-- Valid, and of at most 400 words. -/
def RV.fit (v : RV) : Bool := decide (v.num.length ≤ 400) && decide (v.den.length ≤ 400) && validR v.neg v.num v.den 4096
section
attribute [local irreducible] Vs.callL Vs.callRL tyi callO callM callMV appendE storeE evLoad indexAddrO sliceO evFieldAddr evField buildO buildSliceO makeSliceO allocO boxed lenO copyE convertO indexO Vs.gc freezeAll
noncomputable def fx_state_fits : FX := ⟨Tryz.f61, hints.of 61, []⟩
theorem ok_state_fits : fx_state_fits.ok 61 := ⟨by kernel_rfl, of_decide_eq_true (by kernel_rfl), by kernel_rfl, by kernel_rfl, by kernel_rfl, by kernel_rfl⟩
theorem sem_state_fits (b0 : Nat) (m : Md) (fs : List Fr) (e : Env) (S : Store) : sem b0 fx_state_fits m fs e S = run b0 fx_state_fits 1000 m fs e S := (sem_eq _ _ _ _ _ _).trans (run_sem b0 fx_state_fits ok_state_fits.good 1000 m fs e S).symm
theorem call_fits (v : RV) (h : v.ok) : callL Tryz.prog hints 61 [.agg v.cells, .int .i64 400] = some (.bool v.fit) := by
  have hM := maxLen_le
  have h1 := h.ln
  have h2 := h.ld
  have cv := fun S => callO_plain (S := S) (call_rat_Valid v.neg v.num v.den h.n h.d (by omega) (by omega)) (by simp; exact ratL_plain _ _ _)
  unfold ratL at cv
  refine FX.callL (r := (.bool v.fit, [.arr [[.bool v.neg, .sl (kRows .u32 v.num) false, .sl (kRows .u32 v.den) false]] none false])) ok_state_fits 1000 rfl rfl ?_ rfl
  unfold RV.fit RV.cells
  by_cases c1 : v.num.length ≤ 400
  · have c1' : (v.num.length : Int) ≤ 400 := by omega
    by_cases c2 : v.den.length ≤ 400
    · have c2' : (v.den.length : Int) ≤ 400 := by omega
      simp only [c1, c2, decide_true, Bool.true_and]
      ((repeat ((conv => lhs; whnf); simp only [go_sem, ↓reduceIte, Nat.reduceEqDiff, Nat.reduceBEq, Nat.reduceAdd, Nat.reduceMul, Nat.reduceSub, Nat.reduceLT, Nat.reduceLeDiff, reduceCtorEq, Int.reduceToNat, Int.reduceLE, Int.reduceLT, Int.reduceEq, sem_state_fits, c1', c2', cv])); try (conv => lhs; whnf); try rfl)
    · have c2' : ¬ (v.den.length : Int) ≤ 400 := by omega
      simp only [c1, c2, decide_true, decide_false, Bool.true_and, Bool.false_and]
      ((repeat ((conv => lhs; whnf); simp only [go_sem, ↓reduceIte, Nat.reduceEqDiff, Nat.reduceBEq, Nat.reduceAdd, Nat.reduceMul, Nat.reduceSub, Nat.reduceLT, Nat.reduceLeDiff, reduceCtorEq, Int.reduceToNat, Int.reduceLE, Int.reduceLT, Int.reduceEq, sem_state_fits, c1', c2', cv])); try (conv => lhs; whnf); try rfl)
  · have c1' : ¬ (v.num.length : Int) ≤ 400 := by omega
    simp only [c1, decide_false, Bool.false_and]
    ((repeat ((conv => lhs; whnf); simp only [go_sem, ↓reduceIte, Nat.reduceEqDiff, Nat.reduceBEq, Nat.reduceAdd, Nat.reduceMul, Nat.reduceSub, Nat.reduceLT, Nat.reduceLeDiff, reduceCtorEq, Int.reduceToNat, Int.reduceLE, Int.reduceLT, Int.reduceEq, sem_state_fits, c1'])); try (conv => lhs; whnf); try rfl)
noncomputable def fx_isochroneref11_small : FX := ⟨Tryz.f64, hints.of 64, []⟩
theorem ok_isochroneref11_small : fx_isochroneref11_small.ok 64 := ⟨by kernel_rfl, of_decide_eq_true (by kernel_rfl), by kernel_rfl, by kernel_rfl, by kernel_rfl, by kernel_rfl⟩
theorem sem_isochroneref11_small (b0 : Nat) (m : Md) (fs : List Fr) (e : Env) (S : Store) : sem b0 fx_isochroneref11_small m fs e S = run b0 fx_isochroneref11_small 1000 m fs e S := (sem_eq _ _ _ _ _ _).trans (run_sem b0 fx_isochroneref11_small ok_isochroneref11_small.good 1000 m fs e S).symm
theorem call_small11 (v : RV) (h : v.ok) : callL Tryz.prog hints 64 [.agg v.cells, .int .i64 400] = some (.bool v.fit) := by
  have hM := maxLen_le
  have h1 := h.ln
  have h2 := h.ld
  have cv := fun S => callO_plain (S := S) (call_rr_Valid v.neg v.num v.den h.n h.d (by omega) (by omega)) (by simp; exact ratL_plain _ _ _)
  unfold ratL at cv
  refine FX.callL (r := (.bool v.fit, [.arr [[.bool v.neg, .sl (kRows .u32 v.num) false, .sl (kRows .u32 v.den) false]] none false])) ok_isochroneref11_small 1000 rfl rfl ?_ rfl
  unfold RV.fit RV.cells
  cases cb : validR v.neg v.num v.den 4096
  · rw [cb] at cv
    simp only [Bool.and_false]
    ((repeat ((conv => lhs; whnf); simp only [go_sem, ↓reduceIte, Nat.reduceEqDiff, Nat.reduceBEq, Nat.reduceAdd, Nat.reduceMul, Nat.reduceSub, Nat.reduceLT, Nat.reduceLeDiff, reduceCtorEq, Int.reduceToNat, Int.reduceLE, Int.reduceLT, Int.reduceEq, sem_isochroneref11_small, cv])); try (conv => lhs; whnf); try rfl)
  · rw [cb] at cv
    by_cases c1 : v.num.length ≤ 400
    · have c1' : (v.num.length : Int) ≤ 400 := by omega
      by_cases c2 : v.den.length ≤ 400
      · have c2' : (v.den.length : Int) ≤ 400 := by omega
        simp only [c1, c2, decide_true, Bool.true_and]
        ((repeat ((conv => lhs; whnf); simp only [go_sem, ↓reduceIte, Nat.reduceEqDiff, Nat.reduceBEq, Nat.reduceAdd, Nat.reduceMul, Nat.reduceSub, Nat.reduceLT, Nat.reduceLeDiff, reduceCtorEq, Int.reduceToNat, Int.reduceLE, Int.reduceLT, Int.reduceEq, sem_isochroneref11_small, c1', c2', cv])); try (conv => lhs; whnf); try rfl)
      · have c2' : ¬ (v.den.length : Int) ≤ 400 := by omega
        simp only [c1, c2, decide_true, decide_false, Bool.true_and, Bool.false_and]
        ((repeat ((conv => lhs; whnf); simp only [go_sem, ↓reduceIte, Nat.reduceEqDiff, Nat.reduceBEq, Nat.reduceAdd, Nat.reduceMul, Nat.reduceSub, Nat.reduceLT, Nat.reduceLeDiff, reduceCtorEq, Int.reduceToNat, Int.reduceLE, Int.reduceLT, Int.reduceEq, sem_isochroneref11_small, c1', c2', cv])); try (conv => lhs; whnf); try rfl)
    · have c1' : ¬ (v.num.length : Int) ≤ 400 := by omega
      simp only [c1, decide_false, Bool.false_and]
      ((repeat ((conv => lhs; whnf); simp only [go_sem, ↓reduceIte, Nat.reduceEqDiff, Nat.reduceBEq, Nat.reduceAdd, Nat.reduceMul, Nat.reduceSub, Nat.reduceLT, Nat.reduceLeDiff, reduceCtorEq, Int.reduceToNat, Int.reduceLE, Int.reduceLT, Int.reduceEq, sem_isochroneref11_small, c1', cv])); try (conv => lhs; whnf); try rfl)
theorem rv_plain (v : RV) : Plain (.agg v.cells) := ratL_plain _ _ _
theorem fits_o (S : Store) (v : RV) (h : v.ok) : callO (callL Tryz.prog hints) S 61 [.agg v.cells, .int .i64 400] = some { v := .bool v.fit } := callO_plain (call_fits v h) (by simp [Plain.int]; exact rv_plain v)
theorem small11_o (S : Store) (v : RV) (h : v.ok) : callO (callL Tryz.prog hints) S 64 [.agg v.cells, .int .i64 400] = some { v := .bool v.fit } := callO_plain (call_small11 v h) (by simp [Plain.int]; exact rv_plain v)
end
end Go.Vs
end
/- States: Valid, the program's and the reference's. -/
section
set_option linter.unusedVariables false
set_option linter.unusedSimpArgs false
set_option maxRecDepth 100000
namespace Go.Vs
open Go Go.Proofs
/-- The binding at place i is in order. -/
def bdOK (L : List Bd) (i : Nat) : Bool :=
  varOK (L.getD i bd0).name && (decide (i = 0) || Op.bytesLess (L.getD (i - 1) bd0).name.toList (L.getD i bd0).name.toList) && decide ((L.getD i bd0).val.num.length ≠ 0) && (L.getD i bd0).val.fit
def bdsOK (L : List Bd) : Nat → Nat → Bool
  | 0, _ => true
  | m + 1, i => bdOK L i && bdsOK L m (i + 1)
def stOK (L : List Bd) : Bool := decide (L.length ≤ 40) && bdsOK L L.length 0
def StOk (L : List Bd) : Prop := ∀ b ∈ L, b.ok
theorem StOk.at {L : List Bd} (h : StOk L) {i : Nat} (hi : i < L.length) : (L.getD i bd0).ok := by
  rw [List.getD_eq_getElem?_getD, List.getElem?_eq_getElem hi]
  exact h _ (List.getElem_mem hi)
section
attribute [local irreducible] Vs.callL Vs.callRL tyi callO callM callMV appendE storeE evLoad indexAddrO sliceO evFieldAddr evField buildO buildSliceO makeSliceO allocO boxed lenO copyE convertO indexO Vs.gc freezeAll
noncomputable def fx_state_Valid : FX := ⟨Tryz.f24, hints.of 24, []⟩
theorem ok_state_Valid : fx_state_Valid.ok 24 := ⟨by kernel_rfl, of_decide_eq_true (by kernel_rfl), by kernel_rfl, by kernel_rfl, by kernel_rfl, by kernel_rfl⟩
theorem sem_state_Valid (b0 : Nat) (m : Md) (fs : List Fr) (e : Env) (S : Store) : sem b0 fx_state_Valid m fs e S = run b0 fx_state_Valid 1000 m fs e S := (sem_eq _ _ _ _ _ _).trans (run_sem b0 fx_state_Valid ok_state_Valid.good 1000 m fs e S).symm
theorem loop_Valid (L : List Bd) (hL : StOk L) (hl : L.length ≤ 40) : ∀ (m i : Nat), i + m = L.length → ∃ S', loopAt 0 fx_state_Valid 0 116 0 [.blk 0, .seq 0 15] [(0, .sl (stRows L) false), (8, .sl (stRows L) false), (9, .int .i64 L.length), (10, .int .i64 i)] [] = some (.bool (bdsOK L m i), S') := by
  intro m
  induction m with
  | zero =>
    intro i hi
    have h1 : ¬ (i : Int) < (L.length : Int) := by omega
    apply Exists.intro
    refine loopAt_step ok_state_Valid.good 1000 ?_
    simp only [bdsOK]
    ((repeat ((conv => lhs; whnf); simp only [go_sem, ↓reduceIte, Nat.reduceEqDiff, Nat.reduceBEq, Nat.reduceAdd, Nat.reduceMul, Nat.reduceSub, Nat.reduceLT, Nat.reduceLeDiff, reduceCtorEq, Int.reduceToNat, Int.reduceLE, Int.reduceLT, Int.reduceEq, sem_state_Valid, h1])); try (conv => lhs; whnf); try rfl)
    refine exit_run ok_state_Valid.good 1000 ?_
    ((repeat ((conv => lhs; whnf); simp only [go_sem, ↓reduceIte, Nat.reduceEqDiff, Nat.reduceBEq, Nat.reduceAdd, Nat.reduceMul, Nat.reduceSub, Nat.reduceLT, Nat.reduceLeDiff, reduceCtorEq, Int.reduceToNat, Int.reduceLE, Int.reduceLT, Int.reduceEq, sem_state_Valid])); try (conv => lhs; whnf); try rfl)
  | succ m ih =>
    intro i hi
    have h1 : (i : Int) < (L.length : Int) := by omega
    have h2 := wrap_succ (i := i) (n := L.length) (by omega) (by unfold maxLen; omega)
    have x1 : 0 ≤ (i : Int) ∧ (i : Int) < (L.length : Int) := ⟨by omega, h1⟩
    obtain ⟨S', key⟩ := ih (i + 1) (by omega)
    have hb := hL.at (i := i) (by omega)
    have hp := hL.at (i := i - 1) (by omega)
    simp only [bdsOK, bdOK]
    generalize hB : L.getD i bd0 = B at hb ⊢
    generalize hP : L.getD (i - 1) bd0 = Q at hp ⊢
    obtain ⟨nm, v⟩ := B
    have cv := fun S => var_o S nm hb.s
    have cf := fun S => fits_o S v hb.v
    unfold RV.cells at cf
    cases k1 : varOK nm
    · rw [k1] at cv
      simp only [Bool.false_and]
      apply Exists.intro; refine loopAt_step ok_state_Valid.good 1000 ?_
      ((repeat ((conv => lhs; whnf); simp only [go_sem, ↓reduceIte, Nat.reduceEqDiff, Nat.reduceBEq, Nat.reduceAdd, Nat.reduceMul, Nat.reduceSub, Nat.reduceLT, Nat.reduceLeDiff, reduceCtorEq, Int.reduceToNat, Int.reduceLE, Int.reduceLT, Int.reduceEq, sem_state_Valid, h1, x1, Int.toNat_natCast, hB, Bd.cells, cv])); try (conv => lhs; whnf); try rfl)
    · rw [k1] at cv
      simp only [Bool.true_and]
      by_cases c0 : i = 0
      · have c0' : ¬ (0 : Int) < (i : Int) := by omega
        simp only [c0, decide_true, Bool.true_or, Bool.true_and]
        simp only [c0, Int.natCast_zero] at *
        by_cases c1 : v.num.length = 0
        · have c1' : (v.num.length : Int) = 0 := by omega
          simp only [c1, ne_eq, not_true, decide_false, Bool.false_and]
          apply Exists.intro; refine loopAt_step ok_state_Valid.good 1000 ?_
          ((repeat ((conv => lhs; whnf); simp only [go_sem, ↓reduceIte, Nat.reduceEqDiff, Nat.reduceBEq, Nat.reduceAdd, Nat.reduceMul, Nat.reduceSub, Nat.reduceLT, Nat.reduceLeDiff, reduceCtorEq, Int.reduceToNat, Int.reduceLE, Int.reduceLT, Int.reduceEq, sem_state_Valid, h1, x1, Int.toNat_zero, hB, Bd.cells, cv, c0', c1'])); try (conv => lhs; whnf); try rfl)
        · have c1' : ¬ (v.num.length : Int) = 0 := by omega
          simp only [c1, ne_eq, not_false_eq_true, decide_true, Bool.true_and]
          cases k2 : v.fit
          · rw [k2] at cf
            simp only [Bool.false_and]
            apply Exists.intro; refine loopAt_step ok_state_Valid.good 1000 ?_
            ((repeat ((conv => lhs; whnf); simp only [go_sem, ↓reduceIte, Nat.reduceEqDiff, Nat.reduceBEq, Nat.reduceAdd, Nat.reduceMul, Nat.reduceSub, Nat.reduceLT, Nat.reduceLeDiff, reduceCtorEq, Int.reduceToNat, Int.reduceLE, Int.reduceLT, Int.reduceEq, sem_state_Valid, h1, x1, Int.toNat_zero, hB, Bd.cells, cv, c0', c1', cf])); try (conv => lhs; whnf); try rfl)
          · rw [k2] at cf
            simp only [Bool.true_and]
            apply Exists.intro; refine loopAt_step ok_state_Valid.good 1000 ?_
            ((repeat ((conv => lhs; whnf); simp only [go_sem, ↓reduceIte, Nat.reduceEqDiff, Nat.reduceBEq, Nat.reduceAdd, Nat.reduceMul, Nat.reduceSub, Nat.reduceLT, Nat.reduceLeDiff, reduceCtorEq, Int.reduceToNat, Int.reduceLE, Int.reduceLT, Int.reduceEq, sem_state_Valid, h1, x1, Int.toNat_zero, hB, Bd.cells, cv, c0', c1', cf, h2])); try (conv => lhs; whnf); try rfl)
            exact key
      · have c0' : (0 : Int) < (i : Int) := by omega
        have w1 : IntKind.i64.wrap ((i : Int) - 1) = ((i - 1 : Nat) : Int) := by rw [IntKind.wrap_i64]; omega
        have x2 : 0 ≤ ((i - 1 : Nat) : Int) ∧ ((i - 1 : Nat) : Int) < (L.length : Int) := ⟨by omega, by omega⟩
        simp only [c0, decide_false, Bool.false_or]
        cases k3 : Op.bytesLess Q.name.toList nm.toList
        · simp only [Bool.false_and]
          apply Exists.intro; refine loopAt_step ok_state_Valid.good 1000 ?_
          ((repeat ((conv => lhs; whnf); simp only [go_sem, ↓reduceIte, Nat.reduceEqDiff, Nat.reduceBEq, Nat.reduceAdd, Nat.reduceMul, Nat.reduceSub, Nat.reduceLT, Nat.reduceLeDiff, reduceCtorEq, Int.reduceToNat, Int.reduceLE, Int.reduceLT, Int.reduceEq, sem_state_Valid, h1, x1, Int.toNat_natCast, hB, hP, Bd.cells, cv, c0', w1, x2, k3])); try (conv => lhs; whnf); try rfl)
        · simp only [Bool.true_and]
          by_cases c1 : v.num.length = 0
          · have c1' : (v.num.length : Int) = 0 := by omega
            simp only [c1, ne_eq, not_true, decide_false, Bool.false_and]
            apply Exists.intro; refine loopAt_step ok_state_Valid.good 1000 ?_
            ((repeat ((conv => lhs; whnf); simp only [go_sem, ↓reduceIte, Nat.reduceEqDiff, Nat.reduceBEq, Nat.reduceAdd, Nat.reduceMul, Nat.reduceSub, Nat.reduceLT, Nat.reduceLeDiff, reduceCtorEq, Int.reduceToNat, Int.reduceLE, Int.reduceLT, Int.reduceEq, sem_state_Valid, h1, x1, Int.toNat_natCast, hB, hP, Bd.cells, cv, c0', w1, x2, k3, c1'])); try (conv => lhs; whnf); try rfl)
          · have c1' : ¬ (v.num.length : Int) = 0 := by omega
            simp only [c1, ne_eq, not_false_eq_true, decide_true, Bool.true_and]
            cases k2 : v.fit
            · rw [k2] at cf
              simp only [Bool.false_and]
              apply Exists.intro; refine loopAt_step ok_state_Valid.good 1000 ?_
              ((repeat ((conv => lhs; whnf); simp only [go_sem, ↓reduceIte, Nat.reduceEqDiff, Nat.reduceBEq, Nat.reduceAdd, Nat.reduceMul, Nat.reduceSub, Nat.reduceLT, Nat.reduceLeDiff, reduceCtorEq, Int.reduceToNat, Int.reduceLE, Int.reduceLT, Int.reduceEq, sem_state_Valid, h1, x1, Int.toNat_natCast, hB, hP, Bd.cells, cv, c0', w1, x2, k3, c1', cf])); try (conv => lhs; whnf); try rfl)
            · rw [k2] at cf
              simp only [Bool.true_and]
              apply Exists.intro; refine loopAt_step ok_state_Valid.good 1000 ?_
              ((repeat ((conv => lhs; whnf); simp only [go_sem, ↓reduceIte, Nat.reduceEqDiff, Nat.reduceBEq, Nat.reduceAdd, Nat.reduceMul, Nat.reduceSub, Nat.reduceLT, Nat.reduceLeDiff, reduceCtorEq, Int.reduceToNat, Int.reduceLE, Int.reduceLT, Int.reduceEq, sem_state_Valid, h1, x1, Int.toNat_natCast, hB, hP, Bd.cells, cv, c0', w1, x2, k3, c1', cf, h2])); try (conv => lhs; whnf); try rfl)
              exact key
theorem call_stValid (L : List Bd) (hL : StOk L) (hl : L.length ≤ maxLen) : callL Tryz.prog hints 24 [.sl (stRows L) false] = some (.bool (stOK L)) := by
  unfold stOK
  by_cases h : L.length ≤ 40
  · have h' : ¬ (40 : Int) < (L.length : Int) := by omega
    obtain ⟨S', key⟩ := loop_Valid L hL h L.length 0 (by omega)
    simp only [h, decide_true, Bool.true_and]
    refine FX.callL (r := (.bool (bdsOK L L.length 0), S')) ok_state_Valid 1000 rfl rfl ?_ rfl
    ((repeat ((conv => lhs; whnf); simp only [go_sem, ↓reduceIte, Nat.reduceEqDiff, Nat.reduceBEq, Nat.reduceAdd, Nat.reduceMul, Nat.reduceSub, Nat.reduceLT, Nat.reduceLeDiff, reduceCtorEq, Int.reduceToNat, Int.reduceLE, Int.reduceLT, Int.reduceEq, sem_state_Valid, h'])); try (conv => lhs; whnf); try rfl)
    exact key
  · have h' : (40 : Int) < (L.length : Int) := by omega
    simp only [h, decide_false, Bool.false_and]
    refine FX.callL (r := (.bool false, [])) ok_state_Valid 1000 rfl rfl ?_ rfl
    ((repeat ((conv => lhs; whnf); simp only [go_sem, ↓reduceIte, Nat.reduceEqDiff, Nat.reduceBEq, Nat.reduceAdd, Nat.reduceMul, Nat.reduceSub, Nat.reduceLT, Nat.reduceLeDiff, reduceCtorEq, Int.reduceToNat, Int.reduceLE, Int.reduceLT, Int.reduceEq, sem_state_Valid, h'])); try (conv => lhs; whnf); try rfl)
end
end Go.Vs
end
/- States: the reference's Valid. -/
section
set_option linter.unusedVariables false
set_option linter.unusedSimpArgs false
set_option maxRecDepth 100000
namespace Go.Vs
open Go Go.Proofs
section
attribute [local irreducible] Vs.callL Vs.callRL tyi callO callM callMV appendE storeE evLoad indexAddrO sliceO evFieldAddr evField buildO buildSliceO makeSliceO allocO boxed lenO copyE convertO indexO Vs.gc freezeAll
noncomputable def fx_isochroneref11_Valid : FX := ⟨Tryz.f25, hints.of 25, []⟩
theorem ok_isochroneref11_Valid : fx_isochroneref11_Valid.ok 25 := ⟨by kernel_rfl, of_decide_eq_true (by kernel_rfl), by kernel_rfl, by kernel_rfl, by kernel_rfl, by kernel_rfl⟩
theorem sem_isochroneref11_Valid (b0 : Nat) (m : Md) (fs : List Fr) (e : Env) (S : Store) : sem b0 fx_isochroneref11_Valid m fs e S = run b0 fx_isochroneref11_Valid 1000 m fs e S := (sem_eq _ _ _ _ _ _).trans (run_sem b0 fx_isochroneref11_Valid ok_isochroneref11_Valid.good 1000 m fs e S).symm
theorem loop_Valid11 (L : List Bd) (hL : StOk L) (hl : L.length ≤ 40) : ∀ (m i : Nat), i + m = L.length → loopAt 0 fx_isochroneref11_Valid 0 116 0 [.blk 0, .seq 0 15] [(0, .sl (stRows L) false), (3, .int .i64 i)] [] = some (.bool (bdsOK L m i), []) := by
  intro m
  induction m with
  | zero =>
    intro i hi
    have h1 : ¬ (i : Int) < (L.length : Int) := by omega
    refine loopAt_step ok_isochroneref11_Valid.good 1000 ?_
    simp only [bdsOK]
    ((repeat ((conv => lhs; whnf); simp only [go_sem, ↓reduceIte, Nat.reduceEqDiff, Nat.reduceBEq, Nat.reduceAdd, Nat.reduceMul, Nat.reduceSub, Nat.reduceLT, Nat.reduceLeDiff, reduceCtorEq, Int.reduceToNat, Int.reduceLE, Int.reduceLT, Int.reduceEq, sem_isochroneref11_Valid, h1])); try (conv => lhs; whnf); try rfl)
    refine exit_run ok_isochroneref11_Valid.good 1000 ?_
    ((repeat ((conv => lhs; whnf); simp only [go_sem, ↓reduceIte, Nat.reduceEqDiff, Nat.reduceBEq, Nat.reduceAdd, Nat.reduceMul, Nat.reduceSub, Nat.reduceLT, Nat.reduceLeDiff, reduceCtorEq, Int.reduceToNat, Int.reduceLE, Int.reduceLT, Int.reduceEq, sem_isochroneref11_Valid])); try (conv => lhs; whnf); try rfl)
  | succ m ih =>
    intro i hi
    have h1 : (i : Int) < (L.length : Int) := by omega
    have h2 := wrap_succ (i := i) (n := L.length) (by omega) (by unfold maxLen; omega)
    have x1 : 0 ≤ (i : Int) ∧ (i : Int) < (L.length : Int) := ⟨by omega, h1⟩
    have key := ih (i + 1) (by omega)
    have hb := hL.at (i := i) (by omega)
    have hp := hL.at (i := i - 1) (by omega)
    refine loopAt_step ok_isochroneref11_Valid.good 1000 ?_
    simp only [bdsOK, bdOK]
    generalize hB : L.getD i bd0 = B at hb ⊢
    generalize hP : L.getD (i - 1) bd0 = Q at hp ⊢
    obtain ⟨nm, v⟩ := B
    have cv := fun S => Var_o S nm hb.s
    have cf := fun S => small11_o S v hb.v
    unfold RV.cells at cf
    cases k1 : varOK nm
    · rw [k1] at cv
      simp only [Bool.false_and]
      ((repeat ((conv => lhs; whnf); simp only [go_sem, ↓reduceIte, Nat.reduceEqDiff, Nat.reduceBEq, Nat.reduceAdd, Nat.reduceMul, Nat.reduceSub, Nat.reduceLT, Nat.reduceLeDiff, reduceCtorEq, Int.reduceToNat, Int.reduceLE, Int.reduceLT, Int.reduceEq, sem_isochroneref11_Valid, h1, x1, Int.toNat_natCast, hB, Bd.cells, cv])); try (conv => lhs; whnf); try rfl)
    · rw [k1] at cv
      simp only [Bool.true_and]
      cases k2 : v.fit
      · rw [k2] at cf
        simp only [Bool.and_false, Bool.false_and]
        ((repeat ((conv => lhs; whnf); simp only [go_sem, ↓reduceIte, Nat.reduceEqDiff, Nat.reduceBEq, Nat.reduceAdd, Nat.reduceMul, Nat.reduceSub, Nat.reduceLT, Nat.reduceLeDiff, reduceCtorEq, Int.reduceToNat, Int.reduceLE, Int.reduceLT, Int.reduceEq, sem_isochroneref11_Valid, h1, x1, Int.toNat_natCast, hB, Bd.cells, cv, cf])); try (conv => lhs; whnf); try rfl)
      · rw [k2] at cf
        simp only [Bool.and_true]
        by_cases c1 : v.num.length = 0
        · have c1' : (v.num.length : Int) = 0 := by omega
          simp only [c1, ne_eq, not_true, decide_false, Bool.and_false, Bool.false_and]
          ((repeat ((conv => lhs; whnf); simp only [go_sem, ↓reduceIte, Nat.reduceEqDiff, Nat.reduceBEq, Nat.reduceAdd, Nat.reduceMul, Nat.reduceSub, Nat.reduceLT, Nat.reduceLeDiff, reduceCtorEq, Int.reduceToNat, Int.reduceLE, Int.reduceLT, Int.reduceEq, sem_isochroneref11_Valid, h1, x1, Int.toNat_natCast, hB, Bd.cells, cv, cf, c1'])); try (conv => lhs; whnf); try rfl)
        · have c1' : ¬ (v.num.length : Int) = 0 := by omega
          simp only [c1, ne_eq, not_false_eq_true, decide_true, Bool.and_true]
          by_cases c0 : i = 0
          · have c0' : ¬ (0 : Int) < (i : Int) := by omega
            simp only [c0, decide_true, Bool.true_or, Bool.true_and]
            simp only [c0, Int.natCast_zero] at *
            ((repeat ((conv => lhs; whnf); simp only [go_sem, ↓reduceIte, Nat.reduceEqDiff, Nat.reduceBEq, Nat.reduceAdd, Nat.reduceMul, Nat.reduceSub, Nat.reduceLT, Nat.reduceLeDiff, reduceCtorEq, Int.reduceToNat, Int.reduceLE, Int.reduceLT, Int.reduceEq, sem_isochroneref11_Valid, h1, x1, Int.toNat_zero, hB, Bd.cells, cv, cf, c1', c0', h2])); try (conv => lhs; whnf); try rfl)
            exact key
          · have c0' : (0 : Int) < (i : Int) := by omega
            have w1 : IntKind.i64.wrap ((i : Int) - 1) = ((i - 1 : Nat) : Int) := by rw [IntKind.wrap_i64]; omega
            have x2 : 0 ≤ ((i - 1 : Nat) : Int) ∧ ((i - 1 : Nat) : Int) < (L.length : Int) := ⟨by omega, by omega⟩
            simp only [c0, decide_false, Bool.false_or]
            cases k3 : Op.bytesLess Q.name.toList nm.toList
            · simp only [Bool.false_and]
              ((repeat ((conv => lhs; whnf); simp only [go_sem, ↓reduceIte, Nat.reduceEqDiff, Nat.reduceBEq, Nat.reduceAdd, Nat.reduceMul, Nat.reduceSub, Nat.reduceLT, Nat.reduceLeDiff, reduceCtorEq, Int.reduceToNat, Int.reduceLE, Int.reduceLT, Int.reduceEq, sem_isochroneref11_Valid, h1, x1, Int.toNat_natCast, hB, hP, Bd.cells, cv, cf, c1', c0', w1, x2, k3])); try (conv => lhs; whnf); try rfl)
            · simp only [Bool.true_and]
              ((repeat ((conv => lhs; whnf); simp only [go_sem, ↓reduceIte, Nat.reduceEqDiff, Nat.reduceBEq, Nat.reduceAdd, Nat.reduceMul, Nat.reduceSub, Nat.reduceLT, Nat.reduceLeDiff, reduceCtorEq, Int.reduceToNat, Int.reduceLE, Int.reduceLT, Int.reduceEq, sem_isochroneref11_Valid, h1, x1, Int.toNat_natCast, hB, hP, Bd.cells, cv, cf, c1', c0', w1, x2, k3, h2])); try (conv => lhs; whnf); try rfl)
              exact key
theorem call_Valid11 (L : List Bd) (hL : StOk L) (hl : L.length ≤ maxLen) : callL Tryz.prog hints 25 [.sl (stRows L) false] = some (.bool (stOK L)) := by
  unfold stOK
  refine FX.callL (r := (.bool (decide (L.length ≤ 40) && bdsOK L L.length 0), [])) ok_isochroneref11_Valid 1000 rfl rfl ?_ rfl
  by_cases h : L.length ≤ 40
  · have h' : ¬ (40 : Int) < (L.length : Int) := by omega
    have key := loop_Valid11 L hL h L.length 0 (by omega)
    simp only [h, decide_true, Bool.true_and]
    ((repeat ((conv => lhs; whnf); simp only [go_sem, ↓reduceIte, Nat.reduceEqDiff, Nat.reduceBEq, Nat.reduceAdd, Nat.reduceMul, Nat.reduceSub, Nat.reduceLT, Nat.reduceLeDiff, reduceCtorEq, Int.reduceToNat, Int.reduceLE, Int.reduceLT, Int.reduceEq, sem_isochroneref11_Valid, h'])); try (conv => lhs; whnf); try rfl)
    exact key
  · have h' : (40 : Int) < (L.length : Int) := by omega
    simp only [h, decide_false, Bool.false_and]
    ((repeat ((conv => lhs; whnf); simp only [go_sem, ↓reduceIte, Nat.reduceEqDiff, Nat.reduceBEq, Nat.reduceAdd, Nat.reduceMul, Nat.reduceSub, Nat.reduceLT, Nat.reduceLeDiff, reduceCtorEq, Int.reduceToNat, Int.reduceLE, Int.reduceLT, Int.reduceEq, sem_isochroneref11_Valid, h'])); try (conv => lhs; whnf); try rfl)
end
theorem st_plain (L : List Bd) : Plain (.sl (stRows L) false) := Plain.sl _
theorem stValid_o (S : Store) (L : List Bd) (hL : StOk L) (hl : L.length ≤ maxLen) : callO (callL Tryz.prog hints) S 24 [.sl (stRows L) false] = some { v := .bool (stOK L) } := callO_plain (call_stValid L hL hl) (by simp [st_plain])
theorem Valid11_o (S : Store) (L : List Bd) (hL : StOk L) (hl : L.length ≤ maxLen) : callO (callL Tryz.prog hints) S 25 [.sl (stRows L) false] = some { v := .bool (stOK L) } := callO_plain (call_Valid11 L hL hl) (by simp [st_plain])
end Go.Vs
end
/- sort.Search over a law that turns once. -/
section
set_option linter.unusedVariables false
set_option linter.unusedSimpArgs false
set_option maxRecDepth 100000
namespace Go.Vs
open Go Go.Proofs
@[go_sem] theorem cv_uint_int (S : Store) (k : IntKind) (n : Int) : convertO Tryz.prog 143 3 S (.int k n) = some (.int .i64 (IntKind.i64.wrap n)) := by
  simp [convertO, show (tyi Tryz.prog 143).known = true by kernel_rfl, evConvert, show (tyi Tryz.prog 3).d = .int .i64 by kernel_rfl]
theorem callMV_fn {S : Store} {f : FuncId} {a b xs : List PV} : callMV Tryz.prog hints S (.fn f a b) xs = callM Tryz.prog hints S f (a ++ xs ++ b) := rfl
/-- A function value that answers p below n. -/
def Asks (x : PV) (nm : ByteArray) (f : PV) (n : Nat) (p : Nat → Bool) : Prop := ∀ i : Nat, i < n → callMV Tryz.prog hints [.arr [[x]] none false, .arr [[.str nm]] none false] f [.int .i64 i] = some { v := .bool (p i), S := [.arr [[x]] none false, .arr [[.str nm]] none false] }
/-- p is false up to r, true from r on. -/
def Turns (n : Nat) (p : Nat → Bool) (r : Nat) : Prop := r ≤ n ∧ (∀ k, k < r → p k = false) ∧ ∀ k, r ≤ k → k < n → p k = true
section
attribute [local irreducible] Vs.callL Vs.callRL tyi callO callM callMV appendE storeE evLoad indexAddrO sliceO evFieldAddr evField buildO buildSliceO makeSliceO allocO boxed lenO copyE convertO indexO Vs.gc freezeAll
noncomputable def fx_sort_Search : FX := ⟨Tryz.f82, hints.of 82, []⟩
theorem ok_sort_Search : fx_sort_Search.ok 82 := ⟨by kernel_rfl, of_decide_eq_true (by kernel_rfl), by kernel_rfl, by kernel_rfl, by kernel_rfl, by kernel_rfl⟩
theorem sem_sort_Search (b0 : Nat) (m : Md) (fs : List Fr) (e : Env) (S : Store) : sem b0 fx_sort_Search m fs e S = run b0 fx_sort_Search 1000 m fs e S := (sem_eq _ _ _ _ _ _).trans (run_sem b0 fx_sort_Search ok_sort_Search.good 1000 m fs e S).symm
theorem loop_Search (x : PV) (nm : ByteArray) (f : PV) {n : Nat} {p : Nat → Bool} (hf : Asks x nm f n p) (hn : n ≤ 1000000000) {r : Nat} (hr : Turns n p r) : ∀ (m i j : Nat), j - i ≤ m → i ≤ r → r ≤ j → j ≤ n → loopAt 2 fx_sort_Search 0 56 2 [.blk 0, .seq 0 15] [(1, f), (5, .int .i64 i), (6, .int .i64 j)] [.arr [[x]] none false, .arr [[.str nm]] none false] = some (.int .i64 r, [.arr [[x]] none false, .arr [[.str nm]] none false]) := by
  intro m
  induction m with
  | zero =>
    intro i j h1 h2 h3 h4
    have e : i = r := by omega
    have c : ¬ (i : Int) < (j : Int) := by omega
    refine loopAt_step ok_sort_Search.good 1000 ?_
    ((repeat ((conv => lhs; whnf); simp only [go_sem, ↓reduceIte, Nat.reduceEqDiff, Nat.reduceBEq, Nat.reduceAdd, Nat.reduceMul, Nat.reduceSub, Nat.reduceLT, Nat.reduceLeDiff, reduceCtorEq, Int.reduceToNat, Int.reduceLE, Int.reduceLT, Int.reduceEq, sem_sort_Search, c])); try (conv => lhs; whnf); try rfl)
    refine exit_run ok_sort_Search.good 1000 ?_
    subst e
    ((repeat ((conv => lhs; whnf); simp only [go_sem, ↓reduceIte, Nat.reduceEqDiff, Nat.reduceBEq, Nat.reduceAdd, Nat.reduceMul, Nat.reduceSub, Nat.reduceLT, Nat.reduceLeDiff, reduceCtorEq, Int.reduceToNat, Int.reduceLE, Int.reduceLT, Int.reduceEq, sem_sort_Search])); try (conv => lhs; whnf); try rfl)
  | succ m ih =>
    intro i j h1 h2 h3 h4
    by_cases c : i < j
    · have c' : (i : Int) < (j : Int) := by omega
      have w1 : IntKind.i64.wrap ((i : Int) + j) = ((i + j : Nat) : Int) := by rw [IntKind.wrap_i64]; omega
      have w2 : IntKind.u64.wrap ((i + j : Nat) : Int) = ((i + j : Nat) : Int) := by rw [wU64]; omega
      have w3 : ((((i + j : Nat) : Int)).fdiv (2 ^ min 1 64)) = (((i + j) / 2 : Nat) : Int) := by
        show (((i + j : Nat) : Int)).fdiv 2 = _
        rw [Int.fdiv_eq_ediv_of_nonneg _ (by omega)]; omega
      have w4 : IntKind.i64.wrap ((((i + j) / 2 : Nat)) : Int) = (((i + j) / 2 : Nat) : Int) := by rw [IntKind.wrap_i64]; omega
      have ask := hf ((i + j) / 2) (by omega)
      have neg1 : ¬ (1 : Int) < 0 := by omega
      refine loopAt_step ok_sort_Search.good 1000 ?_
      cases hp : p ((i + j) / 2)
      · have lo : (i + j) / 2 + 1 ≤ r := by
          rcases Nat.lt_or_ge ((i + j) / 2) r with h | h
          · exact h
          · rw [hr.2.2 _ h (by omega)] at hp; cases hp
        have w5 : IntKind.i64.wrap ((((i + j) / 2 : Nat) : Int) + 1) = (((i + j) / 2 + 1 : Nat) : Int) := by rw [IntKind.wrap_i64]; omega
        have key := ih ((i + j) / 2 + 1) j (by omega) lo h3 h4
        rw [hp] at ask
        ((repeat ((conv => lhs; whnf); simp only [go_sem, ↓reduceIte, Nat.reduceEqDiff, Nat.reduceBEq, Nat.reduceAdd, Nat.reduceMul, Nat.reduceSub, Nat.reduceLT, Nat.reduceLeDiff, reduceCtorEq, Int.reduceToNat, Int.reduceLE, Int.reduceLT, Int.reduceEq, sem_sort_Search, c', w1, w2, w3, w4, w5, ask, neg1])); try (conv => lhs; whnf); try rfl)
        exact key
      · have hi : r ≤ (i + j) / 2 := by
          rcases Nat.lt_or_ge ((i + j) / 2) r with h | h
          · rw [hr.2.1 _ h] at hp; cases hp
          · exact h
        have key := ih i ((i + j) / 2) (by omega) h2 hi (by omega)
        rw [hp] at ask
        ((repeat ((conv => lhs; whnf); simp only [go_sem, ↓reduceIte, Nat.reduceEqDiff, Nat.reduceBEq, Nat.reduceAdd, Nat.reduceMul, Nat.reduceSub, Nat.reduceLT, Nat.reduceLeDiff, reduceCtorEq, Int.reduceToNat, Int.reduceLE, Int.reduceLT, Int.reduceEq, sem_sort_Search, c', w1, w2, w3, w4, ask, neg1])); try (conv => lhs; whnf); try rfl)
        exact key
    · have e : i = r := by omega
      have c' : ¬ (i : Int) < (j : Int) := by omega
      refine loopAt_step ok_sort_Search.good 1000 ?_
      ((repeat ((conv => lhs; whnf); simp only [go_sem, ↓reduceIte, Nat.reduceEqDiff, Nat.reduceBEq, Nat.reduceAdd, Nat.reduceMul, Nat.reduceSub, Nat.reduceLT, Nat.reduceLeDiff, reduceCtorEq, Int.reduceToNat, Int.reduceLE, Int.reduceLT, Int.reduceEq, sem_sort_Search, c'])); try (conv => lhs; whnf); try rfl)
      refine exit_run ok_sort_Search.good 1000 ?_
      subst e
      ((repeat ((conv => lhs; whnf); simp only [go_sem, ↓reduceIte, Nat.reduceEqDiff, Nat.reduceBEq, Nat.reduceAdd, Nat.reduceMul, Nat.reduceSub, Nat.reduceLT, Nat.reduceLeDiff, reduceCtorEq, Int.reduceToNat, Int.reduceLE, Int.reduceLT, Int.reduceEq, sem_sort_Search])); try (conv => lhs; whnf); try rfl)
theorem call_Search (x : PV) (nm : ByteArray) (f : PV) {n : Nat} {p : Nat → Bool} (hf : Asks x nm f n p) (hn : n ≤ 1000000000) {r : Nat} (hr : Turns n p r) : callRL Tryz.prog hints 82 [.int .i64 n, f] [.arr [[x]] none false, .arr [[.str nm]] none false] = some (.int .i64 r, [.arr [[x]] none false, .arr [[.str nm]] none false]) := by
  refine FX.callRL (r := (.int .i64 r, [.arr [[x]] none false, .arr [[.str nm]] none false])) ok_sort_Search 1000 rfl rfl ?_
  have key := loop_Search x nm f hf hn hr n 0 n (by omega) (by omega) hr.1 (Nat.le_refl _)
  ((repeat ((conv => lhs; whnf); simp only [go_sem, ↓reduceIte, Nat.reduceEqDiff, Nat.reduceBEq, Nat.reduceAdd, Nat.reduceMul, Nat.reduceSub, Nat.reduceLT, Nat.reduceLeDiff, reduceCtorEq, Int.reduceToNat, Int.reduceLE, Int.reduceLT, Int.reduceEq, sem_sort_Search])); try (conv => lhs; whnf); try rfl)
  exact key
end
end Go.Vs
end
/- state.find. -/
section
set_option linter.unusedVariables false
set_option linter.unusedSimpArgs false
set_option maxRecDepth 100000
namespace Go.Vs
open Go Go.Proofs
def atLeast (L : List Bd) (nm : ByteArray) (k : Nat) : Bool := !(Op.bytesLess (L.getD k bd0).name.toList nm.toList)
section
attribute [local irreducible] Vs.callL Vs.callRL tyi callO callM callMV appendE storeE evLoad indexAddrO sliceO evFieldAddr evField buildO buildSliceO makeSliceO allocO boxed lenO copyE convertO indexO Vs.gc freezeAll
noncomputable def fx_state_find_1 : FX := ⟨Tryz.f110, hints.of 110, []⟩
theorem ok_state_find_1 : fx_state_find_1.ok 110 := ⟨by kernel_rfl, of_decide_eq_true (by kernel_rfl), by kernel_rfl, by kernel_rfl, by kernel_rfl, by kernel_rfl⟩
theorem sem_state_find_1 (b0 : Nat) (m : Md) (fs : List Fr) (e : Env) (S : Store) : sem b0 fx_state_find_1 m fs e S = run b0 fx_state_find_1 1000 m fs e S := (sem_eq _ _ _ _ _ _).trans (run_sem b0 fx_state_find_1 ok_state_find_1.good 1000 m fs e S).symm
theorem call_find1 (L : List Bd) (nm : ByteArray) (i : Nat) (hi : i < L.length) : callRL Tryz.prog hints 110 [.int .i64 i, .mp 0 0 0, .mp 1 0 0] [.arr [[.sl (stRows L) false]] none false, .arr [[.str nm]] none false] = some (.bool (atLeast L nm i), [.arr [[.sl (stRows L) false]] none false, .arr [[.str nm]] none false]) := by
  refine FX.callRL (r := (.bool (atLeast L nm i), [.arr [[.sl (stRows L) false]] none false, .arr [[.str nm]] none false])) ok_state_find_1 1000 rfl rfl ?_
  have x1 : 0 ≤ (i : Int) ∧ (i : Int) < (L.length : Int) := ⟨by omega, by omega⟩
  unfold atLeast
  ((repeat ((conv => lhs; whnf); simp only [go_sem, ↓reduceIte, Nat.reduceEqDiff, Nat.reduceBEq, Nat.reduceAdd, Nat.reduceMul, Nat.reduceSub, Nat.reduceLT, Nat.reduceLeDiff, reduceCtorEq, Int.reduceToNat, Int.reduceLE, Int.reduceLT, Int.reduceEq, sem_state_find_1, x1, Int.toNat_natCast, Bd.cells])); try (conv => lhs; whnf); try rfl)
theorem asks_find (L : List Bd) (nm : ByteArray) : Asks (.sl (stRows L) false) nm (.fn 110 [] [.mp 0 0 0, .mp 1 0 0]) L.length (atLeast L nm) := fun i hi => by
  have h := callM_eq (by kernel_rfl) (call_find1 L nm i hi) (by simp)
  rw [callMV_fn]
  exact h
noncomputable def fx_state_find : FX := ⟨Tryz.f62, hints.of 62, []⟩
theorem ok_state_find : fx_state_find.ok 62 := ⟨by kernel_rfl, of_decide_eq_true (by kernel_rfl), by kernel_rfl, by kernel_rfl, by kernel_rfl, by kernel_rfl⟩
theorem sem_state_find (b0 : Nat) (m : Md) (fs : List Fr) (e : Env) (S : Store) : sem b0 fx_state_find m fs e S = run b0 fx_state_find 1000 m fs e S := (sem_eq _ _ _ _ _ _).trans (run_sem b0 fx_state_find ok_state_find.good 1000 m fs e S).symm
theorem call_find (L : List Bd) (nm : ByteArray) (hl : L.length ≤ 1000000) {r : Nat} (hr : Turns L.length (atLeast L nm) r) : callL Tryz.prog hints 62 [.sl (stRows L) false, .str nm] = some (.tup [.int .i64 r, .bool (decide (r < L.length) && ((L.getD r bd0).name.toList == nm.toList))]) := by
  have co := callM_eq (by kernel_rfl) (call_Search _ nm _ (asks_find L nm) (by omega) hr) (by simp)
  refine FX.callL (r := (.tup [.int .i64 r, .bool (decide (r < L.length) && ((L.getD r bd0).name.toList == nm.toList))], [.arr [[.sl (stRows L) false]] none false, .arr [[.str nm]] none false])) ok_state_find 1000 rfl rfl ?_ rfl
  by_cases c : r < L.length
  · have c' : (r : Int) < (L.length : Int) := by omega
    have x1 : 0 ≤ (r : Int) ∧ (r : Int) < (L.length : Int) := ⟨by omega, by omega⟩
    simp only [c, decide_true, Bool.true_and]
    ((repeat ((conv => lhs; whnf); simp only [go_sem, ↓reduceIte, Nat.reduceEqDiff, Nat.reduceBEq, Nat.reduceAdd, Nat.reduceMul, Nat.reduceSub, Nat.reduceLT, Nat.reduceLeDiff, reduceCtorEq, Int.reduceToNat, Int.reduceLE, Int.reduceLT, Int.reduceEq, sem_state_find, co, c', x1, Int.toNat_natCast, Bd.cells])); try (conv => lhs; whnf); try rfl)
  · have c' : ¬ (r : Int) < (L.length : Int) := by omega
    simp only [c, decide_false, Bool.false_and]
    ((repeat ((conv => lhs; whnf); simp only [go_sem, ↓reduceIte, Nat.reduceEqDiff, Nat.reduceBEq, Nat.reduceAdd, Nat.reduceMul, Nat.reduceSub, Nat.reduceLT, Nat.reduceLeDiff, reduceCtorEq, Int.reduceToNat, Int.reduceLE, Int.reduceLT, Int.reduceEq, sem_state_find, co, c'])); try (conv => lhs; whnf); try rfl)
end
end Go.Vs
end
