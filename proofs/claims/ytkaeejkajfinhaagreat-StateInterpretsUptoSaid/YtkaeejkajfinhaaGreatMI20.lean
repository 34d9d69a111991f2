
import Derived.Test.YtkaeejkajfinhaaGreatMI18
import Derived.Test.YtkaeejkajfinhaaGreatMI19
section
set_option linter.unusedVariables false
set_option linter.unusedSimpArgs false
set_option maxRecDepth 100000
namespace Go.Vs
open Go Go.Proofs
theorem FX.callV {F : FX} {f : FuncId} (ok : F.ok f) (n : Nat) {args : List PV} (ha : Nat.ble args.length F.fn.ntmps = true) {e : Env} (he : (List.range args.length).zip args = e) {v : PV} {r : PV × Store} (h1 : run 0 F n (.at 0 1) [] e [] = some r) (h2 : fzPV r.2 r.1 = some v) : Vs.callL Tryz.prog hints f args = some v := FX.callL ok n ha he h1 h2
theorem FX.callB2 {F : FX} {f : FuncId} (ok : F.ok f) (n : Nat) {args : List PV} (ha : Nat.ble args.length F.fn.ntmps = true) {e : Env} (he : (List.range args.length).zip args = e) {b : Bool} {S' : Store} (h1 : run 0 F n (.at 0 1) [] e [] = some (.bool b, S')) : Vs.callL Tryz.prog hints f args = some (.bool b) := FX.callL ok n ha he h1 rfl
def kidsV (l : List Int) : PV := .sl (kRows .i64 l) l.isEmpty
theorem validR_nat {N D : List Int} (hn : N.length ≤ 20) (hd : D.length = 1) (h1 : D.getD 0 0 = 1) : validR false N D 4096 = lastOK N := by
  have e : D = [1] := (one_iff hd).2 h1
  subst e
  have g : nv [1] = 1 := by decide
  have t : decide (Trimmed [1]) = true := decide_eq_true (.inr (by decide))
  have n1 : decide ((N.length : Int) ≤ 4096) = true := decide_eq_true (by omega)
  unfold validR lastOK
  rw [t, n1, g]
  by_cases h0 : N.length = 0
  · have : N = [] := List.eq_nil_of_length_eq_zero h0
    subst this
    decide
  · have t2 : decide (Trimmed N) = decide (N.getD (N.length - 1) 0 ≠ 0) := by
      have : Trimmed N ↔ N.getD (N.length - 1) 0 ≠ 0 := by
        constructor
        · rintro (h | h)
          · rw [h] at h0; exact absurd rfl h0
          · exact h
        · exact .inr
      simp only [this]
    rw [t2]
    simp [h0]
@[go_sem] theorem part_ratL (ng : Bool) (N D : List Int) (r : List PV) : part (tyi Tryz.prog 27) (.bool ng :: .sl (kRows .u32 N) false :: .sl (kRows .u32 D) false :: r) = some (.agg [.bool ng, .sl (kRows .u32 N) false, .sl (kRows .u32 D) false]) := by
  simp [part, known_Rat, TI.isAgg, d_Rat, size_Rat]
section
attribute [local irreducible] Vs.callL Vs.callRL tyi callO callM callMV appendE storeE evLoad indexAddrO sliceO evFieldAddr evField buildO buildSliceO makeSliceO allocO boxed lenO copyE convertO indexO Vs.gc freezeAll
noncomputable def fx122_ : FX := ⟨Tryz.f122, hints.of 122, []⟩
theorem ok122_ : fx122_.ok 122 := ⟨by kernel_rfl, of_decide_eq_true (by kernel_rfl), by kernel_rfl, by kernel_rfl, by kernel_rfl, by kernel_rfl⟩
theorem sem122_ (b0 : Nat) (m : Md) (fs : List Fr) (e : Env) (S : Store) : sem b0 fx122_ m fs e S = run b0 fx122_ 1000 m fs e S := (sem_eq _ _ _ _ _ _).trans (run_sem b0 fx122_ ok122_.good 1000 m fs e S).symm
theorem call_natural (v : RV) (h : v.ok) : callL Tryz.prog hints 122 [.agg v.cells] = some (.bool (natOK v.neg v.num v.den)) := by
  have hM := maxLen_le
  have l1 := h.ln
  have l2 := h.ld
  have cv := fun S => callO_plain (S := S) (call_rat_Valid v.neg v.num v.den h.n h.d (by omega) (by omega)) (by simp; exact ratL_plain _ _ _)
  unfold ratL at cv
  obtain ⟨ng, N, D⟩ := v
  unfold RV.cells
  simp only at *
  refine FX.callL (r := (.bool (natOK ng N D), [.arr [[.bool ng, .sl (kRows .u32 N) false, .sl (kRows .u32 D) false]] none false])) ok122_ 1000 rfl rfl ?_ rfl
  unfold natOK
  cases ng with
  | true =>
    simp only [Bool.not_true, Bool.false_and]
    ((repeat ((conv => lhs; whnf); simp only [go_sem, simprocAttr, sem122_])); try (conv => lhs; whnf); try rfl)
  | false =>
    simp only [Bool.not_false, Bool.true_and]
    by_cases hd : D.length = 1
    · have hd' : (D.length : Int) = 1 := by omega
      by_cases h1 : D.getD 0 0 = 1
      · by_cases hn : N.length ≤ 20
        · have hn' : (N.length : Int) ≤ 20 := by omega
          rw [validR_nat hn hd h1] at cv
          simp only [hd, h1, hn, decide_true, Bool.true_and]
          ((repeat ((conv => lhs; whnf); simp only [go_sem, simprocAttr, sem122_, hd, hd', h1, hn, hn', cv])); try (conv => lhs; whnf); try rfl)
        · have hn' : ¬ (N.length : Int) ≤ 20 := by omega
          simp only [hd, h1, hn, decide_true, decide_false, Bool.true_and, Bool.false_and]
          ((repeat ((conv => lhs; whnf); simp only [go_sem, simprocAttr, sem122_, hd, hd', h1, hn, hn'])); try (conv => lhs; whnf); try rfl)
      · simp only [hd, h1, decide_true, decide_false, Bool.true_and, Bool.false_and]
        ((repeat ((conv => lhs; whnf); simp only [go_sem, simprocAttr, sem122_, hd, hd', h1])); try (conv => lhs; whnf); try rfl)
    · have hd' : ¬ (D.length : Int) = 1 := by omega
      simp only [hd, decide_false, Bool.false_and]
      ((repeat ((conv => lhs; whnf); simp only [go_sem, simprocAttr, sem122_, hd, hd'])); try (conv => lhs; whnf); try rfl)
theorem natural_o (S : Store) (n : Node) (h : n.ok) : callO (callL Tryz.prog hints) S 122 [.agg [.bool n.neg, .sl (kRows .u32 n.num) false, .sl (kRows .u32 n.den) false]] = some { v := .bool (natOK n.neg n.num n.den) } := callO_plain (call_natural n.val h.val) (by simp; exact rv_plain n.val)
noncomputable def fx130_ : FX := ⟨Tryz.f130, hints.of 130, []⟩
theorem ok130_ : fx130_.ok 130 := ⟨by kernel_rfl, of_decide_eq_true (by kernel_rfl), by kernel_rfl, by kernel_rfl, by kernel_rfl, by kernel_rfl⟩
theorem sem130_ (b0 : Nat) (m : Md) (fs : List Fr) (e : Env) (S : Store) : sem b0 fx130_ m fs e S = run b0 fx130_ 1000 m fs e S := (sem_eq _ _ _ _ _ _).trans (run_sem b0 fx130_ ok130_.good 1000 m fs e S).symm
theorem call_natural8 (v : RV) (h : v.ok) : callL Tryz.prog hints 130 [.agg v.cells] = some (.bool (natOK v.neg v.num v.den)) := by
  have hM := maxLen_le
  have l1 := h.ln
  have l2 := h.ld
  obtain ⟨ng, N, D⟩ := v
  unfold RV.cells
  simp only at *
  refine FX.callL (r := (.bool (natOK ng N D), [.arr [[.bool ng, .sl (kRows .u32 N) false, .sl (kRows .u32 D) false]] none false])) ok130_ 1000 rfl rfl ?_ rfl
  unfold natOK
  cases ng with
  | true =>
    simp only [Bool.not_true, Bool.false_and]
    ((repeat ((conv => lhs; whnf); simp only [go_sem, simprocAttr, sem130_])); try (conv => lhs; whnf); try rfl)
  | false =>
    simp only [Bool.not_false, Bool.true_and]
    by_cases hd : D.length = 1
    · have hd' : (D.length : Int) = 1 := by omega
      by_cases h1 : D.getD 0 0 = 1
      · by_cases hn : N.length ≤ 20
        · have hn' : ¬ 20 < (N.length : Int) := by omega
          unfold lastOK
          simp only [hd, h1, hn, decide_true, Bool.true_and]
          by_cases h0 : N.length = 0
          · have h0' : (N.length : Int) = 0 := by omega
            simp only [h0, decide_true, Bool.true_or]
            ((repeat ((conv => lhs; whnf); simp only [go_sem, simprocAttr, sem130_, hd, hd', h1, hn, hn', h0, h0'])); try (conv => lhs; whnf); try rfl)
          · have h0' : ¬ (N.length : Int) = 0 := by omega
            have w : IntKind.i64.wrap ((N.length : Int) - 1) = ((N.length - 1 : Nat) : Int) := by rw [IntKind.wrap_i64]; omega
            have x : 0 ≤ ((N.length - 1 : Nat) : Int) ∧ ((N.length - 1 : Nat) : Int) < (N.length : Int) := ⟨by omega, by omega⟩
            simp only [h0, decide_false, Bool.false_or]
            by_cases h2 : N.getD (N.length - 1) 0 = 0
            · simp only [h2, ne_eq, not_true, decide_false]
              ((repeat ((conv => lhs; whnf); simp only [go_sem, simprocAttr, sem130_, hd, hd', h1, hn, hn', h0, h0', w, x, Int.toNat_natCast, h2])); try (conv => lhs; whnf); try rfl)
            · simp only [h2, ne_eq, not_false_eq_true, decide_true]
              ((repeat ((conv => lhs; whnf); simp only [go_sem, simprocAttr, sem130_, hd, hd', h1, hn, hn', h0, h0', w, x, Int.toNat_natCast, h2])); try (conv => lhs; whnf); try rfl)
        · have hn' : 20 < (N.length : Int) := by omega
          simp only [hd, h1, hn, decide_true, decide_false, Bool.true_and, Bool.false_and]
          ((repeat ((conv => lhs; whnf); simp only [go_sem, simprocAttr, sem130_, hd, hd', h1, hn, hn'])); try (conv => lhs; whnf); try rfl)
      · simp only [hd, h1, decide_true, decide_false, Bool.true_and, Bool.false_and]
        ((repeat ((conv => lhs; whnf); simp only [go_sem, simprocAttr, sem130_, hd, hd', h1])); try (conv => lhs; whnf); try rfl)
    · have hd' : ¬ (D.length : Int) = 1 := by omega
      simp only [hd, decide_false, Bool.false_and]
      ((repeat ((conv => lhs; whnf); simp only [go_sem, simprocAttr, sem130_, hd, hd'])); try (conv => lhs; whnf); try rfl)
theorem natural8_o (S : Store) (n : Node) (h : n.ok) : callO (callL Tryz.prog hints) S 130 [.agg [.bool n.neg, .sl (kRows .u32 n.num) false, .sl (kRows .u32 n.den) false]] = some { v := .bool (natOK n.neg n.num n.den) } := callO_plain (call_natural8 n.val h.val) (by simp; exact rv_plain n.val)
@[go_sem] theorem cv_uint32_int64 (S : Store) (k : IntKind) (n : Int) : convertO Tryz.prog 126 2 S (.int k n) = some (.int .i64 (IntKind.i64.wrap n)) := by
  simp [convertO, show (tyi Tryz.prog 126).known = true by kernel_rfl, evConvert, show (tyi Tryz.prog 2).d = .int .i64 by kernel_rfl]
noncomputable def fx94_ : FX := ⟨Tryz.f94, hints.of 94, []⟩
theorem ok94_ : fx94_.ok 94 := ⟨by kernel_rfl, of_decide_eq_true (by kernel_rfl), by kernel_rfl, by kernel_rfl, by kernel_rfl, by kernel_rfl⟩
theorem sem94_ (b0 : Nat) (m : Md) (fs : List Fr) (e : Env) (S : Store) : sem b0 fx94_ m fs e S = run b0 fx94_ 1000 m fs e S := (sem_eq _ _ _ _ _ _).trans (run_sem b0 fx94_ ok94_.good 1000 m fs e S).symm
theorem call_Natural8 (v : RV) (h : v.ok) (m : Int) : callL Tryz.prog hints 94 [.agg v.cells, .int .i64 m] = some (.int .i64 (natVal v.num m)) := by
  have hw := h.n
  obtain ⟨ng, N, D⟩ := v
  unfold RV.cells
  simp only at *
  refine FX.callL (r := (.int .i64 (natVal N m), [.arr [[.bool ng, .sl (kRows .u32 N) false, .sl (kRows .u32 D) false]] none false])) ok94_ 1000 rfl rfl ?_ rfl
  unfold natVal
  by_cases h0 : N.length = 0
  · have h0' : (N.length : Int) = 0 := by omega
    rw [if_pos h0]
    ((repeat ((conv => lhs; whnf); simp only [go_sem, simprocAttr, sem94_, h0, h0'])); try (conv => lhs; whnf); try rfl)
  · have h0' : ¬ (N.length : Int) = 0 := by omega
    have hp : (0 : Int) < (N.length : Int) := by omega
    have hb : 0 ≤ N.getD 0 0 ∧ N.getD 0 0 < 4294967296 := by
      have : N.getD 0 0 ∈ N := by
        have : 0 < N.length := by omega
        simp [List.getD_eq_getElem?_getD, this]
      exact hw _ this
    have hwr : IntKind.i64.wrap (N.getD 0 0) = N.getD 0 0 := by rw [IntKind.wrap_i64]; omega
    rw [if_neg h0]
    by_cases h1 : 1 < N.length
    · have h1' : 1 < (N.length : Int) := by omega
      rw [if_pos (.inl h1)]
      ((repeat ((conv => lhs; whnf); simp only [go_sem, simprocAttr, sem94_, h0, h0', h1'])); try (conv => lhs; whnf); try rfl)
    · have h1' : ¬ 1 < (N.length : Int) := by omega
      by_cases h2 : m < N.getD 0 0
      · rw [if_pos (.inr h2)]
        ((repeat ((conv => lhs; whnf); simp only [go_sem, simprocAttr, sem94_, h0, h0', h1', hp, hwr, h2])); try (conv => lhs; whnf); try rfl)
      · rw [if_neg (fun h => h.elim h1 h2)]
        ((repeat ((conv => lhs; whnf); simp only [go_sem, simprocAttr, sem94_, h0, h0', h1', hp, hwr, h2])); try (conv => lhs; whnf); try rfl)
theorem Natural8_o (S : Store) (n : Node) (h : n.ok) (m : Int) : callO (callL Tryz.prog hints) S 94 [.agg [.bool n.neg, .sl (kRows .u32 n.num) false, .sl (kRows .u32 n.den) false], .int .i64 m] = some { v := .int .i64 (natVal n.num m) } := callO_plain (call_Natural8 n.val h.val m) (by simp [Plain.int]; exact rv_plain n.val)
end
end Go.Vs
end
section
set_option linter.unusedVariables false
set_option linter.unusedSimpArgs false
set_option maxRecDepth 100000
namespace Go.Vs
open Go Go.Proofs
section
attribute [local irreducible] Vs.callL Vs.callRL tyi callO callM callMV appendE storeE evLoad indexAddrO sliceO evFieldAddr evField buildO buildSliceO makeSliceO allocO boxed lenO copyE convertO indexO Vs.gc freezeAll
noncomputable def fx123_ : FX := ⟨Tryz.f123, hints.of 123, []⟩
theorem ok123_ : fx123_.ok 123 := ⟨by kernel_rfl, of_decide_eq_true (by kernel_rfl), by kernel_rfl, by kernel_rfl, by kernel_rfl, by kernel_rfl⟩
theorem sem123_ (b0 : Nat) (m : Md) (fs : List Fr) (e : Env) (S : Store) : sem b0 fx123_ m fs e S = run b0 fx123_ 1000 m fs e S := (sem_eq _ _ _ _ _ _).trans (run_sem b0 fx123_ ok123_.good 1000 m fs e S).symm
theorem call_shape_a (o : Int) (h : 1 ≤ o ∧ o ≤ 7) : callL Tryz.prog hints 123 [.int .i64 o] = some (.tup [.bool (hasName o), kidsV (kidSorts o)]) := by
  by_cases e1 : o = 1
  · rw [e1]; apply FX.callV ok123_ 1000 rfl rfl; ((repeat ((conv => lhs; whnf); simp only [go_sem, simprocAttr, sem123_])); try (conv => lhs; whnf); try rfl)
  by_cases e2 : o = 2
  · rw [e2]; apply FX.callV ok123_ 1000 rfl rfl; ((repeat ((conv => lhs; whnf); simp only [go_sem, simprocAttr, sem123_])); try (conv => lhs; whnf); try rfl)
  by_cases e3 : o = 3
  · rw [e3]; apply FX.callV ok123_ 1000 rfl rfl; ((repeat ((conv => lhs; whnf); simp only [go_sem, simprocAttr, sem123_])); try (conv => lhs; whnf); try rfl)
  by_cases e4 : o = 4
  · rw [e4]; apply FX.callV ok123_ 1000 rfl rfl; ((repeat ((conv => lhs; whnf); simp only [go_sem, simprocAttr, sem123_])); try (conv => lhs; whnf); try rfl)
  by_cases e5 : o = 5
  · rw [e5]; apply FX.callV ok123_ 1000 rfl rfl; ((repeat ((conv => lhs; whnf); simp only [go_sem, simprocAttr, sem123_])); try (conv => lhs; whnf); try rfl)
  by_cases e6 : o = 6
  · rw [e6]; apply FX.callV ok123_ 1000 rfl rfl; ((repeat ((conv => lhs; whnf); simp only [go_sem, simprocAttr, sem123_])); try (conv => lhs; whnf); try rfl)
  by_cases e7 : o = 7
  · rw [e7]; apply FX.callV ok123_ 1000 rfl rfl; ((repeat ((conv => lhs; whnf); simp only [go_sem, simprocAttr, sem123_])); try (conv => lhs; whnf); try rfl)
  omega
theorem call_shape_b (o : Int) (h : 8 ≤ o ∧ o ≤ 13) : callL Tryz.prog hints 123 [.int .i64 o] = some (.tup [.bool (hasName o), kidsV (kidSorts o)]) := by
  by_cases e8 : o = 8
  · rw [e8]; apply FX.callV ok123_ 1000 rfl rfl; ((repeat ((conv => lhs; whnf); simp only [go_sem, simprocAttr, sem123_])); try (conv => lhs; whnf); try rfl)
  by_cases e9 : o = 9
  · rw [e9]; apply FX.callV ok123_ 1000 rfl rfl; ((repeat ((conv => lhs; whnf); simp only [go_sem, simprocAttr, sem123_])); try (conv => lhs; whnf); try rfl)
  by_cases e10 : o = 10
  · rw [e10]; apply FX.callV ok123_ 1000 rfl rfl; ((repeat ((conv => lhs; whnf); simp only [go_sem, simprocAttr, sem123_])); try (conv => lhs; whnf); try rfl)
  by_cases e11 : o = 11
  · rw [e11]; apply FX.callV ok123_ 1000 rfl rfl; ((repeat ((conv => lhs; whnf); simp only [go_sem, simprocAttr, sem123_])); try (conv => lhs; whnf); try rfl)
  by_cases e12 : o = 12
  · rw [e12]; apply FX.callV ok123_ 1000 rfl rfl; ((repeat ((conv => lhs; whnf); simp only [go_sem, simprocAttr, sem123_])); try (conv => lhs; whnf); try rfl)
  by_cases e13 : o = 13
  · rw [e13]; apply FX.callV ok123_ 1000 rfl rfl; ((repeat ((conv => lhs; whnf); simp only [go_sem, simprocAttr, sem123_])); try (conv => lhs; whnf); try rfl)
  omega
theorem call_shape_c (o : Int) (h : 20 ≤ o ∧ o ≤ 26) : callL Tryz.prog hints 123 [.int .i64 o] = some (.tup [.bool (hasName o), kidsV (kidSorts o)]) := by
  by_cases e20 : o = 20
  · rw [e20]; apply FX.callV ok123_ 1000 rfl rfl; ((repeat ((conv => lhs; whnf); simp only [go_sem, simprocAttr, sem123_])); try (conv => lhs; whnf); try rfl)
  by_cases e21 : o = 21
  · rw [e21]; apply FX.callV ok123_ 1000 rfl rfl; ((repeat ((conv => lhs; whnf); simp only [go_sem, simprocAttr, sem123_])); try (conv => lhs; whnf); try rfl)
  by_cases e22 : o = 22
  · rw [e22]; apply FX.callV ok123_ 1000 rfl rfl; ((repeat ((conv => lhs; whnf); simp only [go_sem, simprocAttr, sem123_])); try (conv => lhs; whnf); try rfl)
  by_cases e23 : o = 23
  · rw [e23]; apply FX.callV ok123_ 1000 rfl rfl; ((repeat ((conv => lhs; whnf); simp only [go_sem, simprocAttr, sem123_])); try (conv => lhs; whnf); try rfl)
  by_cases e24 : o = 24
  · rw [e24]; apply FX.callV ok123_ 1000 rfl rfl; ((repeat ((conv => lhs; whnf); simp only [go_sem, simprocAttr, sem123_])); try (conv => lhs; whnf); try rfl)
  by_cases e25 : o = 25
  · rw [e25]; apply FX.callV ok123_ 1000 rfl rfl; ((repeat ((conv => lhs; whnf); simp only [go_sem, simprocAttr, sem123_])); try (conv => lhs; whnf); try rfl)
  by_cases e26 : o = 26
  · rw [e26]; apply FX.callV ok123_ 1000 rfl rfl; ((repeat ((conv => lhs; whnf); simp only [go_sem, simprocAttr, sem123_])); try (conv => lhs; whnf); try rfl)
  omega
theorem call_shape_d (o : Int) (h : 27 ≤ o ∧ o ≤ 33) : callL Tryz.prog hints 123 [.int .i64 o] = some (.tup [.bool (hasName o), kidsV (kidSorts o)]) := by
  by_cases e27 : o = 27
  · rw [e27]; apply FX.callV ok123_ 1000 rfl rfl; ((repeat ((conv => lhs; whnf); simp only [go_sem, simprocAttr, sem123_])); try (conv => lhs; whnf); try rfl)
  by_cases e28 : o = 28
  · rw [e28]; apply FX.callV ok123_ 1000 rfl rfl; ((repeat ((conv => lhs; whnf); simp only [go_sem, simprocAttr, sem123_])); try (conv => lhs; whnf); try rfl)
  by_cases e29 : o = 29
  · rw [e29]; apply FX.callV ok123_ 1000 rfl rfl; ((repeat ((conv => lhs; whnf); simp only [go_sem, simprocAttr, sem123_])); try (conv => lhs; whnf); try rfl)
  by_cases e30 : o = 30
  · rw [e30]; apply FX.callV ok123_ 1000 rfl rfl; ((repeat ((conv => lhs; whnf); simp only [go_sem, simprocAttr, sem123_])); try (conv => lhs; whnf); try rfl)
  by_cases e31 : o = 31
  · rw [e31]; apply FX.callV ok123_ 1000 rfl rfl; ((repeat ((conv => lhs; whnf); simp only [go_sem, simprocAttr, sem123_])); try (conv => lhs; whnf); try rfl)
  by_cases e32 : o = 32
  · rw [e32]; apply FX.callV ok123_ 1000 rfl rfl; ((repeat ((conv => lhs; whnf); simp only [go_sem, simprocAttr, sem123_])); try (conv => lhs; whnf); try rfl)
  by_cases e33 : o = 33
  · rw [e33]; apply FX.callV ok123_ 1000 rfl rfl; ((repeat ((conv => lhs; whnf); simp only [go_sem, simprocAttr, sem123_])); try (conv => lhs; whnf); try rfl)
  omega
theorem call_shape_e (o : Int) (h : 34 ≤ o ∧ o ≤ 39) : callL Tryz.prog hints 123 [.int .i64 o] = some (.tup [.bool (hasName o), kidsV (kidSorts o)]) := by
  by_cases e34 : o = 34
  · rw [e34]; apply FX.callV ok123_ 1000 rfl rfl; ((repeat ((conv => lhs; whnf); simp only [go_sem, simprocAttr, sem123_])); try (conv => lhs; whnf); try rfl)
  by_cases e35 : o = 35
  · rw [e35]; apply FX.callV ok123_ 1000 rfl rfl; ((repeat ((conv => lhs; whnf); simp only [go_sem, simprocAttr, sem123_])); try (conv => lhs; whnf); try rfl)
  by_cases e36 : o = 36
  · rw [e36]; apply FX.callV ok123_ 1000 rfl rfl; ((repeat ((conv => lhs; whnf); simp only [go_sem, simprocAttr, sem123_])); try (conv => lhs; whnf); try rfl)
  by_cases e37 : o = 37
  · rw [e37]; apply FX.callV ok123_ 1000 rfl rfl; ((repeat ((conv => lhs; whnf); simp only [go_sem, simprocAttr, sem123_])); try (conv => lhs; whnf); try rfl)
  by_cases e38 : o = 38
  · rw [e38]; apply FX.callV ok123_ 1000 rfl rfl; ((repeat ((conv => lhs; whnf); simp only [go_sem, simprocAttr, sem123_])); try (conv => lhs; whnf); try rfl)
  by_cases e39 : o = 39
  · rw [e39]; apply FX.callV ok123_ 1000 rfl rfl; ((repeat ((conv => lhs; whnf); simp only [go_sem, simprocAttr, sem123_])); try (conv => lhs; whnf); try rfl)
  omega
theorem call_shape_f (o : Int) (h : 50 ≤ o ∧ o ≤ 56) : callL Tryz.prog hints 123 [.int .i64 o] = some (.tup [.bool (hasName o), kidsV (kidSorts o)]) := by
  by_cases e50 : o = 50
  · rw [e50]; apply FX.callV ok123_ 1000 rfl rfl; ((repeat ((conv => lhs; whnf); simp only [go_sem, simprocAttr, sem123_])); try (conv => lhs; whnf); try rfl)
  by_cases e51 : o = 51
  · rw [e51]; apply FX.callV ok123_ 1000 rfl rfl; ((repeat ((conv => lhs; whnf); simp only [go_sem, simprocAttr, sem123_])); try (conv => lhs; whnf); try rfl)
  by_cases e52 : o = 52
  · rw [e52]; apply FX.callV ok123_ 1000 rfl rfl; ((repeat ((conv => lhs; whnf); simp only [go_sem, simprocAttr, sem123_])); try (conv => lhs; whnf); try rfl)
  by_cases e53 : o = 53
  · rw [e53]; apply FX.callV ok123_ 1000 rfl rfl; ((repeat ((conv => lhs; whnf); simp only [go_sem, simprocAttr, sem123_])); try (conv => lhs; whnf); try rfl)
  by_cases e54 : o = 54
  · rw [e54]; apply FX.callV ok123_ 1000 rfl rfl; ((repeat ((conv => lhs; whnf); simp only [go_sem, simprocAttr, sem123_])); try (conv => lhs; whnf); try rfl)
  by_cases e55 : o = 55
  · rw [e55]; apply FX.callV ok123_ 1000 rfl rfl; ((repeat ((conv => lhs; whnf); simp only [go_sem, simprocAttr, sem123_])); try (conv => lhs; whnf); try rfl)
  by_cases e56 : o = 56
  · rw [e56]; apply FX.callV ok123_ 1000 rfl rfl; ((repeat ((conv => lhs; whnf); simp only [go_sem, simprocAttr, sem123_])); try (conv => lhs; whnf); try rfl)
  omega
theorem call_shape_g (o : Int) (h : 57 ≤ o ∧ o ≤ 62) : callL Tryz.prog hints 123 [.int .i64 o] = some (.tup [.bool (hasName o), kidsV (kidSorts o)]) := by
  by_cases e57 : o = 57
  · rw [e57]; apply FX.callV ok123_ 1000 rfl rfl; ((repeat ((conv => lhs; whnf); simp only [go_sem, simprocAttr, sem123_])); try (conv => lhs; whnf); try rfl)
  by_cases e58 : o = 58
  · rw [e58]; apply FX.callV ok123_ 1000 rfl rfl; ((repeat ((conv => lhs; whnf); simp only [go_sem, simprocAttr, sem123_])); try (conv => lhs; whnf); try rfl)
  by_cases e59 : o = 59
  · rw [e59]; apply FX.callV ok123_ 1000 rfl rfl; ((repeat ((conv => lhs; whnf); simp only [go_sem, simprocAttr, sem123_])); try (conv => lhs; whnf); try rfl)
  by_cases e60 : o = 60
  · rw [e60]; apply FX.callV ok123_ 1000 rfl rfl; ((repeat ((conv => lhs; whnf); simp only [go_sem, simprocAttr, sem123_])); try (conv => lhs; whnf); try rfl)
  by_cases e61 : o = 61
  · rw [e61]; apply FX.callV ok123_ 1000 rfl rfl; ((repeat ((conv => lhs; whnf); simp only [go_sem, simprocAttr, sem123_])); try (conv => lhs; whnf); try rfl)
  by_cases e62 : o = 62
  · rw [e62]; apply FX.callV ok123_ 1000 rfl rfl; ((repeat ((conv => lhs; whnf); simp only [go_sem, simprocAttr, sem123_])); try (conv => lhs; whnf); try rfl)
  omega
theorem call_shape_n (o : Int) (h : (o < 1 ∨ 13 < o) ∧ (o < 20 ∨ 39 < o) ∧ (o < 50 ∨ 62 < o)) : callL Tryz.prog hints 123 [.int .i64 o] = some (.tup [.bool (hasName o), kidsV (kidSorts o)]) := by
  have e1 : ¬ o = 1 := by omega
  have e2 : ¬ o = 2 := by omega
  have e3 : ¬ o = 3 := by omega
  have e4 : ¬ o = 4 := by omega
  have e5 : ¬ o = 5 := by omega
  have e6 : ¬ o = 6 := by omega
  have e7 : ¬ o = 7 := by omega
  have e8 : ¬ o = 8 := by omega
  have e9 : ¬ o = 9 := by omega
  have e10 : ¬ o = 10 := by omega
  have e11 : ¬ o = 11 := by omega
  have e12 : ¬ o = 12 := by omega
  have e13 : ¬ o = 13 := by omega
  have e20 : ¬ o = 20 := by omega
  have e21 : ¬ o = 21 := by omega
  have e22 : ¬ o = 22 := by omega
  have e23 : ¬ o = 23 := by omega
  have e24 : ¬ o = 24 := by omega
  have e25 : ¬ o = 25 := by omega
  have e26 : ¬ o = 26 := by omega
  have e27 : ¬ o = 27 := by omega
  have e28 : ¬ o = 28 := by omega
  have e29 : ¬ o = 29 := by omega
  have e30 : ¬ o = 30 := by omega
  have e31 : ¬ o = 31 := by omega
  have e32 : ¬ o = 32 := by omega
  have e33 : ¬ o = 33 := by omega
  have e34 : ¬ o = 34 := by omega
  have e35 : ¬ o = 35 := by omega
  have e36 : ¬ o = 36 := by omega
  have e37 : ¬ o = 37 := by omega
  have e38 : ¬ o = 38 := by omega
  have e39 : ¬ o = 39 := by omega
  have e50 : ¬ o = 50 := by omega
  have e51 : ¬ o = 51 := by omega
  have e52 : ¬ o = 52 := by omega
  have e53 : ¬ o = 53 := by omega
  have e54 : ¬ o = 54 := by omega
  have e55 : ¬ o = 55 := by omega
  have e56 : ¬ o = 56 := by omega
  have e57 : ¬ o = 57 := by omega
  have e58 : ¬ o = 58 := by omega
  have e59 : ¬ o = 59 := by omega
  have e60 : ¬ o = 60 := by omega
  have e61 : ¬ o = 61 := by omega
  have e62 : ¬ o = 62 := by omega
  clear h
  have hk : kidSorts o = [] := kidSorts_none ⟨e4, e12, e59, e60, e53, e28, e39⟩ ⟨by omega, by omega, by omega⟩ ⟨by omega, e55, e57, e58⟩
  have hh : hasName o = false := by simp only [hasName, decide_eq_false_iff_not]; omega
  rw [hk, hh]
  apply FX.callV ok123_ 1000 rfl rfl
  · ((repeat ((conv => lhs; whnf); simp only [go_sem, simprocAttr, sem123_, e1, e2, e3, e4, e5, e6, e7, e8, e9, e10, e11, e12, e13, e20, e21, e22, e23, e24, e25, e26, e27, e28, e29, e30, e31, e32, e33, e34, e35, e36, e37, e38, e39, e50, e51, e52, e53, e54, e55, e56, e57, e58, e59, e60, e61, e62])); try (conv => lhs; whnf); try rfl)
  · rfl
theorem call_shape (o : Int) : callL Tryz.prog hints 123 [.int .i64 o] = some (.tup [.bool (hasName o), kidsV (kidSorts o)]) := by
  by_cases ha : 1 ≤ o ∧ o ≤ 7
  · exact call_shape_a o ha
  by_cases hb : 8 ≤ o ∧ o ≤ 13
  · exact call_shape_b o hb
  by_cases hc : 20 ≤ o ∧ o ≤ 26
  · exact call_shape_c o hc
  by_cases hd : 27 ≤ o ∧ o ≤ 33
  · exact call_shape_d o hd
  by_cases he : 34 ≤ o ∧ o ≤ 39
  · exact call_shape_e o he
  by_cases hf : 50 ≤ o ∧ o ≤ 56
  · exact call_shape_f o hf
  by_cases hg : 57 ≤ o ∧ o ≤ 62
  · exact call_shape_g o hg
  exact call_shape_n o (by omega)
theorem shape_o (S : Store) (o : Int) : callO (callL Tryz.prog hints) S 123 [.int .i64 o] = some { v := .tup [.bool (hasName o), kidsV (kidSorts o)] } := callO_plain (call_shape o) (by simp [Plain.int])
noncomputable def fx129_ : FX := ⟨Tryz.f129, hints.of 129, []⟩
theorem ok129_ : fx129_.ok 129 := ⟨by kernel_rfl, of_decide_eq_true (by kernel_rfl), by kernel_rfl, by kernel_rfl, by kernel_rfl, by kernel_rfl⟩
theorem sem129_ (b0 : Nat) (m : Md) (fs : List Fr) (e : Env) (S : Store) : sem b0 fx129_ m fs e S = run b0 fx129_ 1000 m fs e S := (sem_eq _ _ _ _ _ _).trans (run_sem b0 fx129_ ok129_.good 1000 m fs e S).symm
theorem call_named8_a (o : Int) (h : 1 ≤ o ∧ o ≤ 7) : callL Tryz.prog hints 129 [.int .i64 o] = some (.bool (hasName' o)) := by
  by_cases e1 : o = 1
  · rw [e1]; refine FX.callL (r := (.bool _, [])) ok129_ 1000 rfl rfl ?_ rfl; ((repeat ((conv => lhs; whnf); simp only [go_sem, simprocAttr, sem129_])); try (conv => lhs; whnf); try rfl)
  by_cases e2 : o = 2
  · rw [e2]; refine FX.callL (r := (.bool _, [])) ok129_ 1000 rfl rfl ?_ rfl; ((repeat ((conv => lhs; whnf); simp only [go_sem, simprocAttr, sem129_])); try (conv => lhs; whnf); try rfl)
  by_cases e3 : o = 3
  · rw [e3]; refine FX.callL (r := (.bool _, [])) ok129_ 1000 rfl rfl ?_ rfl; ((repeat ((conv => lhs; whnf); simp only [go_sem, simprocAttr, sem129_])); try (conv => lhs; whnf); try rfl)
  by_cases e4 : o = 4
  · rw [e4]; refine FX.callL (r := (.bool _, [])) ok129_ 1000 rfl rfl ?_ rfl; ((repeat ((conv => lhs; whnf); simp only [go_sem, simprocAttr, sem129_])); try (conv => lhs; whnf); try rfl)
  by_cases e5 : o = 5
  · rw [e5]; refine FX.callL (r := (.bool _, [])) ok129_ 1000 rfl rfl ?_ rfl; ((repeat ((conv => lhs; whnf); simp only [go_sem, simprocAttr, sem129_])); try (conv => lhs; whnf); try rfl)
  by_cases e6 : o = 6
  · rw [e6]; refine FX.callL (r := (.bool _, [])) ok129_ 1000 rfl rfl ?_ rfl; ((repeat ((conv => lhs; whnf); simp only [go_sem, simprocAttr, sem129_])); try (conv => lhs; whnf); try rfl)
  by_cases e7 : o = 7
  · rw [e7]; refine FX.callL (r := (.bool _, [])) ok129_ 1000 rfl rfl ?_ rfl; ((repeat ((conv => lhs; whnf); simp only [go_sem, simprocAttr, sem129_])); try (conv => lhs; whnf); try rfl)
  omega
theorem call_named8_b (o : Int) (h : 8 ≤ o ∧ o ≤ 13) : callL Tryz.prog hints 129 [.int .i64 o] = some (.bool (hasName' o)) := by
  by_cases e8 : o = 8
  · rw [e8]; refine FX.callL (r := (.bool _, [])) ok129_ 1000 rfl rfl ?_ rfl; ((repeat ((conv => lhs; whnf); simp only [go_sem, simprocAttr, sem129_])); try (conv => lhs; whnf); try rfl)
  by_cases e9 : o = 9
  · rw [e9]; refine FX.callL (r := (.bool _, [])) ok129_ 1000 rfl rfl ?_ rfl; ((repeat ((conv => lhs; whnf); simp only [go_sem, simprocAttr, sem129_])); try (conv => lhs; whnf); try rfl)
  by_cases e10 : o = 10
  · rw [e10]; refine FX.callL (r := (.bool _, [])) ok129_ 1000 rfl rfl ?_ rfl; ((repeat ((conv => lhs; whnf); simp only [go_sem, simprocAttr, sem129_])); try (conv => lhs; whnf); try rfl)
  by_cases e11 : o = 11
  · rw [e11]; refine FX.callL (r := (.bool _, [])) ok129_ 1000 rfl rfl ?_ rfl; ((repeat ((conv => lhs; whnf); simp only [go_sem, simprocAttr, sem129_])); try (conv => lhs; whnf); try rfl)
  by_cases e12 : o = 12
  · rw [e12]; refine FX.callL (r := (.bool _, [])) ok129_ 1000 rfl rfl ?_ rfl; ((repeat ((conv => lhs; whnf); simp only [go_sem, simprocAttr, sem129_])); try (conv => lhs; whnf); try rfl)
  by_cases e13 : o = 13
  · rw [e13]; refine FX.callL (r := (.bool _, [])) ok129_ 1000 rfl rfl ?_ rfl; ((repeat ((conv => lhs; whnf); simp only [go_sem, simprocAttr, sem129_])); try (conv => lhs; whnf); try rfl)
  omega
theorem call_named8_c (o : Int) (h : 20 ≤ o ∧ o ≤ 26) : callL Tryz.prog hints 129 [.int .i64 o] = some (.bool (hasName' o)) := by
  by_cases e20 : o = 20
  · rw [e20]; refine FX.callL (r := (.bool _, [])) ok129_ 1000 rfl rfl ?_ rfl; ((repeat ((conv => lhs; whnf); simp only [go_sem, simprocAttr, sem129_])); try (conv => lhs; whnf); try rfl)
  by_cases e21 : o = 21
  · rw [e21]; refine FX.callL (r := (.bool _, [])) ok129_ 1000 rfl rfl ?_ rfl; ((repeat ((conv => lhs; whnf); simp only [go_sem, simprocAttr, sem129_])); try (conv => lhs; whnf); try rfl)
  by_cases e22 : o = 22
  · rw [e22]; refine FX.callL (r := (.bool _, [])) ok129_ 1000 rfl rfl ?_ rfl; ((repeat ((conv => lhs; whnf); simp only [go_sem, simprocAttr, sem129_])); try (conv => lhs; whnf); try rfl)
  by_cases e23 : o = 23
  · rw [e23]; refine FX.callL (r := (.bool _, [])) ok129_ 1000 rfl rfl ?_ rfl; ((repeat ((conv => lhs; whnf); simp only [go_sem, simprocAttr, sem129_])); try (conv => lhs; whnf); try rfl)
  by_cases e24 : o = 24
  · rw [e24]; refine FX.callL (r := (.bool _, [])) ok129_ 1000 rfl rfl ?_ rfl; ((repeat ((conv => lhs; whnf); simp only [go_sem, simprocAttr, sem129_])); try (conv => lhs; whnf); try rfl)
  by_cases e25 : o = 25
  · rw [e25]; refine FX.callL (r := (.bool _, [])) ok129_ 1000 rfl rfl ?_ rfl; ((repeat ((conv => lhs; whnf); simp only [go_sem, simprocAttr, sem129_])); try (conv => lhs; whnf); try rfl)
  by_cases e26 : o = 26
  · rw [e26]; refine FX.callL (r := (.bool _, [])) ok129_ 1000 rfl rfl ?_ rfl; ((repeat ((conv => lhs; whnf); simp only [go_sem, simprocAttr, sem129_])); try (conv => lhs; whnf); try rfl)
  omega
theorem call_named8_d (o : Int) (h : 27 ≤ o ∧ o ≤ 33) : callL Tryz.prog hints 129 [.int .i64 o] = some (.bool (hasName' o)) := by
  by_cases e27 : o = 27
  · rw [e27]; refine FX.callL (r := (.bool _, [])) ok129_ 1000 rfl rfl ?_ rfl; ((repeat ((conv => lhs; whnf); simp only [go_sem, simprocAttr, sem129_])); try (conv => lhs; whnf); try rfl)
  by_cases e28 : o = 28
  · rw [e28]; refine FX.callL (r := (.bool _, [])) ok129_ 1000 rfl rfl ?_ rfl; ((repeat ((conv => lhs; whnf); simp only [go_sem, simprocAttr, sem129_])); try (conv => lhs; whnf); try rfl)
  by_cases e29 : o = 29
  · rw [e29]; refine FX.callL (r := (.bool _, [])) ok129_ 1000 rfl rfl ?_ rfl; ((repeat ((conv => lhs; whnf); simp only [go_sem, simprocAttr, sem129_])); try (conv => lhs; whnf); try rfl)
  by_cases e30 : o = 30
  · rw [e30]; refine FX.callL (r := (.bool _, [])) ok129_ 1000 rfl rfl ?_ rfl; ((repeat ((conv => lhs; whnf); simp only [go_sem, simprocAttr, sem129_])); try (conv => lhs; whnf); try rfl)
  by_cases e31 : o = 31
  · rw [e31]; refine FX.callL (r := (.bool _, [])) ok129_ 1000 rfl rfl ?_ rfl; ((repeat ((conv => lhs; whnf); simp only [go_sem, simprocAttr, sem129_])); try (conv => lhs; whnf); try rfl)
  by_cases e32 : o = 32
  · rw [e32]; refine FX.callL (r := (.bool _, [])) ok129_ 1000 rfl rfl ?_ rfl; ((repeat ((conv => lhs; whnf); simp only [go_sem, simprocAttr, sem129_])); try (conv => lhs; whnf); try rfl)
  by_cases e33 : o = 33
  · rw [e33]; refine FX.callL (r := (.bool _, [])) ok129_ 1000 rfl rfl ?_ rfl; ((repeat ((conv => lhs; whnf); simp only [go_sem, simprocAttr, sem129_])); try (conv => lhs; whnf); try rfl)
  omega
theorem call_named8_e (o : Int) (h : 34 ≤ o ∧ o ≤ 39) : callL Tryz.prog hints 129 [.int .i64 o] = some (.bool (hasName' o)) := by
  by_cases e34 : o = 34
  · rw [e34]; refine FX.callL (r := (.bool _, [])) ok129_ 1000 rfl rfl ?_ rfl; ((repeat ((conv => lhs; whnf); simp only [go_sem, simprocAttr, sem129_])); try (conv => lhs; whnf); try rfl)
  by_cases e35 : o = 35
  · rw [e35]; refine FX.callL (r := (.bool _, [])) ok129_ 1000 rfl rfl ?_ rfl; ((repeat ((conv => lhs; whnf); simp only [go_sem, simprocAttr, sem129_])); try (conv => lhs; whnf); try rfl)
  by_cases e36 : o = 36
  · rw [e36]; refine FX.callL (r := (.bool _, [])) ok129_ 1000 rfl rfl ?_ rfl; ((repeat ((conv => lhs; whnf); simp only [go_sem, simprocAttr, sem129_])); try (conv => lhs; whnf); try rfl)
  by_cases e37 : o = 37
  · rw [e37]; refine FX.callL (r := (.bool _, [])) ok129_ 1000 rfl rfl ?_ rfl; ((repeat ((conv => lhs; whnf); simp only [go_sem, simprocAttr, sem129_])); try (conv => lhs; whnf); try rfl)
  by_cases e38 : o = 38
  · rw [e38]; refine FX.callL (r := (.bool _, [])) ok129_ 1000 rfl rfl ?_ rfl; ((repeat ((conv => lhs; whnf); simp only [go_sem, simprocAttr, sem129_])); try (conv => lhs; whnf); try rfl)
  by_cases e39 : o = 39
  · rw [e39]; refine FX.callL (r := (.bool _, [])) ok129_ 1000 rfl rfl ?_ rfl; ((repeat ((conv => lhs; whnf); simp only [go_sem, simprocAttr, sem129_])); try (conv => lhs; whnf); try rfl)
  omega
theorem call_named8_f (o : Int) (h : 50 ≤ o ∧ o ≤ 56) : callL Tryz.prog hints 129 [.int .i64 o] = some (.bool (hasName' o)) := by
  by_cases e50 : o = 50
  · rw [e50]; refine FX.callL (r := (.bool _, [])) ok129_ 1000 rfl rfl ?_ rfl; ((repeat ((conv => lhs; whnf); simp only [go_sem, simprocAttr, sem129_])); try (conv => lhs; whnf); try rfl)
  by_cases e51 : o = 51
  · rw [e51]; refine FX.callL (r := (.bool _, [])) ok129_ 1000 rfl rfl ?_ rfl; ((repeat ((conv => lhs; whnf); simp only [go_sem, simprocAttr, sem129_])); try (conv => lhs; whnf); try rfl)
  by_cases e52 : o = 52
  · rw [e52]; refine FX.callL (r := (.bool _, [])) ok129_ 1000 rfl rfl ?_ rfl; ((repeat ((conv => lhs; whnf); simp only [go_sem, simprocAttr, sem129_])); try (conv => lhs; whnf); try rfl)
  by_cases e53 : o = 53
  · rw [e53]; refine FX.callL (r := (.bool _, [])) ok129_ 1000 rfl rfl ?_ rfl; ((repeat ((conv => lhs; whnf); simp only [go_sem, simprocAttr, sem129_])); try (conv => lhs; whnf); try rfl)
  by_cases e54 : o = 54
  · rw [e54]; refine FX.callL (r := (.bool _, [])) ok129_ 1000 rfl rfl ?_ rfl; ((repeat ((conv => lhs; whnf); simp only [go_sem, simprocAttr, sem129_])); try (conv => lhs; whnf); try rfl)
  by_cases e55 : o = 55
  · rw [e55]; refine FX.callL (r := (.bool _, [])) ok129_ 1000 rfl rfl ?_ rfl; ((repeat ((conv => lhs; whnf); simp only [go_sem, simprocAttr, sem129_])); try (conv => lhs; whnf); try rfl)
  by_cases e56 : o = 56
  · rw [e56]; refine FX.callL (r := (.bool _, [])) ok129_ 1000 rfl rfl ?_ rfl; ((repeat ((conv => lhs; whnf); simp only [go_sem, simprocAttr, sem129_])); try (conv => lhs; whnf); try rfl)
  omega
theorem call_named8_g (o : Int) (h : 57 ≤ o ∧ o ≤ 62) : callL Tryz.prog hints 129 [.int .i64 o] = some (.bool (hasName' o)) := by
  by_cases e57 : o = 57
  · rw [e57]; refine FX.callL (r := (.bool _, [])) ok129_ 1000 rfl rfl ?_ rfl; ((repeat ((conv => lhs; whnf); simp only [go_sem, simprocAttr, sem129_])); try (conv => lhs; whnf); try rfl)
  by_cases e58 : o = 58
  · rw [e58]; refine FX.callL (r := (.bool _, [])) ok129_ 1000 rfl rfl ?_ rfl; ((repeat ((conv => lhs; whnf); simp only [go_sem, simprocAttr, sem129_])); try (conv => lhs; whnf); try rfl)
  by_cases e59 : o = 59
  · rw [e59]; refine FX.callL (r := (.bool _, [])) ok129_ 1000 rfl rfl ?_ rfl; ((repeat ((conv => lhs; whnf); simp only [go_sem, simprocAttr, sem129_])); try (conv => lhs; whnf); try rfl)
  by_cases e60 : o = 60
  · rw [e60]; refine FX.callL (r := (.bool _, [])) ok129_ 1000 rfl rfl ?_ rfl; ((repeat ((conv => lhs; whnf); simp only [go_sem, simprocAttr, sem129_])); try (conv => lhs; whnf); try rfl)
  by_cases e61 : o = 61
  · rw [e61]; refine FX.callL (r := (.bool _, [])) ok129_ 1000 rfl rfl ?_ rfl; ((repeat ((conv => lhs; whnf); simp only [go_sem, simprocAttr, sem129_])); try (conv => lhs; whnf); try rfl)
  by_cases e62 : o = 62
  · rw [e62]; refine FX.callL (r := (.bool _, [])) ok129_ 1000 rfl rfl ?_ rfl; ((repeat ((conv => lhs; whnf); simp only [go_sem, simprocAttr, sem129_])); try (conv => lhs; whnf); try rfl)
  omega
theorem call_named8_n (o : Int) (h : (o < 1 ∨ 13 < o) ∧ (o < 20 ∨ 39 < o) ∧ (o < 50 ∨ 62 < o)) : callL Tryz.prog hints 129 [.int .i64 o] = some (.bool (hasName' o)) := by
  have e1 : ¬ o = 1 := by omega
  have e2 : ¬ o = 2 := by omega
  have e3 : ¬ o = 3 := by omega
  have e4 : ¬ o = 4 := by omega
  have e5 : ¬ o = 5 := by omega
  have e6 : ¬ o = 6 := by omega
  have e7 : ¬ o = 7 := by omega
  have e8 : ¬ o = 8 := by omega
  have e9 : ¬ o = 9 := by omega
  have e10 : ¬ o = 10 := by omega
  have e11 : ¬ o = 11 := by omega
  have e12 : ¬ o = 12 := by omega
  have e13 : ¬ o = 13 := by omega
  have e20 : ¬ o = 20 := by omega
  have e21 : ¬ o = 21 := by omega
  have e22 : ¬ o = 22 := by omega
  have e23 : ¬ o = 23 := by omega
  have e24 : ¬ o = 24 := by omega
  have e25 : ¬ o = 25 := by omega
  have e26 : ¬ o = 26 := by omega
  have e27 : ¬ o = 27 := by omega
  have e28 : ¬ o = 28 := by omega
  have e29 : ¬ o = 29 := by omega
  have e30 : ¬ o = 30 := by omega
  have e31 : ¬ o = 31 := by omega
  have e32 : ¬ o = 32 := by omega
  have e33 : ¬ o = 33 := by omega
  have e34 : ¬ o = 34 := by omega
  have e35 : ¬ o = 35 := by omega
  have e36 : ¬ o = 36 := by omega
  have e37 : ¬ o = 37 := by omega
  have e38 : ¬ o = 38 := by omega
  have e39 : ¬ o = 39 := by omega
  have e50 : ¬ o = 50 := by omega
  have e51 : ¬ o = 51 := by omega
  have e52 : ¬ o = 52 := by omega
  have e53 : ¬ o = 53 := by omega
  have e54 : ¬ o = 54 := by omega
  have e55 : ¬ o = 55 := by omega
  have e56 : ¬ o = 56 := by omega
  have e57 : ¬ o = 57 := by omega
  have e58 : ¬ o = 58 := by omega
  have e59 : ¬ o = 59 := by omega
  have e60 : ¬ o = 60 := by omega
  have e61 : ¬ o = 61 := by omega
  have e62 : ¬ o = 62 := by omega
  clear h
  rw [hasName'_no ⟨e2, e3, e10, e11, e33, e34, e37, e38, e50, e51, e52, e55, e56, e61, e62⟩]
  refine FX.callL (r := (.bool false, [])) ok129_ 1000 rfl rfl ?_ rfl; ((repeat ((conv => lhs; whnf); simp only [go_sem, simprocAttr, sem129_, e1, e2, e3, e4, e5, e6, e7, e8, e9, e10, e11, e12, e13, e20, e21, e22, e23, e24, e25, e26, e27, e28, e29, e30, e31, e32, e33, e34, e35, e36, e37, e38, e39, e50, e51, e52, e53, e54, e55, e56, e57, e58, e59, e60, e61, e62])); try (conv => lhs; whnf); try rfl)
theorem call_named8 (o : Int) : callL Tryz.prog hints 129 [.int .i64 o] = some (.bool (hasName' o)) := by
  by_cases ha : 1 ≤ o ∧ o ≤ 7
  · exact call_named8_a o ha
  by_cases hb : 8 ≤ o ∧ o ≤ 13
  · exact call_named8_b o hb
  by_cases hc : 20 ≤ o ∧ o ≤ 26
  · exact call_named8_c o hc
  by_cases hd : 27 ≤ o ∧ o ≤ 33
  · exact call_named8_d o hd
  by_cases he : 34 ≤ o ∧ o ≤ 39
  · exact call_named8_e o he
  by_cases hf : 50 ≤ o ∧ o ≤ 56
  · exact call_named8_f o hf
  by_cases hg : 57 ≤ o ∧ o ≤ 62
  · exact call_named8_g o hg
  exact call_named8_n o (by omega)
theorem named8_o (S : Store) (o : Int) : callO (callL Tryz.prog hints) S 129 [.int .i64 o] = some { v := .bool (hasName' o) } := callO_plain (call_named8 o) (by simp [Plain.int])
noncomputable def fx132_ : FX := ⟨Tryz.f132, hints.of 132, []⟩
theorem ok132_ : fx132_.ok 132 := ⟨by kernel_rfl, of_decide_eq_true (by kernel_rfl), by kernel_rfl, by kernel_rfl, by kernel_rfl, by kernel_rfl⟩
theorem sem132_ (b0 : Nat) (m : Md) (fs : List Fr) (e : Env) (S : Store) : sem b0 fx132_ m fs e S = run b0 fx132_ 1000 m fs e S := (sem_eq _ _ _ _ _ _).trans (run_sem b0 fx132_ ok132_.good 1000 m fs e S).symm
theorem call_kids8_a (o : Int) (h : 1 ≤ o ∧ o ≤ 7) : callL Tryz.prog hints 132 [.int .i64 o] = some (.str (digits (kidSorts o))) := by
  by_cases e1 : o = 1
  · rw [e1]; refine FX.callL (r := (.str _, [])) ok132_ 1000 rfl rfl ?_ rfl; ((repeat ((conv => lhs; whnf); simp only [go_sem, simprocAttr, sem132_])); try (conv => lhs; whnf); try rfl)
  by_cases e2 : o = 2
  · rw [e2]; refine FX.callL (r := (.str _, [])) ok132_ 1000 rfl rfl ?_ rfl; ((repeat ((conv => lhs; whnf); simp only [go_sem, simprocAttr, sem132_])); try (conv => lhs; whnf); try rfl)
  by_cases e3 : o = 3
  · rw [e3]; refine FX.callL (r := (.str _, [])) ok132_ 1000 rfl rfl ?_ rfl; ((repeat ((conv => lhs; whnf); simp only [go_sem, simprocAttr, sem132_])); try (conv => lhs; whnf); try rfl)
  by_cases e4 : o = 4
  · rw [e4]; refine FX.callL (r := (.str _, [])) ok132_ 1000 rfl rfl ?_ rfl; ((repeat ((conv => lhs; whnf); simp only [go_sem, simprocAttr, sem132_])); try (conv => lhs; whnf); try rfl)
  by_cases e5 : o = 5
  · rw [e5]; refine FX.callL (r := (.str _, [])) ok132_ 1000 rfl rfl ?_ rfl; ((repeat ((conv => lhs; whnf); simp only [go_sem, simprocAttr, sem132_])); try (conv => lhs; whnf); try rfl)
  by_cases e6 : o = 6
  · rw [e6]; refine FX.callL (r := (.str _, [])) ok132_ 1000 rfl rfl ?_ rfl; ((repeat ((conv => lhs; whnf); simp only [go_sem, simprocAttr, sem132_])); try (conv => lhs; whnf); try rfl)
  by_cases e7 : o = 7
  · rw [e7]; refine FX.callL (r := (.str _, [])) ok132_ 1000 rfl rfl ?_ rfl; ((repeat ((conv => lhs; whnf); simp only [go_sem, simprocAttr, sem132_])); try (conv => lhs; whnf); try rfl)
  omega
theorem call_kids8_b (o : Int) (h : 8 ≤ o ∧ o ≤ 13) : callL Tryz.prog hints 132 [.int .i64 o] = some (.str (digits (kidSorts o))) := by
  by_cases e8 : o = 8
  · rw [e8]; refine FX.callL (r := (.str _, [])) ok132_ 1000 rfl rfl ?_ rfl; ((repeat ((conv => lhs; whnf); simp only [go_sem, simprocAttr, sem132_])); try (conv => lhs; whnf); try rfl)
  by_cases e9 : o = 9
  · rw [e9]; refine FX.callL (r := (.str _, [])) ok132_ 1000 rfl rfl ?_ rfl; ((repeat ((conv => lhs; whnf); simp only [go_sem, simprocAttr, sem132_])); try (conv => lhs; whnf); try rfl)
  by_cases e10 : o = 10
  · rw [e10]; refine FX.callL (r := (.str _, [])) ok132_ 1000 rfl rfl ?_ rfl; ((repeat ((conv => lhs; whnf); simp only [go_sem, simprocAttr, sem132_])); try (conv => lhs; whnf); try rfl)
  by_cases e11 : o = 11
  · rw [e11]; refine FX.callL (r := (.str _, [])) ok132_ 1000 rfl rfl ?_ rfl; ((repeat ((conv => lhs; whnf); simp only [go_sem, simprocAttr, sem132_])); try (conv => lhs; whnf); try rfl)
  by_cases e12 : o = 12
  · rw [e12]; refine FX.callL (r := (.str _, [])) ok132_ 1000 rfl rfl ?_ rfl; ((repeat ((conv => lhs; whnf); simp only [go_sem, simprocAttr, sem132_])); try (conv => lhs; whnf); try rfl)
  by_cases e13 : o = 13
  · rw [e13]; refine FX.callL (r := (.str _, [])) ok132_ 1000 rfl rfl ?_ rfl; ((repeat ((conv => lhs; whnf); simp only [go_sem, simprocAttr, sem132_])); try (conv => lhs; whnf); try rfl)
  omega
theorem call_kids8_c (o : Int) (h : 20 ≤ o ∧ o ≤ 26) : callL Tryz.prog hints 132 [.int .i64 o] = some (.str (digits (kidSorts o))) := by
  by_cases e20 : o = 20
  · rw [e20]; refine FX.callL (r := (.str _, [])) ok132_ 1000 rfl rfl ?_ rfl; ((repeat ((conv => lhs; whnf); simp only [go_sem, simprocAttr, sem132_])); try (conv => lhs; whnf); try rfl)
  by_cases e21 : o = 21
  · rw [e21]; refine FX.callL (r := (.str _, [])) ok132_ 1000 rfl rfl ?_ rfl; ((repeat ((conv => lhs; whnf); simp only [go_sem, simprocAttr, sem132_])); try (conv => lhs; whnf); try rfl)
  by_cases e22 : o = 22
  · rw [e22]; refine FX.callL (r := (.str _, [])) ok132_ 1000 rfl rfl ?_ rfl; ((repeat ((conv => lhs; whnf); simp only [go_sem, simprocAttr, sem132_])); try (conv => lhs; whnf); try rfl)
  by_cases e23 : o = 23
  · rw [e23]; refine FX.callL (r := (.str _, [])) ok132_ 1000 rfl rfl ?_ rfl; ((repeat ((conv => lhs; whnf); simp only [go_sem, simprocAttr, sem132_])); try (conv => lhs; whnf); try rfl)
  by_cases e24 : o = 24
  · rw [e24]; refine FX.callL (r := (.str _, [])) ok132_ 1000 rfl rfl ?_ rfl; ((repeat ((conv => lhs; whnf); simp only [go_sem, simprocAttr, sem132_])); try (conv => lhs; whnf); try rfl)
  by_cases e25 : o = 25
  · rw [e25]; refine FX.callL (r := (.str _, [])) ok132_ 1000 rfl rfl ?_ rfl; ((repeat ((conv => lhs; whnf); simp only [go_sem, simprocAttr, sem132_])); try (conv => lhs; whnf); try rfl)
  by_cases e26 : o = 26
  · rw [e26]; refine FX.callL (r := (.str _, [])) ok132_ 1000 rfl rfl ?_ rfl; ((repeat ((conv => lhs; whnf); simp only [go_sem, simprocAttr, sem132_])); try (conv => lhs; whnf); try rfl)
  omega
theorem call_kids8_d (o : Int) (h : 27 ≤ o ∧ o ≤ 33) : callL Tryz.prog hints 132 [.int .i64 o] = some (.str (digits (kidSorts o))) := by
  by_cases e27 : o = 27
  · rw [e27]; refine FX.callL (r := (.str _, [])) ok132_ 1000 rfl rfl ?_ rfl; ((repeat ((conv => lhs; whnf); simp only [go_sem, simprocAttr, sem132_])); try (conv => lhs; whnf); try rfl)
  by_cases e28 : o = 28
  · rw [e28]; refine FX.callL (r := (.str _, [])) ok132_ 1000 rfl rfl ?_ rfl; ((repeat ((conv => lhs; whnf); simp only [go_sem, simprocAttr, sem132_])); try (conv => lhs; whnf); try rfl)
  by_cases e29 : o = 29
  · rw [e29]; refine FX.callL (r := (.str _, [])) ok132_ 1000 rfl rfl ?_ rfl; ((repeat ((conv => lhs; whnf); simp only [go_sem, simprocAttr, sem132_])); try (conv => lhs; whnf); try rfl)
  by_cases e30 : o = 30
  · rw [e30]; refine FX.callL (r := (.str _, [])) ok132_ 1000 rfl rfl ?_ rfl; ((repeat ((conv => lhs; whnf); simp only [go_sem, simprocAttr, sem132_])); try (conv => lhs; whnf); try rfl)
  by_cases e31 : o = 31
  · rw [e31]; refine FX.callL (r := (.str _, [])) ok132_ 1000 rfl rfl ?_ rfl; ((repeat ((conv => lhs; whnf); simp only [go_sem, simprocAttr, sem132_])); try (conv => lhs; whnf); try rfl)
  by_cases e32 : o = 32
  · rw [e32]; refine FX.callL (r := (.str _, [])) ok132_ 1000 rfl rfl ?_ rfl; ((repeat ((conv => lhs; whnf); simp only [go_sem, simprocAttr, sem132_])); try (conv => lhs; whnf); try rfl)
  by_cases e33 : o = 33
  · rw [e33]; refine FX.callL (r := (.str _, [])) ok132_ 1000 rfl rfl ?_ rfl; ((repeat ((conv => lhs; whnf); simp only [go_sem, simprocAttr, sem132_])); try (conv => lhs; whnf); try rfl)
  omega
theorem call_kids8_e (o : Int) (h : 34 ≤ o ∧ o ≤ 39) : callL Tryz.prog hints 132 [.int .i64 o] = some (.str (digits (kidSorts o))) := by
  by_cases e34 : o = 34
  · rw [e34]; refine FX.callL (r := (.str _, [])) ok132_ 1000 rfl rfl ?_ rfl; ((repeat ((conv => lhs; whnf); simp only [go_sem, simprocAttr, sem132_])); try (conv => lhs; whnf); try rfl)
  by_cases e35 : o = 35
  · rw [e35]; refine FX.callL (r := (.str _, [])) ok132_ 1000 rfl rfl ?_ rfl; ((repeat ((conv => lhs; whnf); simp only [go_sem, simprocAttr, sem132_])); try (conv => lhs; whnf); try rfl)
  by_cases e36 : o = 36
  · rw [e36]; refine FX.callL (r := (.str _, [])) ok132_ 1000 rfl rfl ?_ rfl; ((repeat ((conv => lhs; whnf); simp only [go_sem, simprocAttr, sem132_])); try (conv => lhs; whnf); try rfl)
  by_cases e37 : o = 37
  · rw [e37]; refine FX.callL (r := (.str _, [])) ok132_ 1000 rfl rfl ?_ rfl; ((repeat ((conv => lhs; whnf); simp only [go_sem, simprocAttr, sem132_])); try (conv => lhs; whnf); try rfl)
  by_cases e38 : o = 38
  · rw [e38]; refine FX.callL (r := (.str _, [])) ok132_ 1000 rfl rfl ?_ rfl; ((repeat ((conv => lhs; whnf); simp only [go_sem, simprocAttr, sem132_])); try (conv => lhs; whnf); try rfl)
  by_cases e39 : o = 39
  · rw [e39]; refine FX.callL (r := (.str _, [])) ok132_ 1000 rfl rfl ?_ rfl; ((repeat ((conv => lhs; whnf); simp only [go_sem, simprocAttr, sem132_])); try (conv => lhs; whnf); try rfl)
  omega
theorem call_kids8_f (o : Int) (h : 50 ≤ o ∧ o ≤ 56) : callL Tryz.prog hints 132 [.int .i64 o] = some (.str (digits (kidSorts o))) := by
  by_cases e50 : o = 50
  · rw [e50]; refine FX.callL (r := (.str _, [])) ok132_ 1000 rfl rfl ?_ rfl; ((repeat ((conv => lhs; whnf); simp only [go_sem, simprocAttr, sem132_])); try (conv => lhs; whnf); try rfl)
  by_cases e51 : o = 51
  · rw [e51]; refine FX.callL (r := (.str _, [])) ok132_ 1000 rfl rfl ?_ rfl; ((repeat ((conv => lhs; whnf); simp only [go_sem, simprocAttr, sem132_])); try (conv => lhs; whnf); try rfl)
  by_cases e52 : o = 52
  · rw [e52]; refine FX.callL (r := (.str _, [])) ok132_ 1000 rfl rfl ?_ rfl; ((repeat ((conv => lhs; whnf); simp only [go_sem, simprocAttr, sem132_])); try (conv => lhs; whnf); try rfl)
  by_cases e53 : o = 53
  · rw [e53]; refine FX.callL (r := (.str _, [])) ok132_ 1000 rfl rfl ?_ rfl; ((repeat ((conv => lhs; whnf); simp only [go_sem, simprocAttr, sem132_])); try (conv => lhs; whnf); try rfl)
  by_cases e54 : o = 54
  · rw [e54]; refine FX.callL (r := (.str _, [])) ok132_ 1000 rfl rfl ?_ rfl; ((repeat ((conv => lhs; whnf); simp only [go_sem, simprocAttr, sem132_])); try (conv => lhs; whnf); try rfl)
  by_cases e55 : o = 55
  · rw [e55]; refine FX.callL (r := (.str _, [])) ok132_ 1000 rfl rfl ?_ rfl; ((repeat ((conv => lhs; whnf); simp only [go_sem, simprocAttr, sem132_])); try (conv => lhs; whnf); try rfl)
  by_cases e56 : o = 56
  · rw [e56]; refine FX.callL (r := (.str _, [])) ok132_ 1000 rfl rfl ?_ rfl; ((repeat ((conv => lhs; whnf); simp only [go_sem, simprocAttr, sem132_])); try (conv => lhs; whnf); try rfl)
  omega
theorem call_kids8_g (o : Int) (h : 57 ≤ o ∧ o ≤ 62) : callL Tryz.prog hints 132 [.int .i64 o] = some (.str (digits (kidSorts o))) := by
  by_cases e57 : o = 57
  · rw [e57]; refine FX.callL (r := (.str _, [])) ok132_ 1000 rfl rfl ?_ rfl; ((repeat ((conv => lhs; whnf); simp only [go_sem, simprocAttr, sem132_])); try (conv => lhs; whnf); try rfl)
  by_cases e58 : o = 58
  · rw [e58]; refine FX.callL (r := (.str _, [])) ok132_ 1000 rfl rfl ?_ rfl; ((repeat ((conv => lhs; whnf); simp only [go_sem, simprocAttr, sem132_])); try (conv => lhs; whnf); try rfl)
  by_cases e59 : o = 59
  · rw [e59]; refine FX.callL (r := (.str _, [])) ok132_ 1000 rfl rfl ?_ rfl; ((repeat ((conv => lhs; whnf); simp only [go_sem, simprocAttr, sem132_])); try (conv => lhs; whnf); try rfl)
  by_cases e60 : o = 60
  · rw [e60]; refine FX.callL (r := (.str _, [])) ok132_ 1000 rfl rfl ?_ rfl; ((repeat ((conv => lhs; whnf); simp only [go_sem, simprocAttr, sem132_])); try (conv => lhs; whnf); try rfl)
  by_cases e61 : o = 61
  · rw [e61]; refine FX.callL (r := (.str _, [])) ok132_ 1000 rfl rfl ?_ rfl; ((repeat ((conv => lhs; whnf); simp only [go_sem, simprocAttr, sem132_])); try (conv => lhs; whnf); try rfl)
  by_cases e62 : o = 62
  · rw [e62]; refine FX.callL (r := (.str _, [])) ok132_ 1000 rfl rfl ?_ rfl; ((repeat ((conv => lhs; whnf); simp only [go_sem, simprocAttr, sem132_])); try (conv => lhs; whnf); try rfl)
  omega
theorem call_kids8_n (o : Int) (h : (o < 1 ∨ 13 < o) ∧ (o < 20 ∨ 39 < o) ∧ (o < 50 ∨ 62 < o)) : callL Tryz.prog hints 132 [.int .i64 o] = some (.str (digits (kidSorts o))) := by
  have e1 : ¬ o = 1 := by omega
  have e2 : ¬ o = 2 := by omega
  have e3 : ¬ o = 3 := by omega
  have e4 : ¬ o = 4 := by omega
  have e5 : ¬ o = 5 := by omega
  have e6 : ¬ o = 6 := by omega
  have e7 : ¬ o = 7 := by omega
  have e8 : ¬ o = 8 := by omega
  have e9 : ¬ o = 9 := by omega
  have e10 : ¬ o = 10 := by omega
  have e11 : ¬ o = 11 := by omega
  have e12 : ¬ o = 12 := by omega
  have e13 : ¬ o = 13 := by omega
  have e20 : ¬ o = 20 := by omega
  have e21 : ¬ o = 21 := by omega
  have e22 : ¬ o = 22 := by omega
  have e23 : ¬ o = 23 := by omega
  have e24 : ¬ o = 24 := by omega
  have e25 : ¬ o = 25 := by omega
  have e26 : ¬ o = 26 := by omega
  have e27 : ¬ o = 27 := by omega
  have e28 : ¬ o = 28 := by omega
  have e29 : ¬ o = 29 := by omega
  have e30 : ¬ o = 30 := by omega
  have e31 : ¬ o = 31 := by omega
  have e32 : ¬ o = 32 := by omega
  have e33 : ¬ o = 33 := by omega
  have e34 : ¬ o = 34 := by omega
  have e35 : ¬ o = 35 := by omega
  have e36 : ¬ o = 36 := by omega
  have e37 : ¬ o = 37 := by omega
  have e38 : ¬ o = 38 := by omega
  have e39 : ¬ o = 39 := by omega
  have e50 : ¬ o = 50 := by omega
  have e51 : ¬ o = 51 := by omega
  have e52 : ¬ o = 52 := by omega
  have e53 : ¬ o = 53 := by omega
  have e54 : ¬ o = 54 := by omega
  have e55 : ¬ o = 55 := by omega
  have e56 : ¬ o = 56 := by omega
  have e57 : ¬ o = 57 := by omega
  have e58 : ¬ o = 58 := by omega
  have e59 : ¬ o = 59 := by omega
  have e60 : ¬ o = 60 := by omega
  have e61 : ¬ o = 61 := by omega
  have e62 : ¬ o = 62 := by omega
  clear h
  have hk : kidSorts o = [] := kidSorts_none ⟨e4, e12, e59, e60, e53, e28, e39⟩ ⟨by omega, by omega, by omega⟩ ⟨by omega, e55, e57, e58⟩
  rw [hk]
  refine FX.callL (r := (.str _, [])) ok132_ 1000 rfl rfl ?_ rfl; ((repeat ((conv => lhs; whnf); simp only [go_sem, simprocAttr, sem132_, e1, e2, e3, e4, e5, e6, e7, e8, e9, e10, e11, e12, e13, e20, e21, e22, e23, e24, e25, e26, e27, e28, e29, e30, e31, e32, e33, e34, e35, e36, e37, e38, e39, e50, e51, e52, e53, e54, e55, e56, e57, e58, e59, e60, e61, e62])); try (conv => lhs; whnf); try rfl)
theorem call_kids8 (o : Int) : callL Tryz.prog hints 132 [.int .i64 o] = some (.str (digits (kidSorts o))) := by
  by_cases ha : 1 ≤ o ∧ o ≤ 7
  · exact call_kids8_a o ha
  by_cases hb : 8 ≤ o ∧ o ≤ 13
  · exact call_kids8_b o hb
  by_cases hc : 20 ≤ o ∧ o ≤ 26
  · exact call_kids8_c o hc
  by_cases hd : 27 ≤ o ∧ o ≤ 33
  · exact call_kids8_d o hd
  by_cases he : 34 ≤ o ∧ o ≤ 39
  · exact call_kids8_e o he
  by_cases hf : 50 ≤ o ∧ o ≤ 56
  · exact call_kids8_f o hf
  by_cases hg : 57 ≤ o ∧ o ≤ 62
  · exact call_kids8_g o hg
  exact call_kids8_n o (by omega)
theorem kids8_o (S : Store) (o : Int) : callO (callL Tryz.prog hints) S 132 [.int .i64 o] = some { v := .str (digits (kidSorts o)) } := callO_plain (call_kids8 o) (by simp [Plain.int])
end
end Go.Vs
end
