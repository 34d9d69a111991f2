
import Derived.Test.YtkaeejkajfinhaaGreatMI13
import Derived.Test.YtkaeejkajfinhaaGreatMI17
section
set_option linter.unusedVariables false
set_option linter.unusedSimpArgs false
set_option maxRecDepth 100000
namespace Go.Vs
open Go Go.Proofs
def Trimmed (L : List Int) : Prop := L = [] ∨ L.getD (L.length - 1) 0 ≠ 0
instance (L : List Int) : Decidable (Trimmed L) := inferInstanceAs (Decidable (_ ∨ _))
theorem d_Rat : (tyi Tryz.prog 27).d = .struct [(0, 1, false), (1, 1, false), (2, 1, false)] := by kernel_rfl
@[go_sem] theorem size_Rat : (tyi Tryz.prog 27).size = 3 := nr (by kernel_rfl)
@[go_sem] theorem known_Rat : (tyi Tryz.prog 27).known = true := nr (by kernel_rfl)
@[go_sem] theorem zero_Rat : (tyi Tryz.prog 27).zero = some [.bool false, .sl [] true, .sl [] true] := nr (by kernel_rfl)
theorem known_bool : (tyi Tryz.prog 4).known = true := by kernel_rfl
theorem d_bool : (tyi Tryz.prog 4).d = .bool := by kernel_rfl
theorem known_us : (tyi Tryz.prog 25).known = true := by kernel_rfl
@[go_sem] theorem part_us (v : PV) (r : List PV) : part (tyi Tryz.prog 25) (v :: r) = some v := by simp [part, known_us, TI.isAgg, sl_us.d]
@[go_sem] theorem part_bool (v : PV) (r : List PV) : part (tyi Tryz.prog 4) (v :: r) = some v := by simp [part, known_bool, TI.isAgg, d_bool]
@[go_sem] theorem part_Rat (a b c : PV) (r : List PV) : part (tyi Tryz.prog 27) (a :: b :: c :: r) = some (.agg [a, b, c]) := by simp [part, known_Rat, TI.isAgg, d_Rat, size_Rat]
@[go_sem] theorem faRat_0 (id i off : Nat) : evFieldAddr (tyi Tryz.prog 27) 0 (.mp id i off) = some (.mp id i off) := by simp [evFieldAddr, d_Rat]
@[go_sem] theorem faRat_1 (id i off : Nat) : evFieldAddr (tyi Tryz.prog 27) 1 (.mp id i off) = some (.mp id i (off + 1)) := by simp [evFieldAddr, d_Rat]
@[go_sem] theorem faRat_2 (id i off : Nat) : evFieldAddr (tyi Tryz.prog 27) 2 (.mp id i off) = some (.mp id i (off + 2)) := by simp [evFieldAddr, d_Rat]
@[go_sem] theorem fcRat_0 (r : List PV) : evFieldAddr (tyi Tryz.prog 27) 0 (.cp r) = some (.cp r) := by simp [evFieldAddr, d_Rat]
@[go_sem] theorem fcRat_1 (r : List PV) : evFieldAddr (tyi Tryz.prog 27) 1 (.cp r) = some (.cp (r.drop 1)) := by simp [evFieldAddr, d_Rat]
@[go_sem] theorem fcRat_2 (r : List PV) : evFieldAddr (tyi Tryz.prog 27) 2 (.cp r) = some (.cp (r.drop 2)) := by simp [evFieldAddr, d_Rat]
section
attribute [local irreducible] Vs.callL Vs.callRL tyi callO callM callMV appendE storeE evLoad indexAddrO sliceO evFieldAddr evField buildO buildSliceO makeSliceO allocO boxed lenO copyE convertO indexO Vs.gc freezeAll
noncomputable def fx171_ : FX := ⟨Tryz.f171, hints.of 171, []⟩
theorem ok171_ : fx171_.ok 171 := ⟨by kernel_rfl, of_decide_eq_true (by kernel_rfl), by kernel_rfl, by kernel_rfl, by kernel_rfl, by kernel_rfl⟩
theorem sem171_ (b0 : Nat) (m : Md) (fs : List Fr) (e : Env) (S : Store) : sem b0 fx171_ m fs e S = run b0 fx171_ 1000 m fs e S := (sem_eq _ _ _ _ _ _).trans (run_sem b0 fx171_ ok171_.good 1000 m fs e S).symm
theorem call_valid (L : List Int) (e : Bool) (hl : L.length ≤ 9223372036854775807) (w : Int) : callL Tryz.prog hints 171 [.sl (kRows .u32 L) e, .int .i64 w] = some (.bool (decide (L.length ≤ w) && decide (Trimmed L))) := by
  refine FX.callL (r := (.bool (decide (L.length ≤ w) && decide (Trimmed L)), [])) ok171_ 1000 rfl rfl ?_ rfl
  by_cases c1 : (L.length : Int) ≤ w
  · by_cases c2 : L = []
    · subst c2
      have ht : Trimmed [] := .inl rfl
      have c1' : ((0 : Nat) : Int) ≤ w := c1
      have c1'' : (0 : Int) ≤ w := c1
      simp only [c1, ht, decide_true, Bool.and_self]
      ((repeat ((conv => lhs; whnf); simp only [go_sem, simprocAttr, sem171_, c1, c1', c1'', List.length_nil])); try (conv => lhs; whnf); try rfl)
    · have l0 : L.length ≠ 0 := fun h => c2 (List.eq_nil_of_length_eq_zero h)
      have l0' : ¬ (L.length : Int) = 0 := by omega
      have wl : IntKind.i64.wrap ((L.length : Int) - 1) = ((L.length - 1 : Nat) : Int) := by rw [IntKind.wrap_i64]; omega
      have xl : 0 ≤ ((L.length - 1 : Nat) : Int) ∧ ((L.length - 1 : Nat) : Int) < L.length := ⟨by omega, by omega⟩
      by_cases c3 : L.getD (L.length - 1) 0 = 0
      · have ht : ¬ Trimmed L := fun h => by
          rcases h with h | h
          · exact c2 h
          · exact h c3
        simp only [c1, ht, decide_true, decide_false, Bool.and_false]
        ((repeat ((conv => lhs; whnf); simp only [go_sem, simprocAttr, sem171_, c1, l0, l0', wl, xl, Int.toNat_natCast, c3])); try (conv => lhs; whnf); try rfl)
      · have ht : Trimmed L := .inr c3
        simp only [c1, ht, decide_true, Bool.and_self]
        ((repeat ((conv => lhs; whnf); simp only [go_sem, simprocAttr, sem171_, c1, l0, l0', wl, xl, Int.toNat_natCast, c3])); try (conv => lhs; whnf); try rfl)
  · simp only [c1, decide_false, Bool.false_and]
    ((repeat ((conv => lhs; whnf); simp only [go_sem, simprocAttr, sem171_, c1])); try (conv => lhs; whnf); try rfl)
end
def nv (L : List Int) : Nat := (valD WB L).toNat
theorem Trimmed.words {L : List Int} (h : Trimmed L) (ho : OkD WB L) : L = Vs.words (nv L) := by
  unfold Vs.words nv
  refine digs_of WB2 ho ?_
  intro x r e
  rcases h with h | h
  · rw [h] at e
    have := congrArg List.length e
    simp at this
  · rw [e] at h
    intro h0
    apply h
    simp [List.getD_eq_getElem?_getD, h0]
def validR (neg : Bool) (N D : List Int) (w : Int) : Bool :=
  (decide (N.length ≤ w) && decide (Trimmed N)) && (decide (D.length ≤ w) && decide (Trimmed D)) && !decide (D.length = 0) &&
  (if N.length = 0 then !neg && decide (D = [1]) else decide (Nat.gcd (nv N) (nv D) = 1))
theorem one_iff {D : List Int} (h : D.length = 1) : D = [1] ↔ D.getD 0 0 = 1 := by
  obtain ⟨x, rfl⟩ := List.length_eq_one_iff.1 h
  simp [List.getD_eq_getElem?_getD]
theorem words1 : words 1 = [1] := by
  unfold words
  rw [digs_pos WB2 (by decide)]
  have : 1 / WB = 0 := by decide
  rw [this, digs_zero]
  decide
theorem plain_sl {L : List Int} {e : Bool} (h : e = true → L = []) : Plain (.sl (kRows .u32 L) e) := by
  cases e with
  | false => exact Plain.sl _
  | true => rw [h rfl]; exact Plain.nil
theorem isMag_sl {L : List Int} {e : Bool} (h : e = true → L = []) (ht : Trimmed L) (ho : OkD WB L) : IsMag (nv L) (.sl (kRows .u32 L) e) := by
  cases e with
  | false => left; unfold magV; rw [← ht.words ho]
  | true =>
    have := h rfl
    subst this
    right; exact ⟨rfl, rfl⟩
theorem one_len : ([1] : List Int).length = 1 := rfl
theorem one_len' : ((([1] : List Int).length : Nat) : Int) = 1 := rfl
theorem one_get : ([1] : List Int).getD 0 0 = 1 := rfl
def ratL (neg : Bool) (N D : List Int) : PV := .agg [.bool neg, .sl (kRows .u32 N) false, .sl (kRows .u32 D) false]
theorem ratL_plain (neg : Bool) (N D : List Int) : Plain (ratL neg N D) := ⟨rfl, fun _ => rfl⟩
def Fz (a a' : PV) : Prop := a.refs = [] ∧ ∀ S, fzPV S a = some a'
theorem Plain.fz {a : PV} (h : Plain a) : Fz a a := h
theorem Fz.rat (neg : Bool) (N D : List (List PV)) (e1 e2 : Bool) : Fz (.agg [.bool neg, .sl N e1, .sl D e2]) (.agg [.bool neg, .sl N false, .sl D false]) := ⟨rfl, fun _ => rfl⟩
theorem callO_fz2 {S : Store} {f : FuncId} {a a' b b' v : PV} (h : callL Tryz.prog hints f [a', b'] = some v) (fa : Fz a a') (fb : Fz b b') : callO (callL Tryz.prog hints) S f [a, b] = some { v } := by
  simp [callO, List.flatMap_cons, fa.1, fb.1, reach_nil, mapO, fa.2, fb.2, h]
theorem callO_fz3 {S : Store} {f : FuncId} {a a' b b' c c' v : PV} (h : callL Tryz.prog hints f [a', b', c'] = some v) (fa : Fz a a') (fb : Fz b b') (fc : Fz c c') : callO (callL Tryz.prog hints) S f [a, b, c] = some { v } := by
  simp [callO, List.flatMap_cons, fa.1, fb.1, fc.1, reach_nil, mapO, fa.2, fb.2, fc.2, h]
section
attribute [local irreducible] Vs.callL Vs.callRL tyi callO callM callMV appendE storeE evLoad indexAddrO sliceO evFieldAddr evField buildO buildSliceO makeSliceO allocO boxed lenO copyE convertO indexO Vs.gc freezeAll
noncomputable def fx147_ : FX := ⟨Tryz.f147, hints.of 147, []⟩
theorem ok147_ : fx147_.ok 147 := ⟨by kernel_rfl, of_decide_eq_true (by kernel_rfl), by kernel_rfl, by kernel_rfl, by kernel_rfl, by kernel_rfl⟩
theorem sem147_ (b0 : Nat) (m : Md) (fs : List Fr) (e : Env) (S : Store) : sem b0 fx147_ m fs e S = run b0 fx147_ 1000 m fs e S := (sem_eq _ _ _ _ _ _).trans (run_sem b0 fx147_ ok147_.good 1000 m fs e S).symm
theorem call_num_Valid (neg : Bool) (N D : List Int) (e1 e2 : Bool) (hN : OkD WB N) (hD : OkD WB D) (w : Int) (hw : w ≤ 900000) (lN : N.length ≤ 9223372036854775807) (lD : D.length ≤ 9223372036854775807) (f1 : e1 = true → N = []) (f2 : e2 = true → D = []) : callL Tryz.prog hints 147 [.agg [.bool neg, .sl (kRows .u32 N) e1, .sl (kRows .u32 D) e2], .int .i64 w] = some (.bool (validR neg N D w)) := by
  have p1 := plain_sl f1
  have p2 := plain_sl f2
  have v1 := fun S => callO_plain (S := S) (call_valid N e1 lN w) (by simp [p1, Plain.int])
  have v2 := fun S => callO_plain (S := S) (call_valid D e2 lD w) (by simp [p2, Plain.int])
  refine FX.callL (r := (.bool (validR neg N D w), [.arr [[.bool neg, .sl (kRows .u32 N) e1, .sl (kRows .u32 D) e2]] none false])) ok147_ 1000 rfl rfl ?_ rfl
  unfold validR
  by_cases b1 : (decide ((N.length : Int) ≤ w) && decide (Trimmed N)) = true
  · rw [b1] at v1 ⊢
    by_cases b2 : (decide ((D.length : Int) ≤ w) && decide (Trimmed D)) = true
    · rw [b2] at v2 ⊢
      simp only [Bool.and_eq_true, decide_eq_true_eq] at b1 b2
      by_cases d0 : D.length = 0
      · simp only [d0, decide_true, Bool.not_true, Bool.and_false, Bool.false_and]
        have d0' : (D.length : Int) = 0 := by omega
        ((repeat ((conv => lhs; whnf); simp only [go_sem, simprocAttr, sem147_, v1, v2, d0, d0'])); try (conv => lhs; whnf); try rfl)
      · have d0' : ¬ (D.length : Int) = 0 := by omega
        simp only [d0, decide_false, Bool.not_false, Bool.and_true, Bool.true_and]
        by_cases n0 : N.length = 0
        · have n0' : (N.length : Int) = 0 := by omega
          rw [if_pos n0]
          cases neg with
          | true => ((repeat ((conv => lhs; whnf); simp only [go_sem, simprocAttr, sem147_, v1, v2, d0, d0', n0, n0', Bool.not_true, Bool.false_and])); try (conv => lhs; whnf); try rfl)
          | false =>
            by_cases d1 : D.length = 1
            · have d1' : (D.length : Int) = 1 := by omega
              by_cases g : D.getD 0 0 = 1
              · have e : D = [1] := (one_iff d1).2 g
                have e' : decide (D = [1]) = true := decide_eq_true e
                rw [e']
                ((repeat ((conv => lhs; whnf); simp only [go_sem, simprocAttr, sem147_, v1, v2, d0, d0', n0, n0', d1, d1', g, Bool.not_false, Bool.and_true])); try (conv => lhs; whnf); try rfl)
              · have e : ¬ D = [1] := fun h => g ((one_iff d1).1 h)
                have e' : decide (D = [1]) = false := decide_eq_false e
                rw [e']
                ((repeat ((conv => lhs; whnf); simp only [go_sem, simprocAttr, sem147_, v1, v2, d0, d0', n0, n0', d1, d1', g, Bool.not_false, Bool.and_false])); try (conv => lhs; whnf); try rfl)
            · have d1' : ¬ (D.length : Int) = 1 := by omega
              have e' : decide (D = [1]) = false := decide_eq_false (fun h => d1 (by rw [h]; rfl))
              rw [e']
              ((repeat ((conv => lhs; whnf); simp only [go_sem, simprocAttr, sem147_, v1, v2, d0, d0', n0, n0', d1, d1', Bool.not_false, Bool.and_false])); try (conv => lhs; whnf); try rfl)
        · have n0' : ¬ (N.length : Int) = 0 := by omega
          rw [if_neg n0]
          have iN := isMag_sl f1 b1.2 hN
          have iD := isMag_sl f2 b2.2 hD
          have hwN := b1.2.words hN
          have hwD := b2.2.words hD
          have hg := call_GCD iN iD (by rw [← hwN]; omega) (by rw [← hwD]; omega)
          have kg := fun S => callO_plain (S := S) hg (by simp [p1, p2])
          have hDp : 0 < nv D := by
            have : nv D ≠ 0 := fun h => by
              rw [hwD, h] at d0
              exact d0 (words_len0.2 rfl)
            omega
          by_cases d1 : D.length = 1
          · have d1' : (D.length : Int) = 1 := by omega
            by_cases g : D.getD 0 0 = 1
            · have e : D = [1] := (one_iff d1).2 g
              have e1 : Nat.gcd (nv N) (nv D) = 1 := by
                have : nv D = 1 := by rw [e]; decide
                rw [this, Nat.gcd_one_right]
              rw [decide_eq_true e1]
              ((repeat ((conv => lhs; whnf); simp only [go_sem, simprocAttr, sem147_, v1, v2, d0, d0', n0, n0', d1, d1', g])); try (conv => lhs; whnf); try rfl)
            ·
              by_cases g1 : Nat.gcd (nv N) (nv D) = 1
              · rw [decide_eq_true g1]
                have mv : magV (Nat.gcd (nv N) (nv D)) = .sl (kRows .u32 [1]) false := by rw [g1]; unfold magV; rw [words1]
                rw [mv] at kg
                ((repeat ((conv => lhs; whnf); simp only [go_sem, simprocAttr, sem147_, v1, v2, d0, d0', n0, n0', d1, d1', g, kg, one_len, one_len', one_get])); try (conv => lhs; whnf); try rfl)
              · rw [decide_eq_false g1]
                generalize Nat.gcd (nv N) (nv D) = gg at *
                have mv : magV gg = .sl (kRows .u32 (words gg)) false := rfl
                rw [mv] at kg
                by_cases l1 : (words gg).length = 1
                · have l1' : ((words gg).length : Int) = 1 := by omega
                  have gg0 : (words gg).getD 0 0 = (gg : Int) := by rw [(words_one l1).1]; rfl
                  have gg1 : ¬ (gg : Int) = 1 := by omega
                  ((repeat ((conv => lhs; whnf); simp only [go_sem, simprocAttr, sem147_, v1, v2, d0, d0', n0, n0', d1, d1', g, kg, l1, l1', gg0, gg1, g1])); try (conv => lhs; whnf); try rfl)
                · have l1' : ¬ ((words gg).length : Int) = 1 := by omega
                  ((repeat ((conv => lhs; whnf); simp only [go_sem, simprocAttr, sem147_, v1, v2, d0, d0', n0, n0', d1, d1', g, kg, l1, l1'])); try (conv => lhs; whnf); try rfl)
          · have d1' : ¬ (D.length : Int) = 1 := by omega
            by_cases g1 : Nat.gcd (nv N) (nv D) = 1
            · rw [decide_eq_true g1]
              have mv : magV (Nat.gcd (nv N) (nv D)) = .sl (kRows .u32 [1]) false := by rw [g1]; unfold magV; rw [words1]
              rw [mv] at kg
              ((repeat ((conv => lhs; whnf); simp only [go_sem, simprocAttr, sem147_, v1, v2, d0, d0', n0, n0', d1, d1', kg, one_len, one_len', one_get])); try (conv => lhs; whnf); try rfl)
            · rw [decide_eq_false g1]
              generalize Nat.gcd (nv N) (nv D) = gg at *
              have mv : magV gg = .sl (kRows .u32 (words gg)) false := rfl
              rw [mv] at kg
              by_cases l1 : (words gg).length = 1
              · have l1' : ((words gg).length : Int) = 1 := by omega
                have gg0 : (words gg).getD 0 0 = (gg : Int) := by rw [(words_one l1).1]; rfl
                have gg1 : ¬ (gg : Int) = 1 := by omega
                ((repeat ((conv => lhs; whnf); simp only [go_sem, simprocAttr, sem147_, v1, v2, d0, d0', n0, n0', d1, d1', kg, l1, l1', gg0, gg1, g1])); try (conv => lhs; whnf); try rfl)
              · have l1' : ¬ ((words gg).length : Int) = 1 := by omega
                ((repeat ((conv => lhs; whnf); simp only [go_sem, simprocAttr, sem147_, v1, v2, d0, d0', n0, n0', d1, d1', kg, l1, l1'])); try (conv => lhs; whnf); try rfl)
    · have b2' : (decide ((D.length : Int) ≤ w) && decide (Trimmed D)) = false := by simpa using b2
      rw [b2'] at v2 ⊢
      simp only [Bool.and_false, Bool.false_and]
      ((repeat ((conv => lhs; whnf); simp only [go_sem, simprocAttr, sem147_, v1, v2])); try (conv => lhs; whnf); try rfl)
  · have b1' : (decide ((N.length : Int) ≤ w) && decide (Trimmed N)) = false := by simpa using b1
    rw [b1'] at v1 ⊢
    simp only [Bool.and_false, Bool.false_and]
    ((repeat ((conv => lhs; whnf); simp only [go_sem, simprocAttr, sem147_, v1, v2])); try (conv => lhs; whnf); try rfl)
noncomputable def fx109_ : FX := ⟨Tryz.f109, hints.of 109, []⟩
theorem ok109_ : fx109_.ok 109 := ⟨by kernel_rfl, of_decide_eq_true (by kernel_rfl), by kernel_rfl, by kernel_rfl, by kernel_rfl, by kernel_rfl⟩
theorem sem109_ (b0 : Nat) (m : Md) (fs : List Fr) (e : Env) (S : Store) : sem b0 fx109_ m fs e S = run b0 fx109_ 1000 m fs e S := (sem_eq _ _ _ _ _ _).trans (run_sem b0 fx109_ ok109_.good 1000 m fs e S).symm
theorem call_rat_Valid (neg : Bool) (N D : List Int) (hN : OkD WB N) (hD : OkD WB D) (lN : N.length ≤ 9223372036854775807) (lD : D.length ≤ 9223372036854775807) : callL Tryz.prog hints 109 [ratL neg N D] = some (.bool (validR neg N D 4096)) := by
  have v := fun S => callO_plain (S := S) (call_num_Valid neg N D false false hN hD 4096 (by decide) lN lD (by simp) (by simp)) (by simp [Plain.int]; exact ratL_plain neg N D)
  refine FX.callL (r := (.bool (validR neg N D 4096), [.arr [[.bool neg, .sl (kRows .u32 N) false, .sl (kRows .u32 D) false]] none false])) ok109_ 1000 rfl rfl ?_ rfl
  unfold ratL
  ((repeat ((conv => lhs; whnf); simp only [go_sem, simprocAttr, sem109_, v])); try (conv => lhs; whnf); try rfl)
end
end Go.Vs
end
section
set_option linter.unusedVariables false
set_option linter.unusedSimpArgs false
namespace Go.Vs
open Go Go.Proofs
end Go.Vs
end
section
set_option linter.unusedVariables false
set_option linter.unusedSimpArgs false
namespace Go.Vs
open Go Go.Proofs
end Go.Vs
end
section
set_option linter.unusedVariables false
set_option linter.unusedSimpArgs false
namespace Go.Vs
open Go Go.Proofs
@[go_sem] theorem fillV_nil (fs : List (Nat × Nat × Bool)) (cs : List PV) : fillV fs cs [] = some cs := nr rfl
@[go_sem] theorem fillV_cons (fs : List (Nat × Nat × Bool)) (cs : List PV) (i : Nat) (x : PV) (r : List (Nat × PV)) : fillV fs cs ((i, x) :: r) =
    (fs[i]?).bind fun q => if x.cells.length = q.2.1 ∧ x.cells.all PV.cell = true ∧ q.1 + q.2.1 ≤ cs.length then fillV fs (cs.take q.1 ++ x.cells ++ cs.drop (q.1 + q.2.1)) r else none := nr (by
  rw [fillV]
  cases fs[i]? with
  | none => rfl
  | some q => rfl)
@[go_sem] theorem kn_bool : (tyi Tryz.prog 4).known = true := nr (by kernel_rfl)
@[go_sem] theorem sz_bool : (tyi Tryz.prog 4).size = 1 := nr (by kernel_rfl)
@[go_sem] theorem kn_int : (tyi Tryz.prog 3).known = true := nr (by kernel_rfl)
@[go_sem] theorem sz_int : (tyi Tryz.prog 3).size = 1 := nr (by kernel_rfl)
@[go_sem] theorem kn_str : (tyi Tryz.prog 9).known = true := nr (by kernel_rfl)
@[go_sem] theorem sz_str : (tyi Tryz.prog 9).size = 1 := nr (by kernel_rfl)
@[go_sem] theorem kn_u8 : (tyi Tryz.prog 5).known = true := nr (by kernel_rfl)
@[go_sem] theorem sz_u8 : (tyi Tryz.prog 5).size = 1 := nr (by kernel_rfl)
@[go_sem] theorem kn_u64 : (tyi Tryz.prog 161).known = true := nr (by kernel_rfl)
@[go_sem] theorem sz_u64 : (tyi Tryz.prog 161).size = 1 := nr (by kernel_rfl)
@[go_sem] theorem cv_int_uint64 (S : Store) (k : IntKind) (n : Int) : convertO Tryz.prog 3 161 S (.int k n) = some (.int .u64 (IntKind.u64.wrap n)) := by
  simp [convertO, show (tyi Tryz.prog 3).known = true by kernel_rfl, evConvert, show (tyi Tryz.prog 161).d = .int .u64 by kernel_rfl]
@[go_sem] theorem cv_int_uint32 (S : Store) (k : IntKind) (n : Int) : convertO Tryz.prog 3 126 S (.int k n) = some (.int .u32 (IntKind.u32.wrap n)) := by
  simp [convertO, show (tyi Tryz.prog 3).known = true by kernel_rfl, evConvert, show (tyi Tryz.prog 126).d = .int .u32 by kernel_rfl]
@[go_sem] theorem cv_uint32_int (S : Store) (k : IntKind) (n : Int) : convertO Tryz.prog 126 3 S (.int k n) = some (.int .i64 (IntKind.i64.wrap n)) := by
  simp [convertO, show (tyi Tryz.prog 126).known = true by kernel_rfl, evConvert, show (tyi Tryz.prog 3).d = .int .i64 by kernel_rfl]
@[go_sem] theorem cv_uint64_uint8 (S : Store) (k : IntKind) (n : Int) : convertO Tryz.prog 161 5 S (.int k n) = some (.int .u8 (IntKind.u8.wrap n)) := by
  simp [convertO, show (tyi Tryz.prog 161).known = true by kernel_rfl, evConvert, show (tyi Tryz.prog 5).d = .int .u8 by kernel_rfl]
@[go_sem] theorem cv_uint64_int (S : Store) (k : IntKind) (n : Int) : convertO Tryz.prog 161 3 S (.int k n) = some (.int .i64 (IntKind.i64.wrap n)) := by
  simp [convertO, show (tyi Tryz.prog 161).known = true by kernel_rfl, evConvert, show (tyi Tryz.prog 3).d = .int .i64 by kernel_rfl]
theorem callO_of {S : Store} {f : FuncId} {l l' : List PV} {ids : List Nat} {v : PV} (hc : callL Tryz.prog hints f l' = some v) (hz : mapO (fzPV S) l = some l') (hr : reach S 8 (l.flatMap PV.refs) = ids) (ha : ids.all (fun i => decide (i < S.length)) = true) : callO (callL Tryz.prog hints) S f l = some { v, fz := ids } := by
  unfold callO
  rw [hr, ha, if_pos rfl, hz]
  simp only [Option.bind_some, hc, Option.map_some]
attribute [go_sem] List.getElem?_cons_zero List.getElem?_cons_succ
end Go.Vs
end
section
set_option linter.unusedVariables false
set_option linter.unusedSimpArgs false
set_option maxRecDepth 100000
namespace Go.Vs
open Go Go.Proofs
theorem sl_nat : SlT 60 3 1 8 := ⟨by kernel_rfl, by kernel_rfl, by kernel_rfl, by kernel_rfl, by kernel_rfl⟩
@[go_sem] theorem len_nat (r : List (List PV)) (ex : Bool) : lenO (tyi Tryz.prog 60) (.sl r ex) = some (.int .i64 r.length) := sl_nat.len r ex
@[go_sem] theorem lenm_nat (i o l : Nat) (ex : Bool) : lenO (tyi Tryz.prog 60) (.msl i o l ex) = some (.int .i64 l) := sl_nat.lenm i o l ex
@[go_sem] theorem idx_nat (S : Store) (L : List Int) (ex : Bool) (i : Int) : indexAddrO Tryz.prog 60 S (.sl (kRows .i64 L) ex) (.int .i64 i) = if 0 ≤ i ∧ i < L.length then some (.cp [.int .i64 (L.getD i.toNat 0)]) else none := sl_nat.idxk .i64 S L ex i
@[go_sem] theorem part_int (v : PV) (r : List PV) : part (tyi Tryz.prog 3) (v :: r) = some v := by
  have e : (tyi Tryz.prog 3).isAgg = false := by kernel_rfl
  simp [part, kn_int, e]
@[go_sem] theorem build_nat (id n : Nat) (is : List Nat) (rows : List (List PV)) : buildSliceO Tryz.prog 60 id n is rows = if is = List.range n ∧ rowsOK 1 rows = true ∧ (rows.all fun r => r.all PV.cell) = true ∧ n * 1 ≤ 16777216 then some { v := .msl id 0 n true, new := some (rows, some (some 1)) } else none := sl_nat.buildSlice (by decide) id n is rows
abbrev DB : Nat := 10000
theorem DB2 : 2 ≤ DB := by decide
def dec (n : Nat) : List Int := digs DB n
def natE (n : Nat) (e : Bool) : PV := .sl (kRows .i64 (dec n)) e
def natV (n : Nat) : PV := natE n false
def IsNat (n : Nat) (v : PV) : Prop := v = natV n ∨ (n = 0 ∧ v = .sl [] true)
theorem IsNat.of (n : Nat) : IsNat n (natV n) := .inl rfl
theorem IsNat.nil' {n : Nat} (h : n = 0) : IsNat n (.sl [] true) := .inr ⟨h, rfl⟩
theorem IsNat.form {n : Nat} {v : PV} (h : IsNat n v) : ∃ e, v = natE n e ∧ Plain v := by
  rcases h with rfl | ⟨rfl, rfl⟩
  · exact ⟨false, rfl, Plain.sl _⟩
  · refine ⟨true, ?_, Plain.nil⟩
    unfold natE
    have : dec 0 = [] := (digs_nil DB2).2 rfl
    rw [this]; rfl
theorem IsNat.plain {n : Nat} {v : PV} (h : IsNat n v) : Plain v := let ⟨_, _, hp⟩ := h.form; hp
section
attribute [local irreducible] Vs.callL Vs.callRL tyi callO callM callMV appendE storeE evLoad indexAddrO sliceO evFieldAddr evField buildO buildSliceO makeSliceO allocO boxed lenO copyE convertO indexO Vs.gc freezeAll
end
end Go.Vs
end
section
set_option linter.unusedVariables false
set_option linter.unusedSimpArgs false
set_option maxRecDepth 100000
namespace Go.Vs
open Go Go.Proofs
def band (k : IntKind) (a b : Int) : Int := k.wrap (BitVec.ofInt k.bits a &&& BitVec.ofInt k.bits b).toNat
@[go_sem ↓] theorem band_fold (k : IntKind) (a b : Int) : k.wrap (BitVec.ofInt k.bits a &&& BitVec.ofInt k.bits b).toNat = band k a b := rfl
theorem dec_words {n k : Nat} (h : (words n).length ≤ k) : (dec n).length ≤ 3 * k := by
  refine (digs_le DB2 (3 * k) n).2 ?_
  have h1 := (digs_le WB2 k n).1 h
  have h2 : DB ^ (3 * k) = (DB ^ 3) ^ k := Nat.pow_mul _ _ _
  rw [h2]
  exact Nat.lt_of_lt_of_le h1 (Nat.pow_le_pow_left (by decide) k)
theorem words_dec {n k : Nat} (h : (dec n).length ≤ k) : (words n).length ≤ k := by
  refine (digs_le WB2 k n).2 ?_
  exact Nat.lt_of_lt_of_le ((digs_le DB2 k n).1 h) (Nat.pow_le_pow_left (by decide) k)
section
attribute [local irreducible] Vs.callL Vs.callRL tyi callO callM callMV appendE storeE evLoad indexAddrO sliceO evFieldAddr evField buildO buildSliceO makeSliceO allocO boxed lenO copyE convertO indexO Vs.gc freezeAll
end
end Go.Vs
end
section
set_option linter.unusedVariables false
set_option linter.unusedSimpArgs false
set_option maxRecDepth 100000
namespace Go.Vs
open Go Go.Proofs
section
attribute [local irreducible] Vs.callL Vs.callRL tyi callO callM callMV appendE storeE evLoad indexAddrO sliceO evFieldAddr evField buildO buildSliceO makeSliceO allocO boxed lenO copyE convertO indexO Vs.gc freezeAll
end
end Go.Vs
end
section
set_option linter.unusedVariables false
set_option linter.unusedSimpArgs false
set_option maxRecDepth 100000
namespace Go.Vs
open Go Go.Proofs
section
attribute [local irreducible] Vs.callL Vs.callRL tyi callO callM callMV appendE storeE evLoad indexAddrO sliceO evFieldAddr evField buildO buildSliceO makeSliceO allocO boxed lenO copyE convertO indexO Vs.gc freezeAll
end
end Go.Vs
end
section
set_option linter.unusedVariables false
set_option linter.unusedSimpArgs false
set_option maxRecDepth 100000
namespace Go.Vs
open Go Go.Proofs
theorem sl_ints : SlT 59 3 1 8 := ⟨by kernel_rfl, by kernel_rfl, by kernel_rfl, by kernel_rfl, by kernel_rfl⟩
@[go_sem] theorem len_ints (r : List (List PV)) (ex : Bool) : lenO (tyi Tryz.prog 59) (.sl r ex) = some (.int .i64 r.length) := sl_ints.len r ex
@[go_sem] theorem lenm_ints (i o l : Nat) (ex : Bool) : lenO (tyi Tryz.prog 59) (.msl i o l ex) = some (.int .i64 l) := sl_ints.lenm i o l ex
@[go_sem] theorem build_ints (id n : Nat) (is : List Nat) (rows : List (List PV)) : buildSliceO Tryz.prog 59 id n is rows = if is = List.range n ∧ rowsOK 1 rows = true ∧ (rows.all fun r => r.all PV.cell) = true ∧ n * 1 ≤ 16777216 then some { v := .msl id 0 n true, new := some (rows, some (some 1)) } else none := sl_ints.buildSlice (by decide) id n is rows
def pairs : List Int → List Int
  | [] => []
  | [a] => [a]
  | a :: b :: r => (a + b * 65536) :: pairs r
section
attribute [local irreducible] Vs.callL Vs.callRL tyi callO callM callMV appendE storeE evLoad indexAddrO sliceO evFieldAddr evField buildO buildSliceO makeSliceO allocO boxed lenO copyE convertO indexO Vs.gc freezeAll
end
end Go.Vs
end
section
set_option linter.unusedVariables false
set_option linter.unusedSimpArgs false
set_option maxRecDepth 100000
namespace Go.Vs
open Go Go.Proofs
def Can (L : List Int) : Prop := trimD L = L
theorem Can.nil : Can [] := rfl
theorem Can.tail {x : Int} {r : List Int} (h : Can (x :: r)) : Can r ∧ (r = [] → x ≠ 0) := by
  unfold Can at h
  rw [trimD] at h
  split at h
  · cases h
  · rename_i hc
    have h1 : trimD r = r := by simpa using h
    refine ⟨h1, fun hr hx => hc ⟨?_, hx⟩⟩
    rw [h1, hr]
theorem Can.cons {x : Int} {r : List Int} (h : Can r) (hx : r = [] → x ≠ 0) : Can (x :: r) := by
  unfold Can at *
  rw [trimD, h, if_neg]
  exact fun hh => hx hh.1 hh.2
section
attribute [local irreducible] Vs.callL Vs.callRL tyi callO callM callMV appendE storeE evLoad indexAddrO sliceO evFieldAddr evField buildO buildSliceO makeSliceO allocO boxed lenO copyE convertO indexO Vs.gc freezeAll
end
end Go.Vs
end
section
set_option linter.unusedVariables false
set_option linter.unusedSimpArgs false
set_option maxRecDepth 100000
namespace Go.Vs
open Go Go.Proofs
section
attribute [local irreducible] Vs.callL Vs.callRL tyi callO callM callMV appendE storeE evLoad indexAddrO sliceO evFieldAddr evField buildO buildSliceO makeSliceO allocO boxed lenO copyE convertO indexO Vs.gc freezeAll
end
end Go.Vs
end
section
set_option linter.unusedVariables false
set_option linter.unusedSimpArgs false
set_option maxRecDepth 100000
namespace Go.Vs
open Go Go.Proofs
section
attribute [local irreducible] Vs.callL Vs.callRL tyi callO callM callMV appendE storeE evLoad indexAddrO sliceO evFieldAddr evField buildO buildSliceO makeSliceO allocO boxed lenO copyE convertO indexO Vs.gc freezeAll
end
end Go.Vs
end
section
set_option linter.unusedVariables false
set_option linter.unusedSimpArgs false
set_option maxRecDepth 100000
namespace Go.Vs
open Go Go.Proofs
section
attribute [local irreducible] Vs.callL Vs.callRL tyi callO callM callMV appendE storeE evLoad indexAddrO sliceO evFieldAddr evField buildO buildSliceO makeSliceO allocO boxed lenO copyE convertO indexO Vs.gc freezeAll
end
end Go.Vs
end
section
set_option linter.unusedVariables false
set_option linter.unusedSimpArgs false
set_option maxRecDepth 100000
namespace Go.Vs
open Go Go.Proofs
section
attribute [local irreducible] Vs.callL Vs.callRL tyi callO callM callMV appendE storeE evLoad indexAddrO sliceO evFieldAddr evField buildO buildSliceO makeSliceO allocO boxed lenO copyE convertO indexO Vs.gc freezeAll
theorem IsNat.sl {n : Nat} {v : PV} (h : IsNat n v) : ∃ r e, v = .sl r e := by
  obtain ⟨e, rfl, _⟩ := h.form
  exact ⟨_, _, rfl⟩
end
end Go.Vs
end
section
set_option linter.unusedVariables false
set_option linter.unusedSimpArgs false
set_option maxRecDepth 100000
namespace Go.Vs
open Go Go.Proofs
section
attribute [local irreducible] Vs.callL Vs.callRL tyi callO callM callMV appendE storeE evLoad indexAddrO sliceO evFieldAddr evField buildO buildSliceO makeSliceO allocO boxed lenO copyE convertO indexO Vs.gc freezeAll
end
end Go.Vs
end
section
set_option linter.unusedVariables false
set_option linter.unusedSimpArgs false
set_option maxRecDepth 100000
namespace Go.Vs
open Go Go.Proofs
def neg? (q : Rat) : Bool := decide (q.num < 0)
@[go_sem] theorem alloc_Rat (n : Nat) : allocO (tyi Tryz.prog 27) n = some { v := .mp n 0 0, new := some ([[.bool false, .sl [] true, .sl [] true]], none) } := nr (by unfold allocO; rw [zero_Rat]; rfl)
@[go_sem] theorem build_Rat (l : List (Nat × PV)) : buildO (tyi Tryz.prog 27) l = (fillV [(0, 1, false), (1, 1, false), (2, 1, false)] [.bool false, .sl [] true, .sl [] true] l).map .agg := nr (by unfold buildO; rw [d_Rat, zero_Rat]; rfl)
@[go_sem] theorem fm_Rat_0 (id i off : Nat) : evFieldAddr (tyi Tryz.prog 27) 0 (.mp id i off) = some (.mp id i (off + 0)) := by simp [evFieldAddr, d_Rat]
@[go_sem] theorem fk_Rat_0 (r : List PV) : evFieldAddr (tyi Tryz.prog 27) 0 (.cp r) = some (.cp (r.drop 0)) := by simp [evFieldAddr, d_Rat]
@[go_sem] theorem fv_Rat_0 (cs : List PV) : evField (tyi Tryz.prog 27) 0 (.agg cs) = cs[0]? := by simp [evField, d_Rat]
@[go_sem] theorem fm_Rat_1 (id i off : Nat) : evFieldAddr (tyi Tryz.prog 27) 1 (.mp id i off) = some (.mp id i (off + 1)) := by simp [evFieldAddr, d_Rat]
@[go_sem] theorem fk_Rat_1 (r : List PV) : evFieldAddr (tyi Tryz.prog 27) 1 (.cp r) = some (.cp (r.drop 1)) := by simp [evFieldAddr, d_Rat]
@[go_sem] theorem fv_Rat_1 (cs : List PV) : evField (tyi Tryz.prog 27) 1 (.agg cs) = cs[1]? := by simp [evField, d_Rat]
@[go_sem] theorem fm_Rat_2 (id i off : Nat) : evFieldAddr (tyi Tryz.prog 27) 2 (.mp id i off) = some (.mp id i (off + 2)) := by simp [evFieldAddr, d_Rat]
@[go_sem] theorem fk_Rat_2 (r : List PV) : evFieldAddr (tyi Tryz.prog 27) 2 (.cp r) = some (.cp (r.drop 2)) := by simp [evFieldAddr, d_Rat]
@[go_sem] theorem fv_Rat_2 (cs : List PV) : evField (tyi Tryz.prog 27) 2 (.agg cs) = cs[2]? := by simp [evField, d_Rat]
theorem fz_ratM {S : Store} {b e1 e2 : Bool} {i j m n : Nat} {N D : List Int} (h1 : rowsAt S i = some (kRows .u32 N)) (hN : N.length = m) (h2 : rowsAt S j = some (kRows .u32 D)) (hD : D.length = n) : fzPV S (.agg [.bool b, .msl i 0 m e1, .msl j 0 n e2]) = some (ratL b N D) := by
  have k1 := kRows_fz (ex := e1) h1 hN 6
  have k2 := kRows_fz (ex := e2) h2 hD 6
  show (mapO (fzCell S 8) [.bool b, .msl i 0 m e1, .msl j 0 n e2]).map PV.agg = _
  simp only [mapO_cons, mapO_nil, k1, k2, fzCell_bool, some_bind, some_map]
  rfl
section
attribute [local irreducible] Vs.callL Vs.callRL tyi callO callM callMV appendE storeE evLoad indexAddrO sliceO evFieldAddr evField buildO buildSliceO makeSliceO allocO boxed lenO copyE convertO indexO Vs.gc freezeAll
end
end Go.Vs
end
section
set_option linter.unusedVariables false
set_option linter.unusedSimpArgs false
set_option maxRecDepth 100000
namespace Go.Vs
open Go Go.Proofs
section
attribute [local irreducible] Vs.callL Vs.callRL tyi callO callM callMV appendE storeE evLoad indexAddrO sliceO evFieldAddr evField buildO buildSliceO makeSliceO allocO boxed lenO copyE convertO indexO Vs.gc freezeAll
end
end Go.Vs
end
section
set_option linter.unusedVariables false
set_option linter.unusedSimpArgs false
set_option maxRecDepth 100000
namespace Go.Vs
open Go Go.Proofs
def RatW (q : Rat) (k : Nat) : Prop := (words q.num.natAbs).length ≤ k ∧ (words q.den).length ≤ k
theorem RatW.mono {q : Rat} {j k : Nat} (h : RatW q j) (hk : j ≤ k) : RatW q k := ⟨Nat.le_trans h.1 hk, Nat.le_trans h.2 hk⟩
section
attribute [local irreducible] Vs.callL Vs.callRL tyi callO callM callMV appendE storeE evLoad indexAddrO sliceO evFieldAddr evField buildO buildSliceO makeSliceO allocO boxed lenO copyE convertO indexO Vs.gc freezeAll
end
end Go.Vs
end
section
set_option linter.unusedVariables false
set_option linter.unusedSimpArgs false
set_option maxRecDepth 100000
namespace Go.Vs
open Go Go.Proofs
section
attribute [local irreducible] Vs.callL Vs.callRL tyi callO callM callMV appendE storeE evLoad indexAddrO sliceO evFieldAddr evField buildO buildSliceO makeSliceO allocO boxed lenO copyE convertO indexO Vs.gc freezeAll
end
end Go.Vs
end
section
set_option linter.unusedVariables false
set_option linter.unusedSimpArgs false
set_option maxRecDepth 100000
namespace Go.Vs
open Go Go.Proofs
section
attribute [local irreducible] Vs.callL Vs.callRL tyi callO callM callMV appendE storeE evLoad indexAddrO sliceO evFieldAddr evField buildO buildSliceO makeSliceO allocO boxed lenO copyE convertO indexO Vs.gc freezeAll
end
end Go.Vs
end
section
set_option linter.unusedVariables false
set_option linter.unusedSimpArgs false
set_option maxRecDepth 100000
namespace Go.Vs
open Go Go.Proofs
theorem d_RR : (tyi Tryz.prog 62).d = .struct [(0, 1, false), (1, 1, false), (2, 1, false)] := by kernel_rfl
@[go_sem] theorem size_RR : (tyi Tryz.prog 62).size = 3 := nr (by kernel_rfl)
@[go_sem] theorem known_RR : (tyi Tryz.prog 62).known = true := nr (by kernel_rfl)
@[go_sem] theorem zero_RR : (tyi Tryz.prog 62).zero = some [.bool false, .sl [] true, .sl [] true] := nr (by kernel_rfl)
@[go_sem] theorem alloc_RR (n : Nat) : allocO (tyi Tryz.prog 62) n = some { v := .mp n 0 0, new := some ([[.bool false, .sl [] true, .sl [] true]], none) } := nr (by unfold allocO; rw [zero_RR]; rfl)
@[go_sem] theorem build_RR (l : List (Nat × PV)) : buildO (tyi Tryz.prog 62) l = (fillV [(0, 1, false), (1, 1, false), (2, 1, false)] [.bool false, .sl [] true, .sl [] true] l).map .agg := nr (by unfold buildO; rw [d_RR, zero_RR]; rfl)
theorem parts_RR (row : List PV) : part (tyi Tryz.prog 62) row = if 3 ≤ row.length then some (.agg (row.take 3)) else none := by simp [part, known_RR, TI.isAgg, d_RR, size_RR]
@[go_sem] theorem fm_RR_0 (id i off : Nat) : evFieldAddr (tyi Tryz.prog 62) 0 (.mp id i off) = some (.mp id i (off + 0)) := by simp [evFieldAddr, d_RR]
@[go_sem] theorem fk_RR_0 (r : List PV) : evFieldAddr (tyi Tryz.prog 62) 0 (.cp r) = some (.cp (r.drop 0)) := by simp [evFieldAddr, d_RR]
@[go_sem] theorem fv_RR_0 (cs : List PV) : evField (tyi Tryz.prog 62) 0 (.agg cs) = cs[0]? := by simp [evField, d_RR]
@[go_sem] theorem fm_RR_1 (id i off : Nat) : evFieldAddr (tyi Tryz.prog 62) 1 (.mp id i off) = some (.mp id i (off + 1)) := by simp [evFieldAddr, d_RR]
@[go_sem] theorem fk_RR_1 (r : List PV) : evFieldAddr (tyi Tryz.prog 62) 1 (.cp r) = some (.cp (r.drop 1)) := by simp [evFieldAddr, d_RR]
@[go_sem] theorem fv_RR_1 (cs : List PV) : evField (tyi Tryz.prog 62) 1 (.agg cs) = cs[1]? := by simp [evField, d_RR]
@[go_sem] theorem fm_RR_2 (id i off : Nat) : evFieldAddr (tyi Tryz.prog 62) 2 (.mp id i off) = some (.mp id i (off + 2)) := by simp [evFieldAddr, d_RR]
@[go_sem] theorem fk_RR_2 (r : List PV) : evFieldAddr (tyi Tryz.prog 62) 2 (.cp r) = some (.cp (r.drop 2)) := by simp [evFieldAddr, d_RR]
@[go_sem] theorem fv_RR_2 (cs : List PV) : evField (tyi Tryz.prog 62) 2 (.agg cs) = cs[2]? := by simp [evField, d_RR]
attribute [go_sem] parts_RR
@[go_sem] theorem part_nat (v : PV) (r : List PV) : part (tyi Tryz.prog 60) (v :: r) = some v := by
  have k : (tyi Tryz.prog 60).known = true := by kernel_rfl
  simp [part, k, TI.isAgg, sl_nat.d]
theorem neg1 : neg? 1 = false := rfl
theorem IsNat.pos {n : Nat} {v : PV} (h : IsNat n v) (h0 : n ≠ 0) : v = natV n := by
  rcases h with h | ⟨h, _⟩
  · exact h
  · exact absurd h h0
section
attribute [local irreducible] Vs.callL Vs.callRL tyi callO callM callMV appendE storeE evLoad indexAddrO sliceO evFieldAddr evField buildO buildSliceO makeSliceO allocO boxed lenO copyE convertO indexO Vs.gc freezeAll
end
end Go.Vs
end
section
set_option linter.unusedVariables false
set_option linter.unusedSimpArgs false
set_option maxRecDepth 100000
namespace Go.Vs
open Go Go.Proofs
def RatD (q : Rat) (k : Nat) : Prop := (dec q.num.natAbs).length ≤ k ∧ (dec q.den).length ≤ k
theorem RatD.mono {q : Rat} {j k : Nat} (h : RatD q j) (hk : j ≤ k) : RatD q k := ⟨Nat.le_trans h.1 hk, Nat.le_trans h.2 hk⟩
theorem RatW.dec {q : Rat} {k : Nat} (h : RatW q k) : RatD q (3 * k) := ⟨dec_words h.1, dec_words h.2⟩
theorem RatD.words {q : Rat} {k : Nat} (h : RatD q k) : RatW q k := ⟨words_dec h.1, words_dec h.2⟩
section
attribute [local irreducible] Vs.callL Vs.callRL tyi callO callM callMV appendE storeE evLoad indexAddrO sliceO evFieldAddr evField buildO buildSliceO makeSliceO allocO boxed lenO copyE convertO indexO Vs.gc freezeAll
end
end Go.Vs
end
section
set_option linter.unusedVariables false
set_option linter.unusedSimpArgs false
set_option maxRecDepth 100000
namespace Go.Vs
open Go Go.Proofs
section
attribute [local irreducible] Vs.callL Vs.callRL tyi callO callM callMV appendE storeE evLoad indexAddrO sliceO evFieldAddr evField buildO buildSliceO makeSliceO allocO boxed lenO copyE convertO indexO Vs.gc freezeAll
end
end Go.Vs
end
section
set_option linter.unusedVariables false
set_option linter.unusedSimpArgs false
set_option maxRecDepth 100000
namespace Go.Vs
open Go Go.Proofs
section
attribute [local irreducible] Vs.callL Vs.callRL tyi callO callM callMV appendE storeE evLoad indexAddrO sliceO evFieldAddr evField buildO buildSliceO makeSliceO allocO boxed lenO copyE convertO indexO Vs.gc freezeAll
end
end Go.Vs
end
section
set_option linter.unusedVariables false
set_option linter.unusedSimpArgs false
set_option maxRecDepth 100000
namespace Go.Vs
open Go Go.Proofs
@[go_sem] theorem evBin_strgtr (ti : TI) (a b : ByteArray) : evBin .gtr ti (.str a) (.str b) = some (.bool (!(Op.bytesLess a.toList b.toList || a.toList == b.toList))) := nr rfl
@[go_sem] theorem evBin_strgeq (ti : TI) (a b : ByteArray) : evBin .geq ti (.str a) (.str b) = some (.bool (!(Op.bytesLess a.toList b.toList))) := nr rfl
def isLetter (c : Int) : Bool := (decide (97 ≤ c) && decide (c ≤ 122)) || (decide (65 ≤ c) && decide (c ≤ 90))
section
attribute [local irreducible] Vs.callL Vs.callRL tyi callO callM callMV appendE storeE evLoad indexAddrO sliceO evFieldAddr evField buildO buildSliceO makeSliceO allocO boxed lenO copyE convertO indexO Vs.gc freezeAll
noncomputable def fx146_ : FX := ⟨Tryz.f146, hints.of 146, []⟩
theorem ok146_ : fx146_.ok 146 := ⟨by kernel_rfl, of_decide_eq_true (by kernel_rfl), by kernel_rfl, by kernel_rfl, by kernel_rfl, by kernel_rfl⟩
theorem sem146_ (b0 : Nat) (m : Md) (fs : List Fr) (e : Env) (S : Store) : sem b0 fx146_ m fs e S = run b0 fx146_ 1000 m fs e S := (sem_eq _ _ _ _ _ _).trans (run_sem b0 fx146_ ok146_.good 1000 m fs e S).symm
theorem call_letter (c : Int) : callL Tryz.prog hints 146 [.int .u8 c] = some (.bool (isLetter c)) := by
  refine FX.callL (r := (.bool (isLetter c), [])) ok146_ 1000 rfl rfl ?_ rfl
  unfold isLetter
  by_cases h1 : 97 ≤ c <;> by_cases h2 : c ≤ 122 <;> by_cases h3 : 65 ≤ c <;> by_cases h4 : c ≤ 90 <;>
    (simp only [h1, h2, h3, h4, decide_true, decide_false, Bool.true_and, Bool.false_and, Bool.and_true, Bool.and_false, Bool.or_true, Bool.or_false, Bool.true_or, Bool.false_or]; ((repeat ((conv => lhs; whnf); simp only [go_sem, simprocAttr, sem146_, h1, h2, h3, h4])); try (conv => lhs; whnf); try rfl))
noncomputable def fx118_ : FX := ⟨Tryz.f118, hints.of 118, []⟩
theorem ok118_ : fx118_.ok 118 := ⟨by kernel_rfl, of_decide_eq_true (by kernel_rfl), by kernel_rfl, by kernel_rfl, by kernel_rfl, by kernel_rfl⟩
theorem sem118_ (b0 : Nat) (m : Md) (fs : List Fr) (e : Env) (S : Store) : sem b0 fx118_ m fs e S = run b0 fx118_ 1000 m fs e S := (sem_eq _ _ _ _ _ _).trans (run_sem b0 fx118_ ok118_.good 1000 m fs e S).symm
theorem call_letter8 (c : Int) : callL Tryz.prog hints 118 [.int .u8 c] = some (.bool (isLetter c)) := by
  refine FX.callL (r := (.bool (isLetter c), [])) ok118_ 1000 rfl rfl ?_ rfl
  unfold isLetter
  by_cases h1 : 97 ≤ c <;> by_cases h2 : c ≤ 122 <;> by_cases h3 : 65 ≤ c <;> by_cases h4 : c ≤ 90 <;>
    (simp only [h1, h2, h3, h4, decide_true, decide_false, Bool.true_and, Bool.false_and, Bool.and_true, Bool.and_false, Bool.or_true, Bool.or_false, Bool.true_or, Bool.false_or]; ((repeat ((conv => lhs; whnf); simp only [go_sem, simprocAttr, sem118_, h1, h2, h3, h4])); try (conv => lhs; whnf); try rfl))
theorem letter_o (S : Store) (c : Int) : callO (callL Tryz.prog hints) S 146 [.int .u8 c] = some { v := .bool (isLetter c) } := callO_plain (call_letter c) (by simp [Plain.int])
theorem letter8_o (S : Store) (c : Int) : callO (callL Tryz.prog hints) S 118 [.int .u8 c] = some { v := .bool (isLetter c) } := callO_plain (call_letter8 c) (by simp [Plain.int])
def isAlnum (c : Int) : Bool := isLetter c || (decide (48 ≤ c) && decide (c ≤ 57))
def restOK (s : ByteArray) : Nat → Nat → Bool
  | 0, i => true
  | m + 1, i => isAlnum (byteAt s i) && restOK s m (i + 1)
def kw1 (s : ByteArray) : Bool := s.toList == (⟨#[116, 114, 117, 101]⟩ : ByteArray).toList
def kw2 (s : ByteArray) : Bool := s.toList == (⟨#[102, 97, 108, 115, 101]⟩ : ByteArray).toList
def kw3 (s : ByteArray) : Bool := s.toList == (⟨#[102, 111, 114, 97, 108, 108]⟩ : ByteArray).toList
def kw4 (s : ByteArray) : Bool := s.toList == (⟨#[101, 120, 105, 115, 116, 115]⟩ : ByteArray).toList
def keyword (s : ByteArray) : Bool := kw1 s || kw2 s || kw3 s || kw4 s
def nameOK (s : ByteArray) : Bool := decide (0 < s.size) && decide (s.size ≤ 12) && isLetter (byteAt s 0) && restOK s s.size 0 && !keyword s
noncomputable def fx108_ : FX := ⟨Tryz.f108, hints.of 108, []⟩
theorem ok108_ : fx108_.ok 108 := ⟨by kernel_rfl, of_decide_eq_true (by kernel_rfl), by kernel_rfl, by kernel_rfl, by kernel_rfl, by kernel_rfl⟩
theorem sem108_ (b0 : Nat) (m : Md) (fs : List Fr) (e : Env) (S : Store) : sem b0 fx108_ m fs e S = run b0 fx108_ 1000 m fs e S := (sem_eq _ _ _ _ _ _).trans (run_sem b0 fx108_ ok108_.good 1000 m fs e S).symm
theorem loop_Name (s : ByteArray) (hs : s.size ≤ 12) : ∀ (m i : Nat), i + m = s.size → loopAt 0 fx108_ 0 116 0 [.blk 0, .seq 0 15] [(0, .str s), (3, .int .i64 i)] [] = some (.bool (restOK s m i && !keyword s), []) := by
  intro m
  induction m with
  | zero =>
    intro i hi
    have h1 : ¬ (i : Int) < (s.size : Int) := by omega
    refine loopAt_step ok108_.good 1000 ?_
    ((repeat ((conv => lhs; whnf); simp only [go_sem, simprocAttr, sem108_, h1])); try (conv => lhs; whnf); try rfl)
    refine exit_run ok108_.good 1000 ?_
    simp only [restOK, Bool.true_and, keyword]
    cases k1 : kw1 s <;> cases k2 : kw2 s <;> cases k3 : kw3 s <;> cases k4 : kw4 s <;>
      (unfold kw1 kw2 kw3 kw4 at *; simp only [Bool.or_true, Bool.or_false, Bool.true_or, Bool.false_or, Bool.not_true, Bool.not_false]; ((repeat ((conv => lhs; whnf); simp only [go_sem, simprocAttr, sem108_, k1, k2, k3, k4])); try (conv => lhs; whnf); try rfl))
  | succ m ih =>
    intro i hi
    have h1 : (i : Int) < (s.size : Int) := by omega
    have h2 := wrap_succ (i := i) (n := s.size) (by omega) (by unfold maxLen; omega)
    have h4 : 0 ≤ (i : Int) ∧ (i : Int) < (s.size : Int) := ⟨by omega, h1⟩
    have key := ih (i + 1) (by omega)
    refine loopAt_step ok108_.good 1000 ?_
    simp only [restOK, isAlnum]
    cases hl : isLetter (byteAt s i)
    · by_cases c1 : byteAt s i < 48
      · have c1' : ¬ 48 ≤ byteAt s i := by omega
        simp only [c1', decide_false, Bool.false_and, Bool.or_self]
        ((repeat ((conv => lhs; whnf); simp only [go_sem, simprocAttr, sem108_, h1, h2, h4, letter_o, hl, Int.toNat_natCast, c1])); try (conv => lhs; whnf); try rfl)
      · have c1' : 48 ≤ byteAt s i := by omega
        by_cases c2 : 57 < byteAt s i
        · have c2' : ¬ byteAt s i ≤ 57 := by omega
          simp only [c1', c2', decide_true, decide_false, Bool.true_and, Bool.or_self, Bool.false_and]
          ((repeat ((conv => lhs; whnf); simp only [go_sem, simprocAttr, sem108_, h1, h2, h4, letter_o, hl, Int.toNat_natCast, c1, c2])); try (conv => lhs; whnf); try rfl)
        · have c2' : byteAt s i ≤ 57 := by omega
          simp only [c1', c2', decide_true, Bool.true_and, Bool.or_true, Bool.and_self]
          ((repeat ((conv => lhs; whnf); simp only [go_sem, simprocAttr, sem108_, h1, h2, h4, letter_o, hl, Int.toNat_natCast, c1, c2])); try (conv => lhs; whnf); try rfl)
          exact key
    · simp only [Bool.true_or, Bool.true_and]
      ((repeat ((conv => lhs; whnf); simp only [go_sem, simprocAttr, sem108_, h1, h2, h4, letter_o, hl, Int.toNat_natCast])); try (conv => lhs; whnf); try rfl)
      exact key
theorem call_Name (s : ByteArray) : callL Tryz.prog hints 108 [.str s] = some (.bool (nameOK s)) := by
  refine FX.callL (r := (.bool (nameOK s), [])) ok108_ 1000 rfl rfl ?_ rfl
  unfold nameOK
  by_cases h0 : s.size = 0
  · simp only [h0, Nat.lt_irrefl, decide_false, Bool.false_and]
    ((repeat ((conv => lhs; whnf); simp only [go_sem, simprocAttr, sem108_, h0])); try (conv => lhs; whnf); try rfl)
  · have h0' : 0 < s.size := by omega
    have h5 : ¬ (s.size : Int) = 0 := by omega
    have h6 : (0 : Int) < (s.size : Int) := by omega
    by_cases h1 : s.size ≤ 12
    · have h4 : ¬ (12 : Int) < (s.size : Int) := by omega
      have key := loop_Name s h1 s.size 0 (by omega)
      simp only [h0', h1, decide_true, Bool.true_and]
      cases hl : isLetter (byteAt s 0)
      · simp only [Bool.false_and]
        ((repeat ((conv => lhs; whnf); simp only [go_sem, simprocAttr, sem108_, h5, h4, h6, letter_o, hl, Int.toNat_zero])); try (conv => lhs; whnf); try rfl)
      · simp only [Bool.true_and]
        ((repeat ((conv => lhs; whnf); simp only [go_sem, simprocAttr, sem108_, h5, h4, h6, letter_o, hl, Int.toNat_zero])); try (conv => lhs; whnf); try rfl)
        exact key
    · have h4 : (12 : Int) < (s.size : Int) := by omega
      simp only [h0', h1, decide_true, decide_false, Bool.true_and, Bool.false_and]
      ((repeat ((conv => lhs; whnf); simp only [go_sem, simprocAttr, sem108_, h5, h4])); try (conv => lhs; whnf); try rfl)
def restOK' (s : ByteArray) : Nat → Nat → Bool
  | 0, i => true
  | m + 1, i => (isLetter (byteAt s i) || (decide (i ≠ 0) && (decide (48 ≤ byteAt s i) && decide (byteAt s i ≤ 57)))) && restOK' s m (i + 1)
theorem restOK'_eq (s : ByteArray) : ∀ (m i : Nat), i ≠ 0 → restOK' s m i = restOK s m i
  | 0, i, h => rfl
  | m + 1, i, h => by simp only [restOK, restOK', h, restOK'_eq s m (i + 1) (by omega), isAlnum, ne_eq, not_false_eq_true, decide_true, Bool.true_and]
noncomputable def fx71_ : FX := ⟨Tryz.f71, hints.of 71, []⟩
theorem ok71_ : fx71_.ok 71 := ⟨by kernel_rfl, of_decide_eq_true (by kernel_rfl), by kernel_rfl, by kernel_rfl, by kernel_rfl, by kernel_rfl⟩
theorem sem71_ (b0 : Nat) (m : Md) (fs : List Fr) (e : Env) (S : Store) : sem b0 fx71_ m fs e S = run b0 fx71_ 1000 m fs e S := (sem_eq _ _ _ _ _ _).trans (run_sem b0 fx71_ ok71_.good 1000 m fs e S).symm
theorem loop_Name8 (s : ByteArray) (hs : s.size ≤ 12) : ∀ (m i : Nat), i + m = s.size → loopAt 0 fx71_ 0 116 0 [.blk 0, .seq 0 15] [(0, .str s), (3, .int .i64 i)] [] = some (.bool (restOK' s m i), []) := by
  intro m
  induction m with
  | zero =>
    intro i hi
    have h1 : ¬ (i : Int) < (s.size : Int) := by omega
    refine loopAt_step ok71_.good 1000 ?_
    ((repeat ((conv => lhs; whnf); simp only [go_sem, simprocAttr, sem71_, h1])); try (conv => lhs; whnf); try rfl)
    refine exit_run ok71_.good 1000 ?_
    simp only [restOK']
    ((repeat ((conv => lhs; whnf); simp only [go_sem, simprocAttr, sem71_])); try (conv => lhs; whnf); try rfl)
  | succ m ih =>
    intro i hi
    have h1 : (i : Int) < (s.size : Int) := by omega
    have h2 := wrap_succ (i := i) (n := s.size) (by omega) (by unfold maxLen; omega)
    have h4 : 0 ≤ (i : Int) ∧ (i : Int) < (s.size : Int) := ⟨by omega, h1⟩
    have key := ih (i + 1) (by omega)
    refine loopAt_step ok71_.good 1000 ?_
    simp only [restOK']
    cases hl : isLetter (byteAt s i)
    · by_cases c0 : i = 0
      · have c0' : (i : Int) = 0 := by omega
        simp only [c0, ne_eq, not_true, decide_false, Bool.false_and, Bool.or_self]
        simp only [c0, Int.natCast_zero] at h1 h4 hl c0' ⊢
        ((repeat ((conv => lhs; whnf); simp only [go_sem, simprocAttr, sem71_, h1, h4, letter8_o, hl, Int.toNat_zero])); try (conv => lhs; whnf); try rfl)
      · have c0' : ¬ (i : Int) = 0 := by omega
        by_cases c1 : byteAt s i < 48
        · have c1' : ¬ 48 ≤ byteAt s i := by omega
          simp only [c0, c1', ne_eq, not_false_eq_true, decide_true, Bool.true_and, decide_false, Bool.false_and, Bool.or_self]
          ((repeat ((conv => lhs; whnf); simp only [go_sem, simprocAttr, sem71_, h1, h2, h4, letter8_o, hl, Int.toNat_natCast, c0', c1])); try (conv => lhs; whnf); try rfl)
        · have c1' : 48 ≤ byteAt s i := by omega
          by_cases c2 : 57 < byteAt s i
          · have c2' : ¬ byteAt s i ≤ 57 := by omega
            simp only [c0, c1', c2', ne_eq, not_false_eq_true, decide_true, decide_false, Bool.true_and, Bool.or_self, Bool.false_and]
            ((repeat ((conv => lhs; whnf); simp only [go_sem, simprocAttr, sem71_, h1, h2, h4, letter8_o, hl, Int.toNat_natCast, c0', c1, c2])); try (conv => lhs; whnf); try rfl)
          · have c2' : byteAt s i ≤ 57 := by omega
            simp only [c0, c1', c2', ne_eq, not_false_eq_true, decide_true, Bool.true_and, Bool.or_true, Bool.and_self]
            ((repeat ((conv => lhs; whnf); simp only [go_sem, simprocAttr, sem71_, h1, h2, h4, letter8_o, hl, Int.toNat_natCast, c0', c1, c2])); try (conv => lhs; whnf); try rfl)
            exact key
    · simp only [Bool.true_or, Bool.true_and]
      ((repeat ((conv => lhs; whnf); simp only [go_sem, simprocAttr, sem71_, h1, h2, h4, letter8_o, hl, Int.toNat_natCast])); try (conv => lhs; whnf); try rfl)
      exact key
theorem call_Name8 (s : ByteArray) : callL Tryz.prog hints 71 [.str s] = some (.bool (nameOK s)) := by
  refine FX.callL (r := (.bool (nameOK s), [])) ok71_ 1000 rfl rfl ?_ rfl
  unfold nameOK
  by_cases h0 : s.size = 0
  · simp only [h0, Nat.lt_irrefl, decide_false, Bool.false_and]
    ((repeat ((conv => lhs; whnf); simp only [go_sem, simprocAttr, sem71_, h0])); try (conv => lhs; whnf); try rfl)
  · have h0' : 0 < s.size := by omega
    have h5 : ¬ (s.size : Int) = 0 := by omega
    by_cases h1 : s.size ≤ 12
    · have h4 : ¬ (12 : Int) < (s.size : Int) := by omega
      have key := loop_Name8 s h1 s.size 0 (by omega)
      obtain ⟨m, hm⟩ : ∃ m, s.size = m + 1 := ⟨s.size - 1, by omega⟩
      have h7 : restOK' s s.size 0 = (isLetter (byteAt s 0) && restOK s s.size 0) := by
        rw [hm]
        simp only [restOK', restOK, isAlnum, restOK'_eq s m (0 + 1) (by omega)]
        cases isLetter (byteAt s 0) <;> simp
      simp only [h0', h1, decide_true, Bool.true_and]
      rw [h7] at key
      cases k1 : kw1 s <;> cases k2 : kw2 s <;> cases k3 : kw3 s <;> cases k4 : kw4 s <;>
        (simp only [keyword, k1, k2, k3, k4, Bool.or_true, Bool.or_false, Bool.true_or, Bool.false_or, Bool.not_true, Bool.not_false, Bool.and_true, Bool.and_false]; unfold kw1 kw2 kw3 kw4 at *; ((repeat ((conv => lhs; whnf); simp only [go_sem, simprocAttr, sem71_, h5, h4, k1, k2, k3, k4])); try (conv => lhs; whnf); try rfl); try exact key)
    · have h4 : (12 : Int) < (s.size : Int) := by omega
      simp only [h0', h1, decide_true, decide_false, Bool.true_and, Bool.false_and]
      ((repeat ((conv => lhs; whnf); simp only [go_sem, simprocAttr, sem71_, h5, h4])); try (conv => lhs; whnf); try rfl)
theorem Name8_o (S : Store) (s : ByteArray) : callO (callL Tryz.prog hints) S 71 [.str s] = some { v := .bool (nameOK s) } := callO_plain (call_Name8 s) (by simp [Plain.str])
theorem Name_o (S : Store) (s : ByteArray) : callO (callL Tryz.prog hints) S 108 [.str s] = some { v := .bool (nameOK s) } := callO_plain (call_Name s) (by simp [Plain.str])
end
end Go.Vs
end
section
set_option linter.unusedVariables false
set_option linter.unusedSimpArgs false
set_option maxRecDepth 100000
namespace Go.Vs
open Go Go.Proofs
def primed (s : ByteArray) : Bool := decide (0 < s.size) && decide (byteAt s (s.size - 1) = 39)
def varOK (s : ByteArray) : Bool := nameOK (if primed s = true then s.extract 0 (s.size - 1) else s)
section
attribute [local irreducible] Vs.callL Vs.callRL tyi callO callM callMV appendE storeE evLoad indexAddrO sliceO evFieldAddr evField buildO buildSliceO makeSliceO allocO boxed lenO copyE convertO indexO Vs.gc freezeAll
end
end Go.Vs
end
