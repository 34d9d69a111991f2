/- A law's arguments as pure values, with a bound for what they hold: the second form's bulk. -/
import Derived.Test.YtnddhkcciphhkaaRows
import Derived.Test.YtnddhkcciphhkaaMQ9
import Derived.Test.YtnddhkcciphhkaaMQ12
import Derived.Test.YtnddhkcciphhkaaMQ17
import Derived.Test.YtnddhkcciphhkaaMQ18
import Derived.Test.YtnddhkcciphhkaaMQ22
section
set_option linter.unusedVariables false
set_option linter.unusedSimpArgs false
namespace Go.Vs
open Go Go.RowKit Go.Proofs
mutual
/-- How much a value holds. -/
def pvB : PV → Nat
  | .sl rows _ => rowsB rows + 1
  | .agg ps => pvsB ps
  | .str s => s.size + 1
  | _ => 1
def pvsB : List PV → Nat
  | [] => 0
  | p :: r => pvB p + pvsB r
def rowsB : List (List PV) → Nat
  | [] => 0
  | p :: r => pvsB p + rowsB r
end
theorem pvsB_app : ∀ a b : List PV, pvsB (a ++ b) = pvsB a + pvsB b
  | [], b => by simp [pvsB]
  | x :: a, b => by simp [pvsB, pvsB_app a b, Nat.add_assoc]
open Go.Proofs.Ytnddhkcciphhkaa.Rows
section
variable {H : Type}
theorem fields_relB {P : Program} {w : World} {k : Nat} {cs : List Value} : ∀ (fs : List Field) (xs : List (DataW H × List MemPlace)) (o : Nat), tight P o fs = true → o + spanOf P fs = cs.length → xs.length = fs.length →
    (∀ (i : Nat) (f : Field), fs[i]? = some f → ∃ b, xs[i]? = some b ∧ ∃ ps, Dt P k f.type ps ∧ Rel w ps ((cs.drop f.offset).take (P.cellsOf f.type)) ∧ pvsB ps ≤ uptoBulk b.1) →
    ∃ pss : List (List PV), All2 (fun (f : Field) ps => Dt P k f.type ps) fs pss ∧ Rel w pss.flatten (cs.drop o) ∧ pvsB pss.flatten ≤ uptoBulkAll (xs.map (·.1))
  | [], [], o, _, hl, _, _ => ⟨[], .nil, by
    simp only [spanOf] at hl
    rw [List.drop_of_length_le (by omega)]
    exact Rel.nil, by simp [pvsB, uptoBulkAll]⟩
  | f :: r, x :: xs, o, ht, hl, hx, h => by
    simp only [tight, Bool.and_eq_true, beq_iff_eq] at ht
    simp only [spanOf] at hl
    obtain ⟨b, hb, ps, h1, h2, h2'⟩ := h 0 f rfl
    simp only [List.getElem?_cons_zero, Option.some.injEq] at hb
    subst hb
    obtain ⟨pss, h3, h4, h5⟩ := fields_relB (cs := cs) r xs (o + P.cellsOf f.type) ht.2 (by omega) (by simpa using hx) fun i g hg => by
      have := h (i + 1) g (by simpa using hg)
      simpa using this
    refine ⟨ps :: pss, .cons h1 h3, ?_, ?_⟩
    · have e : cs.drop o = (cs.drop f.offset).take (P.cellsOf f.type) ++ cs.drop (o + P.cellsOf f.type) := by
        rw [ht.1, ← List.drop_drop, List.take_append_drop]
      rw [e, List.flatten_cons]
      exact h2.app h4
    · rw [List.flatten_cons, pvsB_app, List.map_cons]
      simp only [uptoBulkAll]
      omega
  | [], _ :: _, _, _, _, hx, _ => by simp at hx
  | _ :: _, [], _, _, _, hx, _ => by simp at hx

theorem rows_bulk {n : Nat} {g : Nat → List PV} : ∀ {l : List (DataW H × List MemPlace)} (o : Nat), (∀ i b, l[i]? = some b → pvsB (g (o + i)) ≤ uptoBulk b.1) → rowsB ((List.range' o l.length).map g) ≤ uptoBulkAll (l.map (·.1))
  | [], o, _ => by simp [rowsB]
  | x :: l, o, h => by
    have h0 := h 0 x rfl
    have h1 := rows_bulk (n := n) (g := g) (l := l) (o + 1) fun i b hb => by
      have := h (i + 1) b (by simpa using hb)
      rw [show o + (i + 1) = o + 1 + i by omega] at this
      exact this
    simp only [List.length_cons, List.range'_succ, List.map_cons, rowsB, uptoBulkAll]
    simp only [Nat.add_zero] at h0
    omega

theorem trod_relB {enc : TypeId × Value → H} {P : Program} {w : World} {base : Nat} {sp : Nat → Bool} {held : Bool} {L : List TypeId} (hL : closedB P L = true) : ∀ (fuel : Nat) {t : TypeId} {cs : List Value} {x : DataW H × List MemPlace}, t ∈ L →
    DataW.trod enc P w base sp held fuel t cs = some x → ∃ pvs, Dt P fuel t pvs ∧ Rel w pvs cs ∧ pvsB pvs ≤ uptoBulk x.1 := by
  intro fuel
  induction fuel with
  | zero => intro t cs x _ h; cases h
  | succ k ih =>
    intro t cs x ht h
    have hc := (List.all_eq_true.1 hL) t ht
    unfold DataW.trod at h
    simp only [Dt]
    cases hu : P.underlying t with
    | none => rw [hu] at hc; cases hc
    | some d =>
      rw [hu] at hc h
      cases d <;> simp only [reduceCtorEq, Bool.false_eq_true] at hc
      case bool =>
        split at h <;> try (first | (cases h; done) | (rename_i hq; cases hq; done))
        rename_i hq
        cases hq
        cases h
        exact ⟨_, ⟨_, rfl⟩, .one (.bool _), by simp [pvsB, pvB, uptoBulk]⟩
      case int kd =>
        split at h <;> try (first | (cases h; done) | (rename_i hq; cases hq; done))
        rename_i hq
        cases hq
        split at h
        · rename_i hw
          obtain ⟨rfl, hw⟩ := hw
          cases h
          exact ⟨_, ⟨_, hw, rfl⟩, .one (.int _ _), by simp [pvsB, pvB, uptoBulk]⟩
        · cases h
      case string =>
        split at h <;> try (first | (cases h; done) | (rename_i hq; cases hq; done))
        rename_i hq
        cases hq
        split at h
        · rename_i hw
          cases h
          exact ⟨_, ⟨_, hw, rfl⟩, .one (.str _), by
            simp only [pvsB, pvB, uptoBulk, Array.length_toList]
            exact Nat.le_refl _⟩
        · cases h
      case slice e =>
        simp only [Bool.and_eq_true, List.contains_iff_mem, beq_iff_eq] at hc
        split at h <;> try (first | (cases h; done) | (rename_i hq; cases hq; done))
        · have key := FR.sl (w := w) (av := NoAv) [] false none 0 default 0 (fun _ _ => Go.undef) (Nat.le_refl _) (by simp) (fun _ => rfl) (fun h => absurd rfl h) (by simp) (by simp) (by simp)
          cases h
          exact ⟨_, ⟨[], rfl, by simp, by simp⟩, .one key, by simp [pvsB, pvB, rowsB, uptoBulk]⟩
        · rename_i e0 a len cap hq
          cases hq
          split at h
          case isFalse => cases h
          rename_i hcap
          obtain ⟨elems, h2, h2'⟩ := bind_some h
          obtain ⟨h3, h4⟩ := mapM_at h2
          rw [List.length_range] at h3
          have each : ∀ i, i < len → ∃ ps, Dt P k e ps ∧ ps.length = P.cellsOf e ∧ (∀ j pv, ps[j]? = some pv → ∃ u, w.cell? (a.add (i * P.cellsOf e + j)) = some u ∧ FR w NoAv pv u) ∧ ∀ b, elems[i]? = some b → pvsB ps ≤ uptoBulk b.1 := by
            intro i hi
            obtain ⟨b, hb, hb'⟩ := h4 i i (by simp [hi])
            obtain ⟨cs, hcs, hb⟩ := bind_some hb
            obtain ⟨ps, p1, p2, p3⟩ := ih hc.1 hb
            unfold World.cells? at hcs
            split at hcs
            · obtain ⟨q1, q2⟩ := mapM_at hcs
              rw [List.length_range] at q1
              refine ⟨ps, p1, by rw [p2.1, q1], fun j pv hj => ?_, fun b' hb2 => ?_⟩
              · have hjl := (List.getElem?_eq_some_iff.1 hj).1
                rw [p2.1, q1] at hjl
                obtain ⟨u, hu1, hu2⟩ := q2 j j (by simp [hjl])
                rw [add_add] at hu1
                exact ⟨u, hu1, p2.2 j pv u hj hu2⟩
              · rw [hb'] at hb2
                cases hb2
                exact p3
            · cases hcs
          -- the rows
          have pick : ∀ i : Nat, ∃ ps : List PV, i < len → Dt P k e ps ∧ ps.length = P.cellsOf e ∧ (∀ j pv, ps[j]? = some pv → ∃ u, w.cell? (a.add (i * P.cellsOf e + j)) = some u ∧ FR w NoAv pv u) ∧ ∀ b, elems[i]? = some b → pvsB ps ≤ uptoBulk b.1 := fun i => by
            by_cases hi : i < len
            · obtain ⟨ps, hps⟩ := each i hi
              exact ⟨ps, fun _ => hps⟩
            · exact ⟨[], fun h => absurd h hi⟩
          obtain ⟨g, hg⟩ := Classical.axiomOfChoice pick
          have hrows : ∀ i row, ((List.range len).map g)[i]? = some row → i < len ∧ row = g i := fun i row hi => by
            rw [List.getElem?_map] at hi
            by_cases hlt : i < len
            · rw [List.getElem?_range hlt] at hi
              simp at hi
              exact ⟨hlt, hi.symm⟩
            · rw [List.getElem?_eq_none (by simpa using hlt)] at hi; cases hi
          have hlen : ((List.range len).map g).length = len := by simp
          have hbulk : rowsB ((List.range len).map g) ≤ uptoBulkAll (elems.map (·.1)) := by
            rw [List.range_eq_range', ← h3]
            refine rows_bulk (n := 0) 0 fun i b hb => ?_
            rw [Nat.zero_add]
            refine (hg i ?_).2.2.2 b hb
            rw [← h3]
            exact (List.getElem?_eq_some_iff.1 hb).1
          obtain ⟨rest, _, hx⟩ := map_some h2'
          refine ⟨_, ⟨(List.range len).map g, rfl, by rw [hlen]; omega, fun row hrow => ?_⟩, ?_, ?_⟩
          · obtain ⟨i, hi⟩ := List.getElem?_of_mem hrow
            obtain ⟨hlt, rfl⟩ := hrows i row hi
            exact (hg i hlt).1
          · have key := FR.sl (w := w) (av := NoAv) ((List.range len).map g) false (some a) cap a (P.cellsOf e) (fun i j => (w.cell? (a.add (i * P.cellsOf e + j))).getD Go.undef) (by rw [hlen]; exact hcap.2.1) (by simp) (by simp) (fun _ => rfl)
              (fun row hrow => by
                obtain ⟨i, hi⟩ := List.getElem?_of_mem hrow
                obtain ⟨hlt, rfl⟩ := hrows i row hi
                exact (hg i hlt).2.1)
              (fun i row j pv hi hj => by
                obtain ⟨hlt, rfl⟩ := hrows i row hi
                obtain ⟨u, u1, u2⟩ := (hg i hlt).2.2.1 j pv hj
                rw [u1]
                exact ⟨rfl, fun h => h⟩)
              (fun i row j pv hi hj => by
                obtain ⟨hlt, rfl⟩ := hrows i row hi
                obtain ⟨u, u1, u2⟩ := (hg i hlt).2.2.1 j pv hj
                simp only [u1, Option.getD_some]
                exact u2)
            rw [hlen] at key
            exact .one key
          · subst hx
            simp only [pvsB, pvB, uptoBulk]
            omega
      case struct fs =>
        simp only [Bool.and_eq_true, List.all_eq_true, List.contains_iff_mem, beq_iff_eq] at hc
        replace h : (if cs.length = P.cellsOf t then (fs.toList.mapM fun f => DataW.trod enc P w base sp held k f.type ((cs.drop f.offset).take (P.cellsOf f.type))).map fun xs => (.agg (xs.map (·.1)), xs.flatMap (·.2)) else none) = some x := h
        split at h
        case isFalse => cases h
        rename_i hlen
        obtain ⟨xs, h2, hx⟩ := map_some h
        obtain ⟨h3, h4⟩ := mapM_at h2
        obtain ⟨pss, q1, q2, q3⟩ := fields_relB (P := P) (w := w) (k := k) (cs := cs) fs.toList xs 0 hc.1.1 (by rw [Nat.zero_add, hc.1.2, hlen]) h3 (fun i f hf => by
          obtain ⟨b, hb, hb'⟩ := h4 i f hf
          exact ⟨b, hb', ih (hc.2 f (List.mem_of_getElem? hf)) hb⟩)
        subst hx
        exact ⟨_, ⟨pss, rfl, q1⟩, by simpa using q2, by simp only [uptoBulk]; omega⟩

theorem arg_ofB {enc : TypeId × Value → H} {P : Program} {W : World} {base base' : Nat} {sp : Nat → Bool} {held : Bool} {L : List TypeId} (hL : closedB P L = true) {t : TypeId} (ht : t ∈ L) {v : Value} {d : DataW H} {p : List MemPlace}
    (hok : Value.okWide P W .any base' t v) (h : DataW.Trod enc P W base sp held t v d p) : ∃ k pv, Arg P k t pv ∧ VR W NoAv noMu pv v ∧ pvB pv ≤ uptoBulk d := by
  obtain ⟨fuel, h⟩ := h
  obtain ⟨pvs, h1, h2, h3⟩ := trod_relB hL fuel ht h
  rcases okWide_form hL ht hok with ⟨fs, cs, hu, rfl⟩ | ⟨hu, hv⟩
  · refine ⟨fuel, .agg pvs, by unfold Arg; rw [hu]; exact ⟨pvs, rfl, h1⟩, .agg _ _ (by rw [h2.1]; rfl) (fun j v hv => ?_) (fun j pv v hp hv => .fr (h2.2 j pv v hp (by rw [← hv]; exact Array.getElem?_toList))), by simpa only [pvB] using h3⟩
    have hlt := (Array.getElem?_eq_some_iff.1 hv).1
    have hp : pvs[j]? = some (pvs[j]'(by rw [h2.1]; exact hlt)) := List.getElem?_eq_getElem _
    exact FR.flat _ _ (h2.2 j _ v hp (by rw [← hv]; exact Array.getElem?_toList))
  · rw [hv] at h2
    obtain ⟨pv, rfl⟩ : ∃ pv, pvs = [pv] := by
      have := h2.1
      cases pvs with
      | nil => simp at this
      | cons a l => cases l with
        | nil => exact ⟨a, rfl⟩
        | cons _ _ => simp at this
    refine ⟨fuel, pv, ?_, .fr (h2.2 0 pv v rfl rfl), by simpa [pvsB] using h3⟩
    unfold Arg
    split
    · rename_i fs hq; exact absurd hq (hu fs)
    · exact h1

theorem args_ofB {enc : TypeId × Value → H} {P : Program} {W : World} {base base' : Nat} {sp : Nat → Bool} {held : Bool} {L : List TypeId} (hL : closedB P L = true) : ∀ {ts : List TypeId} {vs : List Value} {ds : List (DataW H)} {p : List MemPlace}, (∀ t ∈ ts, t ∈ L) →
    (∀ (j : Nat) (t : TypeId) (v : Value), ts[j]? = some t → vs[j]? = some v → Value.okWide P W .any base' t v) → DataW.TrodAll enc P W base sp held ts vs ds p →
    ∃ pvs, Args P ts pvs ∧ pvs.length = vs.length ∧ (∀ (j : Nat) (pv : PV) (v : Value), pvs[j]? = some pv → vs[j]? = some v → VR W NoAv noMu pv v) ∧ pvsB pvs ≤ uptoBulkAll ds
  | [], [], [], _, _, _, _ => ⟨[], .nil, rfl, by simp, by simp [pvsB, uptoBulkAll]⟩
  | t :: ts, v :: vs, d :: ds, _, hsub, hok, ⟨p, q, h1, h2, _⟩ => by
    obtain ⟨k, pv, a1, a2, a3⟩ := arg_ofB hL (hsub t (by simp)) (hok 0 t v rfl rfl) h1
    obtain ⟨pvs, b1, b2, b3, b4⟩ := args_ofB hL (fun t ht => hsub t (by simp [ht])) (fun j t v h1 h2 => hok (j + 1) t v h1 h2) h2
    refine ⟨pv :: pvs, .cons ⟨k, a1⟩ b1, by simp [b2], fun j pv' v' hp hv => ?_, by simp only [pvsB, uptoBulkAll]; omega⟩
    cases j with
    | zero => simp at hp hv; subst hp; subst hv; exact a2
    | succ j => simp at hp hv; exact b3 j pv' v' hp hv
  | [], [], _ :: _, _, _, _, h => h.elim
  | [], _ :: _, _, _, _, _, h => h.elim
  | _ :: _, [], _, _, _, _, h => h.elim
  | _ :: _, _ :: _, [], _, _, _, h => h.elim

/-- The call of a law that is true of arguments of bulk at most n. -/
theorem law_callsB {P : Program} {Hn : Hints} (hm : P.follows .mixedOrders = true) {f : FuncId} {ts : List TypeId} {n : Nat} (law : ∀ pvs, Args P ts pvs → pvsB pvs ≤ n → ∃ n, callP P Hn n f pvs = some (.bool true)) {L : List TypeId} (hL : closedB P L = true) (hsub : ∀ t ∈ ts, t ∈ L)
    {enc : TypeId × Value → H} {W : World} {base base' : Nat} {sp : Nat → Bool} {held : Bool} {args : Array Value} {ds : List (DataW H)} {p : List MemPlace} (hn : uptoBulkAll ds ≤ n)
    (hok : ∀ (j : Nat) (t : TypeId) (v : Value), ts[j]? = some t → args[j]? = some v → Value.okWide P W .any base' t v) (h : DataW.TrodAll enc P W base sp held ts args.toList ds p) :
    Calls P f args W fun e W' => e = .returned (.bool true) ∧ Below W.heap.size W W' := by
  obtain ⟨pvs, a1, a2, a3, a4⟩ := args_ofB hL hsub (fun j t v h1 h2 => hok j t v h1 (by rw [← Array.getElem?_toList]; exact h2)) h
  obtain ⟨n, hn⟩ := law pvs a1 (by omega)
  obtain ⟨fn, c, e1, e2, e3, e4⟩ := callP_sound hm n f pvs _ hn
  refine (e4 W NoAv args (fun b h => h.elim) (by rw [a2]; exact Array.length_toList) (fun j pv v hp hv => a3 j pv v hp (by rw [Array.getElem?_toList]; exact hv))).mono ?_
  rintro e w' ⟨v, rfl, hg, hv⟩
  exact ⟨by rw [hv.bool_inv], Grown.below hg⟩
end
end Go.Vs
end
/- Printed by a program of mine (stage1.py): the functions 12, piece by piece. -/
section
set_option linter.unusedVariables false
set_option linter.unusedSimpArgs false
namespace Go.Vs
open Go Go.Proofs
noncomputable section

/-! ### isochronelaw08.TreeReplaces -/
namespace F12
section
variable (b : Nat) (K : KT) (x0 x1 x2 x3 x5 x6 x7 x8 x9 x10 x11 x12 x13 x14 x15 x16 x18 x26 x34 x49 x58 : PV) (e : Env) (S : Store)
end
end F12
end
end Go.Vs
end
/- TreeReplaces gives true. -/
section
set_option linter.unusedVariables false
set_option linter.unusedSimpArgs false
namespace Go.Vs
open Go Go.Proofs
end Go.Vs
end
/- TreeReplaces gives true for all arguments of bulk at most 1048576. -/
section
set_option linter.unusedVariables false
namespace Go.Vs
open Go Go.Proofs
end Go.Vs
end
/- Printed by a program of mine (stage1.py): the functions 75, 80, 53, 82, 55, 56, 11, piece by piece. -/
section
set_option linter.unusedVariables false
set_option linter.unusedSimpArgs false
namespace Go.Vs
open Go Go.Proofs
noncomputable section

/-! ### isochroneref08.whole -/
namespace F75
section
variable (b : Nat) (K : KT) (x0 x1 x2 x3 x12 : PV) (e : Env) (S : Store)
noncomputable def hint : Hint := { keep := [], loops := [], regs := [(0, [1]), (1, [1, 3]), (2, [1, 3, 12]), (3, [2]), (4, [2])] }
noncomputable def C (b : Nat) : Ctx := ctxL Try.prog hints b hint
noncomputable def code : Code := Try.f75.body.get rfl
noncomputable def k0 (b : Nat) : KT := endC Try.prog Try.f75
def ee0 (x1 : PV) : Env := [(1, x1)]
def ee1 (x1 x3 : PV) : Env := [(1, x1), (3, x3)]
def ee2 (x1 x3 x12 : PV) : Env := [(1, x1), (3, x3), (12, x12)]
def ee3 (x2 : PV) : Env := [(2, x2)]
def c1 : Code := at0 code
def c2 : Code := at1 code
def c3 : Code := at0 c2
def c4 : Code := at1 c2
def c5 : Code := at0 c4
def c6 : Code := at1 c4
def c7 : Code := at0 c6
def c8 : Code := at1 c6
def k9 (b : Nat) : KT := seqC (fun e S => execL (C b) 0 c8 (k0 b) e S) (k0 b)
@[go_sem] theorem k9_n : k9 b .normal (ee3 x2) S =
  (k0 b) .ret (ee3 x2) S := nr (seqN (execL_ret (by kernel_rfl)))
def k10 (b : Nat) : KT := seqC (fun e S => execL (C b) 0 c6 (k0 b) e S) (k0 b)
@[go_sem] theorem g11 : execL (C b) 0 c7 K (ee2 x1 x3 x12) S =
  withV (evLoad (tyi Try.prog 54) S x1) fun x13 =>
    withV (some x3) fun x14 =>
    withN (callO (callL Try.prog hints) S 37 [x13, x14]) S fun x15 S =>
    withV (some x15) fun x2 =>
    K .normal (ee3 x2) S := nr (by kernel_rfl)
@[go_sem] theorem k10_n : k10 b .normal e S = execL (C b) 0 c7 (k9 b) e S := nr (seqN (enterS (by kernel_rfl)))
@[go_sem] theorem k10_ret : k10 b .ret e S = (k0 b) .ret e S := nr (seqC_r _ _ _ _)
def k12 (b : Nat) : KT := seqC (fun e S => execL (C b) 0 c4 (k0 b) e S) (k0 b)
def c13 : Code := at0 c5
def c14 : Code := at1 c5
def k15 (b : Nat) : KT := seqC (fun e S => execL (C b) 0 c14 (k10 b) e S) (k10 b)
def c16 : Code := atT c14
def c19 : Code := at0 c16
def c20 : Code := at1 c16
def k21 (b : Nat) : KT := seqC (fun e S => execL (C b) 0 c20 (k10 b) e S) (k10 b)
@[go_sem] theorem k21_n : k21 b .normal (ee3 x2) S =
  (k10 b) .ret (ee3 x2) S := nr (seqN (execL_ret (by kernel_rfl)))
@[go_sem] theorem g22 : execL (C b) 0 c19 K (ee2 x1 x3 x12) S =
  withV (some (.int .i64 80)) fun x2 =>
    K .normal (ee3 x2) S := nr (by kernel_rfl)
@[go_sem] theorem k15_n : k15 b .normal (ee2 x1 x3 x12) S =
  condC x12 (execL (C b) 0 c19 (k21 b) (ee2 x1 x3 x12) S)
    ((k10 b) .normal (ee2 x1 x3 x12) S) := nr (seqN (condE (t := 12) (by kernel_rfl) (enterS (by kernel_rfl)) (execL_skip (by kernel_rfl)) rfl))
@[go_sem] theorem g23 : execL (C b) 0 c13 K (ee1 x1 x3) S =
  withV (some x3) fun x7 =>
    withV (evBin .eql (tyi Try.prog 3) x7 (.int .i64 0)) fun x8 =>
    withV (some x8) fun x9 =>
    withV (gval x9 false (some x3)) fun x10 =>
    withV (gval x9 false (evBin .eql (tyi Try.prog 3) x10 (.int .i64 4))) fun x11 =>
    withV (pickO x9 (.bool true) x11) fun x12 =>
    K .normal (ee2 x1 x3 x12) S := nr (by kernel_rfl)
@[go_sem] theorem k12_n : k12 b .normal (ee1 x1 x3) S =
  execL (C b) 0 c13 (k15 b) (ee1 x1 x3) S := nr (seqN ((enterS (by kernel_rfl)).trans (enterS (by kernel_rfl))))
def k24 (b : Nat) : KT := seqC (fun e S => execL (C b) 0 c2 (k0 b) e S) (k0 b)
@[go_sem] theorem g25 : execL (C b) 0 c3 K (ee0 x1) S =
  withV (evFieldAddr (tyi Try.prog 54) 0 x1) fun x4 =>
    withV (evLoad (tyi Try.prog 3) S x4) fun x5 =>
    withN (callO (callL Try.prog hints) S 41 [x5]) S fun x6 S =>
    withV (some x6) fun x3 =>
    K .normal (ee1 x1 x3) S := nr (by kernel_rfl)
@[go_sem] theorem k24_n : k24 b .normal e S = execL (C b) 0 c3 (k12 b) e S := nr (seqN (enterS (by kernel_rfl)))
@[go_sem] theorem g26 : execL (C b) 0 c1 K [(0, x0)] S =
  withN (boxed S (List.length S) (TI.size (tyi Try.prog 54)) x0) S fun x1 S =>
    withV (some (.int .i64 0)) fun x2 =>
    K .normal (ee0 x1) S := nr (by kernel_rfl)
def E (b : Nat) (x0 : PV) (S : Store) : RT := execL (C b) 0 code (k0 b) [(0, x0)] S
@[go_sem] theorem E_eq : E b x0 S =
  execL (C b) 0 c1 (k24 b) [(0, x0)] S := nr (enterS (by kernel_rfl))
@[go_sem] theorem k0_ret3 : k0 b .ret (ee3 x2) S = some (x2, S) := nr (by kernel_rfl)
theorem call {x0 : PV} {r : PV × Store} {v : PV} (h : E 0 x0 [] = some r) (hv : fzPV r.2 r.1 = some v) : callL Try.prog hints 75 [x0] = some v := callL_of (fn := Try.f75) (c := code) (by kernel_rfl) (by kernel_rfl) (by decide) (by kernel_rfl) (Nat.le_of_ble_eq_true (by kernel_rfl)) h hv
end
end F75
/-! ### isochroneref08.at -/
namespace F80
section
variable (b i n n0 : Nat) (K : KT) (x0 x1 x2 x4 x5 x6 x10 x27 : PV) (e : Env) (S : Store)
end
end F80
/-! ### isochroneref08.At -/
namespace F53
section
variable (b : Nat) (K : KT) (x0 x1 x2 x4 x5 x6 x7 x8 x12 x22 : PV) (e : Env) (S : Store)
end
end F53
/-! ### isochroneref08.Put -/
namespace F82
section
variable (b : Nat) (K : KT) (x0 x1 x2 x3 x5 x6 x7 x10 : PV) (e : Env) (S : Store)
end
end F82
/-! ### isochroneref08.Replace -/
namespace F55
section
variable (b : Nat) (K : KT) (x0 x1 x2 x3 x5 x6 x7 x8 x9 x10 x11 x12 x20 x34 x46 : PV) (e : Env) (S : Store)
end
end F55
/-! ### isochroneref08.Equal -/
namespace F56
section
variable (b : Nat) (K : KT) (x0 x1 x2 x3 x4 : PV) (e : Env) (S : Store)
noncomputable def hint : Hint := { keep := [], loops := [], regs := [(0, [2, 3]), (1, [4])] }
noncomputable def C (b : Nat) : Ctx := ctxL Try.prog hints b hint
noncomputable def code : Code := Try.f56.body.get rfl
noncomputable def k0 (b : Nat) : KT := endC Try.prog Try.f56
def ee0 (x2 x3 : PV) : Env := [(2, x2), (3, x3)]
def ee1 (x4 : PV) : Env := [(4, x4)]
def c1 : Code := at0 code
def c2 : Code := at1 code
def c3 : Code := at0 c2
def c4 : Code := at1 c2
def k5 (b : Nat) : KT := seqC (fun e S => execL (C b) 0 c4 (k0 b) e S) (k0 b)
@[go_sem] theorem k5_n : k5 b .normal (ee1 x4) S =
  (k0 b) .ret (ee1 x4) S := nr (seqN (execL_ret (by kernel_rfl)))
def k6 (b : Nat) : KT := seqC (fun e S => execL (C b) 0 c2 (k0 b) e S) (k0 b)
@[go_sem] theorem g7 : execL (C b) 0 c3 K (ee0 x2 x3) S =
  withV (evLoad (tyi Try.prog 54) S x2) fun x5 =>
    withV (evLoad (tyi Try.prog 54) S x3) fun x6 =>
    withN (callO (callL Try.prog hints) S 46 [x5, x6]) S fun x7 S =>
    withV (evBin .eql (tyi Try.prog 3) x7 (.int .i64 0)) fun x8 =>
    withV (some x8) fun x4 =>
    K .normal (ee1 x4) S := nr (by kernel_rfl)
@[go_sem] theorem k6_n : k6 b .normal e S = execL (C b) 0 c3 (k5 b) e S := nr (seqN (enterS (by kernel_rfl)))
@[go_sem] theorem g8 : execL (C b) 0 c1 K [(0, x0), (1, x1)] S =
  withN (boxed S (List.length S) (TI.size (tyi Try.prog 54)) x0) S fun x2 S =>
    withN (boxed S (List.length S) (TI.size (tyi Try.prog 54)) x1) S fun x3 S =>
    withV (some (.bool false)) fun x4 =>
    K .normal (ee0 x2 x3) S := nr (by kernel_rfl)
def E (b : Nat) (x0 x1 : PV) (S : Store) : RT := execL (C b) 0 code (k0 b) [(0, x0), (1, x1)] S
@[go_sem] theorem E_eq : E b x0 x1 S =
  execL (C b) 0 c1 (k6 b) [(0, x0), (1, x1)] S := nr (enterS (by kernel_rfl))
@[go_sem] theorem k0_ret1 : k0 b .ret (ee1 x4) S = some (x4, S) := nr (by kernel_rfl)
theorem call {x0 x1 : PV} {r : PV × Store} {v : PV} (h : E 0 x0 x1 [] = some r) (hv : fzPV r.2 r.1 = some v) : callL Try.prog hints 56 [x0, x1] = some v := callL_of (fn := Try.f56) (c := code) (by kernel_rfl) (by kernel_rfl) (by decide) (by kernel_rfl) (Nat.le_of_ble_eq_true (by kernel_rfl)) h hv
end
end F56
/-! ### isochronelaw08.TreePlaces -/
namespace F11
section
variable (b : Nat) (K : KT) (x0 x1 x2 x3 x5 x6 x7 x8 x9 x10 x11 x12 x13 x14 x16 x24 : PV) (e : Env) (S : Store)
end
end F11
end
end Go.Vs
end
/- The reference's whole, at, At, Put, Replace: what they return; TreePlaces gives true. -/
section
set_option linter.unusedVariables false
set_option linter.unusedSimpArgs false
namespace Go.Vs
open Go Go.Proofs
theorem call75 (n : Node) (hn : n.ok) (hc : n.count ≤ 1000000000) : callL Try.prog hints 75 [.agg n.cells] = some (.int .i64 n.rootErr) := by
  refine F75.call (r := (.int .i64 n.rootErr, [.arr [n.cells] none false])) ?_ rfl
  have h1 := fun S s => callO_plain (S := S) (call37 n hn s) (by simp [Node.plain, Plain.int])
  simp only [check_same n hn hc] at h1
  unfold Node.rootErr
  by_cases h0 : sortOf n.op = 0
  · simp only [go_sem, ↓reduceIte, Nat.reduceEqDiff, Nat.reduceBEq, Nat.reduceAdd, Nat.reduceMul, Nat.reduceSub, Nat.reduceLT, Nat.reduceLeDiff, reduceCtorEq, Int.reduceToNat, Int.reduceLE, Int.reduceLT, Int.reduceEq, h0, true_or]
  by_cases h4 : sortOf n.op = 4
  · simp only [go_sem, ↓reduceIte, Nat.reduceEqDiff, Nat.reduceBEq, Nat.reduceAdd, Nat.reduceMul, Nat.reduceSub, Nat.reduceLT, Nat.reduceLeDiff, reduceCtorEq, Int.reduceToNat, Int.reduceLE, Int.reduceLT, Int.reduceEq, h4, or_true]
  · simp only [go_sem, ↓reduceIte, Nat.reduceEqDiff, Nat.reduceBEq, Nat.reduceAdd, Nat.reduceMul, Nat.reduceSub, Nat.reduceLT, Nat.reduceLeDiff, reduceCtorEq, Int.reduceToNat, Int.reduceLE, Int.reduceLT, Int.reduceEq, h0, h4, h1, or_self]
/-! ### Put -/
end Go.Vs
end
/- TreeChecks gives true for all arguments of bulk at most 1048576. -/
section
set_option linter.unusedVariables false
namespace Go.Vs
open Go Go.Proofs
/- A tree's nodes are no more than what it holds. -/
mutual
theorem count_bulk : ∀ n : Node, n.count ≤ pvsB n.cells
  | .mk a b c d e f => by
    have := counts_bulk f
    simp only [Node.count, Node.cells, pvsB, pvB]
    omega
theorem counts_bulk : ∀ l : List Node, Node.counts l ≤ rowsB (Node.rows l)
  | [] => by simp [Node.counts, Node.rows, rowsB]
  | x :: l => by
    have h1 := count_bulk x
    have h2 := counts_bulk l
    simp only [Node.counts, Node.rows, rowsB]
    omega
end
end Go.Vs
end
/- TreePlaces gives true for all arguments of bulk at most 1048576. -/
section
set_option linter.unusedVariables false
set_option linter.unusedSimpArgs false
namespace Go.Vs
open Go Go.Proofs
theorem call56 (a b : Node) (ha : a.ok) (hb : b.ok) : callL Try.prog hints 56 [.agg a.cells, .agg b.cells] = some (.bool (decide (a.cmp b = 0))) := by
  refine F56.call (r := (.bool (decide (a.cmp b = 0)), [.arr [a.cells] none false, .arr [b.cells] none false])) ?_ rfl
  have ab := fun S => callN2 S (call46 a ha b hb)
  simp only [go_sem, ↓reduceIte, Nat.reduceEqDiff, Nat.reduceBEq, Nat.reduceAdd, Nat.reduceMul, Nat.reduceSub, Nat.reduceLT, Nat.reduceLeDiff, reduceCtorEq, Int.reduceToNat, Int.reduceLE, Int.reduceLT, Int.reduceEq, ab]
  by_cases h : a.cmp b = 0 <;> simp [h]
end Go.Vs
end
