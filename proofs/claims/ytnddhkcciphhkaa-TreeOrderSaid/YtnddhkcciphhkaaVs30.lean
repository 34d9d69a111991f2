/- A law's arguments, as pure values; what a law's row asks behind the call. -/
import Derived.Test.YtnddhkcciphhkaaVs24
import Derived.WalkKit
import Derived.ProofKit
import Derived.OpenShut
import Derived.ShutString
import Derived.ChangeOld
import Derived.Below
import Derived.Carry
import Derived.SizedLaws
set_option linter.unusedVariables false
set_option linter.unusedSimpArgs false
namespace Go.Vs
open Go Go.RowKit

/-- Fields lie one behind the other, from o on. -/
def tight (P : Program) : Nat → List Field → Bool
  | _, [] => true
  | o, f :: r => (f.offset == o) && tight P (o + P.cellsOf f.type) r
def spanOf (P : Program) : List Field → Nat
  | [] => 0
  | f :: r => P.cellsOf f.type + spanOf P r
/-- A list of plain types that is closed under its parts. -/
def closedB (P : Program) (L : List TypeId) : Bool :=
  L.all fun t => match P.underlying t with
    | some .bool | some (.int _) | some .string => P.cellsOf t == 1
    | some (.slice e) => L.contains e && P.cellsOf t == 1
    | some (.struct fs) => tight P 0 fs.toList && spanOf P fs.toList == P.cellsOf t && fs.toList.all fun f => L.contains f.type
    | _ => false

inductive All2 {α β : Type} (R : α → β → Prop) : List α → List β → Prop
  | nil : All2 R [] []
  | cons {a : α} {b : β} {x : List α} {y : List β} (h : R a b) (t : All2 R x y) : All2 R (a :: x) (b :: y)

/-- Cells that hold data of a plain type. -/
def Dt (P : Program) : Nat → TypeId → List PV → Prop
  | 0, _, _ => False
  | k + 1, t, pvs =>
    match P.underlying t with
    | some .bool => ∃ b, pvs = [.bool b]
    | some (.int kd) => ∃ n, (Lit.int kd n).wf = true ∧ pvs = [.int kd n]
    | some .string => ∃ s : ByteArray, s.size ≤ maxLen ∧ pvs = [.str s]
    | some (.slice e) => ∃ rows, pvs = [.sl rows false] ∧ rows.length ≤ maxLen ∧ ∀ r ∈ rows, Dt P k e r
    | some (.struct fs) => ∃ pss : List (List PV), pvs = pss.flatten ∧ All2 (fun (f : Field) ps => Dt P k f.type ps) fs.toList pss
    | _ => False

def NoAv : Nat → Prop := fun _ => False
/-- Cells of memory hold these values. -/
def Rel (w : World) (pvs : List PV) (cs : List Value) : Prop := pvs.length = cs.length ∧ (∀ (j : Nat) (pv : PV) (v : Value), pvs[j]? = some pv → cs[j]? = some v → FR w NoAv pv v)

theorem Rel.one {w : World} {pv : PV} {v : Value} (h : FR w NoAv pv v) : Rel w [pv] [v] := ⟨rfl, fun j p u hp hu => by
  cases j with
  | zero => simp at hp hu; subst hp; subst hu; exact h
  | succ j => simp at hp⟩
theorem Rel.nil {w : World} : Rel w [] [] := ⟨rfl, by simp⟩
theorem Rel.app {w : World} {a b : List PV} {x y : List Value} (h : Rel w a x) (k : Rel w b y) : Rel w (a ++ b) (x ++ y) := by
  refine ⟨by simp [h.1, k.1], fun j pv v hp hv => ?_⟩
  by_cases hj : j < a.length
  · rw [List.getElem?_append_left hj] at hp
    rw [List.getElem?_append_left (by rw [← h.1]; exact hj)] at hv
    exact h.2 j pv v hp hv
  · rw [List.getElem?_append_right (by omega)] at hp
    rw [List.getElem?_append_right (by rw [← h.1]; omega), ← h.1] at hv
    exact k.2 _ pv v hp hv

theorem mapM_at {α β : Type} {f : α → Option β} : ∀ {l : List α} {r : List β}, l.mapM f = some r → r.length = l.length ∧ ∀ (i : Nat) (a : α), l[i]? = some a → ∃ b, f a = some b ∧ r[i]? = some b
  | [], r, h => by simp at h; subst h; simp
  | a :: l, r, h => by
    rw [List.mapM_cons] at h
    cases hf : f a with
    | none => rw [hf] at h; cases h
    | some b =>
      rw [hf] at h
      cases hl : l.mapM f with
      | none => simp [hl] at h
      | some r' =>
        simp [hl] at h
        subst h
        obtain ⟨h1, h2⟩ := mapM_at hl
        refine ⟨by simp [h1], fun i x hi => ?_⟩
        cases i with
        | zero => simp at hi; subst hi; exact ⟨b, hf, rfl⟩
        | succ i => simp at hi; simpa using h2 i x hi

theorem fields_rel {P : Program} {w : World} {k : Nat} {cs : List Value} : ∀ (fs : List Field) (o : Nat), tight P o fs = true → o + spanOf P fs = cs.length →
    (∀ f ∈ fs, ∃ ps, Dt P k f.type ps ∧ Rel w ps ((cs.drop f.offset).take (P.cellsOf f.type))) → ∃ pss : List (List PV), All2 (fun (f : Field) ps => Dt P k f.type ps) fs pss ∧ Rel w pss.flatten (cs.drop o)
  | [], o, _, hl, _ => ⟨[], .nil, by
    simp only [spanOf] at hl
    rw [List.drop_of_length_le (by omega)]
    exact Rel.nil⟩
  | f :: r, o, ht, hl, h => by
    simp only [tight, Bool.and_eq_true, beq_iff_eq] at ht
    simp only [spanOf] at hl
    obtain ⟨ps, h1, h2⟩ := h f (by simp)
    obtain ⟨pss, h3, h4⟩ := fields_rel r (o + P.cellsOf f.type) ht.2 (by omega) fun g hg => h g (by simp [hg])
    refine ⟨ps :: pss, .cons h1 h3, ?_⟩
    have e : cs.drop o = (cs.drop f.offset).take (P.cellsOf f.type) ++ cs.drop (o + P.cellsOf f.type) := by
      rw [ht.1, ← List.drop_drop, List.take_append_drop]
    rw [e, List.flatten_cons]
    exact h2.app h4

theorem trod_rel {H : Type} {enc : TypeId × Value → H} {P : Program} {w : World} {base : Nat} {sp : Nat → Bool} {held : Bool} {L : List TypeId} (hL : closedB P L = true) : ∀ (fuel : Nat) {t : TypeId} {cs : List Value} {x : DataW H × List MemPlace}, t ∈ L →
    DataW.trod enc P w base sp held fuel t cs = some x → ∃ pvs, Dt P fuel t pvs ∧ Rel w pvs cs := by
  intro fuel
  induction fuel with
  | zero => intro t cs x _ h; cases h
  | succ k ih =>
    intro t cs x ht h
    have hc := (List.all_eq_true.1 hL) t ht
    unfold DataW.trod at h
    simp only [Dt]
    cases hu : P.underlying t with
    | none => rw [hu] at hc; cases hc
    | some d =>
      rw [hu] at hc h
      cases d <;> simp only [reduceCtorEq, Bool.false_eq_true] at hc
      case bool =>
        split at h <;> try (first | (cases h; done) | (rename_i hq; cases hq; done))
        rename_i hq
        cases hq
        cases h
        exact ⟨_, ⟨_, rfl⟩, .one (.bool _)⟩
      case int kd =>
        split at h <;> try (first | (cases h; done) | (rename_i hq; cases hq; done))
        rename_i hq
        cases hq
        split at h
        · rename_i hw
          obtain ⟨rfl, hw⟩ := hw
          exact ⟨_, ⟨_, hw, rfl⟩, .one (.int _ _)⟩
        · cases h
      case string =>
        split at h <;> try (first | (cases h; done) | (rename_i hq; cases hq; done))
        rename_i hq
        cases hq
        split at h
        · rename_i hw
          exact ⟨_, ⟨_, hw, rfl⟩, .one (.str _)⟩
        · cases h
      case slice e =>
        simp only [Bool.and_eq_true, List.contains_iff_mem, beq_iff_eq] at hc
        split at h <;> try (first | (cases h; done) | (rename_i hq; cases hq; done))
        · have key := FR.sl (w := w) (av := NoAv) [] false none 0 default 0 (fun _ _ => Go.undef) (Nat.le_refl _) (by simp) (fun _ => rfl) (fun h => absurd rfl h) (by simp) (by simp) (by simp)
          exact ⟨_, ⟨[], rfl, by simp, by simp⟩, .one key⟩
        · rename_i e0 a len cap hq
          cases hq
          split at h
          case isFalse => cases h
          rename_i hcap
          obtain ⟨elems, h2, _⟩ := bind_some h
          obtain ⟨h3, h4⟩ := mapM_at h2
          rw [List.length_range] at h3
          have each : ∀ i, i < len → ∃ ps, Dt P k e ps ∧ ps.length = P.cellsOf e ∧ ∀ j pv, ps[j]? = some pv → ∃ u, w.cell? (a.add (i * P.cellsOf e + j)) = some u ∧ FR w NoAv pv u := by
            intro i hi
            obtain ⟨b, hb, _⟩ := h4 i i (by simp [hi])
            obtain ⟨cs, hcs, hb⟩ := bind_some hb
            obtain ⟨ps, p1, p2⟩ := ih hc.1 hb
            unfold World.cells? at hcs
            split at hcs
            · obtain ⟨q1, q2⟩ := mapM_at hcs
              rw [List.length_range] at q1
              refine ⟨ps, p1, by rw [p2.1, q1], fun j pv hj => ?_⟩
              have hjl := (List.getElem?_eq_some_iff.1 hj).1
              rw [p2.1, q1] at hjl
              obtain ⟨u, hu1, hu2⟩ := q2 j j (by simp [hjl])
              rw [add_add] at hu1
              exact ⟨u, hu1, p2.2 j pv u hj hu2⟩
            · cases hcs
          -- the rows
          have pick : ∀ i : Nat, ∃ ps : List PV, i < len → Dt P k e ps ∧ ps.length = P.cellsOf e ∧ ∀ j pv, ps[j]? = some pv → ∃ u, w.cell? (a.add (i * P.cellsOf e + j)) = some u ∧ FR w NoAv pv u := fun i => by
            by_cases hi : i < len
            · obtain ⟨ps, hps⟩ := each i hi
              exact ⟨ps, fun _ => hps⟩
            · exact ⟨[], fun h => absurd h hi⟩
          obtain ⟨g, hg⟩ := Classical.axiomOfChoice pick
          have hrows : ∀ i row, ((List.range len).map g)[i]? = some row → i < len ∧ row = g i := fun i row hi => by
            rw [List.getElem?_map] at hi
            by_cases hlt : i < len
            · rw [List.getElem?_range hlt] at hi
              simp at hi
              exact ⟨hlt, hi.symm⟩
            · rw [List.getElem?_eq_none (by simpa using hlt)] at hi; cases hi
          have hlen : ((List.range len).map g).length = len := by simp
          refine ⟨_, ⟨(List.range len).map g, rfl, by rw [hlen]; omega, fun row hrow => ?_⟩, ?_⟩
          · obtain ⟨i, hi⟩ := List.getElem?_of_mem hrow
            obtain ⟨hlt, rfl⟩ := hrows i row hi
            exact (hg i hlt).1
          · have key := FR.sl (w := w) (av := NoAv) ((List.range len).map g) false (some a) cap a (P.cellsOf e) (fun i j => (w.cell? (a.add (i * P.cellsOf e + j))).getD Go.undef) (by rw [hlen]; exact hcap.2.1) (by simp) (by simp) (fun _ => rfl)
              (fun row hrow => by
                obtain ⟨i, hi⟩ := List.getElem?_of_mem hrow
                obtain ⟨hlt, rfl⟩ := hrows i row hi
                exact (hg i hlt).2.1)
              (fun i row j pv hi hj => by
                obtain ⟨hlt, rfl⟩ := hrows i row hi
                obtain ⟨u, u1, u2⟩ := (hg i hlt).2.2 j pv hj
                rw [u1]
                exact ⟨rfl, fun h => h⟩)
              (fun i row j pv hi hj => by
                obtain ⟨hlt, rfl⟩ := hrows i row hi
                obtain ⟨u, u1, u2⟩ := (hg i hlt).2.2 j pv hj
                simp only [u1, Option.getD_some]
                exact u2)
            rw [hlen] at key
            exact .one key
      case struct fs =>
        simp only [Bool.and_eq_true, List.all_eq_true, List.contains_iff_mem, beq_iff_eq] at hc
        replace h : (if cs.length = P.cellsOf t then (fs.toList.mapM fun f => DataW.trod enc P w base sp held k f.type ((cs.drop f.offset).take (P.cellsOf f.type))).map fun xs => (.agg (xs.map (·.1)), xs.flatMap (·.2)) else none) = some x := h
        split at h
        case isFalse => cases h
        rename_i hlen
        obtain ⟨xs, h2, _⟩ := map_some h
        obtain ⟨h3, h4⟩ := mapM_at h2
        obtain ⟨pss, q1, q2⟩ := fields_rel (P := P) (w := w) (k := k) (cs := cs) fs.toList 0 hc.1.1 (by rw [Nat.zero_add, hc.1.2, hlen]) (fun f hf => by
          obtain ⟨i, hi⟩ := List.getElem?_of_mem hf
          obtain ⟨b, hb, _⟩ := h4 i f hi
          exact ih (hc.2 f hf) hb)
        exact ⟨_, ⟨pss, rfl, q1⟩, by simpa using q2⟩

/-- An argument. -/
def Arg (P : Program) (k : Nat) (t : TypeId) (pv : PV) : Prop :=
  match P.underlying t with
  | some (.struct _) => ∃ cells, pv = .agg cells ∧ Dt P k t cells
  | _ => Dt P k t [pv]

theorem okWide_form {P : Program} {W : World} {base : Nat} {L : List TypeId} (hL : closedB P L = true) {t : TypeId} (ht : t ∈ L) {v : Value} (h : Value.okWide P W .any base t v) :
    (∃ fs cs, P.underlying t = some (.struct fs) ∧ v = .agg cs) ∨ ((∀ fs, P.underlying t ≠ some (.struct fs)) ∧ v.cells.toList = [v]) := by
  have hc := (List.all_eq_true.1 hL) t ht
  cases hu : P.underlying t with
  | none => rw [hu] at hc; cases hc
  | some d =>
    rw [hu] at hc
    cases d <;> simp only [reduceCtorEq, Bool.false_eq_true] at hc
    case bool => obtain ⟨b, rfl⟩ := Go.WideShapes.okWide_bool hu h; exact .inr ⟨by simp, rfl⟩
    case int kd => obtain ⟨b, rfl⟩ := Go.WideShapes.okWide_int hu h; exact .inr ⟨by simp, rfl⟩
    case string => obtain ⟨b, rfl⟩ := Go.WideShapes.okWide_string hu h; exact .inr ⟨by simp, rfl⟩
    case slice e => obtain ⟨a, len, cap, rfl⟩ := Go.WideShapes.okWide_slice hu h; exact .inr ⟨by simp, rfl⟩
    case struct fs => obtain ⟨cs, rfl, _⟩ := Go.WideShapes.okWide_struct hu h; exact .inl ⟨fs, cs, rfl, rfl⟩

theorem arg_of {H : Type} {enc : TypeId × Value → H} {P : Program} {W : World} {base base' : Nat} {sp : Nat → Bool} {held : Bool} {L : List TypeId} (hL : closedB P L = true) {t : TypeId} (ht : t ∈ L) {v : Value} {d : DataW H} {p : List MemPlace}
    (hok : Value.okWide P W .any base' t v) (h : DataW.Trod enc P W base sp held t v d p) : ∃ k pv, Arg P k t pv ∧ VR W NoAv noMu pv v := by
  obtain ⟨fuel, h⟩ := h
  obtain ⟨pvs, h1, h2⟩ := trod_rel hL fuel ht h
  rcases okWide_form hL ht hok with ⟨fs, cs, hu, rfl⟩ | ⟨hu, hv⟩
  · refine ⟨fuel, .agg pvs, by unfold Arg; rw [hu]; exact ⟨pvs, rfl, h1⟩, .agg _ _ (by rw [h2.1]; rfl) (fun j v hv => ?_) (fun j pv v hp hv => .fr (h2.2 j pv v hp (by rw [← hv]; exact Array.getElem?_toList)))⟩
    have hlt := (Array.getElem?_eq_some_iff.1 hv).1
    have hp : pvs[j]? = some (pvs[j]'(by rw [h2.1]; exact hlt)) := List.getElem?_eq_getElem _
    exact FR.flat _ _ (h2.2 j _ v hp (by rw [← hv]; exact Array.getElem?_toList))
  · rw [hv] at h2
    obtain ⟨pv, rfl⟩ : ∃ pv, pvs = [pv] := by
      have := h2.1
      cases pvs with
      | nil => simp at this
      | cons a l => cases l with
        | nil => exact ⟨a, rfl⟩
        | cons _ _ => simp at this
    refine ⟨fuel, pv, ?_, .fr (h2.2 0 pv v rfl rfl)⟩
    unfold Arg
    split
    · rename_i fs hq; exact absurd hq (hu fs)
    · exact h1

/-- All arguments. -/
def Args (P : Program) (ts : List TypeId) (pvs : List PV) : Prop := All2 (fun t pv => ∃ k, Arg P k t pv) ts pvs

theorem args_of {H : Type} {enc : TypeId × Value → H} {P : Program} {W : World} {base base' : Nat} {sp : Nat → Bool} {held : Bool} {L : List TypeId} (hL : closedB P L = true) : ∀ {ts : List TypeId} {vs : List Value} {ds : List (DataW H)} {p : List MemPlace}, (∀ t ∈ ts, t ∈ L) →
    (∀ (j : Nat) (t : TypeId) (v : Value), ts[j]? = some t → vs[j]? = some v → Value.okWide P W .any base' t v) → DataW.TrodAll enc P W base sp held ts vs ds p →
    ∃ pvs, Args P ts pvs ∧ pvs.length = vs.length ∧ ∀ (j : Nat) (pv : PV) (v : Value), pvs[j]? = some pv → vs[j]? = some v → VR W NoAv noMu pv v
  | [], [], [], _, _, _, _ => ⟨[], .nil, rfl, by simp⟩
  | t :: ts, v :: vs, d :: ds, _, hsub, hok, ⟨p, q, h1, h2, _⟩ => by
    obtain ⟨k, pv, a1, a2⟩ := arg_of hL (hsub t (by simp)) (hok 0 t v rfl rfl) h1
    obtain ⟨pvs, b1, b2, b3⟩ := args_of hL (fun t ht => hsub t (by simp [ht])) (fun j t v h1 h2 => hok (j + 1) t v h1 h2) h2
    refine ⟨pv :: pvs, .cons ⟨k, a1⟩ b1, by simp [b2], fun j pv' v' hp hv => ?_⟩
    cases j with
    | zero => simp at hp hv; subst hp; subst hv; exact a2
    | succ j => simp at hp hv; exact b3 j pv' v' hp hv
  | [], [], _ :: _, _, _, _, h => h.elim
  | [], _ :: _, _, _, _, _, h => h.elim
  | _ :: _, [], _, _, _, _, h => h.elim
  | _ :: _, _ :: _, [], _, _, _, h => h.elim

theorem Grown.below {w w' : World} (h : Vs.Grown w w') : Below w.heap.size w w' := ⟨h.os, h.tape, h.output, h.size, h.keep⟩

/-- Behind the call the arguments read as they did. -/
theorem args_back {H : Type} {enc : TypeId × Value → H} {P : Program} (hl : laidOutB P = true) {W W' : World} (hb : Below W.heap.size W W') : ∀ {ts : List TypeId} {vs : List Value} {ds : List (DataW H)} {p : List MemPlace}, (∀ t ∈ ts, P.readableRec t = true ∧ t < P.types.size) →
    DataW.TrodAll enc P W 0 (fun _ => true) true ts vs ds p → (∀ x ∈ p, x.block < W.heap.size) → DataW.TrodAll enc P W' 0 (fun b => decide (b < W.heap.size)) true ts vs ds p
  | [], [], [], _, _, h, _ => h
  | t :: ts, v :: vs, d :: ds, _, ht, ⟨p, q, h1, h2, rfl⟩, hlt =>
    ⟨p, q, Below.trod hl (ht t (by simp)).1 (ht t (by simp)).2 h1 hb (fun x hx => hlt x (by simp [hx])), args_back hl hb (fun t h => ht t (by simp [h])) h2 (fun x hx => hlt x (by simp [hx])), rfl⟩
  | [], [], _ :: _, _, _, h, _ => h.elim
  | [], _ :: _, _, _, _, h, _ => h.elim
  | _ :: _, [], _, _, _, h, _ => h.elim
  | _ :: _, _ :: _, [], _, _, h, _ => h.elim

theorem law_calls {P : Program} {Hn : Hints} (hm : P.follows .mixedOrders = true) {f : FuncId} {ts : List TypeId} (law : ∀ pvs, Args P ts pvs → ∃ n, callP P Hn n f pvs = some (.bool true)) {L : List TypeId} (hL : closedB P L = true) (hsub : ∀ t ∈ ts, t ∈ L)
    {H : Type} {enc : TypeId × Value → H} {W : World} {base base' : Nat} {sp : Nat → Bool} {held : Bool} {args : Array Value} {ds : List (DataW H)} {p : List MemPlace}
    (hok : ∀ (j : Nat) (t : TypeId) (v : Value), ts[j]? = some t → args[j]? = some v → Value.okWide P W .any base' t v) (h : DataW.TrodAll enc P W base sp held ts args.toList ds p) :
    Calls P f args W fun e W' => e = .returned (.bool true) ∧ Below W.heap.size W W' := by
  obtain ⟨pvs, a1, a2, a3⟩ := args_of hL hsub (fun j t v h1 h2 => hok j t v h1 (by rw [← Array.getElem?_toList]; exact h2)) h
  obtain ⟨n, hn⟩ := law pvs a1
  obtain ⟨fn, c, e1, e2, e3, e4⟩ := callP_sound hm n f pvs _ hn
  refine (e4 W NoAv args (fun b h => h.elim) (by rw [a2]; exact Array.length_toList) (fun j pv v hp hv => a3 j pv v hp (by rw [Array.getElem?_toList]; exact hv))).mono ?_
  rintro e w' ⟨v, rfl, hg, hv⟩
  exact ⟨by rw [hv.bool_inv], Grown.below hg⟩
theorem trodAll_lt {H : Type} {enc : TypeId × Value → H} {P : Program} {W : World} {base : Nat} {sp : Nat → Bool} {held : Bool} : ∀ {ts : List TypeId} {vs : List Value} {ds : List (DataW H)} {p : List MemPlace},
    DataW.TrodAll enc P W base sp held ts vs ds p → ∀ x ∈ p, x.block < W.heap.size
  | [], [], [], _, h => by
    obtain ⟨_, _, rfl⟩ := Go.ChangeShapes.trodAll_nil h
    simp
  | t :: ts, v :: vs, d :: ds, _, ⟨p, q, h1, h2, rfl⟩ => fun x hx => by
    rcases List.mem_append.1 hx with hx | hx
    · obtain ⟨m, hm⟩ := h1
      exact DataW.trod_lt m _ _ _ hm x hx
    · exact trodAll_lt h2 x hx
  | [], [], _ :: _, _, h => h.elim
  | [], _ :: _, _, _, h => h.elim
  | _ :: _, [], _, _, h => h.elim
  | _ :: _, _ :: _, [], _, h => h.elim
theorem params_at {q : Array TypeId} {l : List TypeId} (e : q = l.toArray) {j : Nat} {t : TypeId} (h : l[j]? = some t) : q[j]? = some t := by
  subst e
  rw [← Array.getElem?_toList]
  exact h
theorem ok_at {q : Array TypeId} {l : List TypeId} (e : q = l.toArray) {args : Array Value} {Q : TypeId → Value → Prop} (h : ∀ (j : Nat) t v, q[j]? = some t → args[j]? = some v → Q t v) : ∀ (j : Nat) (t : TypeId) (v : Value), l[j]? = some t → args[j]? = some v → Q t v := fun j t v h1 h2 => h j t v (params_at e h1) h2
attribute [irreducible] Dt Arg
end Go.Vs
