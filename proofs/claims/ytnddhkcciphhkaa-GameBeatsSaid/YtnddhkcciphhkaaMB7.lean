/- Calls: what the machine's run comes to. -/
import Derived.WalkKit
import Derived.ProofKit
import Derived.OpenShut
import Derived.ShutString
import Derived.ChangeOld
import Derived.Below
import Derived.Carry
import Derived.SizedLaws
import Derived.Test.YtnddhkcciphhkaaMB6
section
set_option linter.unusedVariables false
set_option linter.unusedSimpArgs false
namespace Go.Vs
open Go

def resOne (tmps : Array Value) : ResultVar → Sem Value
  | .tmp t => pure (tmps.getD t Go.undef)
  | .cell a t => do loadVar t (← asAddr (tmps.getD a Go.undef))
theorem results_eq (fn : Func) (tmps : Array Value) : results fn tmps = (do let vs ← fn.results.mapM (resOne tmps); pure (if h : vs.size = 1 then vs[0] else .tuple vs)) := by
  unfold results
  have : (fun x : ResultVar => match x with
    | .tmp t => (pure (tmps.getD t Go.undef) : Sem Value)
    | .cell a t => do loadVar t (← asAddr (tmps.getD a Go.undef))) = resOne tmps := by funext r; cases r <;> rfl
  rw [← this]
  rfl

section
variable {P : Program} {w : World} {X : Nat → Prop} {μ : Mu} {av : Nat → Prop} {S : Store}

theorem result_sound (hS : SR w X (arrs S) S.length μ) {e : Env} {tmps : Array Value} (hE : ER w (Av X (arrs S) μ) μ e tmps) (r : ResultVar) {pv : PV} (h : evResult P e S r = some pv) :
    ∃ v, (resOne tmps r).run P w = .ok v w ∧ VR w (Av X (arrs S) μ) μ pv v := by
  cases r with
  | tmp t =>
    simp only [evResult, Option.some.injEq] at h
    subst h
    exact ⟨_, by simp [resOne], hE t⟩
  | cell a t =>
    simp only [evResult] at h
    obtain ⟨v, h1, h2⟩ := load_sound hS (Sees.refl S μ) (hE a) h
    refine ⟨v, ?_, h2⟩
    have hp : ∃ ad, tmps.getD a Go.undef = .pointer (some ad) := by
      have := hE a
      generalize hg : get e a = pv' at this h
      generalize tmps.getD a Go.undef = v' at this
      cases pv' <;> simp only [evLoad, reduceCtorEq] at h
      case cp row => cases this with | fr q => cases q; exact ⟨_, rfl⟩
      case mp id i off =>
        cases this with
        | fr q => cases q
        | mp _ _ _ b hb => exact ⟨_, rfl⟩
    obtain ⟨ad, had⟩ := hp
    rw [had] at h1
    simp only [resOne]
    rw [had]
    simp only [Instr.loadAt, Instr.sureAddr, Sem.run_bind, Sem.run_pure, Result.andThen_ok] at h1
    simp only [asAddr, Sem.run_bind, Sem.run_pure, Result.andThen_ok]
    exact h1

theorem results_list (hS : SR w X (arrs S) S.length μ) {e : Env} {tmps : Array Value} (hE : ER w (Av X (arrs S) μ) μ e tmps) : ∀ (rs : List ResultVar) {pvs : List PV}, mapO (evResult P e S) rs = some pvs →
    ∃ vs : List Value, (rs.mapM (resOne tmps)).run P w = .ok vs w ∧ pvs.length = vs.length ∧
      ∀ (j : Nat) (pv : PV) (v : Value), pvs[j]? = some pv → vs[j]? = some v → VR w (Av X (arrs S) μ) μ pv v
  | [], pvs, h => by
    simp only [mapO, Option.some.injEq] at h
    subst h
    exact ⟨[], by simp, rfl, by simp⟩
  | r :: rs, pvs, h => by
    simp only [mapO] at h
    obtain ⟨pv, h1, h⟩ := bind_some h
    obtain ⟨l, h2, rfl⟩ := map_some h
    obtain ⟨v, k1, k2⟩ := result_sound hS hE r h1
    obtain ⟨vs, k3, k4, k5⟩ := results_list hS hE rs h2
    refine ⟨v :: vs, ?_, by simp [k4], fun j pv' v' hp hv => ?_⟩
    · rw [List.mapM_cons]
      simp only [Sem.run_bind, k1, Result.andThen_ok, k3, Sem.run_pure]
    · cases j with
      | zero => simp at hp hv; subst hp; subst hv; exact k2
      | succ j => simp at hp hv; exact k5 j pv' v' hp hv

theorem results_sound (hS : SR w X (arrs S) S.length μ) {e : Env} {tmps : Array Value} (hE : ER w (Av X (arrs S) μ) μ e tmps) {fn : Func} {pv : PV} (h : evResults P fn e S = some pv) :
    ∃ v, (results fn tmps).run P w = .ok v w ∧ VR w (Av X (arrs S) μ) μ pv v := by
  unfold evResults at h
  obtain ⟨pvs, h1, rfl⟩ := map_some h
  obtain ⟨vs, k1, k2, k3⟩ := results_list hS hE _ h1
  have hrun : (results fn tmps).run P w = .ok (if h : vs.toArray.size = 1 then vs.toArray[0] else .tuple vs.toArray) w := by
    rw [results_eq, Array.mapM_eq_mapM_toList]
    simp only [Sem.run_bind, map_eq_pure_bind, k1, Result.andThen_ok, Sem.run_pure]
  refine ⟨_, hrun, ?_⟩
  clear hrun h1 k1
  match pvs, vs, k2, k3 with
  | [], [], _, _ => exact .tup _ _ rfl (by simp)
  | [p], [v], _, k3 => exact k3 0 p v rfl rfl
  | p :: q :: l, v :: u :: m, k2, k3 =>
    rw [dif_neg (by simp)]
    exact .tup _ _ (by simpa using k2) (fun j pv v hp hv => k3 j pv v hp (by simpa using hv))

theorem get_zip (args : List PV) (m t : Nat) : get (((List.range' m args.length).zip args)) t = if m ≤ t then (args[t - m]?).getD .undef else .undef := by
  induction args generalizing m with
  | nil => simp [get]
  | cons x l ih =>
    simp only [List.length_cons, List.range'_succ, List.zip_cons_cons, get]
    by_cases h : m = t
    · subst h; simp
    · rw [if_neg h, ih]
      by_cases hl : m + 1 ≤ t
      · rw [if_pos hl, if_pos (by omega), show t - m = (t - (m + 1)) + 1 by omega, List.getElem?_cons_succ]
      · rw [if_neg hl, if_neg (by omega)]

theorem SR.empty {Y : Nat → Prop} (hY : ∀ b, Y b → b < w.heap.size) : SR w Y (arrs []) 0 noMu :=
  ⟨fun id _ => ⟨rfl, by simp [arrs]⟩, fun id a ha => by simp [arrs] at ha, fun id a ha => by simp [arrs] at ha, fun id a ha => by simp [arrs] at ha, fun id id' a a' b b' h1 => by simp [arrs] at h1, fun id a b h1 => by simp [arrs] at h1, hY⟩

theorem cp_of_cr {cr : CallR} (h : CROK P cr) : CPOK P (fun g as => (cr g as []).bind fun (r, S) => fzPV S r) := by
  intro f args r hr
  obtain ⟨⟨q, S⟩, h1, h2⟩ := bind_some hr
  obtain ⟨fn, c, e1, e2, e3, e4⟩ := h f args [] q S h1
  refine ⟨fn, c, e1, e2, e3, fun w Y vs hY hn hrel => ?_⟩
  have hmut : ∀ b, ¬ Mut (arrs []) noMu b := by rintro b ⟨id, rows, g, k, h1, _⟩; simp [arrs] at h1
  refine Calls.mono (e4 w Y noMu vs (SR.empty hY) hn fun j pv v hp hv => (hrel j pv v hp hv).mono (Keeps.less fun b hb => hb.resolve_right (hmut b)) fun _ _ _ h => h) ?_
  rintro e w' ⟨v, μ', rfl, k1, k2, k3⟩
  refine ⟨v, rfl, ⟨k2.os, k2.tape, k2.output, k2.size, fun b hb => k2.keep b hb (hmut b)⟩, ?_⟩
  exact (fzPV_sound k1 (Sees.refl S μ') h2 k3 (fun _ h => h)).mono (Keeps.less fun b hb => .inl hb) fun _ _ _ h => h

theorem callF_sound {H : Hints} (hm : P.follows .mixedOrders = true) : ∀ k, CROK P (callF P H k) := by
  intro k
  induction k with
  | zero => intro f args S r S' h; cases h
  | succ k ih =>
    intro f args S r S' h
    simp only [callF] at h
    cases hf : P.funcs[f]? with
    | none => rw [hf] at h; cases h
    | some fn =>
      rw [hf] at h
      simp only at h
      cases hbd : fn.body with
      | none => rw [hbd] at h; cases h
      | some c =>
        rw [hbd] at h
        simp only at h
        split at h
        case isFalse => cases h
        rename_i hc
        obtain ⟨c1, c2, c3⟩ := hc
        obtain ⟨⟨x, e', S1⟩, h1, h2⟩ := bind_some h
        refine ⟨fn, c, rfl, hbd, c2, fun w X μ vs hS hn hrel => ?_⟩
        have hsz : (vs ++ Array.replicate (fn.ntmps - vs.size) Go.undef).size = fn.ntmps := by simp; omega
        have hN : Now S.length fn.ntmps X w (arrs S) μ ((List.range args.length).zip args) S { tmps := vs ++ Array.replicate (fn.ntmps - vs.size) Go.undef, defers := [] } w := by
          refine ⟨μ, hS, fun t => ?_, Nat.le_refl _, rfl, hsz, Tr.refl _ _ _ _⟩
          rw [List.range_eq_range', get_zip, if_pos (Nat.zero_le _), Nat.sub_zero]
          cases hp : args[t]? with
          | none => exact .undef _
          | some pv =>
            have hlt := (List.getElem?_eq_some_iff.1 hp).1
            have hv : vs[t]? = some (vs[t]'(by omega)) := Array.getElem?_eq_getElem _
            have : (vs ++ Array.replicate (fn.ntmps - vs.size) Go.undef).getD t Go.undef = vs[t]'(by omega) := by
              rw [Array.getD_eq_getD_getElem?, Array.getElem?_append_left (by omega), hv]; rfl
            simp only [this, Option.getD_some]
            exact hrel t pv _ hp hv
        refine calls_of_wp hf hbd ?_
        have fin : ∀ (y : Vs.X), x = y → (∀ id, y ≠ .exit id) → ∃ v, evResults P fn e' S1 = some v ∧ r = v ∧ S' = S1 := fun y hy hne => by
          subst hy
          cases x with
          | exit id => exact absurd rfl (hne id)
          | normal =>
            obtain ⟨v, k1, k2⟩ := map_some h2
            simp only [Prod.mk.injEq] at k2
            exact ⟨v, k1, k2.1, k2.2⟩
          | ret =>
            obtain ⟨v, k1, k2⟩ := map_some h2
            simp only [Prod.mk.injEq] at k2
            exact ⟨v, k1, k2.1, k2.2⟩
        refine exec_sound (C := { P, H, cp := fun g as => (callF P H k g as []).bind fun (r, S) => fzPV S r, cr := callF P H k, base := S.length, h := H.of f }) hm (cp_of_cr ih) ih rfl c 0 c3 h1 hN fun a' w' hN' => ?_
        obtain ⟨μ', j1, j2, j3, j4, j5, j6⟩ := hN'
        have post : ∀ y, x = y → (∀ id, y ≠ .exit id) → a'.defers = [] ∧ ∃ v, (results fn a'.tmps).run P w' = .ok v w' ∧ ∃ v' μ', Ending.returned v = .returned v' ∧ SR w' X (arrs S') S'.length μ' ∧ Tr S.length w (arrs S) μ w' (arrs S') μ' ∧ VR w' (Av X (arrs S') μ') μ' r v' := fun y hy hne => by
          obtain ⟨v, k1, rfl, rfl⟩ := fin y hy hne
          obtain ⟨u, q1, q2⟩ := results_sound j1 j2 k1
          exact ⟨j4, u, q1, u, μ', rfl, j1, j6, q2⟩
        cases x with
        | normal => exact post _ rfl (by simp)
        | ret => exact post _ rfl (by simp)
        | exit id => cases h2

theorem callP_sound {H : Hints} (hm : P.follows .mixedOrders = true) (k : Nat) : CPOK P (callP P H k) := cp_of_cr (callF_sound hm k)
end
end Go.Vs
end
/- A law's arguments, as pure values; what a law's row asks behind the call. -/
section
set_option linter.unusedVariables false
set_option linter.unusedSimpArgs false
namespace Go.Vs
open Go Go.RowKit

/-- Fields lie one behind the other, from o on. -/
def tight (P : Program) : Nat → List Field → Bool
  | _, [] => true
  | o, f :: r => (f.offset == o) && tight P (o + P.cellsOf f.type) r
def spanOf (P : Program) : List Field → Nat
  | [] => 0
  | f :: r => P.cellsOf f.type + spanOf P r
/-- A list of plain types that is closed under its parts. -/
def closedB (P : Program) (L : List TypeId) : Bool :=
  L.all fun t => match P.underlying t with
    | some .bool | some (.int _) | some .string => P.cellsOf t == 1
    | some (.slice e) => L.contains e && P.cellsOf t == 1
    | some (.struct fs) => tight P 0 fs.toList && spanOf P fs.toList == P.cellsOf t && fs.toList.all fun f => L.contains f.type
    | _ => false

inductive All2 {α β : Type} (R : α → β → Prop) : List α → List β → Prop
  | nil : All2 R [] []
  | cons {a : α} {b : β} {x : List α} {y : List β} (h : R a b) (t : All2 R x y) : All2 R (a :: x) (b :: y)

/-- Cells that hold data of a plain type. -/
def Dt (P : Program) : Nat → TypeId → List PV → Prop
  | 0, _, _ => False
  | k + 1, t, pvs =>
    match P.underlying t with
    | some .bool => ∃ b, pvs = [.bool b]
    | some (.int kd) => ∃ n, (Lit.int kd n).wf = true ∧ pvs = [.int kd n]
    | some .string => ∃ s : ByteArray, s.size ≤ maxLen ∧ pvs = [.str s]
    | some (.slice e) => ∃ rows, pvs = [.sl rows false] ∧ rows.length ≤ maxLen ∧ ∀ r ∈ rows, Dt P k e r
    | some (.struct fs) => ∃ pss : List (List PV), pvs = pss.flatten ∧ All2 (fun (f : Field) ps => Dt P k f.type ps) fs.toList pss
    | _ => False

def NoAv : Nat → Prop := fun _ => False
/-- Cells of memory hold these values. -/
def Rel (w : World) (pvs : List PV) (cs : List Value) : Prop := pvs.length = cs.length ∧ (∀ (j : Nat) (pv : PV) (v : Value), pvs[j]? = some pv → cs[j]? = some v → FR w NoAv pv v)

theorem Rel.one {w : World} {pv : PV} {v : Value} (h : FR w NoAv pv v) : Rel w [pv] [v] := ⟨rfl, fun j p u hp hu => by
  cases j with
  | zero => simp at hp hu; subst hp; subst hu; exact h
  | succ j => simp at hp⟩
theorem Rel.nil {w : World} : Rel w [] [] := ⟨rfl, by simp⟩
theorem Rel.app {w : World} {a b : List PV} {x y : List Value} (h : Rel w a x) (k : Rel w b y) : Rel w (a ++ b) (x ++ y) := by
  refine ⟨by simp [h.1, k.1], fun j pv v hp hv => ?_⟩
  by_cases hj : j < a.length
  · rw [List.getElem?_append_left hj] at hp
    rw [List.getElem?_append_left (by rw [← h.1]; exact hj)] at hv
    exact h.2 j pv v hp hv
  · rw [List.getElem?_append_right (by omega)] at hp
    rw [List.getElem?_append_right (by rw [← h.1]; omega), ← h.1] at hv
    exact k.2 _ pv v hp hv

theorem mapM_at {α β : Type} {f : α → Option β} : ∀ {l : List α} {r : List β}, l.mapM f = some r → r.length = l.length ∧ ∀ (i : Nat) (a : α), l[i]? = some a → ∃ b, f a = some b ∧ r[i]? = some b
  | [], r, h => by simp at h; subst h; simp
  | a :: l, r, h => by
    rw [List.mapM_cons] at h
    cases hf : f a with
    | none => rw [hf] at h; cases h
    | some b =>
      rw [hf] at h
      cases hl : l.mapM f with
      | none => simp [hl] at h
      | some r' =>
        simp [hl] at h
        subst h
        obtain ⟨h1, h2⟩ := mapM_at hl
        refine ⟨by simp [h1], fun i x hi => ?_⟩
        cases i with
        | zero => simp at hi; subst hi; exact ⟨b, hf, rfl⟩
        | succ i => simp at hi; simpa using h2 i x hi

theorem fields_rel {P : Program} {w : World} {k : Nat} {cs : List Value} : ∀ (fs : List Field) (o : Nat), tight P o fs = true → o + spanOf P fs = cs.length →
    (∀ f ∈ fs, ∃ ps, Dt P k f.type ps ∧ Rel w ps ((cs.drop f.offset).take (P.cellsOf f.type))) → ∃ pss : List (List PV), All2 (fun (f : Field) ps => Dt P k f.type ps) fs pss ∧ Rel w pss.flatten (cs.drop o)
  | [], o, _, hl, _ => ⟨[], .nil, by
    simp only [spanOf] at hl
    rw [List.drop_of_length_le (by omega)]
    exact Rel.nil⟩
  | f :: r, o, ht, hl, h => by
    simp only [tight, Bool.and_eq_true, beq_iff_eq] at ht
    simp only [spanOf] at hl
    obtain ⟨ps, h1, h2⟩ := h f (by simp)
    obtain ⟨pss, h3, h4⟩ := fields_rel r (o + P.cellsOf f.type) ht.2 (by omega) fun g hg => h g (by simp [hg])
    refine ⟨ps :: pss, .cons h1 h3, ?_⟩
    have e : cs.drop o = (cs.drop f.offset).take (P.cellsOf f.type) ++ cs.drop (o + P.cellsOf f.type) := by
      rw [ht.1, ← List.drop_drop, List.take_append_drop]
    rw [e, List.flatten_cons]
    exact h2.app h4

theorem trod_rel {H : Type} {enc : TypeId × Value → H} {P : Program} {w : World} {base : Nat} {sp : Nat → Bool} {held : Bool} {L : List TypeId} (hL : closedB P L = true) : ∀ (fuel : Nat) {t : TypeId} {cs : List Value} {x : DataW H × List MemPlace}, t ∈ L →
    DataW.trod enc P w base sp held fuel t cs = some x → ∃ pvs, Dt P fuel t pvs ∧ Rel w pvs cs := by
  intro fuel
  induction fuel with
  | zero => intro t cs x _ h; cases h
  | succ k ih =>
    intro t cs x ht h
    have hc := (List.all_eq_true.1 hL) t ht
    unfold DataW.trod at h
    simp only [Dt]
    cases hu : P.underlying t with
    | none => rw [hu] at hc; cases hc
    | some d =>
      rw [hu] at hc h
      cases d <;> simp only [reduceCtorEq, Bool.false_eq_true] at hc
      case bool =>
        split at h <;> try (first | (cases h; done) | (rename_i hq; cases hq; done))
        rename_i hq
        cases hq
        cases h
        exact ⟨_, ⟨_, rfl⟩, .one (.bool _)⟩
      case int kd =>
        split at h <;> try (first | (cases h; done) | (rename_i hq; cases hq; done))
        rename_i hq
        cases hq
        split at h
        · rename_i hw
          obtain ⟨rfl, hw⟩ := hw
          exact ⟨_, ⟨_, hw, rfl⟩, .one (.int _ _)⟩
        · cases h
      case string =>
        split at h <;> try (first | (cases h; done) | (rename_i hq; cases hq; done))
        rename_i hq
        cases hq
        split at h
        · rename_i hw
          exact ⟨_, ⟨_, hw, rfl⟩, .one (.str _)⟩
        · cases h
      case slice e =>
        simp only [Bool.and_eq_true, List.contains_iff_mem, beq_iff_eq] at hc
        split at h <;> try (first | (cases h; done) | (rename_i hq; cases hq; done))
        · have key := FR.sl (w := w) (av := NoAv) [] false none 0 default 0 (fun _ _ => Go.undef) (Nat.le_refl _) (by simp) (fun _ => rfl) (fun h => absurd rfl h) (by simp) (by simp) (by simp)
          exact ⟨_, ⟨[], rfl, by simp, by simp⟩, .one key⟩
        · rename_i e0 a len cap hq
          cases hq
          split at h
          case isFalse => cases h
          rename_i hcap
          obtain ⟨elems, h2, _⟩ := bind_some h
          obtain ⟨h3, h4⟩ := mapM_at h2
          rw [List.length_range] at h3
          have each : ∀ i, i < len → ∃ ps, Dt P k e ps ∧ ps.length = P.cellsOf e ∧ ∀ j pv, ps[j]? = some pv → ∃ u, w.cell? (a.add (i * P.cellsOf e + j)) = some u ∧ FR w NoAv pv u := by
            intro i hi
            obtain ⟨b, hb, _⟩ := h4 i i (by simp [hi])
            obtain ⟨cs, hcs, hb⟩ := bind_some hb
            obtain ⟨ps, p1, p2⟩ := ih hc.1 hb
            unfold World.cells? at hcs
            split at hcs
            · obtain ⟨q1, q2⟩ := mapM_at hcs
              rw [List.length_range] at q1
              refine ⟨ps, p1, by rw [p2.1, q1], fun j pv hj => ?_⟩
              have hjl := (List.getElem?_eq_some_iff.1 hj).1
              rw [p2.1, q1] at hjl
              obtain ⟨u, hu1, hu2⟩ := q2 j j (by simp [hjl])
              rw [add_add] at hu1
              exact ⟨u, hu1, p2.2 j pv u hj hu2⟩
            · cases hcs
          -- the rows
          have pick : ∀ i : Nat, ∃ ps : List PV, i < len → Dt P k e ps ∧ ps.length = P.cellsOf e ∧ ∀ j pv, ps[j]? = some pv → ∃ u, w.cell? (a.add (i * P.cellsOf e + j)) = some u ∧ FR w NoAv pv u := fun i => by
            by_cases hi : i < len
            · obtain ⟨ps, hps⟩ := each i hi
              exact ⟨ps, fun _ => hps⟩
            · exact ⟨[], fun h => absurd h hi⟩
          obtain ⟨g, hg⟩ := Classical.axiomOfChoice pick
          have hrows : ∀ i row, ((List.range len).map g)[i]? = some row → i < len ∧ row = g i := fun i row hi => by
            rw [List.getElem?_map] at hi
            by_cases hlt : i < len
            · rw [List.getElem?_range hlt] at hi
              simp at hi
              exact ⟨hlt, hi.symm⟩
            · rw [List.getElem?_eq_none (by simpa using hlt)] at hi; cases hi
          have hlen : ((List.range len).map g).length = len := by simp
          refine ⟨_, ⟨(List.range len).map g, rfl, by rw [hlen]; omega, fun row hrow => ?_⟩, ?_⟩
          · obtain ⟨i, hi⟩ := List.getElem?_of_mem hrow
            obtain ⟨hlt, rfl⟩ := hrows i row hi
            exact (hg i hlt).1
          · have key := FR.sl (w := w) (av := NoAv) ((List.range len).map g) false (some a) cap a (P.cellsOf e) (fun i j => (w.cell? (a.add (i * P.cellsOf e + j))).getD Go.undef) (by rw [hlen]; exact hcap.2.1) (by simp) (by simp) (fun _ => rfl)
              (fun row hrow => by
                obtain ⟨i, hi⟩ := List.getElem?_of_mem hrow
                obtain ⟨hlt, rfl⟩ := hrows i row hi
                exact (hg i hlt).2.1)
              (fun i row j pv hi hj => by
                obtain ⟨hlt, rfl⟩ := hrows i row hi
                obtain ⟨u, u1, u2⟩ := (hg i hlt).2.2 j pv hj
                rw [u1]
                exact ⟨rfl, fun h => h⟩)
              (fun i row j pv hi hj => by
                obtain ⟨hlt, rfl⟩ := hrows i row hi
                obtain ⟨u, u1, u2⟩ := (hg i hlt).2.2 j pv hj
                simp only [u1, Option.getD_some]
                exact u2)
            rw [hlen] at key
            exact .one key
      case struct fs =>
        simp only [Bool.and_eq_true, List.all_eq_true, List.contains_iff_mem, beq_iff_eq] at hc
        replace h : (if cs.length = P.cellsOf t then (fs.toList.mapM fun f => DataW.trod enc P w base sp held k f.type ((cs.drop f.offset).take (P.cellsOf f.type))).map fun xs => (.agg (xs.map (·.1)), xs.flatMap (·.2)) else none) = some x := h
        split at h
        case isFalse => cases h
        rename_i hlen
        obtain ⟨xs, h2, _⟩ := map_some h
        obtain ⟨h3, h4⟩ := mapM_at h2
        obtain ⟨pss, q1, q2⟩ := fields_rel (P := P) (w := w) (k := k) (cs := cs) fs.toList 0 hc.1.1 (by rw [Nat.zero_add, hc.1.2, hlen]) (fun f hf => by
          obtain ⟨i, hi⟩ := List.getElem?_of_mem hf
          obtain ⟨b, hb, _⟩ := h4 i f hi
          exact ih (hc.2 f hf) hb)
        exact ⟨_, ⟨pss, rfl, q1⟩, by simpa using q2⟩

/-- An argument. -/
def Arg (P : Program) (k : Nat) (t : TypeId) (pv : PV) : Prop :=
  match P.underlying t with
  | some (.struct _) => ∃ cells, pv = .agg cells ∧ Dt P k t cells
  | _ => Dt P k t [pv]

theorem okWide_form {P : Program} {W : World} {base : Nat} {L : List TypeId} (hL : closedB P L = true) {t : TypeId} (ht : t ∈ L) {v : Value} (h : Value.okWide P W .any base t v) :
    (∃ fs cs, P.underlying t = some (.struct fs) ∧ v = .agg cs) ∨ ((∀ fs, P.underlying t ≠ some (.struct fs)) ∧ v.cells.toList = [v]) := by
  have hc := (List.all_eq_true.1 hL) t ht
  cases hu : P.underlying t with
  | none => rw [hu] at hc; cases hc
  | some d =>
    rw [hu] at hc
    cases d <;> simp only [reduceCtorEq, Bool.false_eq_true] at hc
    case bool => obtain ⟨b, rfl⟩ := Go.WideShapes.okWide_bool hu h; exact .inr ⟨by simp, rfl⟩
    case int kd => obtain ⟨b, rfl⟩ := Go.WideShapes.okWide_int hu h; exact .inr ⟨by simp, rfl⟩
    case string => obtain ⟨b, rfl⟩ := Go.WideShapes.okWide_string hu h; exact .inr ⟨by simp, rfl⟩
    case slice e => obtain ⟨a, len, cap, rfl⟩ := Go.WideShapes.okWide_slice hu h; exact .inr ⟨by simp, rfl⟩
    case struct fs => obtain ⟨cs, rfl, _⟩ := Go.WideShapes.okWide_struct hu h; exact .inl ⟨fs, cs, rfl, rfl⟩

theorem arg_of {H : Type} {enc : TypeId × Value → H} {P : Program} {W : World} {base base' : Nat} {sp : Nat → Bool} {held : Bool} {L : List TypeId} (hL : closedB P L = true) {t : TypeId} (ht : t ∈ L) {v : Value} {d : DataW H} {p : List MemPlace}
    (hok : Value.okWide P W .any base' t v) (h : DataW.Trod enc P W base sp held t v d p) : ∃ k pv, Arg P k t pv ∧ VR W NoAv noMu pv v := by
  obtain ⟨fuel, h⟩ := h
  obtain ⟨pvs, h1, h2⟩ := trod_rel hL fuel ht h
  rcases okWide_form hL ht hok with ⟨fs, cs, hu, rfl⟩ | ⟨hu, hv⟩
  · refine ⟨fuel, .agg pvs, by unfold Arg; rw [hu]; exact ⟨pvs, rfl, h1⟩, .agg _ _ (by rw [h2.1]; rfl) (fun j v hv => ?_) (fun j pv v hp hv => .fr (h2.2 j pv v hp (by rw [← hv]; exact Array.getElem?_toList)))⟩
    have hlt := (Array.getElem?_eq_some_iff.1 hv).1
    have hp : pvs[j]? = some (pvs[j]'(by rw [h2.1]; exact hlt)) := List.getElem?_eq_getElem _
    exact FR.flat _ _ (h2.2 j _ v hp (by rw [← hv]; exact Array.getElem?_toList))
  · rw [hv] at h2
    obtain ⟨pv, rfl⟩ : ∃ pv, pvs = [pv] := by
      have := h2.1
      cases pvs with
      | nil => simp at this
      | cons a l => cases l with
        | nil => exact ⟨a, rfl⟩
        | cons _ _ => simp at this
    refine ⟨fuel, pv, ?_, .fr (h2.2 0 pv v rfl rfl)⟩
    unfold Arg
    split
    · rename_i fs hq; exact absurd hq (hu fs)
    · exact h1

/-- All arguments. -/
def Args (P : Program) (ts : List TypeId) (pvs : List PV) : Prop := All2 (fun t pv => ∃ k, Arg P k t pv) ts pvs

theorem args_of {H : Type} {enc : TypeId × Value → H} {P : Program} {W : World} {base base' : Nat} {sp : Nat → Bool} {held : Bool} {L : List TypeId} (hL : closedB P L = true) : ∀ {ts : List TypeId} {vs : List Value} {ds : List (DataW H)} {p : List MemPlace}, (∀ t ∈ ts, t ∈ L) →
    (∀ (j : Nat) (t : TypeId) (v : Value), ts[j]? = some t → vs[j]? = some v → Value.okWide P W .any base' t v) → DataW.TrodAll enc P W base sp held ts vs ds p →
    ∃ pvs, Args P ts pvs ∧ pvs.length = vs.length ∧ ∀ (j : Nat) (pv : PV) (v : Value), pvs[j]? = some pv → vs[j]? = some v → VR W NoAv noMu pv v
  | [], [], [], _, _, _, _ => ⟨[], .nil, rfl, by simp⟩
  | t :: ts, v :: vs, d :: ds, _, hsub, hok, ⟨p, q, h1, h2, _⟩ => by
    obtain ⟨k, pv, a1, a2⟩ := arg_of hL (hsub t (by simp)) (hok 0 t v rfl rfl) h1
    obtain ⟨pvs, b1, b2, b3⟩ := args_of hL (fun t ht => hsub t (by simp [ht])) (fun j t v h1 h2 => hok (j + 1) t v h1 h2) h2
    refine ⟨pv :: pvs, .cons ⟨k, a1⟩ b1, by simp [b2], fun j pv' v' hp hv => ?_⟩
    cases j with
    | zero => simp at hp hv; subst hp; subst hv; exact a2
    | succ j => simp at hp hv; exact b3 j pv' v' hp hv
  | [], [], _ :: _, _, _, _, h => h.elim
  | [], _ :: _, _, _, _, _, h => h.elim
  | _ :: _, [], _, _, _, _, h => h.elim
  | _ :: _, _ :: _, [], _, _, _, h => h.elim

theorem Grown.below {w w' : World} (h : Vs.Grown w w') : Below w.heap.size w w' := ⟨h.os, h.tape, h.output, h.size, h.keep⟩

/-- Behind the call the arguments read as they did. -/
theorem args_back {H : Type} {enc : TypeId × Value → H} {P : Program} (hl : laidOutB P = true) {W W' : World} (hb : Below W.heap.size W W') : ∀ {ts : List TypeId} {vs : List Value} {ds : List (DataW H)} {p : List MemPlace}, (∀ t ∈ ts, P.readableRec t = true ∧ t < P.types.size) →
    DataW.TrodAll enc P W 0 (fun _ => true) true ts vs ds p → (∀ x ∈ p, x.block < W.heap.size) → DataW.TrodAll enc P W' 0 (fun b => decide (b < W.heap.size)) true ts vs ds p
  | [], [], [], _, _, h, _ => h
  | t :: ts, v :: vs, d :: ds, _, ht, ⟨p, q, h1, h2, rfl⟩, hlt =>
    ⟨p, q, Below.trod hl (ht t (by simp)).1 (ht t (by simp)).2 h1 hb (fun x hx => hlt x (by simp [hx])), args_back hl hb (fun t h => ht t (by simp [h])) h2 (fun x hx => hlt x (by simp [hx])), rfl⟩
  | [], [], _ :: _, _, _, h, _ => h.elim
  | [], _ :: _, _, _, _, h, _ => h.elim
  | _ :: _, [], _, _, _, h, _ => h.elim
  | _ :: _, _ :: _, [], _, _, h, _ => h.elim

theorem law_calls {P : Program} {Hn : Hints} (hm : P.follows .mixedOrders = true) {f : FuncId} {ts : List TypeId} (law : ∀ pvs, Args P ts pvs → ∃ n, callP P Hn n f pvs = some (.bool true)) {L : List TypeId} (hL : closedB P L = true) (hsub : ∀ t ∈ ts, t ∈ L)
    {H : Type} {enc : TypeId × Value → H} {W : World} {base base' : Nat} {sp : Nat → Bool} {held : Bool} {args : Array Value} {ds : List (DataW H)} {p : List MemPlace}
    (hok : ∀ (j : Nat) (t : TypeId) (v : Value), ts[j]? = some t → args[j]? = some v → Value.okWide P W .any base' t v) (h : DataW.TrodAll enc P W base sp held ts args.toList ds p) :
    Calls P f args W fun e W' => e = .returned (.bool true) ∧ Below W.heap.size W W' := by
  obtain ⟨pvs, a1, a2, a3⟩ := args_of hL hsub (fun j t v h1 h2 => hok j t v h1 (by rw [← Array.getElem?_toList]; exact h2)) h
  obtain ⟨n, hn⟩ := law pvs a1
  obtain ⟨fn, c, e1, e2, e3, e4⟩ := callP_sound hm n f pvs _ hn
  refine (e4 W NoAv args (fun b h => h.elim) (by rw [a2]; exact Array.length_toList) (fun j pv v hp hv => a3 j pv v hp (by rw [Array.getElem?_toList]; exact hv))).mono ?_
  rintro e w' ⟨v, rfl, hg, hv⟩
  exact ⟨by rw [hv.bool_inv], Grown.below hg⟩
theorem trodAll_lt {H : Type} {enc : TypeId × Value → H} {P : Program} {W : World} {base : Nat} {sp : Nat → Bool} {held : Bool} : ∀ {ts : List TypeId} {vs : List Value} {ds : List (DataW H)} {p : List MemPlace},
    DataW.TrodAll enc P W base sp held ts vs ds p → ∀ x ∈ p, x.block < W.heap.size
  | [], [], [], _, h => by
    obtain ⟨_, _, rfl⟩ := Go.ChangeShapes.trodAll_nil h
    simp
  | t :: ts, v :: vs, d :: ds, _, ⟨p, q, h1, h2, rfl⟩ => fun x hx => by
    rcases List.mem_append.1 hx with hx | hx
    · obtain ⟨m, hm⟩ := h1
      exact DataW.trod_lt m _ _ _ hm x hx
    · exact trodAll_lt h2 x hx
  | [], [], _ :: _, _, h => h.elim
  | [], _ :: _, _, _, h => h.elim
  | _ :: _, [], _, _, h => h.elim
  | _ :: _, _ :: _, [], _, h => h.elim
theorem params_at {q : Array TypeId} {l : List TypeId} (e : q = l.toArray) {j : Nat} {t : TypeId} (h : l[j]? = some t) : q[j]? = some t := by
  subst e
  rw [← Array.getElem?_toList]
  exact h
theorem ok_at {q : Array TypeId} {l : List TypeId} (e : q = l.toArray) {args : Array Value} {Q : TypeId → Value → Prop} (h : ∀ (j : Nat) t v, q[j]? = some t → args[j]? = some v → Q t v) : ∀ (j : Nat) (t : TypeId) (v : Value), l[j]? = some t → args[j]? = some v → Q t v := fun j t v h1 h2 => h j t v (params_at e h1) h2
attribute [irreducible] Dt Arg
end Go.Vs
end
/- The interpreter again, with what goes on behind: each step by definition. -/
section
set_option linter.unusedVariables false
set_option linter.unusedSimpArgs false
namespace Go.Vs
open Go

section
variable {R : Type}
def withV (x : Option PV) (K : PV → Option R) : Option R := x.bind K
/-- An array more. -/
def withN (x : Option Out) (S : Store) (K : PV → Store → Option R) : Option R := x.bind fun o => K o.v (place (freezeAll S o.fz) o.new)
def withE (x : Option Eff) (e : Env) (K : PV → Env → Store → Option R) : Option R := x.bind fun r => K r.v (killE r.kill e) r.S
/-- The store changed; no slot loses what it holds. -/
def withS (x : Option Eff) (K : PV → Store → Option R) : Option R := x.bind fun r => K r.v r.S
/-- The same under a guard. -/
def gval (g : PV) (want : Bool) (x : Option PV) : Option PV := match g with
  | .bool b => if b = want then x else some .skip
  | .skip => some .skip
  | _ => none
def gout (g : PV) (want : Bool) (x : Option Out) : Option Out := match g with
  | .bool b => if b = want then x else some { v := .skip }
  | .skip => some { v := .skip }
  | _ => none
def geff (g : PV) (want : Bool) (S : Store) (x : Option Eff) : Option Eff := match g with
  | .bool b => if b = want then x else some { v := .skip, S }
  | .skip => some { v := .skip, S }
  | _ => none

/-- Operations that give a value and leave the store. -/
def evPure (P : Program) (o : Op) (e : Env) (S : Store) : Option (Option PV) := match o with
  | .load t a => some (evLoad (tyi P t) S (ev e a))
  | .binOp op t x y _ => some (evBin op (tyi P t) (ev e x) (ev e y))
  | .unOp op _ x => some (evUn op (ev e x))
  | .convert s d x => some (if (tyi P s).known then evConvert (tyi P s) (tyi P d) (ev e x) else none)
  | .slice t x lo hi mx => some (if isSlice (tyi P t) = true ∧ (tyi P (elemTy (tyi P t))).known = false then none else evSlice (tyi P t) (tyi P (elemTy (tyi P t))).size S (ev e x) (lo.map (ev e)) (hi.map (ev e)) (mx.map (ev e)))
  | .fieldAddr t x f => some (evFieldAddr (tyi P t) f (ev e x))
  | .field t x f => some (evField (tyi P t) f (ev e x))
  | .indexAddr t x i => some (if isSlice (tyi P t) = true ∧ (tyi P (elemTy (tyi P t))).known = true then evIndexAddr (tyi P (elemTy (tyi P t))).size S (ev e x) (ev e i) else none)
  | _ => none

theorem evPure_spec {P : Program} {cp : CallP} {o : Oper} {e : Env} {S : Store} {nid : Nat} {x : Option PV} (h : evPure P o.op e S = some x) : ev1 P cp o e S nid = x.map (fun v => ({ v } : Out)) := by
  obtain ⟨dst, op, type, pos, after, guard⟩ := o
  cases op <;> simp only [evPure, Option.some.injEq, reduceCtorEq] at h <;> subst h <;> simp only [ev1]
  all_goals (try rfl)
  all_goals (split <;> rfl)
theorem evPure_eff {P : Program} {H : Hints} {o : Oper} {e : Env} {S : Store} {x : Option PV} (h : evPure P o.op e S = some x) : isEff H o e = false := by
  obtain ⟨dst, op, type, pos, after, guard⟩ := o
  cases op <;> simp only [evPure, Option.some.injEq, reduceCtorEq] at h <;> rfl

def pickO (c x y : PV) : Option PV := match c with
  | .bool t => if t = true then some x else some y
  | _ => none
def fillV (fs : List (Nat × Nat × Bool)) : List PV → List (Nat × PV) → Option (List PV)
  | cs, [] => some cs
  | cs, (i, x) :: r => match fs[i]? with
    | some (o, n, _) => if x.cells.length = n ∧ x.cells.all PV.cell ∧ o + n ≤ cs.length then fillV fs (cs.take o ++ x.cells ++ cs.drop (o + n)) r else none
    | none => none
theorem fillV_eq {fs : List (Nat × Nat × Bool)} {ρ : Operand → PV} : ∀ (ps : List (Nat × Operand)) (cs : List PV), fillAll fs ρ cs ps = fillV fs cs (ps.map fun p => (p.1, ρ p.2))
  | [], cs => rfl
  | (i, x) :: r, cs => by
    simp only [fillAll, fillV, List.map_cons]
    cases fs[i]? with
    | none => rfl
    | some q =>
      obtain ⟨o, n, g⟩ := q
      simp only [fillV_eq r]
def buildO (ti : TI) (ps : List (Nat × PV)) : Option PV := match ti.d with
  | .struct fs => ti.zero.bind fun z => if z.all PV.cell ∧ (fs.all fun x => decide (x.2.1 ≠ 0)) then (fillV fs z ps).map fun cs => .agg cs else none
  | _ => none
def lenO (ti : TI) (x : PV) : Option PV := evLen ti x
def extractO (x : PV) (i : Nat) : Option PV := match x with
  | .tup vs => vs[i]?
  | _ => none
def nilCheckO (x : PV) : Option PV := match x with
  | .mp a b c => some (.mp a b c)
  | .cp r => some (.cp r)
  | .fn f a b => some (.fn f a b)
  | _ => none
def indexO (P : Program) (t : TypeId) (x i : PV) : Option PV := match (tyi P t).d with
  | .array n el => if (tyi P el).known then evIndex { d := .array n el, size := (tyi P t).size, bytes := 0, zero := none } (tyi P el).size (tyi P el).isAgg x i else none
  | .str => evIndex { d := .str, size := 0, bytes := 0, zero := none } 0 false x i
  | _ => none
def maxO (xs : List PV) : Option PV := match xs with
  | [.int k a, .int _ b] => some (.int k (if b > a then b else a))
  | _ => none
def minO (xs : List PV) : Option PV := match xs with
  | [.int k a, .int _ b] => some (.int k (if b < a then b else a))
  | _ => none
/-- Operations that give a value and leave the store (all). -/
def evVal (P : Program) (o : Op) (e : Env) (S : Store) : Option (Option PV) := match o with
  | .move x | .assign x => some (some (ev e x))
  | .pick c a b => some (pickO (ev e c) (ev e a) (ev e b))
  | .build t ps => some (buildO (tyi P t) (ps.toList.map fun p => (p.1, ev e p.2)))
  | .makeFunc (.func f) first caps => some (some (.fn f (first.toList.map (ev e)) (caps.toList.map (ev e))))
  | .extract x i => some (extractO (ev e x) i)
  | .nilCheck x => some (nilCheckO (ev e x))
  | .index t x i => some (indexO P t (ev e x) (ev e i))
  | .call c => (match c.callee with
    | .builtin .len => (match c.argTypes[0]?, c.args[0]? with | some t, some x => some (lenO (tyi P t) (ev e x)) | _, _ => none)
    | .builtin .max => some (maxO (c.args.toList.map (ev e)))
    | .builtin .min => some (minO (c.args.toList.map (ev e)))
    | _ => none)
  | o => evPure P o e S
theorem evVal_spec {P : Program} {H : Hints} {cp : CallP} {o : Oper} {e : Env} {S : Store} {nid : Nat} {x : Option PV} (h : evVal P o.op e S = some x) : ev1 P cp o e S nid = x.map (fun v => ({ v } : Out)) ∧ isEff H o e = false := by
  obtain ⟨dst, op, type, pos, after, guard⟩ := o
  cases op <;> try exact ⟨evPure_spec h, evPure_eff h⟩
  all_goals simp only [evVal, Option.some.injEq] at h
  all_goals try (simp only [evPure, reduceCtorEq] at h; done)
  all_goals try (exact ⟨evPure_spec (o := ⟨dst, _, type, pos, after, guard⟩) h, evPure_eff (o := ⟨dst, _, type, pos, after, guard⟩) h⟩)
  case move x => subst h; exact ⟨rfl, rfl⟩
  case assign x => subst h; exact ⟨rfl, rfl⟩
  case pick c a b =>
    subst h
    refine ⟨?_, rfl⟩
    simp only [ev1, pickO]
    generalize ev e c = v
    cases v <;> try rfl
    rename_i t
    cases t <;> rfl
  case build t ps =>
    subst h
    refine ⟨?_, rfl⟩
    simp only [ev1, buildO, fillV_eq]
    generalize (tyi P t).d = dd
    cases dd <;> try rfl
    cases (tyi P t).zero with
    | none => rfl
    | some z =>
      simp only [Option.bind_some]
      split
      · cases fillV _ z _ <;> rfl
      · rfl
  case makeFunc fn first caps =>
    cases fn <;> simp only [reduceCtorEq, Option.some.injEq, evPure] at h
    subst h
    exact ⟨rfl, rfl⟩
  case extract x i =>
    subst h
    refine ⟨?_, rfl⟩
    simp only [ev1, extractO]
    generalize ev e x = v
    cases v <;> rfl
  case nilCheck x =>
    subst h
    refine ⟨?_, rfl⟩
    simp only [ev1, nilCheckO]
    generalize ev e x = v
    cases v <;> rfl
  case index t x i =>
    subst h
    refine ⟨?_, rfl⟩
    simp only [ev1, indexO]
    generalize (tyi P t).d = dd
    cases dd <;> try rfl
    simp only
    split <;> rfl
  case call c =>
    cases hc : c.callee with
    | invoke r m => rw [hc] at h; cases h
    | value f => rw [hc] at h; cases h
    | builtin b =>
      rw [hc] at h
      cases b <;> simp only [reduceCtorEq, Option.some.injEq] at h
      case len =>
        refine ⟨?_, by simp [isEff, hc]⟩
        simp only [ev1, hc]
        split at h
        · rename_i t x ht hx
          simp only [Option.some.injEq] at h
          subst h
          simp only [ht, hx]
          rfl
        · cases h
      case max =>
        refine ⟨?_, by simp [isEff, hc]⟩
        subst h
        simp only [ev1, hc, maxO]
        split
        · rename_i hx; rw [hx]; rfl
        · rename_i hx
          split
          · rename_i hy; exact absurd hy (hx _ _ _ _)
          · rfl
      case min =>
        refine ⟨?_, by simp [isEff, hc]⟩
        subst h
        simp only [ev1, hc, minO]
        split
        · rename_i hx; rw [hx]; rfl
        · rename_i hx
          split
          · rename_i hy; exact absurd hy (hx _ _ _ _)
          · rfl

def allocO (ti : TI) (n : Nat) : Option Out := ti.zero.bind fun z => if z.all PV.cell then some { v := .mp n 0 0, new := some ([z], none) } else none
def buildSliceO (P : Program) (t : TypeId) (n len : Nat) (is : List Nat) (rows : List (List PV)) : Option Out := match (tyi P t).d with
  | .slice el => if is = List.range len ∧ rowsOK (tyi P el).size rows ∧ (rows.all fun r => r.all PV.cell) ∧ len * (tyi P el).size ≤ 16777216 ∧ 0 < (tyi P el).size ∧ (tyi P el).zero.isSome then
      some { v := .msl n 0 len true, new := some (rows, some (some (tyi P el).size)) } else none
  | _ => none
def makeSliceO (P : Program) (t : TypeId) (n : Nat) (l c : PV) : Option Out := match (tyi P t).d, l, c with
  | .slice el, .int _ a, .int _ m => (tyi P el).zero.bind fun z =>
    if 0 ≤ a ∧ a ≤ m ∧ (tyi P el).bytes * m ≤ 281474976710656 ∧ m ≤ 9223372036854775807 ∧ z.length = (tyi P el).size ∧ z.all PV.cell then
      some { v := .msl n 0 a.toNat (decide (a = m)), new := some (List.replicate a.toNat z, some (some (tyi P el).size)) } else none
  | _, _, _ => none
def callO (cp : CallP) (S : Store) (f : FuncId) (as : List PV) : Option Out :=
  if (reach S 8 (as.flatMap PV.refs)).all (fun i => decide (i < S.length)) then (mapO (fzPV S) as).bind fun args => (cp f args).map fun v => { v, fz := reach S 8 (as.flatMap PV.refs) } else none
def callE (C : Ctx) (S : Store) (f : FuncId) (as : List PV) : Option Eff :=
  if C.H.refs f then (C.cr f as S).bind fun (v, S') => if S.length ≤ S'.length then some { v, S := S' } else none
  else (mapO (fzPV S) as).bind fun args => (C.cp f args).map fun v => { v, S := freezeAll S (reach S 8 (as.flatMap PV.refs)) }
def callV (C : Ctx) (S : Store) (f : PV) (as : List PV) : Option Eff := match f with
  | .fn f first caps => callE C S f (first ++ as ++ caps)
  | _ => none
def appendN (P : Program) (t u : TypeId) (S : Store) (n : Nat) (x y : PV) : Option Out := match (tyi P t).d, (tyi P u).d with
  | .slice el, .slice _ => if zeroOK (tyi P el) then evAppendNew (tyi P el).bytes (tyi P el).size S n x y else none
  | _, _ => none
def appendE (P : Program) (base : Nat) (t u : TypeId) (S : Store) (x y : PV) : Option Eff :=
  if exact x = true then (appendN P t u S S.length x y).map fun o => { v := o.v, S := place S o.new }
  else match (tyi P t).d, (tyi P u).d with
    | .slice el, .slice _ => if zeroOK (tyi P el) then evAppend base (tyi P el).bytes (tyi P el).size S x y else none
    | _, _ => none
def copyE (P : Program) (t u : TypeId) (S : Store) (x y : PV) : Option Eff := match (tyi P t).d, (tyi P u).d with
  | .slice el, .slice _ => if (tyi P el).known then evCopy (tyi P el).size S x y else none
  | _, _ => none
def storeE (ti : TI) (S : Store) (a v : PV) : Option Eff := if ti.known then (evStore ti.size S a v).map fun S => { v := .skip, S } else none
/-- What an operation comes to, in one of three forms. -/
inductive OR where
  | val (x : Option PV)
  | out (x : Option Out)
  | eff (x : Option Eff)
  | sto (x : Option Eff)
def evOp (C : Ctx) (o : Op) (e : Env) (S : Store) : OR := match evVal C.P o e S with
  | some x => .val x
  | none => match o with
    | .alloc t => .out (allocO (tyi C.P t) S.length)
    | .box t x => .out (boxed S S.length (tyi C.P t).size (ev e x))
    | .buildSlice t len ps => .out (buildSliceO C.P t S.length len (ps.toList.map (·.1)) (ps.toList.map fun (_, x) => (ev e x).cells))
    | .makeSlice t l c => .out (makeSliceO C.P t S.length (ev e l) (ev e c))
    | .store t a x => .sto (storeE (tyi C.P t) S (ev e a) (ev e x))
    | .call c => (match c.callee with
      | .builtin .append => (match c.argTypes[0]?, c.argTypes[1]?, c.args.toList with
        | some t, some u, [x, y] => .eff (appendE C.P C.base t u S (ev e x) (ev e y))
        | _, _, _ => .out none)
      | .builtin .copy => (match c.argTypes[0]?, c.argTypes[1]?, c.args.toList with
        | some t, some u, [x, y] => .sto (copyE C.P t u S (ev e x) (ev e y))
        | _, _, _ => .out none)
      | .value (.func f) => if C.H.refs f then .sto (callE C S f ([] ++ c.args.toList.map (ev e) ++ [])) else .out (callO C.cp S f ([] ++ c.args.toList.map (ev e) ++ []))
      | .value f => .sto (callV C S (ev e f) (c.args.toList.map (ev e)))
      | _ => .out none)
    | _ => .out none

def OR.step (q : OR) (d : Option Nat) (e : Env) (S : Store) : Option (Env × Store) := match q with
  | .val x => x.map fun v => (putD e d v, S)
  | .out x => x.map fun o => (putD e d o.v, place (freezeAll S o.fz) o.new)
  | .eff x => x.map fun r => (putD (killE r.kill e) d r.v, r.S)
  | .sto x => x.map fun r => (putD e d r.v, r.S)
theorem killE_nil (e : Env) : killE [] e = e := rfl
theorem sto_step {x : Option Eff} (hk : ∀ r, x = some r → r.kill = []) {d : Option Nat} {e : Env} {S : Store} {q : Env × Store} (h : (OR.sto x).step d e S = some q) : x.map (fun r => (putD (killE r.kill e) d r.v, r.S)) = some q := by
  cases x with
  | none => cases h
  | some r =>
    simp only [OR.step, Option.map_some] at h ⊢
    rw [hk r rfl, killE_nil]
    exact h
theorem storeE_kill {ti : TI} {S : Store} {a v : PV} : ∀ r, storeE ti S a v = some r → r.kill = [] := fun r h => by
  unfold storeE at h
  split at h
  · obtain ⟨_, _, rfl⟩ := map_some h; rfl
  · cases h
theorem copyE_kill {P : Program} {t u : TypeId} {S : Store} {x y : PV} : ∀ r, copyE P t u S x y = some r → r.kill = [] := fun r h => by
  unfold copyE at h
  split at h
  · split at h
    · unfold evCopy at h
      split at h
      · split at h
        · obtain ⟨_, _, h⟩ := bind_some h
          split at h
          · cases h; rfl
          · cases h
        · cases h
      · cases h
    · cases h
  · cases h
theorem callE_kill {C : Ctx} {S : Store} {f : FuncId} {l : List PV} : ∀ r, callE C S f l = some r → r.kill = [] := fun r h => by
  unfold callE at h
  split at h
  · obtain ⟨_, _, h⟩ := bind_some h
    dsimp only at h
    split at h
    · cases h; rfl
    · cases h
  · obtain ⟨_, _, h⟩ := bind_some h
    obtain ⟨_, _, rfl⟩ := map_some h
    rfl
theorem callV_kill {C : Ctx} {S : Store} {f : PV} {l : List PV} : ∀ r, callV C S f l = some r → r.kill = [] := fun r h => by
  unfold callV at h
  split at h
  · exact callE_kill r h
  · cases h
theorem evOp_spec {C : Ctx} {o : Oper} {e : Env} {S : Store} {e' : Env} {S' : Store} (h : (evOp C o.op e S).step o.dst e S = some (e', S')) :
    (if isEff C.H o e then (ev2 C o e S).map fun r => (putD (killE r.kill e) o.dst r.v, r.S)
     else (ev1 C.P C.cp o e S S.length).map fun r => (putD e o.dst r.v, place (freezeAll S r.fz) r.new)) = some (e', S') := by
  unfold evOp at h
  cases hv : evVal C.P o.op e S with
  | some x =>
    rw [hv] at h
    simp only [OR.step] at h
    obtain ⟨h1, h2⟩ := evVal_spec (H := C.H) (cp := C.cp) (nid := S.length) hv
    rw [h2, h1]
    simp only [Bool.false_eq_true, if_false, Option.map_map]
    exact h
  | none =>
    rw [hv] at h
    simp only at h
    obtain ⟨dst, op, type, pos, after, guard⟩ := o
    cases op
    case store t a x =>
      dsimp only at h
      have h := sto_step storeE_kill h
      rw [← h]
      simp only [isEff, if_true, ev2, storeE]
    case call c =>
      dsimp only at h
      cases hc : c.callee with
      | invoke r m => rw [hc] at h; cases h
      | value f =>
        rw [hc] at h
        cases f with
        | func f =>
          simp only at h
          by_cases hr : C.H.refs f = true
          · rw [if_pos hr] at h
            have h := sto_step callE_kill h
            simp only [callE, hr, if_true] at h
            simp only [isEff, hc, hr, if_true, ev2, ev]
            exact h
          · rw [if_neg hr] at h
            simp only [callO] at h
            simp only [isEff, hc, hr, if_false, Bool.false_eq_true, ev1, ev]
            exact h
        | _ =>
          have h := sto_step callV_kill h
          simp only [callV, callE] at h
          simp only [isEff, hc, if_true, ev2]
          rw [← h]
          rfl
      | builtin b =>
        rw [hc] at h
        cases b <;> try (simp only [OR.step, Option.map_none, reduceCtorEq] at h; done)
        case append =>
          cases ht : c.argTypes[0]? with
          | none => simp only [ht, OR.step, Option.map_none, reduceCtorEq] at h
          | some t =>
          cases hu : c.argTypes[1]? with
          | none => simp only [ht, hu, OR.step, Option.map_none, reduceCtorEq] at h
          | some u =>
          obtain ⟨x, y, hargs⟩ : ∃ x y, c.args.toList = [x, y] := by
            rcases hl : c.args.toList with _ | ⟨x, _ | ⟨y, _ | ⟨z, l⟩⟩⟩
            · simp only [ht, hu, hl, OR.step, Option.map_none, reduceCtorEq] at h
            · simp only [ht, hu, hl, OR.step, Option.map_none, reduceCtorEq] at h
            · exact ⟨x, y, rfl⟩
            · simp only [ht, hu, hl, OR.step, Option.map_none, reduceCtorEq] at h
          simp only [ht, hu, hargs, OR.step] at h
          have ha : c.args[0]? = some x := by rw [← Array.getElem?_toList, hargs]; rfl
          simp only [appendE] at h
          by_cases hx : exact (ev e x) = true
          · rw [if_pos hx] at h
            simp only [isEff, hc, ha, hx, Bool.not_true, Bool.false_eq_true, if_false, ev1, ht, hu, hargs]
            simp only [appendN, Option.map_map] at h
            rw [← h]
            generalize (tyi C.P t).d = d1
            generalize (tyi C.P u).d = d2
            cases d1 <;> try rfl
            cases d2 <;> try rfl
            simp only
            split
            · rename_i el _ _
              cases hq : evAppendNew (tyi C.P el).bytes (tyi C.P el).size S S.length (ev e x) (ev e y) with
              | none => rfl
              | some o =>
                have hfz : o.fz = [] := by
                  unfold evAppendNew at hq
                  rw [if_pos hx] at hq
                  obtain ⟨_, _, hq⟩ := bind_some hq
                  obtain ⟨_, _, hq⟩ := bind_some hq
                  split at hq
                  · split at hq
                    · split at hq <;> (cases hq; rfl)
                    · cases hq; rfl
                  · cases hq
                simp only [Option.map_some, hfz, Function.comp, killE_nil]
                rfl
            · rfl
          · rw [if_neg hx] at h
            have hx' : exact (ev e x) = false := by simpa using hx
            simp only [isEff, hc, ha, hx', Bool.not_false, if_true, ev2, ht, hu, hargs]
            exact h
        case copy =>
          cases ht : c.argTypes[0]? with
          | none => simp only [ht, OR.step, Option.map_none, reduceCtorEq] at h
          | some t =>
          cases hu : c.argTypes[1]? with
          | none => simp only [ht, hu, OR.step, Option.map_none, reduceCtorEq] at h
          | some u =>
          obtain ⟨x, y, hargs⟩ : ∃ x y, c.args.toList = [x, y] := by
            rcases hl : c.args.toList with _ | ⟨x, _ | ⟨y, _ | ⟨z, l⟩⟩⟩
            · simp only [ht, hu, hl, OR.step, Option.map_none, reduceCtorEq] at h
            · simp only [ht, hu, hl, OR.step, Option.map_none, reduceCtorEq] at h
            · exact ⟨x, y, rfl⟩
            · simp only [ht, hu, hl, OR.step, Option.map_none, reduceCtorEq] at h
          simp only [ht, hu, hargs] at h
          have h := sto_step copyE_kill h
          simp only [isEff, hc, if_true, ev2, ht, hu, hargs]
          exact h
    all_goals simp only [OR.step, Option.map_none, reduceCtorEq] at h
    case alloc t => exact h
    case box t x => exact h
    case buildSlice t len ps =>
      rw [← h]
      simp only [isEff, Bool.false_eq_true, if_false, ev1, buildSliceO]
      generalize (tyi C.P t).d = dd
      cases dd <;> rfl
    case makeSlice t l c => exact h

def runC (C : Ctx) (ops : Array Oper) : List Oper → Env → Store → (Env → Store → Option R) → Option R
  | [], e, S, K => K e S
  | o :: r, e, S, K => match o.guard with
    | none => (match evOp C o.op e S with
      | .val x => withV x fun v => runC C ops r (putD e o.dst v) S K
      | .out x => withN x S fun v S => runC C ops r (putD e o.dst v) S K
      | .eff x => withE x e fun v e S => runC C ops r (putD e o.dst v) S K
      | .sto x => withS x fun v S => runC C ops r (putD e o.dst v) S K)
    | some (j, want) => (match (ops[j]?).bind (·.dst) with
      | none => runC C ops r (putD e o.dst .skip) S K
      | some t => (match evOp C o.op e S with
        | .val x => withV (gval (get e t) want x) fun v => runC C ops r (putD e o.dst v) S K
        | .out x => withN (gout (get e t) want x) S fun v S => runC C ops r (putD e o.dst v) S K
        | .eff x => withE (geff (get e t) want S x) e fun v e S => runC C ops r (putD e o.dst v) S K
        | .sto x => withS (geff (get e t) want S x) fun v S => runC C ops r (putD e o.dst v) S K))

/-- What the twin comes to, the interpreter comes to. -/
theorem runC_sound {C : Ctx} {ops : Array Oper} : ∀ (l : List Oper) {e : Env} {S : Store} {K : Env → Store → Option R} {z : R}, runC C ops l e S K = some z → ∃ e' S', runOps C ops l e S = some (e', S') ∧ K e' S' = some z
  | [], e, S, K, z, h => ⟨e, S, rfl, h⟩
  | o :: r, e, S, K, z, h => by
    have fin : ∀ {e1 : Env} {S1 : Store}, stepOp C ops o e S = some (e1, S1) → runC C ops r e1 S1 K = some z → ∃ e' S', runOps C ops (o :: r) e S = some (e', S') ∧ K e' S' = some z := fun hs hr => by
      obtain ⟨e', S', h1, h2⟩ := runC_sound r hr
      exact ⟨e', S', by simp only [runOps, hs, Option.bind_some, h1], h2⟩
    have yes : ∀ {e1 : Env} {S1 : Store}, wantedV ops e o = some true → (evOp C o.op e S).step o.dst e S = some (e1, S1) → stepOp C ops o e S = some (e1, S1) := fun hw hs => by
      simp only [stepOp, hw, Option.bind_some, if_true]
      exact evOp_spec hs
    have no : wantedV ops e o = some false → stepOp C ops o e S = some (putD e o.dst .skip, S) := fun hw => by
      simp only [stepOp, hw, Option.bind_some, Bool.false_eq_true, if_false]
    simp only [runC] at h
    cases hg : o.guard with
    | none =>
      rw [hg] at h
      simp only at h
      have hw : wantedV ops e o = some true := by simp only [wantedV, hg]
      cases hq : evOp C o.op e S with
      | val x =>
        rw [hq] at h
        obtain ⟨v, h1, h2⟩ := bind_some h
        exact fin (yes hw (by rw [hq]; simp only [OR.step, h1, Option.map_some])) h2
      | out x =>
        rw [hq] at h
        obtain ⟨v, h1, h2⟩ := bind_some h
        exact fin (yes hw (by rw [hq]; simp only [OR.step, h1, Option.map_some])) h2
      | eff x =>
        rw [hq] at h
        obtain ⟨v, h1, h2⟩ := bind_some h
        exact fin (yes hw (by rw [hq]; simp only [OR.step, h1, Option.map_some])) h2
      | sto x =>
        rw [hq] at h
        obtain ⟨v, h1, h2⟩ := bind_some h
        exact fin (yes hw (by rw [hq]; simp only [OR.step, h1, Option.map_some])) h2
    | some p =>
      obtain ⟨j, want⟩ := p
      rw [hg] at h
      simp only at h
      cases ht : (ops[j]?).bind (·.dst) with
      | none =>
        rw [ht] at h
        exact fin (no (by simp only [wantedV, hg, ht])) h
      | some t =>
        rw [ht] at h
        simp only at h
        have hw : wantedV ops e o = (match get e t with | .bool b => some (b == want) | .skip => some false | _ => none) := by
          simp only [wantedV, hg, ht]
          cases get e t <;> rfl
        cases hq : evOp C o.op e S with
        | val x =>
          rw [hq] at h
          obtain ⟨v, h1, h2⟩ := bind_some h
          cases hv : get e t <;> rw [hv] at h1 hw <;> simp only [gval, reduceCtorEq, Option.some.injEq] at h1
          case skip => subst h1; exact fin (no hw) h2
          case bool b =>
            split at h1
            · rename_i hb
              exact fin (yes (by rw [hw, hb]; simp) (by rw [hq]; simp only [OR.step, h1, Option.map_some])) h2
            · rename_i hb
              simp only [Option.some.injEq] at h1
              subst h1
              exact fin (no (by rw [hw]; simp [hb])) h2
        | out x =>
          rw [hq] at h
          obtain ⟨v, h1, h2⟩ := bind_some h
          cases hv : get e t <;> rw [hv] at h1 hw <;> simp only [gout, reduceCtorEq, Option.some.injEq] at h1
          case skip => subst h1; exact fin (no hw) h2
          case bool b =>
            split at h1
            · rename_i hb
              exact fin (yes (by rw [hw, hb]; simp) (by rw [hq]; simp only [OR.step, h1, Option.map_some])) h2
            · rename_i hb
              simp only [Option.some.injEq] at h1
              subst h1
              exact fin (no (by rw [hw]; simp [hb])) h2
        | eff x =>
          rw [hq] at h
          obtain ⟨v, h1, h2⟩ := bind_some h
          cases hv : get e t <;> rw [hv] at h1 hw <;> simp only [geff, reduceCtorEq, Option.some.injEq] at h1
          case skip => subst h1; exact fin (no hw) h2
          case bool b =>
            split at h1
            · rename_i hb
              exact fin (yes (by rw [hw, hb]; simp) (by rw [hq]; simp only [OR.step, h1, Option.map_some])) h2
            · rename_i hb
              simp only [Option.some.injEq] at h1
              subst h1
              exact fin (no (by rw [hw]; simp [hb])) h2
        | sto x =>
          rw [hq] at h
          obtain ⟨v, h1, h2⟩ := bind_some h
          cases hv : get e t <;> rw [hv] at h1 hw <;> simp only [geff, reduceCtorEq, Option.some.injEq] at h1
          case skip => subst h1; exact fin (no hw) h2
          case bool b =>
            split at h1
            · rename_i hb
              exact fin (yes (by rw [hw, hb]; simp) (by rw [hq]; simp only [OR.step, h1, Option.map_some])) h2
            · rename_i hb
              simp only [Option.some.injEq] at h1
              subst h1
              exact fin (no (by rw [hw]; simp [hb])) h2
end
end Go.Vs
end
/- The interpreter with what goes on behind: code and calls. -/
section
set_option linter.unusedVariables false
set_option linter.unusedSimpArgs false
namespace Go.Vs
open Go

section
variable {R : Type}
def condC (v : PV) (x y : Option R) : Option R := match v with
  | .bool t => if t = true then x else y
  | _ => none
def loopC (body : (Vs.X → Env → Store → Option R) → Env → Store → Option R) (norm : Env → Store → Option (Env × Store)) (K : Vs.X → Env → Store → Option R) : Nat → Env → Store → Option R
  | 0, _, _ => none
  | n + 1, e, S => body (fun r e S => match r with
    | .normal => (norm e S).bind fun q => loopC body norm K n q.1 q.2
    | .exit i => K (.exit i) e S
    | .ret => K .ret e S) e S
def seqC (K' : Env → Store → Option R) (K : Vs.X → Env → Store → Option R) : Vs.X → Env → Store → Option R
  | .normal, e, S => K' e S
  | .exit i, e, S => K (.exit i) e S
  | .ret, e, S => K .ret e S
def blockC (id : Nat) (K : Vs.X → Env → Store → Option R) : Vs.X → Env → Store → Option R
  | .exit i, e, S => if i = id then K .normal e S else K (.exit i) e S
  | .normal, e, S => K .normal e S
  | .ret, e, S => K .ret e S
def afterC (b n : Nat) (after : List Nat) (K : Vs.X → Env → Store → Option R) : Vs.X → Env → Store → Option R
  | .exit i, e, S => if i = b then K (.exit i) (keepOnly after e) (gc n (keepOnly after e) S) else K (.exit i) e S
  | .normal, e, S => K .normal e S
  | .ret, e, S => K .ret e S
end

/-- What stands behind a function's body. -/
def endC (P : Program) (fn : Func) (x : Vs.X) (e : Env) (S : Store) : Option (PV × Store) := match x with
  | .exit _ => none
  | .normal => (evResults P fn e S).map fun v => (v, S)
  | .ret => (evResults P fn e S).map fun v => (v, S)
end Go.Vs
end
