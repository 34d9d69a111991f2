/- Calls: what the machine's run comes to. -/
import Derived.WalkKit
import Derived.ProofKit
import Derived.OpenShut
import Derived.ShutString
import Derived.ChangeOld
import Derived.Below
import Derived.Carry
import Derived.SizedLaws
import Derived.Test.YtnddhkcciphhkaaMX6
section
set_option linter.unusedVariables false
set_option linter.unusedSimpArgs false
namespace Go.Vs
open Go

def resOne (tmps : Array Value) : ResultVar → Sem Value
  | .tmp t => pure (tmps.getD t Go.undef)
  | .cell a t => do loadVar t (← asAddr (tmps.getD a Go.undef))
theorem results_eq (fn : Func) (tmps : Array Value) : results fn tmps = (do let vs ← fn.results.mapM (resOne tmps); pure (if h : vs.size = 1 then vs[0] else .tuple vs)) := by
  unfold results
  have : (fun x : ResultVar => match x with
    | .tmp t => (pure (tmps.getD t Go.undef) : Sem Value)
    | .cell a t => do loadVar t (← asAddr (tmps.getD a Go.undef))) = resOne tmps := by funext r; cases r <;> rfl
  rw [← this]
  rfl

section
variable {P : Program} {w : World} {X : Nat → Prop} {μ : Mu} {av : Nat → Prop} {S : Store}

theorem result_sound (hS : SR w X (arrs S) S.length μ) {e : Env} {tmps : Array Value} (hE : ER w (Av X (arrs S) μ) μ e tmps) (r : ResultVar) {pv : PV} (h : evResult P e S r = some pv) :
    ∃ v, (resOne tmps r).run P w = .ok v w ∧ VR w (Av X (arrs S) μ) μ pv v := by
  cases r with
  | tmp t =>
    simp only [evResult, Option.some.injEq] at h
    subst h
    exact ⟨_, by simp [resOne], hE t⟩
  | cell a t =>
    simp only [evResult] at h
    obtain ⟨v, h1, h2⟩ := load_sound hS (Sees.refl S μ) (hE a) h
    refine ⟨v, ?_, h2⟩
    have hp : ∃ ad, tmps.getD a Go.undef = .pointer (some ad) := by
      have := hE a
      generalize hg : get e a = pv' at this h
      generalize tmps.getD a Go.undef = v' at this
      cases pv' <;> simp only [evLoad, reduceCtorEq] at h
      case cp row => cases this with | fr q => cases q; exact ⟨_, rfl⟩
      case mp id i off =>
        cases this with
        | fr q => cases q
        | mp _ _ _ b hb => exact ⟨_, rfl⟩
    obtain ⟨ad, had⟩ := hp
    rw [had] at h1
    simp only [resOne]
    rw [had]
    simp only [Instr.loadAt, Instr.sureAddr, Sem.run_bind, Sem.run_pure, Result.andThen_ok] at h1
    simp only [asAddr, Sem.run_bind, Sem.run_pure, Result.andThen_ok]
    exact h1

theorem results_list (hS : SR w X (arrs S) S.length μ) {e : Env} {tmps : Array Value} (hE : ER w (Av X (arrs S) μ) μ e tmps) : ∀ (rs : List ResultVar) {pvs : List PV}, mapO (evResult P e S) rs = some pvs →
    ∃ vs : List Value, (rs.mapM (resOne tmps)).run P w = .ok vs w ∧ pvs.length = vs.length ∧
      ∀ (j : Nat) (pv : PV) (v : Value), pvs[j]? = some pv → vs[j]? = some v → VR w (Av X (arrs S) μ) μ pv v
  | [], pvs, h => by
    simp only [mapO, Option.some.injEq] at h
    subst h
    exact ⟨[], by simp, rfl, by simp⟩
  | r :: rs, pvs, h => by
    simp only [mapO] at h
    obtain ⟨pv, h1, h⟩ := bind_some h
    obtain ⟨l, h2, rfl⟩ := map_some h
    obtain ⟨v, k1, k2⟩ := result_sound hS hE r h1
    obtain ⟨vs, k3, k4, k5⟩ := results_list hS hE rs h2
    refine ⟨v :: vs, ?_, by simp [k4], fun j pv' v' hp hv => ?_⟩
    · rw [List.mapM_cons]
      simp only [Sem.run_bind, k1, Result.andThen_ok, k3, Sem.run_pure]
    · cases j with
      | zero => simp at hp hv; subst hp; subst hv; exact k2
      | succ j => simp at hp hv; exact k5 j pv' v' hp hv

theorem results_sound (hS : SR w X (arrs S) S.length μ) {e : Env} {tmps : Array Value} (hE : ER w (Av X (arrs S) μ) μ e tmps) {fn : Func} {pv : PV} (h : evResults P fn e S = some pv) :
    ∃ v, (results fn tmps).run P w = .ok v w ∧ VR w (Av X (arrs S) μ) μ pv v := by
  unfold evResults at h
  obtain ⟨pvs, h1, rfl⟩ := map_some h
  obtain ⟨vs, k1, k2, k3⟩ := results_list hS hE _ h1
  have hrun : (results fn tmps).run P w = .ok (if h : vs.toArray.size = 1 then vs.toArray[0] else .tuple vs.toArray) w := by
    rw [results_eq, Array.mapM_eq_mapM_toList]
    simp only [Sem.run_bind, map_eq_pure_bind, k1, Result.andThen_ok, Sem.run_pure]
  refine ⟨_, hrun, ?_⟩
  clear hrun h1 k1
  match pvs, vs, k2, k3 with
  | [], [], _, _ => exact .tup _ _ rfl (by simp)
  | [p], [v], _, k3 => exact k3 0 p v rfl rfl
  | p :: q :: l, v :: u :: m, k2, k3 =>
    rw [dif_neg (by simp)]
    exact .tup _ _ (by simpa using k2) (fun j pv v hp hv => k3 j pv v hp (by simpa using hv))

theorem get_zip (args : List PV) (m t : Nat) : get (((List.range' m args.length).zip args)) t = if m ≤ t then (args[t - m]?).getD .undef else .undef := by
  induction args generalizing m with
  | nil => simp [get]
  | cons x l ih =>
    simp only [List.length_cons, List.range'_succ, List.zip_cons_cons, get]
    by_cases h : m = t
    · subst h; simp
    · rw [if_neg h, ih]
      by_cases hl : m + 1 ≤ t
      · rw [if_pos hl, if_pos (by omega), show t - m = (t - (m + 1)) + 1 by omega, List.getElem?_cons_succ]
      · rw [if_neg hl, if_neg (by omega)]

theorem SR.empty {Y : Nat → Prop} (hY : ∀ b, Y b → b < w.heap.size) : SR w Y (arrs []) 0 noMu :=
  ⟨fun id _ => ⟨rfl, by simp [arrs]⟩, fun id a ha => by simp [arrs] at ha, fun id a ha => by simp [arrs] at ha, fun id a ha => by simp [arrs] at ha, fun id id' a a' b b' h1 => by simp [arrs] at h1, fun id a b h1 => by simp [arrs] at h1, hY⟩

theorem cp_of_cr {cr : CallR} (h : CROK P cr) : CPOK P (fun g as => (cr g as []).bind fun (r, S) => fzPV S r) := by
  intro f args r hr
  obtain ⟨⟨q, S⟩, h1, h2⟩ := bind_some hr
  obtain ⟨fn, c, e1, e2, e3, e4⟩ := h f args [] q S h1
  refine ⟨fn, c, e1, e2, e3, fun w Y vs hY hn hrel => ?_⟩
  have hmut : ∀ b, ¬ Mut (arrs []) noMu b := by rintro b ⟨id, rows, g, k, h1, _⟩; simp [arrs] at h1
  refine Calls.mono (e4 w Y noMu vs (SR.empty hY) hn fun j pv v hp hv => (hrel j pv v hp hv).mono (Keeps.less fun b hb => hb.resolve_right (hmut b)) fun _ _ _ h => h) ?_
  rintro e w' ⟨v, μ', rfl, k1, k2, k3⟩
  refine ⟨v, rfl, ⟨k2.os, k2.tape, k2.output, k2.size, fun b hb => k2.keep b hb (hmut b)⟩, ?_⟩
  exact (fzPV_sound k1 (Sees.refl S μ') h2 k3 (fun _ h => h)).mono (Keeps.less fun b hb => .inl hb) fun _ _ _ h => h

theorem callF_sound {H : Hints} (hm : P.follows .mixedOrders = true) : ∀ k, CROK P (callF P H k) := by
  intro k
  induction k with
  | zero => intro f args S r S' h; cases h
  | succ k ih =>
    intro f args S r S' h
    simp only [callF] at h
    cases hf : P.funcs[f]? with
    | none => rw [hf] at h; cases h
    | some fn =>
      rw [hf] at h
      simp only at h
      cases hbd : fn.body with
      | none => rw [hbd] at h; cases h
      | some c =>
        rw [hbd] at h
        simp only at h
        split at h
        case isFalse => cases h
        rename_i hc
        obtain ⟨c1, c2, c3⟩ := hc
        obtain ⟨⟨x, e', S1⟩, h1, h2⟩ := bind_some h
        refine ⟨fn, c, rfl, hbd, c2, fun w X μ vs hS hn hrel => ?_⟩
        have hsz : (vs ++ Array.replicate (fn.ntmps - vs.size) Go.undef).size = fn.ntmps := by simp; omega
        have hN : Now S.length fn.ntmps X w (arrs S) μ ((List.range args.length).zip args) S { tmps := vs ++ Array.replicate (fn.ntmps - vs.size) Go.undef, defers := [] } w := by
          refine ⟨μ, hS, fun t => ?_, Nat.le_refl _, rfl, hsz, Tr.refl _ _ _ _⟩
          rw [List.range_eq_range', get_zip, if_pos (Nat.zero_le _), Nat.sub_zero]
          cases hp : args[t]? with
          | none => exact .undef _
          | some pv =>
            have hlt := (List.getElem?_eq_some_iff.1 hp).1
            have hv : vs[t]? = some (vs[t]'(by omega)) := Array.getElem?_eq_getElem _
            have : (vs ++ Array.replicate (fn.ntmps - vs.size) Go.undef).getD t Go.undef = vs[t]'(by omega) := by
              rw [Array.getD_eq_getD_getElem?, Array.getElem?_append_left (by omega), hv]; rfl
            simp only [this, Option.getD_some]
            exact hrel t pv _ hp hv
        refine calls_of_wp hf hbd ?_
        have fin : ∀ (y : Vs.X), x = y → (∀ id, y ≠ .exit id) → ∃ v, evResults P fn e' S1 = some v ∧ r = v ∧ S' = S1 := fun y hy hne => by
          subst hy
          cases x with
          | exit id => exact absurd rfl (hne id)
          | normal =>
            obtain ⟨v, k1, k2⟩ := map_some h2
            simp only [Prod.mk.injEq] at k2
            exact ⟨v, k1, k2.1, k2.2⟩
          | ret =>
            obtain ⟨v, k1, k2⟩ := map_some h2
            simp only [Prod.mk.injEq] at k2
            exact ⟨v, k1, k2.1, k2.2⟩
        refine exec_sound (C := { P, H, cp := fun g as => (callF P H k g as []).bind fun (r, S) => fzPV S r, cr := callF P H k, base := S.length, h := H.of f }) hm (cp_of_cr ih) ih rfl c 0 c3 h1 hN fun a' w' hN' => ?_
        obtain ⟨μ', j1, j2, j3, j4, j5, j6⟩ := hN'
        have post : ∀ y, x = y → (∀ id, y ≠ .exit id) → a'.defers = [] ∧ ∃ v, (results fn a'.tmps).run P w' = .ok v w' ∧ ∃ v' μ', Ending.returned v = .returned v' ∧ SR w' X (arrs S') S'.length μ' ∧ Tr S.length w (arrs S) μ w' (arrs S') μ' ∧ VR w' (Av X (arrs S') μ') μ' r v' := fun y hy hne => by
          obtain ⟨v, k1, rfl, rfl⟩ := fin y hy hne
          obtain ⟨u, q1, q2⟩ := results_sound j1 j2 k1
          exact ⟨j4, u, q1, u, μ', rfl, j1, j6, q2⟩
        cases x with
        | normal => exact post _ rfl (by simp)
        | ret => exact post _ rfl (by simp)
        | exit id => cases h2

theorem callP_sound {H : Hints} (hm : P.follows .mixedOrders = true) (k : Nat) : CPOK P (callP P H k) := cp_of_cr (callF_sound hm k)
end
end Go.Vs
end
/- A law's arguments, as pure values; what a law's row asks behind the call. -/
section
set_option linter.unusedVariables false
set_option linter.unusedSimpArgs false
namespace Go.Vs
open Go Go.RowKit

/-- Fields lie one behind the other, from o on. -/
def tight (P : Program) : Nat → List Field → Bool
  | _, [] => true
  | o, f :: r => (f.offset == o) && tight P (o + P.cellsOf f.type) r
def spanOf (P : Program) : List Field → Nat
  | [] => 0
  | f :: r => P.cellsOf f.type + spanOf P r
/-- A list of plain types that is closed under its parts. -/
def closedB (P : Program) (L : List TypeId) : Bool :=
  L.all fun t => match P.underlying t with
    | some .bool | some (.int _) | some .string => P.cellsOf t == 1
    | some (.slice e) => L.contains e && P.cellsOf t == 1
    | some (.struct fs) => tight P 0 fs.toList && spanOf P fs.toList == P.cellsOf t && fs.toList.all fun f => L.contains f.type
    | _ => false

inductive All2 {α β : Type} (R : α → β → Prop) : List α → List β → Prop
  | nil : All2 R [] []
  | cons {a : α} {b : β} {x : List α} {y : List β} (h : R a b) (t : All2 R x y) : All2 R (a :: x) (b :: y)

/-- Cells that hold data of a plain type. -/
def Dt (P : Program) : Nat → TypeId → List PV → Prop
  | 0, _, _ => False
  | k + 1, t, pvs =>
    match P.underlying t with
    | some .bool => ∃ b, pvs = [.bool b]
    | some (.int kd) => ∃ n, (Lit.int kd n).wf = true ∧ pvs = [.int kd n]
    | some .string => ∃ s : ByteArray, s.size ≤ maxLen ∧ pvs = [.str s]
    | some (.slice e) => ∃ rows, pvs = [.sl rows false] ∧ rows.length ≤ maxLen ∧ ∀ r ∈ rows, Dt P k e r
    | some (.struct fs) => ∃ pss : List (List PV), pvs = pss.flatten ∧ All2 (fun (f : Field) ps => Dt P k f.type ps) fs.toList pss
    | _ => False

def NoAv : Nat → Prop := fun _ => False
/-- Cells of memory hold these values. -/
def Rel (w : World) (pvs : List PV) (cs : List Value) : Prop := pvs.length = cs.length ∧ (∀ (j : Nat) (pv : PV) (v : Value), pvs[j]? = some pv → cs[j]? = some v → FR w NoAv pv v)

theorem Rel.one {w : World} {pv : PV} {v : Value} (h : FR w NoAv pv v) : Rel w [pv] [v] := ⟨rfl, fun j p u hp hu => by
  cases j with
  | zero => simp at hp hu; subst hp; subst hu; exact h
  | succ j => simp at hp⟩
theorem Rel.nil {w : World} : Rel w [] [] := ⟨rfl, by simp⟩
theorem Rel.app {w : World} {a b : List PV} {x y : List Value} (h : Rel w a x) (k : Rel w b y) : Rel w (a ++ b) (x ++ y) := by
  refine ⟨by simp [h.1, k.1], fun j pv v hp hv => ?_⟩
  by_cases hj : j < a.length
  · rw [List.getElem?_append_left hj] at hp
    rw [List.getElem?_append_left (by rw [← h.1]; exact hj)] at hv
    exact h.2 j pv v hp hv
  · rw [List.getElem?_append_right (by omega)] at hp
    rw [List.getElem?_append_right (by rw [← h.1]; omega), ← h.1] at hv
    exact k.2 _ pv v hp hv

theorem mapM_at {α β : Type} {f : α → Option β} : ∀ {l : List α} {r : List β}, l.mapM f = some r → r.length = l.length ∧ ∀ (i : Nat) (a : α), l[i]? = some a → ∃ b, f a = some b ∧ r[i]? = some b
  | [], r, h => by simp at h; subst h; simp
  | a :: l, r, h => by
    rw [List.mapM_cons] at h
    cases hf : f a with
    | none => rw [hf] at h; cases h
    | some b =>
      rw [hf] at h
      cases hl : l.mapM f with
      | none => simp [hl] at h
      | some r' =>
        simp [hl] at h
        subst h
        obtain ⟨h1, h2⟩ := mapM_at hl
        refine ⟨by simp [h1], fun i x hi => ?_⟩
        cases i with
        | zero => simp at hi; subst hi; exact ⟨b, hf, rfl⟩
        | succ i => simp at hi; simpa using h2 i x hi

theorem fields_rel {P : Program} {w : World} {k : Nat} {cs : List Value} : ∀ (fs : List Field) (o : Nat), tight P o fs = true → o + spanOf P fs = cs.length →
    (∀ f ∈ fs, ∃ ps, Dt P k f.type ps ∧ Rel w ps ((cs.drop f.offset).take (P.cellsOf f.type))) → ∃ pss : List (List PV), All2 (fun (f : Field) ps => Dt P k f.type ps) fs pss ∧ Rel w pss.flatten (cs.drop o)
  | [], o, _, hl, _ => ⟨[], .nil, by
    simp only [spanOf] at hl
    rw [List.drop_of_length_le (by omega)]
    exact Rel.nil⟩
  | f :: r, o, ht, hl, h => by
    simp only [tight, Bool.and_eq_true, beq_iff_eq] at ht
    simp only [spanOf] at hl
    obtain ⟨ps, h1, h2⟩ := h f (by simp)
    obtain ⟨pss, h3, h4⟩ := fields_rel r (o + P.cellsOf f.type) ht.2 (by omega) fun g hg => h g (by simp [hg])
    refine ⟨ps :: pss, .cons h1 h3, ?_⟩
    have e : cs.drop o = (cs.drop f.offset).take (P.cellsOf f.type) ++ cs.drop (o + P.cellsOf f.type) := by
      rw [ht.1, ← List.drop_drop, List.take_append_drop]
    rw [e, List.flatten_cons]
    exact h2.app h4

theorem trod_rel {H : Type} {enc : TypeId × Value → H} {P : Program} {w : World} {base : Nat} {sp : Nat → Bool} {held : Bool} {L : List TypeId} (hL : closedB P L = true) : ∀ (fuel : Nat) {t : TypeId} {cs : List Value} {x : DataW H × List MemPlace}, t ∈ L →
    DataW.trod enc P w base sp held fuel t cs = some x → ∃ pvs, Dt P fuel t pvs ∧ Rel w pvs cs := by
  intro fuel
  induction fuel with
  | zero => intro t cs x _ h; cases h
  | succ k ih =>
    intro t cs x ht h
    have hc := (List.all_eq_true.1 hL) t ht
    unfold DataW.trod at h
    simp only [Dt]
    cases hu : P.underlying t with
    | none => rw [hu] at hc; cases hc
    | some d =>
      rw [hu] at hc h
      cases d <;> simp only [reduceCtorEq, Bool.false_eq_true] at hc
      case bool =>
        split at h <;> try (first | (cases h; done) | (rename_i hq; cases hq; done))
        rename_i hq
        cases hq
        cases h
        exact ⟨_, ⟨_, rfl⟩, .one (.bool _)⟩
      case int kd =>
        split at h <;> try (first | (cases h; done) | (rename_i hq; cases hq; done))
        rename_i hq
        cases hq
        split at h
        · rename_i hw
          obtain ⟨rfl, hw⟩ := hw
          exact ⟨_, ⟨_, hw, rfl⟩, .one (.int _ _)⟩
        · cases h
      case string =>
        split at h <;> try (first | (cases h; done) | (rename_i hq; cases hq; done))
        rename_i hq
        cases hq
        split at h
        · rename_i hw
          exact ⟨_, ⟨_, hw, rfl⟩, .one (.str _)⟩
        · cases h
      case slice e =>
        simp only [Bool.and_eq_true, List.contains_iff_mem, beq_iff_eq] at hc
        split at h <;> try (first | (cases h; done) | (rename_i hq; cases hq; done))
        · have key := FR.sl (w := w) (av := NoAv) [] false none 0 default 0 (fun _ _ => Go.undef) (Nat.le_refl _) (by simp) (fun _ => rfl) (fun h => absurd rfl h) (by simp) (by simp) (by simp)
          exact ⟨_, ⟨[], rfl, by simp, by simp⟩, .one key⟩
        · rename_i e0 a len cap hq
          cases hq
          split at h
          case isFalse => cases h
          rename_i hcap
          obtain ⟨elems, h2, _⟩ := bind_some h
          obtain ⟨h3, h4⟩ := mapM_at h2
          rw [List.length_range] at h3
          have each : ∀ i, i < len → ∃ ps, Dt P k e ps ∧ ps.length = P.cellsOf e ∧ ∀ j pv, ps[j]? = some pv → ∃ u, w.cell? (a.add (i * P.cellsOf e + j)) = some u ∧ FR w NoAv pv u := by
            intro i hi
            obtain ⟨b, hb, _⟩ := h4 i i (by simp [hi])
            obtain ⟨cs, hcs, hb⟩ := bind_some hb
            obtain ⟨ps, p1, p2⟩ := ih hc.1 hb
            unfold World.cells? at hcs
            split at hcs
            · obtain ⟨q1, q2⟩ := mapM_at hcs
              rw [List.length_range] at q1
              refine ⟨ps, p1, by rw [p2.1, q1], fun j pv hj => ?_⟩
              have hjl := (List.getElem?_eq_some_iff.1 hj).1
              rw [p2.1, q1] at hjl
              obtain ⟨u, hu1, hu2⟩ := q2 j j (by simp [hjl])
              rw [add_add] at hu1
              exact ⟨u, hu1, p2.2 j pv u hj hu2⟩
            · cases hcs
          -- the rows
          have pick : ∀ i : Nat, ∃ ps : List PV, i < len → Dt P k e ps ∧ ps.length = P.cellsOf e ∧ ∀ j pv, ps[j]? = some pv → ∃ u, w.cell? (a.add (i * P.cellsOf e + j)) = some u ∧ FR w NoAv pv u := fun i => by
            by_cases hi : i < len
            · obtain ⟨ps, hps⟩ := each i hi
              exact ⟨ps, fun _ => hps⟩
            · exact ⟨[], fun h => absurd h hi⟩
          obtain ⟨g, hg⟩ := Classical.axiomOfChoice pick
          have hrows : ∀ i row, ((List.range len).map g)[i]? = some row → i < len ∧ row = g i := fun i row hi => by
            rw [List.getElem?_map] at hi
            by_cases hlt : i < len
            · rw [List.getElem?_range hlt] at hi
              simp at hi
              exact ⟨hlt, hi.symm⟩
            · rw [List.getElem?_eq_none (by simpa using hlt)] at hi; cases hi
          have hlen : ((List.range len).map g).length = len := by simp
          refine ⟨_, ⟨(List.range len).map g, rfl, by rw [hlen]; omega, fun row hrow => ?_⟩, ?_⟩
          · obtain ⟨i, hi⟩ := List.getElem?_of_mem hrow
            obtain ⟨hlt, rfl⟩ := hrows i row hi
            exact (hg i hlt).1
          · have key := FR.sl (w := w) (av := NoAv) ((List.range len).map g) false (some a) cap a (P.cellsOf e) (fun i j => (w.cell? (a.add (i * P.cellsOf e + j))).getD Go.undef) (by rw [hlen]; exact hcap.2.1) (by simp) (by simp) (fun _ => rfl)
              (fun row hrow => by
                obtain ⟨i, hi⟩ := List.getElem?_of_mem hrow
                obtain ⟨hlt, rfl⟩ := hrows i row hi
                exact (hg i hlt).2.1)
              (fun i row j pv hi hj => by
                obtain ⟨hlt, rfl⟩ := hrows i row hi
                obtain ⟨u, u1, u2⟩ := (hg i hlt).2.2 j pv hj
                rw [u1]
                exact ⟨rfl, fun h => h⟩)
              (fun i row j pv hi hj => by
                obtain ⟨hlt, rfl⟩ := hrows i row hi
                obtain ⟨u, u1, u2⟩ := (hg i hlt).2.2 j pv hj
                simp only [u1, Option.getD_some]
                exact u2)
            rw [hlen] at key
            exact .one key
      case struct fs =>
        simp only [Bool.and_eq_true, List.all_eq_true, List.contains_iff_mem, beq_iff_eq] at hc
        replace h : (if cs.length = P.cellsOf t then (fs.toList.mapM fun f => DataW.trod enc P w base sp held k f.type ((cs.drop f.offset).take (P.cellsOf f.type))).map fun xs => (.agg (xs.map (·.1)), xs.flatMap (·.2)) else none) = some x := h
        split at h
        case isFalse => cases h
        rename_i hlen
        obtain ⟨xs, h2, _⟩ := map_some h
        obtain ⟨h3, h4⟩ := mapM_at h2
        obtain ⟨pss, q1, q2⟩ := fields_rel (P := P) (w := w) (k := k) (cs := cs) fs.toList 0 hc.1.1 (by rw [Nat.zero_add, hc.1.2, hlen]) (fun f hf => by
          obtain ⟨i, hi⟩ := List.getElem?_of_mem hf
          obtain ⟨b, hb, _⟩ := h4 i f hi
          exact ih (hc.2 f hf) hb)
        exact ⟨_, ⟨pss, rfl, q1⟩, by simpa using q2⟩

/-- An argument. -/
def Arg (P : Program) (k : Nat) (t : TypeId) (pv : PV) : Prop :=
  match P.underlying t with
  | some (.struct _) => ∃ cells, pv = .agg cells ∧ Dt P k t cells
  | _ => Dt P k t [pv]

theorem okWide_form {P : Program} {W : World} {base : Nat} {L : List TypeId} (hL : closedB P L = true) {t : TypeId} (ht : t ∈ L) {v : Value} (h : Value.okWide P W .any base t v) :
    (∃ fs cs, P.underlying t = some (.struct fs) ∧ v = .agg cs) ∨ ((∀ fs, P.underlying t ≠ some (.struct fs)) ∧ v.cells.toList = [v]) := by
  have hc := (List.all_eq_true.1 hL) t ht
  cases hu : P.underlying t with
  | none => rw [hu] at hc; cases hc
  | some d =>
    rw [hu] at hc
    cases d <;> simp only [reduceCtorEq, Bool.false_eq_true] at hc
    case bool => obtain ⟨b, rfl⟩ := Go.WideShapes.okWide_bool hu h; exact .inr ⟨by simp, rfl⟩
    case int kd => obtain ⟨b, rfl⟩ := Go.WideShapes.okWide_int hu h; exact .inr ⟨by simp, rfl⟩
    case string => obtain ⟨b, rfl⟩ := Go.WideShapes.okWide_string hu h; exact .inr ⟨by simp, rfl⟩
    case slice e => obtain ⟨a, len, cap, rfl⟩ := Go.WideShapes.okWide_slice hu h; exact .inr ⟨by simp, rfl⟩
    case struct fs => obtain ⟨cs, rfl, _⟩ := Go.WideShapes.okWide_struct hu h; exact .inl ⟨fs, cs, rfl, rfl⟩

theorem arg_of {H : Type} {enc : TypeId × Value → H} {P : Program} {W : World} {base base' : Nat} {sp : Nat → Bool} {held : Bool} {L : List TypeId} (hL : closedB P L = true) {t : TypeId} (ht : t ∈ L) {v : Value} {d : DataW H} {p : List MemPlace}
    (hok : Value.okWide P W .any base' t v) (h : DataW.Trod enc P W base sp held t v d p) : ∃ k pv, Arg P k t pv ∧ VR W NoAv noMu pv v := by
  obtain ⟨fuel, h⟩ := h
  obtain ⟨pvs, h1, h2⟩ := trod_rel hL fuel ht h
  rcases okWide_form hL ht hok with ⟨fs, cs, hu, rfl⟩ | ⟨hu, hv⟩
  · refine ⟨fuel, .agg pvs, by unfold Arg; rw [hu]; exact ⟨pvs, rfl, h1⟩, .agg _ _ (by rw [h2.1]; rfl) (fun j v hv => ?_) (fun j pv v hp hv => .fr (h2.2 j pv v hp (by rw [← hv]; exact Array.getElem?_toList)))⟩
    have hlt := (Array.getElem?_eq_some_iff.1 hv).1
    have hp : pvs[j]? = some (pvs[j]'(by rw [h2.1]; exact hlt)) := List.getElem?_eq_getElem _
    exact FR.flat _ _ (h2.2 j _ v hp (by rw [← hv]; exact Array.getElem?_toList))
  · rw [hv] at h2
    obtain ⟨pv, rfl⟩ : ∃ pv, pvs = [pv] := by
      have := h2.1
      cases pvs with
      | nil => simp at this
      | cons a l => cases l with
        | nil => exact ⟨a, rfl⟩
        | cons _ _ => simp at this
    refine ⟨fuel, pv, ?_, .fr (h2.2 0 pv v rfl rfl)⟩
    unfold Arg
    split
    · rename_i fs hq; exact absurd hq (hu fs)
    · exact h1

/-- All arguments. -/
def Args (P : Program) (ts : List TypeId) (pvs : List PV) : Prop := All2 (fun t pv => ∃ k, Arg P k t pv) ts pvs

theorem args_of {H : Type} {enc : TypeId × Value → H} {P : Program} {W : World} {base base' : Nat} {sp : Nat → Bool} {held : Bool} {L : List TypeId} (hL : closedB P L = true) : ∀ {ts : List TypeId} {vs : List Value} {ds : List (DataW H)} {p : List MemPlace}, (∀ t ∈ ts, t ∈ L) →
    (∀ (j : Nat) (t : TypeId) (v : Value), ts[j]? = some t → vs[j]? = some v → Value.okWide P W .any base' t v) → DataW.TrodAll enc P W base sp held ts vs ds p →
    ∃ pvs, Args P ts pvs ∧ pvs.length = vs.length ∧ ∀ (j : Nat) (pv : PV) (v : Value), pvs[j]? = some pv → vs[j]? = some v → VR W NoAv noMu pv v
  | [], [], [], _, _, _, _ => ⟨[], .nil, rfl, by simp⟩
  | t :: ts, v :: vs, d :: ds, _, hsub, hok, ⟨p, q, h1, h2, _⟩ => by
    obtain ⟨k, pv, a1, a2⟩ := arg_of hL (hsub t (by simp)) (hok 0 t v rfl rfl) h1
    obtain ⟨pvs, b1, b2, b3⟩ := args_of hL (fun t ht => hsub t (by simp [ht])) (fun j t v h1 h2 => hok (j + 1) t v h1 h2) h2
    refine ⟨pv :: pvs, .cons ⟨k, a1⟩ b1, by simp [b2], fun j pv' v' hp hv => ?_⟩
    cases j with
    | zero => simp at hp hv; subst hp; subst hv; exact a2
    | succ j => simp at hp hv; exact b3 j pv' v' hp hv
  | [], [], _ :: _, _, _, _, h => h.elim
  | [], _ :: _, _, _, _, _, h => h.elim
  | _ :: _, [], _, _, _, _, h => h.elim
  | _ :: _, _ :: _, [], _, _, _, h => h.elim

theorem Grown.below {w w' : World} (h : Vs.Grown w w') : Below w.heap.size w w' := ⟨h.os, h.tape, h.output, h.size, h.keep⟩

/-- Behind the call the arguments read as they did. -/
theorem args_back {H : Type} {enc : TypeId × Value → H} {P : Program} (hl : laidOutB P = true) {W W' : World} (hb : Below W.heap.size W W') : ∀ {ts : List TypeId} {vs : List Value} {ds : List (DataW H)} {p : List MemPlace}, (∀ t ∈ ts, P.readableRec t = true ∧ t < P.types.size) →
    DataW.TrodAll enc P W 0 (fun _ => true) true ts vs ds p → (∀ x ∈ p, x.block < W.heap.size) → DataW.TrodAll enc P W' 0 (fun b => decide (b < W.heap.size)) true ts vs ds p
  | [], [], [], _, _, h, _ => h
  | t :: ts, v :: vs, d :: ds, _, ht, ⟨p, q, h1, h2, rfl⟩, hlt =>
    ⟨p, q, Below.trod hl (ht t (by simp)).1 (ht t (by simp)).2 h1 hb (fun x hx => hlt x (by simp [hx])), args_back hl hb (fun t h => ht t (by simp [h])) h2 (fun x hx => hlt x (by simp [hx])), rfl⟩
  | [], [], _ :: _, _, _, h, _ => h.elim
  | [], _ :: _, _, _, _, h, _ => h.elim
  | _ :: _, [], _, _, _, h, _ => h.elim
  | _ :: _, _ :: _, [], _, _, h, _ => h.elim

theorem law_calls {P : Program} {Hn : Hints} (hm : P.follows .mixedOrders = true) {f : FuncId} {ts : List TypeId} (law : ∀ pvs, Args P ts pvs → ∃ n, callP P Hn n f pvs = some (.bool true)) {L : List TypeId} (hL : closedB P L = true) (hsub : ∀ t ∈ ts, t ∈ L)
    {H : Type} {enc : TypeId × Value → H} {W : World} {base base' : Nat} {sp : Nat → Bool} {held : Bool} {args : Array Value} {ds : List (DataW H)} {p : List MemPlace}
    (hok : ∀ (j : Nat) (t : TypeId) (v : Value), ts[j]? = some t → args[j]? = some v → Value.okWide P W .any base' t v) (h : DataW.TrodAll enc P W base sp held ts args.toList ds p) :
    Calls P f args W fun e W' => e = .returned (.bool true) ∧ Below W.heap.size W W' := by
  obtain ⟨pvs, a1, a2, a3⟩ := args_of hL hsub (fun j t v h1 h2 => hok j t v h1 (by rw [← Array.getElem?_toList]; exact h2)) h
  obtain ⟨n, hn⟩ := law pvs a1
  obtain ⟨fn, c, e1, e2, e3, e4⟩ := callP_sound hm n f pvs _ hn
  refine (e4 W NoAv args (fun b h => h.elim) (by rw [a2]; exact Array.length_toList) (fun j pv v hp hv => a3 j pv v hp (by rw [Array.getElem?_toList]; exact hv))).mono ?_
  rintro e w' ⟨v, rfl, hg, hv⟩
  exact ⟨by rw [hv.bool_inv], Grown.below hg⟩
theorem trodAll_lt {H : Type} {enc : TypeId × Value → H} {P : Program} {W : World} {base : Nat} {sp : Nat → Bool} {held : Bool} : ∀ {ts : List TypeId} {vs : List Value} {ds : List (DataW H)} {p : List MemPlace},
    DataW.TrodAll enc P W base sp held ts vs ds p → ∀ x ∈ p, x.block < W.heap.size
  | [], [], [], _, h => by
    obtain ⟨_, _, rfl⟩ := Go.ChangeShapes.trodAll_nil h
    simp
  | t :: ts, v :: vs, d :: ds, _, ⟨p, q, h1, h2, rfl⟩ => fun x hx => by
    rcases List.mem_append.1 hx with hx | hx
    · obtain ⟨m, hm⟩ := h1
      exact DataW.trod_lt m _ _ _ hm x hx
    · exact trodAll_lt h2 x hx
  | [], [], _ :: _, _, h => h.elim
  | [], _ :: _, _, _, h => h.elim
  | _ :: _, [], _, _, h => h.elim
  | _ :: _, _ :: _, [], _, h => h.elim
theorem params_at {q : Array TypeId} {l : List TypeId} (e : q = l.toArray) {j : Nat} {t : TypeId} (h : l[j]? = some t) : q[j]? = some t := by
  subst e
  rw [← Array.getElem?_toList]
  exact h
theorem ok_at {q : Array TypeId} {l : List TypeId} (e : q = l.toArray) {args : Array Value} {Q : TypeId → Value → Prop} (h : ∀ (j : Nat) t v, q[j]? = some t → args[j]? = some v → Q t v) : ∀ (j : Nat) (t : TypeId) (v : Value), l[j]? = some t → args[j]? = some v → Q t v := fun j t v h1 h2 => h j t v (params_at e h1) h2
attribute [irreducible] Dt Arg
end Go.Vs
end
/- The ranks of a game, round by round: plain laws. -/
section
set_option linter.unusedVariables false
set_option linter.unusedSimpArgs false
namespace Go.Vs.Rk
/-- A game's positions: who moves, where to, and goals. -/
structure G where
  n : Nat
  owner : Nat → Int
  moves : Nat → List Int
  goal : Nat → Bool
structure G.ok (g : G) : Prop where
  own : ∀ i, i < g.n → g.owner i = 0 ∨ g.owner i = 1
  mv : ∀ i, i < g.n → ∀ m ∈ g.moves i, 0 ≤ m ∧ m < g.n
  inc : ∀ i, i < g.n → (g.moves i).Pairwise (· < ·)
/-- A rank in a list: -1 means none. -/
def rk (R : List Int) (m : Int) : Int := R.getD m.toNat (-1)
def initR (g : G) : List Int := (List.range g.n).map fun i => if g.goal i = true then 0 else -1
def someB (R : List Int) (l : List Int) : Bool := l.any fun m => decide (0 ≤ rk R m)
def everyB (R : List Int) (l : List Int) : Bool := l.all fun m => decide (0 ≤ rk R m)
def hit (g : G) (R : List Int) (i : Nat) : Bool := (decide (g.owner i = 0) && someB R (g.moves i)) || (decide (g.owner i = 1) && everyB R (g.moves i))
/-- One round: those that have rank k. -/
def round (g : G) (k : Int) (R : List Int) : List Int := R.mapIdx fun i r => if 0 ≤ r then r else if hit g R i = true then k else r
/-- So many rounds from round 1 on. -/
def lvl (g : G) : Nat → List Int
  | 0 => initR g
  | r + 1 => round g (r + 1) (lvl g r)
theorem lvl_length (g : G) : ∀ r, (lvl g r).length = g.n
  | 0 => by simp [lvl, initR]
  | r + 1 => by simp [lvl, round, lvl_length g r]
theorem rk_init (g : G) (i : Nat) (h : i < g.n) : rk (initR g) i = if g.goal i = true then 0 else -1 := by
  simp [rk, initR, List.getD_eq_getElem?_getD, h]
theorem rk_round (g : G) (k : Int) (R : List Int) (i : Nat) (h : i < R.length) : rk (round g k R) i = if 0 ≤ rk R i then rk R i else if hit g R i = true then k else rk R i := by
  simp [rk, round, List.getD_eq_getElem?_getD, h]
/-- A rank is -1 or at most the round. -/
theorem rk_range (g : G) : ∀ (r i : Nat), i < g.n → rk (lvl g r) i = -1 ∨ (0 ≤ rk (lvl g r) i ∧ rk (lvl g r) i ≤ r)
  | 0, i, h => by
    rw [lvl, rk_init g i h]
    split
    · exact .inr ⟨by omega, by omega⟩
    · exact .inl rfl
  | r + 1, i, h => by
    have ih := rk_range g r i h
    rw [lvl, rk_round g _ _ _ (by rw [lvl_length]; exact h)]
    split
    · omega
    · split
      · right; omega
      · omega
/-- Ranks stay. -/
theorem rk_stay (g : G) {r i : Nat} (h : i < g.n) (hr : 0 ≤ rk (lvl g r) i) : ∀ d, rk (lvl g (r + d)) i = rk (lvl g r) i
  | 0 => rfl
  | d + 1 => by
    have ih := rk_stay g h hr d
    rw [← Nat.add_assoc, lvl, rk_round g _ _ _ (by rw [lvl_length]; exact h), ih, if_pos hr]
theorem rk_low (g : G) : ∀ (r i : Nat), i < g.n → ∀ s : Nat, 0 ≤ rk (lvl g r) i → rk (lvl g r) i ≤ s → rk (lvl g s) i = rk (lvl g r) i
  | 0, i, h, s, h1, h2 => by
    have := rk_stay g h h1 s
    rwa [Nat.zero_add] at this
  | r + 1, i, h, s, h1, h2 => by
    by_cases hr : 0 ≤ rk (lvl g r) i
    · have e := rk_stay g h hr 1
      rw [e] at h1 h2 ⊢
      exact rk_low g r i h s h1 h2
    · have e : rk (lvl g (r + 1)) i = (r : Int) + 1 := by
        have e2 := rk_round g ((r : Int) + 1) (lvl g r) i (by rw [lvl_length]; exact h)
        rw [if_neg hr] at e2
        rw [lvl] at h1 ⊢
        rw [e2] at h1 ⊢
        split
        · rfl
        · rename_i hh; rw [if_neg hh] at h1; exact absurd h1 hr
      rw [e] at h2
      obtain ⟨d, rfl⟩ : ∃ d, s = r + 1 + d := ⟨s - (r + 1), by omega⟩
      exact rk_stay g h h1 d
/-- Of an unranked position: all ranked moves of player 0 have rank r; of player 1 not all moves are of lower rank, if there are moves or r is not 0. -/
theorem unranked0 (g : G) (hg : g.ok) {r i : Nat} (h : i < g.n) (hu : rk (lvl g r) i < 0) (ho : g.owner i = 0) : ∀ m ∈ g.moves i, 0 ≤ rk (lvl g r) m → rk (lvl g r) m = r := by
  intro m hm h0
  have hmn := hg.mv i h m hm
  obtain ⟨j, rfl⟩ : ∃ j : Nat, m = j := ⟨m.toNat, by omega⟩
  have hj : j < g.n := by omega
  have hr := rk_range g r j hj
  by_cases hlt : rk (lvl g r) j = r
  · exact hlt
  exfalso
  obtain ⟨s, hs⟩ : ∃ s : Nat, rk (lvl g r) j = s := ⟨(rk (lvl g r) j).toNat, by omega⟩
  have hsr : s < r := by omega
  have e := rk_low g r j hj s h0 (by omega)
  -- at round s + 1 the position is hit
  have hhit : hit g (lvl g s) i = true := by
    simp only [hit, ho, decide_true, Bool.true_and, Bool.or_eq_true]
    left
    simp only [someB, List.any_eq_true, decide_eq_true_eq]
    exact ⟨j, hm, by rw [e]; exact h0⟩
  have e2 := rk_round g ((s : Int) + 1) (lvl g s) i (by rw [lvl_length]; exact h)
  have h1 : 0 ≤ rk (lvl g (s + 1)) i := by
    rw [lvl, e2]
    split
    · assumption
    · first | omega | (rw [if_pos hhit]; omega)
  obtain ⟨d, rfl⟩ : ∃ d, r = s + 1 + d := ⟨r - (s + 1), by omega⟩
  rw [rk_stay g h h1 d] at hu
  omega
theorem unranked1 (g : G) (hg : g.ok) {r i : Nat} (h : i < g.n) (hu : rk (lvl g r) i < 0) (ho : g.owner i = 1) (hr : r ≠ 0) : ∃ m ∈ g.moves i, rk (lvl g r) m < 0 ∨ rk (lvl g r) m = r := by
  obtain ⟨s, rfl⟩ : ∃ s, r = s + 1 := ⟨r - 1, by omega⟩
  have e2 := rk_round g ((s : Int) + 1) (lvl g s) i (by rw [lvl_length]; exact h)
  rw [lvl, e2] at hu
  by_cases hh : hit g (lvl g s) i = true
  · exfalso
    split at hu
    · omega
    · first | omega | (rw [if_pos hh] at hu; omega)
  · have hn : everyB (lvl g s) (g.moves i) = false := by
      simp only [hit, ho, decide_true, Bool.true_and, Bool.or_eq_true, not_or, Bool.not_eq_true] at hh
      exact hh.2
    simp only [everyB, List.all_eq_false, decide_eq_true_eq] at hn
    obtain ⟨m, hm, hlt⟩ := hn
    refine ⟨m, hm, ?_⟩
    have hmn := hg.mv i h m hm
    obtain ⟨j, rfl⟩ : ∃ j : Nat, m = j := ⟨m.toNat, by omega⟩
    have e3 := rk_round g ((s : Int) + 1) (lvl g s) j (by rw [lvl_length]; omega)
    rw [lvl, e3, if_neg hlt]
    split
    · right; omega
    · left; omega
/-- Where no position has rank r, a round more gives nothing. -/
theorem stable_step (g : G) (hg : g.ok) {r : Nat} (hr : r ≠ 0) (hno : ∀ i, i < g.n → rk (lvl g r) i ≠ r) : lvl g (r + 1) = lvl g r := by
  apply List.ext_getElem (by rw [lvl_length, lvl_length])
  intro i h1 h2
  rw [lvl_length] at h1
  have e : rk (lvl g (r + 1)) i = rk (lvl g r) i := by
    rw [lvl, rk_round g _ _ _ (by rw [lvl_length]; exact h1)]
    split
    · rfl
    · rename_i hu
      split
      · rename_i hh
        exfalso
        simp only [hit, Bool.or_eq_true, Bool.and_eq_true, decide_eq_true_eq] at hh
        rcases hh with ⟨ho, hs⟩ | ⟨ho, hs⟩
        · simp only [someB, List.any_eq_true, decide_eq_true_eq] at hs
          obtain ⟨m, hm, h0⟩ := hs
          have := unranked0 g hg h1 (by omega) ho m hm h0
          have hmn := hg.mv i h1 m hm
          exact hno m.toNat (by omega) (by rw [show ((m.toNat : Nat) : Int) = m by omega]; exact this)
        · obtain ⟨m, hm, h0⟩ := unranked1 g hg h1 (by omega) ho hr
          simp only [everyB, List.all_eq_true, decide_eq_true_eq] at hs
          have hmn := hg.mv i h1 m hm
          rcases h0 with h0 | h0
          · have := hs m hm; omega
          · exact hno m.toNat (by omega) (by rw [show ((m.toNat : Nat) : Int) = m by omega]; exact h0)
      · rfl
  simpa [rk, List.getD_eq_getElem?_getD, lvl_length, h1] using e
theorem stable (g : G) (hg : g.ok) {r : Nat} (hr : r ≠ 0) (hno : ∀ i, i < g.n → rk (lvl g r) i ≠ r) : ∀ d, lvl g (r + d) = lvl g r
  | 0 => rfl
  | d + 1 => by
    have ih := stable g hg hr hno d
    rw [← Nat.add_assoc]
    have := stable_step g hg (r := r + d) (by omega) (fun i hi h => by
      rw [ih] at h
      have := rk_range g r i hi
      rcases this with h2 | h2
      · omega
      · have hd : d = 0 := by omega
        subst hd
        exact hno i hi h)
    rw [this, ih]
end Go.Vs.Rk
end
/- The ranks of a game, found from the goals backwards, are those found round by round: plain laws. -/
section
set_option linter.unusedVariables false
set_option linter.unusedSimpArgs false
namespace Go.Vs.Rk
/-- The positions with a move to q. -/
def predL (g : G) (q : Int) : List Int := ((List.range g.n).filter fun i => decide (q ∈ g.moves i)).map fun i : Nat => (i : Int)
/-- A position of the game. -/
def Pos (g : G) (x : Int) : Prop := ∃ j : Nat, j < g.n ∧ x = j
/-- A position whose count of open moves decreases. -/
def ev (g : G) (R : List Int) (s : List Int × List Int) (i : Int) : List Int × List Int :=
  if 0 ≤ rk R i then s else (s.1.set i.toNat (s.1.getD i.toNat 0 - 1), if g.owner i.toNat = 0 ∨ s.1.getD i.toNat 0 - 1 = 0 then s.2 ++ [i] else s.2)
theorem ev_len (g : G) (R : List Int) (s : List Int × List Int) (i : Int) : (ev g R s i).1.length = s.1.length := by unfold ev; split <;> simp
theorem evs_len (g : G) (R : List Int) : ∀ (E : List Int) (s : List Int × List Int), (E.foldl (ev g R) s).1.length = s.1.length
  | [], s => rfl
  | e :: E, s => by rw [List.foldl_cons, evs_len g R E, ev_len]
theorem getD_set {l : List Int} {i j : Nat} {v : Int} (h : j < l.length) : (l.set i v).getD j 0 = if i = j then v else l.getD j 0 := by
  simp only [List.getD_eq_getElem?_getD, List.getElem?_set]
  split
  · rename_i e; subst e; simp [h]
  · rfl
theorem evs_open (g : G) (R : List Int) : ∀ (E : List Int), (∀ x ∈ E, Pos g x) → ∀ (s : List Int × List Int), s.1.length = g.n → ∀ j : Nat, j < g.n →
    (E.foldl (ev g R) s).1.getD j 0 = s.1.getD j 0 - (if 0 ≤ rk R j then 0 else (E.count (j : Int) : Int))
  | [], _, s, hs, j, hj => by simp
  | e :: E, hE, s, hs, j, hj => by
    obtain ⟨i, hi, rfl⟩ := hE e (by simp)
    rw [List.foldl_cons, evs_open g R E (fun x hx => hE x (by simp [hx])) _ (by rw [ev_len]; exact hs) j hj]
    have e1 : (ev g R s (i : Int)).1.getD j 0 = if 0 ≤ rk R i then s.1.getD j 0 else if i = j then s.1.getD j 0 - 1 else s.1.getD j 0 := by
      unfold ev
      split
      · rfl
      · simp only [Int.toNat_natCast]
        rw [getD_set (by omega)]
        split
        · rename_i e; rw [e]
        · rfl
    rw [e1]
    by_cases hij : i = j
    · subst hij
      rw [List.count_cons_self]
      split <;> simp_all <;> omega
    · have : ¬ ((i : Int) = (j : Int)) := by omega
      rw [List.count_cons_of_ne this]
      split <;> simp_all
theorem evs_next (g : G) (R : List Int) : ∀ (E : List Int), (∀ x ∈ E, Pos g x) → ∀ (s : List Int × List Int), s.1.length = g.n → (∀ j : Nat, j < g.n → rk R j < 0 → (E.count (j : Int) : Int) ≤ s.1.getD j 0) → ∀ j : Nat, j < g.n →
    ((j : Int) ∈ (E.foldl (ev g R) s).2 ↔ (j : Int) ∈ s.2 ∨ (rk R j < 0 ∧ (j : Int) ∈ E ∧ (g.owner j = 0 ∨ s.1.getD j 0 = (E.count (j : Int) : Int))))
  | [], _, s, hs, hO, j, hj => by simp
  | e :: E, hE, s, hs, hO, j, hj => by
    obtain ⟨i, hi, rfl⟩ := hE e (by simp)
    have hE' := fun x (hx : x ∈ E) => hE x (by simp [hx])
    rw [List.foldl_cons]
    by_cases hri : 0 ≤ rk R i
    · have e1 : ev g R s (i : Int) = s := by unfold ev; rw [if_pos hri]
      have hO' : ∀ j : Nat, j < g.n → rk R j < 0 → (E.count (j : Int) : Int) ≤ s.1.getD j 0 := fun j hj hr => by
        have := hO j hj hr
        by_cases hij : i = j
        · subst hij; omega
        · rwa [List.count_cons_of_ne (by omega)] at this
      rw [e1, evs_next g R E hE' s hs hO' j hj]
      by_cases hij : i = j
      · subst hij
        constructor
        · rintro (h | ⟨h, _⟩)
          · exact .inl h
          · omega
        · rintro (h | ⟨h, _⟩)
          · exact .inl h
          · omega
      · have hne : ¬ (i : Int) = (j : Int) := by omega
        rw [List.count_cons_of_ne hne, List.mem_cons]
        have : ¬ (j : Int) = (i : Int) := by omega
        simp only [this, false_or]
    · have e1 : ev g R s (i : Int) = (s.1.set i (s.1.getD i 0 - 1), if g.owner i = 0 ∨ s.1.getD i 0 - 1 = 0 then s.2 ++ [(i : Int)] else s.2) := by
        unfold ev; rw [if_neg hri]; simp only [Int.toNat_natCast]
      have hO' : ∀ j : Nat, j < g.n → rk R j < 0 → (E.count (j : Int) : Int) ≤ (ev g R s (i : Int)).1.getD j 0 := fun j hj hr => by
        have := hO j hj hr
        rw [e1]
        simp only
        rw [getD_set (by omega)]
        by_cases hij : i = j
        · subst hij
          rw [List.count_cons_self] at this
          rw [if_pos rfl]; omega
        · rw [List.count_cons_of_ne (by omega)] at this
          rwa [if_neg hij]
      rw [evs_next g R E hE' _ (by rw [ev_len]; exact hs) hO' j hj, e1]
      simp only
      rw [getD_set (by omega)]
      by_cases hij : i = j
      · subst hij
        have hc := hO i hi (by omega)
        rw [List.count_cons_self] at hc ⊢
        rw [if_pos rfl]
        by_cases hpush : g.owner i = 0 ∨ s.1.getD i 0 - 1 = 0
        · rw [if_pos hpush]
          simp only [List.mem_append, List.mem_singleton, or_true, true_or, List.mem_cons, true_and, true_iff]
          right
          refine ⟨by omega, ?_⟩
          rcases hpush with h | h
          · exact .inl h
          · right; omega
        · rw [if_neg hpush]
          simp only [List.mem_cons, true_or, true_and]
          constructor
          · rintro (h | ⟨h1, h2, h3⟩)
            · exact .inl h
            · refine .inr ⟨h1, ?_⟩
              rcases h3 with h3 | h3
              · exact .inl h3
              · right; omega
          · rintro (h | ⟨h1, h3⟩)
            · exact .inl h
            · rcases h3 with h3 | h3
              · exact absurd (.inl h3) hpush
              · have hmem : (i : Int) ∈ E := by
                  rw [← List.count_pos_iff]
                  by_cases h0 : 0 < E.count (i : Int)
                  · exact h0
                  · exfalso; exact hpush (.inr (by omega))
                exact .inr ⟨h1, hmem, .inr (by omega)⟩
      · have hne : ¬ (i : Int) = (j : Int) := by omega
        have hne2 : ¬ (j : Int) = (i : Int) := by omega
        rw [if_neg hij, List.count_cons_of_ne hne, List.mem_cons]
        simp only [hne2, false_or]
        split
        · simp only [List.mem_append, List.mem_singleton, hne2, or_false]
        · exact Iff.rfl
/-- A position gets rank k. -/
def lev (k : Int) (s : List Int × List Int) (i : Int) : List Int × List Int := if rk s.1 i < 0 then (s.1.set i.toNat k, s.2 ++ [i]) else s
theorem rk_set {R : List Int} {i j : Nat} {k : Int} (h : j < R.length) : rk (R.set i k) j = if i = j then k else rk R j := by
  simp only [rk, Int.toNat_natCast, List.getD_eq_getElem?_getD, List.getElem?_set]
  split
  · rename_i e; subst e; simp [h]
  · rfl
theorem levs (n : Nat) (k : Int) (hk : 0 ≤ k) : ∀ (l : List Int), (∀ x ∈ l, ∃ j : Nat, j < n ∧ x = j) → ∀ (R Q : List Int), R.length = n →
    ∃ Qn, (l.foldl (lev k) (R, Q)).2 = Q ++ Qn ∧ Qn.Nodup ∧ (l.foldl (lev k) (R, Q)).1.length = n ∧ (∀ x, x ∈ Qn ↔ x ∈ l ∧ rk R x < 0) ∧ (∀ j : Nat, j < n → rk (l.foldl (lev k) (R, Q)).1 j = if rk R j < 0 ∧ (j : Int) ∈ l then k else rk R j)
  | [], _, R, Q, hR => ⟨[], by simp, List.nodup_nil, hR, by simp, by simp⟩
  | e :: l, hl, R, Q, hR => by
    obtain ⟨i, hi, rfl⟩ := hl e (by simp)
    have hl' := fun x (hx : x ∈ l) => hl x (by simp [hx])
    rw [List.foldl_cons]
    by_cases hr : rk R i < 0
    · have e1 : lev k (R, Q) (i : Int) = (R.set i k, Q ++ [(i : Int)]) := by unfold lev; rw [if_pos hr]; simp only [Int.toNat_natCast]
      rw [e1]
      obtain ⟨Qn, a1, a2, a3, a4, a5⟩ := levs n k hk l hl' (R.set i k) (Q ++ [(i : Int)]) (by simpa using hR)
      have hrs : ∀ x ∈ l, rk (R.set i k) x = if x = (i : Int) then k else rk R x := fun x hx => by
        obtain ⟨j, hj, rfl⟩ := hl' x hx
        rw [rk_set (by omega)]
        by_cases h : i = j
        · subst h; simp
        · rw [if_neg h, if_neg (by omega)]
      refine ⟨(i : Int) :: Qn, by rw [a1]; simp, ?_, a3, fun x => ?_, fun j hj => ?_⟩
      · refine List.nodup_cons.2 ⟨fun hx => ?_, a2⟩
        have := (a4 _).1 hx
        rw [hrs _ this.1, if_pos rfl] at this
        omega
      · rw [List.mem_cons, List.mem_cons, a4]
        constructor
        · rintro (h | ⟨h1, h2⟩)
          · subst h; exact ⟨.inl rfl, hr⟩
          · rw [hrs x h1] at h2
            split at h2
            · omega
            · exact ⟨.inr h1, h2⟩
        · rintro ⟨h1, h2⟩
          rcases h1 with h1 | h1
          · exact .inl h1
          · by_cases hx : x = (i : Int)
            · exact .inl hx
            · refine .inr ⟨h1, ?_⟩
              rw [hrs x h1, if_neg hx]; exact h2
      · rw [a5 j hj, rk_set (by omega)]
        by_cases h : i = j
        · subst h
          simp only [if_true, List.mem_cons, true_or, and_true]
          rw [if_pos hr, if_neg (by omega)]
        · have hne : ¬ (j : Int) = (i : Int) := by omega
          simp only [if_neg h, List.mem_cons, hne, false_or]
    · have e1 : lev k (R, Q) (i : Int) = (R, Q) := by unfold lev; rw [if_neg hr]
      rw [e1]
      obtain ⟨Qn, a1, a2, a3, a4, a5⟩ := levs n k hk l hl' R Q hR
      refine ⟨Qn, a1, a2, a3, fun x => ?_, fun j hj => ?_⟩
      · rw [a4, List.mem_cons]
        constructor
        · rintro ⟨h1, h2⟩; exact ⟨.inr h1, h2⟩
        · rintro ⟨h1, h2⟩
          rcases h1 with h1 | h1
          · subst h1; exact absurd h2 hr
          · exact ⟨h1, h2⟩
      · rw [a5 j hj]
        by_cases h : i = j
        · subst h
          simp only [hr, false_and, if_false]
        · have hne : ¬ (j : Int) = (i : Int) := by omega
          simp only [List.mem_cons, hne, false_or]
theorem nodup_moves {g : G} (hg : g.ok) {j : Nat} (hj : j < g.n) : (g.moves j).Nodup := (hg.inc j hj).imp fun h => by omega
theorem mem_predL (g : G) (q x : Int) : x ∈ predL g q ↔ ∃ j : Nat, j < g.n ∧ x = j ∧ q ∈ g.moves j := by
  simp only [predL, List.mem_map, List.mem_filter, List.mem_range, decide_eq_true_eq]
  constructor
  · rintro ⟨j, ⟨h1, h2⟩, rfl⟩; exact ⟨j, h1, rfl, h2⟩
  · rintro ⟨j, h1, rfl, h2⟩; exact ⟨j, ⟨h1, h2⟩, rfl⟩
theorem count_predL (g : G) (q : Int) {j : Nat} (hj : j < g.n) : (predL g q).count (j : Int) = if q ∈ g.moves j then 1 else 0 := by
  have hn : (predL g q).Nodup := by
    unfold predL
    refine List.Pairwise.map _ (fun a b h => ?_) (List.Pairwise.filter _ List.nodup_range)
    intro e
    exact h (by omega)
  split
  · rename_i h
    rw [hn.count, if_pos ((mem_predL g q _).2 ⟨j, hj, rfl, h⟩)]
  · rename_i h
    rw [List.count_eq_zero]
    intro hm
    obtain ⟨i, _, e, hi⟩ := (mem_predL g q _).1 hm
    have : i = j := by omega
    subst this
    exact h hi
theorem count_flat (g : G) {j : Nat} (hj : j < g.n) : ∀ Q : List Int, (Q.flatMap (predL g)).count (j : Int) = Q.countP fun q => decide (q ∈ g.moves j)
  | [] => rfl
  | q :: Q => by
    rw [List.flatMap_cons, List.count_append, count_predL g q hj, count_flat g hj Q, List.countP_cons]
    by_cases h : q ∈ g.moves j
    · simp [h]; omega
    · simp [h]
/-- What is known at level r. -/
structure St (g : G) (r : Nat) (O Q : List Int) : Prop where
  olen : O.length = g.n
  nodup : Q.Nodup
  mem : ∀ x, x ∈ Q ↔ ∃ j : Nat, j < g.n ∧ x = j ∧ rk (lvl g r) j = r
  opn : ∀ j : Nat, j < g.n → rk (lvl g r) j < 0 → O.getD j 0 = (((g.moves j).countP fun m => !(decide (0 ≤ rk (lvl g r) m) && decide (rk (lvl g r) m < r)) : Nat) : Int)
theorem count_level {g : G} (hg : g.ok) {r : Nat} {O Q : List Int} (h : St g r O Q) {j : Nat} (hj : j < g.n) : Q.countP (fun q => decide (q ∈ g.moves j)) = (g.moves j).countP fun m => decide (rk (lvl g r) m = r) := by
  rw [List.countP_eq_length_filter, List.countP_eq_length_filter]
  refine List.Perm.length_eq ((List.perm_ext_iff_of_nodup (h.nodup.filter _) ((nodup_moves hg hj).filter _)).2 fun x => ?_)
  simp only [List.mem_filter, decide_eq_true_eq]
  constructor
  · rintro ⟨h1, h2⟩
    obtain ⟨i, _, rfl, h3⟩ := (h.mem x).1 h1
    exact ⟨h2, h3⟩
  · rintro ⟨h1, h2⟩
    have := hg.mv j hj x h1
    exact ⟨(h.mem x).2 ⟨x.toNat, by omega, by omega, by rw [show ((x.toNat : Nat) : Int) = x by omega]; exact h2⟩, h1⟩
theorem count_split {g : G} (hg : g.ok) (r : Nat) {j : Nat} (hj : j < g.n) : ∀ l : List Int, (∀ m ∈ l, 0 ≤ m ∧ m < g.n) → (l.countP fun m => !(decide (0 ≤ rk (lvl g r) m) && decide (rk (lvl g r) m < r))) = (l.countP fun m => decide (rk (lvl g r) m = r)) + l.countP fun m => decide (rk (lvl g r) m < 0)
  | [], _ => rfl
  | m :: l, hl => by
    rw [List.countP_cons, List.countP_cons, List.countP_cons, count_split hg r hj l fun x hx => hl x (by simp [hx])]
    have hm := hl m (by simp)
    have hr := rk_range g r m.toNat (by omega)
    rw [show ((m.toNat : Nat) : Int) = m by omega] at hr
    by_cases h0 : rk (lvl g r) m < 0
    · have h1 : ¬ 0 ≤ rk (lvl g r) m := by omega
      have h2 : ¬ rk (lvl g r) m = r := by omega
      simp [h0, h1, h2]; omega
    · have h1 : 0 ≤ rk (lvl g r) m := by omega
      by_cases h2 : rk (lvl g r) m = r
      · have h3 : ¬ rk (lvl g r) m < (r : Int) := by omega
        have h4 : ¬ ((r : Int) < 0) := by omega
        simp [h0, h1, h2, h3, h4]; omega
      · have h3 : rk (lvl g r) m < (r : Int) := by omega
        simp [h0, h1, h2, h3]
theorem step {g : G} (hg : g.ok) {r : Nat} {O Q one : List Int} (hone : ∀ x, x ∈ one ↔ ∃ j : Nat, j < g.n ∧ x = j ∧ g.goal j = false ∧ g.owner j = 1 ∧ g.moves j = []) (h : St g r O Q) (QA : List Int) :
    ∃ Qn, (((if r = 0 then ((Q.flatMap (predL g)).foldl (ev g (lvl g r)) (O, [])).2 ++ one else ((Q.flatMap (predL g)).foldl (ev g (lvl g r)) (O, [])).2).foldl (lev ((r : Int) + 1)) (lvl g r, QA))) = (lvl g (r + 1), QA ++ Qn) ∧ St g (r + 1) ((Q.flatMap (predL g)).foldl (ev g (lvl g r)) (O, [])).1 Qn := by
  have hE : ∀ x ∈ Q.flatMap (predL g), Pos g x := fun x hx => by
    obtain ⟨q, _, hq⟩ := List.mem_flatMap.1 hx
    obtain ⟨j, hj, e, _⟩ := (mem_predL g q x).1 hq
    exact ⟨j, hj, e⟩
  have hcount : ∀ j : Nat, j < g.n → (Q.flatMap (predL g)).count (j : Int) = (g.moves j).countP fun m => decide (rk (lvl g r) m = r) := fun j hj => by rw [count_flat g hj, count_level hg h hj]
  have hmv := fun j hj => hg.mv j hj
  have hopen : ∀ j : Nat, j < g.n → rk (lvl g r) j < 0 → O.getD j 0 = (((g.moves j).countP fun m => decide (rk (lvl g r) m = r) : Nat) : Int) + ((g.moves j).countP fun m => decide (rk (lvl g r) m < 0) : Nat) := fun j hj hu => by
    rw [h.opn j hj hu, count_split hg r hj _ (hmv j hj)]; omega
  have hle : ∀ j : Nat, j < g.n → rk (lvl g r) j < 0 → ((Q.flatMap (predL g)).count (j : Int) : Int) ≤ (O, ([] : List Int)).1.getD j 0 := fun j hj hu => by
    simp only
    rw [hopen j hj hu, hcount j hj]; omega
  have hnext := fun j hj => evs_next g (lvl g r) (Q.flatMap (predL g)) hE (O, []) h.olen hle j hj
  have hop := fun j hj => evs_open g (lvl g r) (Q.flatMap (predL g)) hE (O, []) h.olen j hj
  have hol := evs_len g (lvl g r) (Q.flatMap (predL g)) (O, [])
  -- the list of those that come next
  have hposn : ∀ (E : List Int), (∀ x ∈ E, Pos g x) → ∀ s : List Int × List Int, (∀ x ∈ s.2, Pos g x) → ∀ x ∈ (E.foldl (ev g (lvl g r)) s).2, Pos g x := by
    intro E
    induction E with
    | nil => intro _ s hs; exact hs
    | cons e E ih =>
      intro hE s hs
      rw [List.foldl_cons]
      refine ih (fun x hx => hE x (by simp [hx])) _ fun x hx => ?_
      unfold ev at hx
      split at hx
      · exact hs x hx
      · simp only at hx
        split at hx
        · rcases List.mem_append.1 hx with hx | hx
          · exact hs x hx
          · rw [List.mem_singleton.1 hx]; exact hE e (by simp)
        · exact hs x hx
  generalize hs : (Q.flatMap (predL g)).foldl (ev g (lvl g r)) (O, []) = s at *
  have hpos2 : ∀ x ∈ s.2, Pos g x := by rw [← hs]; exact hposn _ hE _ (by simp)
  have hnx : ∀ x ∈ (if r = 0 then s.2 ++ one else s.2), ∃ j : Nat, j < g.n ∧ x = j := fun x hx => by
    split at hx
    · rcases List.mem_append.1 hx with hx | hx
      · exact hpos2 x hx
      · obtain ⟨j, hj, e, _⟩ := (hone x).1 hx; exact ⟨j, hj, e⟩
    · exact hpos2 x hx
  obtain ⟨Qn, a1, a2, a3, a4, a5⟩ := levs g.n ((r : Int) + 1) (by omega) _ hnx (lvl g r) QA (lvl_length g r)
  -- who comes next is who is hit
  have hhit : ∀ j : Nat, j < g.n → rk (lvl g r) j < 0 → ((j : Int) ∈ (if r = 0 then s.2 ++ one else s.2) ↔ hit g (lvl g r) j = true) := fun j hj hu => by
    have hmem : ((j : Int) ∈ Q.flatMap (predL g)) ↔ ∃ m ∈ g.moves j, rk (lvl g r) m = r := by
      rw [← List.count_pos_iff, hcount j hj, List.countP_pos_iff]
      simp only [decide_eq_true_eq]
    have hO := hopen j hj hu
    have hC := hcount j hj
    have h2 : (j : Int) ∈ s.2 ↔ ((j : Int) ∈ Q.flatMap (predL g) ∧ (g.owner j = 0 ∨ O.getD j 0 = ((Q.flatMap (predL g)).count (j : Int) : Int))) := by
      rw [hnext j hj]
      simp only [List.not_mem_nil, false_or, hu, true_and]
    have hall : O.getD j 0 = ((Q.flatMap (predL g)).count (j : Int) : Int) ↔ everyB (lvl g r) (g.moves j) = true := by
      rw [hO, hC]
      simp only [everyB, List.all_eq_true, decide_eq_true_eq]
      constructor
      · intro e m hm
        have h0 : (g.moves j).countP (fun m => decide (rk (lvl g r) m < 0)) = 0 := by omega
        rw [List.countP_eq_zero] at h0
        have := h0 m hm
        simp only [decide_eq_true_eq] at this
        omega
      · intro e
        have h0 : (g.moves j).countP (fun m => decide (rk (lvl g r) m < 0)) = 0 := by
          rw [List.countP_eq_zero]
          intro m hm
          have := e m hm
          simp only [decide_eq_true_eq]
          omega
        omega
    have hs2 : (j : Int) ∈ s.2 → hit g (lvl g r) j = true := fun hx => by
      obtain ⟨k1, k2⟩ := h2.1 hx
      simp only [hit, Bool.or_eq_true, Bool.and_eq_true, decide_eq_true_eq]
      rcases hg.own j hj with ho | ho
      · left
        refine ⟨ho, ?_⟩
        obtain ⟨m, hm, e⟩ := hmem.1 k1
        simp only [someB, List.any_eq_true, decide_eq_true_eq]
        exact ⟨m, hm, by omega⟩
      · right
        refine ⟨ho, ?_⟩
        rcases k2 with k2 | k2
        · omega
        · exact hall.1 k2
    constructor
    · intro hx
      split at hx
      · rcases List.mem_append.1 hx with hx | hx
        · exact hs2 hx
        · obtain ⟨i, _, e, _, ho, hm⟩ := (hone _).1 hx
          have : i = j := by omega
          subst this
          simp only [hit, Bool.or_eq_true, Bool.and_eq_true, decide_eq_true_eq]
          right
          exact ⟨ho, by rw [hm]; rfl⟩
      · exact hs2 hx
    · intro hh
      simp only [hit, Bool.or_eq_true, Bool.and_eq_true, decide_eq_true_eq] at hh
      have hin : (j : Int) ∈ s.2 → (j : Int) ∈ (if r = 0 then s.2 ++ one else s.2) := fun hx => by
        split
        · exact List.mem_append_left _ hx
        · exact hx
      rcases hh with ⟨ho, hh⟩ | ⟨ho, hh⟩
      · simp only [someB, List.any_eq_true, decide_eq_true_eq] at hh
        obtain ⟨m, hm, h0⟩ := hh
        exact hin (h2.2 ⟨hmem.2 ⟨m, hm, unranked0 g hg hj hu ho m hm h0⟩, .inl ho⟩)
      · by_cases hE0 : (j : Int) ∈ Q.flatMap (predL g)
        · exact hin (h2.2 ⟨hE0, .inr (hall.2 hh)⟩)
        · -- no move of rank r: then r is 0 and there are no moves
          have hno : ∀ m ∈ g.moves j, rk (lvl g r) m ≠ r := fun m hm e => hE0 (hmem.2 ⟨m, hm, e⟩)
          have hev := hh
          simp only [everyB, List.all_eq_true, decide_eq_true_eq] at hev
          have hr : r = 0 := by
            by_cases hr : r = 0
            · exact hr
            · exfalso
              obtain ⟨m, hm, hk⟩ := unranked1 g hg hj hu ho hr
              rcases hk with hk | hk
              · have := hev m hm; omega
              · exact hno m hm hk
          subst hr
          have hnil : g.moves j = [] := by
            cases hm : g.moves j with
            | nil => rfl
            | cons m l =>
              exfalso
              have hmm : m ∈ g.moves j := by rw [hm]; simp
              have h1 := hev m hmm
              have h3 := hno m hmm
              have h4 := hg.mv j hj m hmm
              have h5 := rk_range g 0 m.toNat (by omega)
              rw [show ((m.toNat : Nat) : Int) = m by omega] at h5
              rcases h5 with h5 | h5
              · omega
              · exact h3 (by omega)
          rw [if_pos rfl]
          refine List.mem_append_right _ ((hone _).2 ⟨j, hj, rfl, ?_, ho, hnil⟩)
          have := rk_init g j hj
          rw [show initR g = lvl g 0 from rfl] at this
          rw [this] at hu
          cases hgl : g.goal j with
          | false => rfl
          | true => rw [hgl] at hu; simp at hu
  have hR : ((if r = 0 then s.2 ++ one else s.2).foldl (lev ((r : Int) + 1)) (lvl g r, QA)).1 = lvl g (r + 1) := by
    apply List.ext_getElem (by rw [a3, lvl_length])
    intro j h1 h2'
    have hj : j < g.n := by rw [a3] at h1; exact h1
    have e := a5 j hj
    have e2 := rk_round g ((r : Int) + 1) (lvl g r) j (by rw [lvl_length]; exact hj)
    have e3 : rk ((if r = 0 then s.2 ++ one else s.2).foldl (lev ((r : Int) + 1)) (lvl g r, QA)).1 j = rk (lvl g (r + 1)) j := by
      rw [e, lvl, e2]
      by_cases hu : rk (lvl g r) j < 0
      · have hh := hhit j hj hu
        rw [if_neg (show ¬ 0 ≤ rk (lvl g r) j by omega)]
        by_cases hx : hit g (lvl g r) j = true
        · rw [if_pos ⟨hu, hh.2 hx⟩, if_pos hx]
        · rw [if_neg (fun hy => hx (hh.1 hy.2)), if_neg hx]
      · rw [if_neg (fun hy => hu hy.1), if_pos (by omega)]
    simpa [rk, List.getD_eq_getElem?_getD, a3, lvl_length, hj] using e3
  refine ⟨Qn, Prod.ext hR a1, ⟨hol.trans h.olen, a2, fun x => ?_, fun j hj hu => ?_⟩⟩
  · rw [a4]
    constructor
    · rintro ⟨h1, h2⟩
      obtain ⟨j, hj, rfl⟩ := hnx x h1
      refine ⟨j, hj, rfl, ?_⟩
      rw [lvl, rk_round g _ _ _ (by rw [lvl_length]; exact hj), if_neg (by omega), if_pos ((hhit j hj h2).1 h1)]
      omega
    · rintro ⟨j, hj, rfl, e⟩
      rw [lvl, rk_round g _ _ _ (by rw [lvl_length]; exact hj)] at e
      have hrr := rk_range g r j hj
      by_cases hu : 0 ≤ rk (lvl g r) j
      · rw [if_pos hu] at e; omega
      · rw [if_neg hu] at e
        by_cases hx : hit g (lvl g r) j = true
        · exact ⟨(hhit j hj (by omega)).2 hx, by omega⟩
        · rw [if_neg hx] at e; omega
  · have hu0 : rk (lvl g r) j < 0 := by
      by_cases h0 : 0 ≤ rk (lvl g r) j
      · have := rk_stay g hj h0 1; omega
      · omega
    rw [hop j hj, if_neg (by omega), hcount j hj]
    have := hopen j hj hu0
    simp only at this ⊢
    have e : (g.moves j).countP (fun m => !(decide (0 ≤ rk (lvl g (r + 1)) m) && decide (rk (lvl g (r + 1)) m < ((r + 1 : Nat) : Int)))) = (g.moves j).countP fun m => decide (rk (lvl g r) m < 0) := by
      refine List.countP_congr fun m hm => ?_
      have hmn := hg.mv j hj m hm
      obtain ⟨i, rfl⟩ : ∃ i : Nat, m = i := ⟨m.toNat, by omega⟩
      have hi : i < g.n := by omega
      have hrr := rk_range g r i hi
      have e := rk_round g ((r : Int) + 1) (lvl g r) i (by rw [lvl_length]; exact hi)
      have e' : rk (lvl g (r + 1)) i = _ := e
      simp only [Bool.not_eq_true', Bool.and_eq_false_imp, decide_eq_true_eq, decide_eq_false_iff_not]
      rw [e']
      by_cases h0 : 0 ≤ rk (lvl g r) i
      · rw [if_pos h0]
        constructor
        · intro hx; exfalso; exact hx h0 (by omega)
        · intro hx; omega
      · rw [if_neg h0]
        constructor
        · intro _; omega
        · intro _ hx hy
          split at hx <;> split at hy <;> omega
    rw [e, this]; omega
end Go.Vs.Rk
end
