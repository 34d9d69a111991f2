/- A region that draws its order: it comes to what its text's order comes to. -/
import Derived.Test.YtnddhkcciphhkaaVs18
set_option linter.unusedVariables false
set_option linter.unusedSimpArgs false
namespace Go.Vs
open Go

/-! ### Which operation must come ahead of which -/
theorem testBit_edges (f : Edge → Bool) (g : Edge → Nat) (i : Nat) : ∀ (l : List Edge) (s : Nat), (l.foldl (fun s e => if f e then s ||| 2 ^ e.on ||| g e else s) s).testBit i = true →
    s.testBit i = true ∨ ∃ e ∈ l, f e = true ∧ (i = e.on ∨ (g e).testBit i = true)
  | [], s, h => .inl h
  | e :: l, s, h => by
    simp only [List.foldl_cons] at h
    rcases testBit_edges f g i l _ h with h | ⟨e', h1, h2⟩
    · by_cases he : f e = true
      · rw [if_pos he] at h
        simp only [Nat.testBit_or, Bool.or_eq_true] at h
        rcases h with (h | h) | h
        · exact .inl h
        · rw [Nat.testBit_two_pow] at h
          exact .inr ⟨e, by simp, he, .inl (by simpa using (of_decide_eq_true h).symm)⟩
        · exact .inr ⟨e, by simp, he, .inr h⟩
      · rw [if_neg he] at h
        exact .inl h
    · exact .inr ⟨e', by simp [h1], h2⟩

def beforeF (acc : Array Nat) (o : Oper) : Array Nat := acc.push (o.after.toList.foldl (fun s e => if Region.binds .any e then s ||| 2 ^ e.on ||| acc.getD e.on 0 else s) 0)
theorem before_eq (ops : Array Oper) : Region.before ops = ops.toList.foldl beforeF #[] := by
  unfold Region.before
  rw [← Array.foldl_toList]
  congr 1
  funext acc o
  unfold beforeF
  rw [← Array.foldl_toList]

theorem before_aux : ∀ (l : List Oper), (l.foldl beforeF #[]).size = l.length ∧ ∀ j i, ((l.foldl beforeF #[]).getD j 0).testBit i = true →
    ∃ o, l[j]? = some o ∧ ∃ e ∈ o.after, Region.binds .any e = true ∧ (i = e.on ∨ ((l.foldl beforeF #[]).getD e.on 0).testBit i = true) := by
  intro l
  induction hn : l.length generalizing l with
  | zero =>
    have := List.eq_nil_of_length_eq_zero hn
    subst this
    simp
  | succ n ih =>
    obtain ⟨l', o, rfl⟩ : ∃ l' o, l = l' ++ [o] := by
      have hne : l ≠ [] := by intro h; subst h; cases hn
      exact ⟨l.dropLast, l.getLast hne, (List.dropLast_concat_getLast hne).symm⟩
    have hl : l'.length = n := by simpa using hn
    obtain ⟨h1, h2⟩ := ih l' hl
    have e1 : (l' ++ [o]).foldl beforeF #[] = beforeF (l'.foldl beforeF #[]) o := by rw [List.foldl_append]; rfl
    rw [e1]
    generalize l'.foldl beforeF #[] = acc at h1 h2 ⊢
    have hlt : ∀ k b, k < acc.size → (acc.push b).getD k 0 = acc.getD k 0 := fun k b hk => by
      simp [Array.getD_eq_getD_getElem?, Array.getElem?_push, Nat.ne_of_lt hk]
    have hbit : ∀ k i, (acc.getD k 0).testBit i = true → k < acc.size := fun k i h => by
      by_cases hk : k < acc.size
      · exact hk
      · simp [Array.getD_eq_getD_getElem?, hk] at h
    refine ⟨by simp [beforeF, h1], fun j i h => ?_⟩
    unfold beforeF at h ⊢
    by_cases hj : j < acc.size
    · rw [hlt j _ hj] at h
      obtain ⟨o', e2, e, e3, e4, e5⟩ := h2 j i h
      refine ⟨o', by rw [List.getElem?_append_left (by omega)]; exact e2, e, e3, e4, ?_⟩
      rcases e5 with e5 | e5
      · exact .inl e5
      · rw [hlt _ _ (hbit _ _ e5)]; exact .inr e5
    · by_cases hj2 : j = acc.size
      · subst hj2
        have : ∀ b, (acc.push b).getD acc.size 0 = b := fun b => by simp [Array.getD_eq_getD_getElem?]
        rw [this] at h
        rcases testBit_edges (Region.binds .any) (fun e => acc.getD e.on 0) i _ _ h with h | ⟨e, e3, e4, e5⟩
        · simp at h
        · refine ⟨o, by rw [h1, ← hl]; simp, e, by simpa using e3, e4, ?_⟩
          rcases e5 with e5 | e5
          · exact .inl e5
          · rw [hlt _ _ (hbit _ _ e5)]; exact .inr e5
      · have hno : ∀ b, (acc.push b).getD j 0 = 0 := fun b => by
          have : (acc.push b)[j]? = none := Array.getElem?_eq_none (by simp; omega)
          simp [Array.getD_eq_getD_getElem?, this]
        rw [hno] at h
        simp at h

/-- Closed under what must come ahead. -/
def Closed (ops : Array Oper) (D : Nat → Bool) : Prop := ∀ j o, D j = true → ops[j]? = some o → ∀ e ∈ o.after, Region.binds .any e = true → D e.on = true

theorem drawOK_spec {ops : Array Oper} {kd : Nat → Nat} (h : drawOK ops kd = true) : ∀ j o, ops[j]? = some o → (∀ e ∈ o.after, Region.binds .any e = true → e.on < j) ∧
    ∀ i p, i < j → ops[i]? = some p → ((Region.before ops).getD j 0).testBit i = true ∨ swapOK ops (kd i) (kd j) p o = true := by
  intro j o ho
  unfold drawOK at h
  have hj := (Array.getElem?_eq_some_iff.1 ho).1
  rw [List.all_eq_true] at h
  have h1 := h j (List.mem_range.2 hj)
  rw [ho] at h1
  simp only [Bool.and_eq_true] at h1
  refine ⟨fun e he hb => ?_, fun i p hi hp => ?_⟩
  · have := (Array.all_eq_true_iff_forall_mem.1 h1.1) e he
    simp only [hb, Bool.not_true, Bool.false_or, decide_eq_true_eq] at this
    exact this
  · have := (List.all_eq_true.1 h1.2) i (List.mem_range.2 hi)
    rw [hp] at this
    simpa using this

theorem before_in {ops : Array Oper} {kd : Nat → Nat} (h : drawOK ops kd = true) {D : Nat → Bool} (hD : Closed ops D) : ∀ (n j : Nat), j < n → ∀ o i, ops[j]? = some o → (∀ e ∈ o.after, Region.binds .any e = true → D e.on = true) → ((Region.before ops).getD j 0).testBit i = true → D i = true := by
  intro n
  induction n with
  | zero => intro j hj; exact absurd hj (Nat.not_lt_zero _)
  | succ n ih =>
    intro j hj o i ho he hb
    rw [before_eq] at hb
    obtain ⟨o', e1, e, e2, e3, e4⟩ := (before_aux ops.toList).2 j i hb
    rw [Array.getElem?_toList, ho] at e1
    cases e1
    rcases e4 with rfl | e4
    · exact he e e2 e3
    · rw [← before_eq] at e4
      have hlt := (drawOK_spec h j o ho).1 e e2 e3
      have hd := he e e2 e3
      have hsz : e.on < ops.size := Nat.lt_trans hlt (Array.getElem?_eq_some_iff.1 ho).1
      exact ih e.on (by omega) ops[e.on] i (Array.getElem?_eq_getElem hsz) (fun e' h1 h2 => hD e.on _ hd (Array.getElem?_eq_getElem hsz) e' h1 h2) e4

/-- Operation i, not done yet, all done that must come ahead of it: what it may have been swapped with. -/
theorem free_of {ops : Array Oper} {kd : Nat → Nat} (h : drawOK ops kd = true) {D : Nat → Bool} (hD : Closed ops D) {i : Nat} {oi : Oper} (hi : ops[i]? = some oi) (hni : D i = false) (he : ∀ e ∈ oi.after, Region.binds .any e = true → D e.on = true) :
    (∀ j oj, j < i → D j = false → ops[j]? = some oj → swapOK ops (kd j) (kd i) oj oi = true) ∧ (∀ j oj, i < j → D j = true → ops[j]? = some oj → swapOK ops (kd i) (kd j) oi oj = true) := by
  refine ⟨fun j oj hj hd ho => ?_, fun j oj hj hd ho => ?_⟩
  · rcases (drawOK_spec h i oi hi).2 j oj hj ho with hb | hs
    · have := before_in h hD (i + 1) i (Nat.lt_succ_self _) oi j hi he hb
      rw [hd] at this; cases this
    · exact hs
  · rcases (drawOK_spec h j oj ho).2 i oi hj hi with hb | hs
    · have := before_in h hD (j + 1) j (Nat.lt_succ_self _) oj i ho (fun e h1 h2 => hD j oj hd ho e h1 h2) hb
      rw [hni] at this; cases this
    · exact hs

theorem swapOK_spec {ops : Array Oper} {kp ko : Nat} {p o : Oper} (h : swapOK ops kp ko p o = true) : Oper.apart ops p o = true ∧ kp ≠ 4 ∧ ko ≠ 4 ∧ (kp = 3 → ko ≠ 1 ∧ ko ≠ 3) ∧ (ko = 3 → kp ≠ 1 ∧ kp ≠ 3) := by
  unfold swapOK at h
  simp only [Bool.and_eq_true, bne_iff_ne, ne_eq, Bool.not_eq_true', Bool.and_eq_false_iff, Bool.or_eq_false_iff, beq_eq_false_iff_ne] at h
  obtain ⟨⟨⟨⟨h1, h2⟩, h3⟩, h4⟩, h5⟩ := h
  refine ⟨h1, h2, h3, fun hp => ?_, fun ho => ⟨?_, ?_⟩⟩
  · rcases h4 with h4 | h4
    · exact absurd hp h4
    · exact h4
  · rcases h5 with h5 | h5
    · exact absurd ho h5
    · exact h5
  · intro hp
    rcases h4 with h4 | h4
    · exact h4 hp
    · exact h4.2 ho

/-! ### What one operation does to the arrays -/
inductive Ef where
  | new (fz : List Nat) (nid : Nat) (nw : Option (List (List PV) × Option (Option Nat)))
  | st (id : Nat) (a : Arr)
  | all (A : Arrs)
def Ef.app : Ef → Arrs → Arrs
  | .new fz nid nw, A => placeA (frz A fz) nid nw
  | .st id a, A => upd A id a
  | .all B, _ => B
def Ef.isAll : Ef → Bool
  | .all _ => true
  | _ => false

inductive EfOK (C : Ctx) (ops : Array Oper) (o : Oper) (e : Env) (S : Store) : Env → Store → Ef → Nat → Prop
  | skip (hw : wantedV ops e o = some false) (k : Nat) : EfOK C ops o e S (putD e o.dst .skip) S (.new [] S.length none) k
  | one (out : Out) (hw : wantedV ops e o = some true) (he : isEff C.H o e = false) (h : ev1 C.P C.cp o e S S.length = some out) :
      EfOK C ops o e S (putD e o.dst out.v) (place (freezeAll S out.fz) out.new) (.new out.fz S.length out.new) (kind C.H o e)
  | st (t : TypeId) (x y : Operand) (hop : o.op = .store t x y) (hw : wantedV ops e o = some true) (hk : (tyi C.P t).known = true) (id i off : Nat) (rows : List (List PV)) (g : Option (Option Nat)) (hx : ev e x = .mp id i off)
      (hS : S[id]? = some (.arr rows g false)) (c1 : i < rows.length) (c2 : off + (tyi C.P t).size ≤ (rows.getD i []).length) (c3 : (ev e y).cells.length = (tyi C.P t).size) (c4 : (ev e y).cells.all PV.cell = true) :
      EfOK C ops o e S (putD e o.dst .skip) (S.set id (.arr (rows.set i (splice (rows.getD i []) off (ev e y).cells)) g false)) (.st id ⟨rows.set i (splice (rows.getD i []) off (ev e y).cells), g, false⟩) 3
  | all (r : Eff) (hw : wantedV ops e o = some true) (h : ev2 C o e S = some r) : EfOK C ops o e S (putD (killE r.kill e) o.dst r.v) r.S (.all (arrs r.S)) 4

theorem efOK {C : Ctx} {ops : Array Oper} {o : Oper} {e e' : Env} {S S' : Store} (h : stepOp C ops o e S = some (e', S')) : ∃ ef, EfOK C ops o e S e' S' ef (kind C.H o e) := by
  unfold stepOp at h
  obtain ⟨b, hw, h⟩ := bind_some h
  cases b with
  | false =>
    simp only [Bool.false_eq_true, if_false, Option.some.injEq, Prod.mk.injEq] at h
    obtain ⟨rfl, rfl⟩ := h
    exact ⟨_, .skip hw _⟩
  | true =>
    simp only [if_true] at h
    split at h
    · rename_i he
      obtain ⟨r, h1, h2⟩ := map_some h
      simp only [Prod.mk.injEq] at h2
      obtain ⟨rfl, rfl⟩ := h2
      by_cases hk : kind C.H o e = 4
      · rw [hk]; exact ⟨_, .all r hw h1⟩
      · have hk3 : ∃ t x y, o.op = .store t x y := by
          unfold kind at hk
          rw [he] at hk
          simp only [if_true] at hk
          split at hk
          · rename_i t x y hop; exact ⟨t, x, y, hop⟩
          · exact absurd rfl hk
        obtain ⟨t, x, y, hop⟩ := hk3
        have hkd : kind C.H o e = 3 := by unfold kind; rw [he, hop]; rfl
        rw [hkd]
        unfold ev2 at h1
        rw [hop] at h1
        simp only at h1
        split at h1
        · rename_i hkn
          obtain ⟨S', h3, rfl⟩ := map_some h1
          unfold evStore at h3
          split at h3
          · rename_i id i off hx
            split at h3
            · rename_i rows g hS
              split at h3
              · rename_i hc
                cases h3
                exact ⟨_, .st t x y hop hw hkn id i off rows g hx hS hc.1 hc.2.1 hc.2.2.1 hc.2.2.2⟩
              · cases h3
            · cases h3
          · cases h3
        · cases h1
    · rename_i he
      obtain ⟨out, h1, h2⟩ := map_some h
      simp only [Prod.mk.injEq] at h2
      obtain ⟨rfl, rfl⟩ := h2
      exact ⟨_, .one out hw (by simpa using he) h1⟩

section
variable {C : Ctx} {ops : Array Oper} {o : Oper} {e e' : Env} {S S' : Store} {ef : Ef} {kd : Nat}

theorem EfOK.arrs (h : EfOK C ops o e S e' S' ef kd) : Vs.arrs S' = ef.app (Vs.arrs S) := by
  cases h with
  | skip hw k => simp [Ef.app, placeA, frz_nil]
  | one out hw he h => simp only [Ef.app]; rw [arrs_place, arrs_freezeAll, length_freezeAll]
  | st t x y hop hw hk id i off rows g hx hS c1 c2 c3 c4 =>
    simp only [Ef.app]
    exact arrs_set (List.getElem?_eq_some_iff.1 hS).1 rfl
  | all r hw h => rfl
theorem EfOK.len (h : EfOK C ops o e S e' S' ef kd) : S.length ≤ S'.length := by
  cases h with
  | skip hw k => exact Nat.le_refl _
  | one out hw he h => have := (length_place (freezeAll S out.fz) out.new).1; rwa [length_freezeAll] at this
  | st t x y hop hw hk id i off rows g hx hS c1 c2 c3 c4 => simp
  | all r hw h => exact ev2_length h
theorem EfOK.get (h : EfOK C ops o e S e' S' ef kd) (ha : ef.isAll = false) {t : Nat} (ht : o.dst ≠ some t) : get e' t = Vs.get e t := by
  have key : ∀ v, Vs.get (putD e o.dst v) t = Vs.get e t := fun v => by
    cases hd : o.dst with
    | none => rfl
    | some d =>
      simp only [putD]
      rw [get_put, if_neg]
      intro hc
      exact ht (by rw [hd, hc])
  cases h with
  | skip hw k => exact key _
  | one out hw he h => exact key _
  | st t x y hop hw hk id i off rows g hx hS c1 c2 c3 c4 => exact key _
  | all r hw h => cases ha
theorem EfOK.kindAll (h : EfOK C ops o e S e' S' ef kd) (ha : ef.isAll = true) : kd = 4 := by
  cases h <;> first | rfl | cases ha
/-- A new array. -/
theorem EfOK.new (h : EfOK C ops o e S e' S' ef kd) {fz : List Nat} {nid : Nat} {nw : Option (List (List PV) × Option (Option Nat))} (he : ef = .new fz nid nw) :
    nid = S.length ∧ (∀ i ∈ fz, i < S.length) ∧ (kd ≠ 1 → fz = []) ∧ (nw ≠ none → S'.length = S.length + 1) ∧ (kd = 3 ∨ kd = 4 → nw = none) := by
  cases h with
  | skip hw k => cases he; simp
  | one out hw hef h =>
    cases he
    obtain ⟨h1, h2, h3, h4⟩ := ev1_facts hef h
    refine ⟨rfl, h1, h2, fun hn => ?_, fun hk => by omega⟩
    have := (length_place (freezeAll S out.fz) out.new).2.2
    cases hq : out.new with
    | none => exact absurd hq hn
    | some p => rw [hq] at this; rw [this p rfl, length_freezeAll]
  | st => cases he
  | all => cases he
theorem EfOK.store (h : EfOK C ops o e S e' S' ef kd) {id : Nat} {a : Arr} (he : ef = .st id a) : kd = 3 ∧ id < S.length ∧ (∃ a0, Vs.arrs S id = some a0) := by
  cases h with
  | skip hw k => cases he
  | one out hw hef h => cases he
  | st t x y hop hw hk id i off rows g hx hS c1 c2 c3 c4 => cases he; exact ⟨rfl, (List.getElem?_eq_some_iff.1 hS).1, _, arrs_get hS⟩
  | all => cases he
end

/-- The same arrays, more of them frozen. -/
def Le (A A' : Arrs) : Prop := ∀ id, (A id = none → A' id = none) ∧ ∀ a, A id = some a → ∃ f, A' id = some ⟨a.rows, a.g, f⟩ ∧ (a.f = true → f = true)
theorem Le.refl (A : Arrs) : Le A A := fun id => ⟨_root_.id, fun a h => ⟨a.f, h, _root_.id⟩⟩
theorem Le.trans {A B B' : Arrs} (h : Le A B) (k : Le B B') : Le A B' := fun id => ⟨fun x => (k id).1 ((h id).1 x), fun a ha => by
  obtain ⟨f, h1, h2⟩ := (h id).2 a ha
  obtain ⟨f', k1, k2⟩ := (k id).2 _ h1
  exact ⟨f', k1, fun x => k2 (h2 x)⟩⟩
theorem frz_at (A : Arrs) (ids : List Nat) (id : Nat) : frz A ids id = (A id).map fun a => if ids.contains id then { a with f := true } else a := rfl
theorem Le.frz_mono {A A' : Arrs} (h : Le A A') (ids : List Nat) : Le (frz A ids) (frz A' ids) := fun id => by
  refine ⟨fun hn => ?_, fun a ha => ?_⟩
  · rw [frz_at] at hn ⊢
    cases hA : A id with
    | none => rw [(h id).1 hA]; rfl
    | some a => rw [hA] at hn; cases hn
  · rw [frz_at] at ha
    cases hA : A id with
    | none => rw [hA] at ha; cases ha
    | some a0 =>
      rw [hA] at ha
      simp only [Option.map_some, Option.some.injEq] at ha
      obtain ⟨f, h1, h2⟩ := (h id).2 a0 hA
      rw [frz_at, h1]
      simp only [Option.map_some]
      split at ha
      · rename_i hc; rw [if_pos hc]; subst ha; exact ⟨true, rfl, fun _ => rfl⟩
      · rename_i hc; rw [if_neg hc]; subst ha; exact ⟨f, rfl, h2⟩
theorem Le.frz_self (A : Arrs) (ids : List Nat) : Le A (frz A ids) := fun id => by
  refine ⟨fun hn => by rw [frz_at, hn]; rfl, fun a ha => ?_⟩
  rw [frz_at, ha]
  simp only [Option.map_some]
  split
  · exact ⟨true, rfl, fun _ => rfl⟩
  · exact ⟨a.f, rfl, _root_.id⟩
theorem Le.upd_mono {A A' : Arrs} (h : Le A A') (i : Nat) (a : Arr) : Le (upd A i a) (upd A' i a) := fun id => by
  by_cases hi : id = i
  · subst hi; rw [upd_same, upd_same]; exact ⟨by simp, fun b hb => by cases hb; exact ⟨a.f, rfl, _root_.id⟩⟩
  · rw [upd_ne _ _ _ hi, upd_ne _ _ _ hi]; exact h id
theorem Le.place_mono {A A' : Arrs} (h : Le A A') (i : Nat) (nw : Option (List (List PV) × Option (Option Nat))) : Le (placeA A i nw) (placeA A' i nw) := by
  cases nw with
  | none => exact h
  | some p => exact h.upd_mono _ _
theorem Le.app_mono {A A' : Arrs} (h : Le A A') (ef : Ef) : Le (ef.app A) (ef.app A') := by
  cases ef with
  | new fz nid nw => exact (h.frz_mono fz).place_mono _ _
  | st id a => exact h.upd_mono _ _
  | all B => exact .refl _

theorem SR.more {w : World} {X : Nat → Prop} {A A' : Arrs} {n : Nat} {μ : Mu} (hS : SR w X A n μ) (h : Le A A') (base : Nat) : SR w X A' n μ ∧ Tr base w A μ w A' μ := by
  have e : A' = Vs.frz A ((List.range n).filter fun i => match A' i with | some a => a.f | none => false) := by
    funext id
    rw [frz_at]
    cases hA : A id with
    | none => rw [(h id).1 hA]; rfl
    | some a =>
      obtain ⟨f, h1, h2⟩ := (h id).2 a hA
      have hlt : id < n := by
        by_cases hlt : id < n
        · exact hlt
        · rw [(hS.lt id (by omega)).2] at hA; cases hA
      have hc : ((List.range n).filter fun i => match A' i with | some a => a.f | none => false).contains id = f := by
        rw [List.contains_eq_mem]
        by_cases hf : f = true
        · subst hf
          simp [List.mem_filter, hlt, h1]
        · simp [List.mem_filter, h1, hf]
      rw [h1]
      simp only [Option.map_some, hc]
      cases f with
      | true => rfl
      | false =>
        have : a.f = false := by cases hq : a.f with
          | false => rfl
          | true => exact absurd (h2 hq) (by simp)
        cases a; simp_all
  rw [e]
  exact hS.frz _ base
theorem SR.relt {w : World} {X : Nat → Prop} {A : Arrs} {n n' : Nat} {μ : Mu} (hS : SR w X A n μ) (h : ∀ id, n' ≤ id → μ id = none ∧ A id = none) : SR w X A n' μ := ⟨h, hS.blk, hS.nob, hS.gsz, hS.inj, hS.out, hS.xlt⟩
end Go.Vs
