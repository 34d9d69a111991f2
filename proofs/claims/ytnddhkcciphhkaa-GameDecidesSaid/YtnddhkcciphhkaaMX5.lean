/- What the pure operations look at; the numbers that they give. -/

import Derived.Test.YtnddhkcciphhkaaMX4
section
set_option linter.unusedVariables false
set_option linter.unusedSimpArgs false
namespace Go.Vs
open Go

theorem fillAll_congr {fs : List (Nat × Nat × Bool)} {ρ σ : Operand → PV} : ∀ (parts : List (Nat × Operand)) (cs : List PV), (∀ p ∈ parts, ρ p.2 = σ p.2) → fillAll fs ρ cs parts = fillAll fs σ cs parts
  | [], cs, _ => rfl
  | (i, x) :: r, cs, h => by
    have h0 : ρ x = σ x := h (i, x) (by simp)
    simp only [fillAll, h0]
    split
    · split
      · exact fillAll_congr r _ fun p hp => h p (by simp [hp])
      · rfl
    · rfl

theorem ev1_congr {P : Program} {cp : CallP} {o : Oper} {e e' : Env} {S : Store} {nid : Nat} (h : ∀ x ∈ o.op.operands, ev e x = ev e' x) : ev1 P cp o e S nid = ev1 P cp o e' S nid := by
  obtain ⟨dst, op, type, pos, after, guard⟩ := o
  have parr : ∀ xs : Array Operand, (∀ x ∈ xs, ev e x = ev e' x) → xs.toList.map (ev e) = xs.toList.map (ev e') := fun xs hx => List.map_congr_left fun x hm => hx x (by simpa using hm)
  cases op <;> simp only [Op.operands] at h <;> simp only [ev1]
  case build t ps =>
    have : ∀ z, fillAll (match (tyi P t).d with | .struct fs => fs | _ => []) (ev e) z ps.toList = fillAll (match (tyi P t).d with | .struct fs => fs | _ => []) (ev e') z ps.toList := fun z => fillAll_congr _ _ fun p hp => h p.2 (by
      exact List.mem_toArray.2 (List.mem_map.2 ⟨p, hp, rfl⟩))
    split
    · rename_i fs hd
      rw [hd] at this
      simp only at this
      simp only [this]
    · rfl
  case buildSlice t n ps =>
    have : (ps.toList.map fun (_, x) => (ev e x).cells) = ps.toList.map fun (_, x) => (ev e' x).cells := List.map_congr_left fun p hp => by
      obtain ⟨i, x⟩ := p
      simp only [h x (List.mem_toArray.2 (List.mem_map.2 ⟨(i, x), hp, rfl⟩))]
    simp only [this]
  case makeFunc fn first captured =>
    cases fn <;> simp only
    rw [parr first fun x hx => h x (by simp [hx]), parr captured fun x hx => h x (by simp [hx])]
  case call c =>
    have ha : c.args.toList.map (ev e) = c.args.toList.map (ev e') := parr c.args fun x hx => h x (by simp [Call.operands, hx])
    cases hc : c.callee with
    | invoke r m => rfl
    | value f =>
      have hf : ev e f = ev e' f := h f (by simp [Call.operands, hc])
      simp only [ha, hf]
    | builtin b =>
      cases b <;> simp only [ha]
      case len =>
        have : ∀ x, c.args[0]? = some x → ev e x = ev e' x := fun x hx => h x (by
          have := Array.mem_of_getElem? hx
          simp [Call.operands, this])
        split
        · rename_i t x ht hx; rw [this x hx]
        · rfl
      case append =>
        split
        · rename_i t u x y ht hu hargs
          have hy : ev e y = ev e' y := h y (by
            have : y ∈ c.args := by rw [← Array.mem_toList_iff, hargs]; simp
            simp [Call.operands, this])
          have hx : ev e x = ev e' x := h x (by
            have : x ∈ c.args := by rw [← Array.mem_toList_iff, hargs]; simp
            simp [Call.operands, this])
          rw [hy, hx]
        · rfl
  case slice t x lo hi mx => cases lo <;> cases hi <;> cases mx <;> simp_all
  all_goals (first | rfl | (simp_all; done) | (simp_all <;> rfl))

/-- An operation that is not one that reads. -/
theorem ev1_noS {P : Program} {H : Hints} {cp : CallP} {o : Oper} {e : Env} {S S' : Store} {nid : Nat} (he : isEff H o e = false) (hk : kind H o e ≠ 1) : ev1 P cp o e S nid = ev1 P cp o e S' nid := by
  obtain ⟨dst, op, type, pos, after, guard⟩ := o
  unfold kind at hk
  rw [he] at hk
  cases op
  case makeFunc fn x y => cases fn <;> simp [ev1]
  all_goals (simp at hk; try simp [ev1, boxed])
theorem ev1_nid {P : Program} {cp : CallP} {o : Oper} {e : Env} {S : Store} {nid nid' : Nat} {out : Out} (h : ev1 P cp o e S nid = some out) (hn : out.new = none) : ev1 P cp o e S nid' = some out := by
  obtain ⟨dst, op, type, pos, after, guard⟩ := o
  cases op
  case makeFunc fn x y => cases fn <;> simp only [ev1] at h ⊢ <;> exact h
  all_goals (simp only [ev1, reduceCtorEq] at h ⊢; try exact h)
  case alloc t =>
    obtain ⟨z, _, h⟩ := bind_some h
    split at h <;> cases h
    cases hn
  case box t x =>
    unfold boxed at h
    split at h <;> cases h
    cases hn
  case buildSlice t n ps =>
    split at h <;> try cases h
    split at h <;> cases h
    cases hn
  case makeSlice t l c =>
    split at h <;> try cases h
    obtain ⟨z, _, h⟩ := bind_some h
    split at h <;> cases h
    cases hn
  case call c =>
    cases hc : c.callee with
    | invoke r m => rw [hc] at h; cases h
    | value f => rw [hc] at h; exact h
    | builtin b =>
      rw [hc] at h
      cases b <;> simp only [reduceCtorEq] at h ⊢ <;> try exact h
      split at h <;> try cases h
      split at h <;> try cases h
      split at h <;> try cases h
      unfold evAppendNew at h ⊢
      split at h
      · rename_i hex
        rw [if_pos hex]
        obtain ⟨rows, h1, h⟩ := bind_some h
        rw [h1]
        simp only [Option.bind_some]
        obtain ⟨new, h2, h⟩ := bind_some h
        rw [h2]
        simp only [Option.bind_some]
        split at h
        · rename_i hc
          rw [if_pos hc]
          split at h
          · rename_i h0
            rw [if_pos h0]
            split at h
            · cases h; cases hn
            · rename_i h3; rw [if_neg h3]; simp_all
          · cases h; cases hn
        · cases h
      · cases h
theorem ev1_facts {P : Program} {H : Hints} {cp : CallP} {o : Oper} {e : Env} {S : Store} {nid : Nat} {out : Out} (he : isEff H o e = false) (h : ev1 P cp o e S nid = some out) :
    (∀ i ∈ out.fz, i < S.length) ∧ (kind H o e ≠ 1 → out.fz = []) ∧ (kind H o e = 0 → out.new = none) ∧ (kind H o e = 0 ∨ kind H o e = 1 ∨ kind H o e = 2) := by
  have hk : kind H o e = 0 ∨ kind H o e = 1 ∨ kind H o e = 2 := by
    unfold kind
    rw [he]
    simp only [Bool.false_eq_true, if_false]
    split <;> simp
  obtain ⟨dst, op, type, pos, after, guard⟩ := o
  suffices hs : (∀ i ∈ out.fz, i < S.length) ∧ (kind H ⟨dst, op, type, pos, after, guard⟩ e ≠ 1 → out.fz = []) ∧ (kind H ⟨dst, op, type, pos, after, guard⟩ e = 0 → out.new = none) from ⟨hs.1, hs.2.1, hs.2.2, hk⟩
  have k2 : ∀ {k : Nat}, kind H ⟨dst, op, type, pos, after, guard⟩ e = k → k ≠ 0 → (kind H ⟨dst, op, type, pos, after, guard⟩ e = 0 → out.new = none) := fun h1 h2 h3 => absurd (h1.symm.trans h3) h2
  have val : ∀ v, out = { v := v } → (∀ i ∈ out.fz, i < S.length) ∧ (kind H ⟨dst, op, type, pos, after, guard⟩ e ≠ 1 → out.fz = []) ∧ (kind H ⟨dst, op, type, pos, after, guard⟩ e = 0 → out.new = none) := fun v hv => by subst hv; simp
  have mp : ∀ {x : Option PV}, (x.map fun v => ({ v } : Out)) = some out → (∀ i ∈ out.fz, i < S.length) ∧ (kind H ⟨dst, op, type, pos, after, guard⟩ e ≠ 1 → out.fz = []) ∧ (kind H ⟨dst, op, type, pos, after, guard⟩ e = 0 → out.new = none) := fun h => by
    obtain ⟨v, _, rfl⟩ := map_some h
    exact val v rfl
  cases op <;> simp only [ev1, reduceCtorEq, Option.some.injEq] at h
  case move x => exact val _ h.symm
  case assign x => exact val _ h.symm
  case pick c x y =>
    split at h
    · cases h; exact val _ rfl
    · cases h
  case alloc t =>
    obtain ⟨z, _, h⟩ := bind_some h
    split at h <;> cases h
    simp [kind, he]
  case box t x =>
    unfold boxed at h
    split at h <;> cases h
    simp [kind, he]
  case build t ps =>
    split at h <;> try cases h
    obtain ⟨z, _, h⟩ := bind_some h
    split at h
    · obtain ⟨v, _, rfl⟩ := map_some h; simp
    · cases h
  case buildSlice t n ps =>
    split at h <;> try cases h
    split at h <;> cases h
    simp [kind, he]
  case load t x => exact mp h
  case nilCheck x =>
    split at h <;> first | cases h | skip
    all_goals exact val _ rfl
  case binOp op t x y c => exact mp h
  case unOp op t x => exact mp h
  case convert s d x =>
    split at h
    · exact mp h
    · cases h
  case makeFunc fn first caps =>
    cases fn <;> simp only [reduceCtorEq, Option.some.injEq] at h
    exact val _ h.symm
  case makeSlice t l c =>
    split at h <;> try cases h
    obtain ⟨z, _, h⟩ := bind_some h
    split at h <;> cases h
    simp [kind, he]
  case slice t x lo hi mx =>
    split at h
    · cases h
    · exact mp h
  case fieldAddr t x f => exact mp h
  case field t x f => exact mp h
  case indexAddr t x i =>
    split at h
    · exact mp h
    · cases h
  case index t x i =>
    split at h
    · split at h
      · exact mp h
      · cases h
    · exact mp h
    · cases h
  case extract x i =>
    split at h
    · exact mp h
    · cases h
  case call c =>
    have k1 : kind H ⟨dst, .call c, type, pos, after, guard⟩ e = 1 := by simp [kind, he]
    rw [k1]
    simp only [ne_eq, not_true_eq_false, false_implies, true_and, and_true, Nat.one_ne_zero]
    cases hc : c.callee with
    | invoke r m => rw [hc] at h; cases h
    | value f =>
      rw [hc] at h
      simp only at h
      split at h
      · split at h
        · rename_i ha
          obtain ⟨args, _, h⟩ := bind_some h
          obtain ⟨v, _, rfl⟩ := map_some h
          intro i hi
          rw [List.all_eq_true] at ha
          simpa using ha i hi
        · cases h
      · cases h
    | builtin b =>
      rw [hc] at h
      cases b <;> simp only [reduceCtorEq] at h
      case len =>
        split at h
        · exact (mp h).1
        · cases h
      case max =>
        split at h <;> cases h
        simp
      case min =>
        split at h <;> cases h
        simp
      case append =>
        split at h <;> try cases h
        split at h <;> try cases h
        split at h <;> try cases h
        unfold evAppendNew at h
        split at h
        · obtain ⟨rows, _, h⟩ := bind_some h
          obtain ⟨new, _, h⟩ := bind_some h
          split at h
          · split at h
            · split at h <;> (cases h; simp)
            · cases h; simp
          · cases h
        · cases h

theorem ev2_length {C : Ctx} {o : Oper} {e : Env} {S : Store} {r : Eff} (h : ev2 C o e S = some r) : S.length ≤ r.S.length := by
  obtain ⟨dst, op, type, pos, after, guard⟩ := o
  cases op <;> simp only [ev2, reduceCtorEq] at h
  case store t x y =>
    split at h
    · obtain ⟨S', h1, rfl⟩ := map_some h
      unfold evStore at h1
      split at h1
      · split at h1
        · split at h1
          · cases h1; simp
          · cases h1
        · cases h1
      · cases h1
    · cases h
  case call c =>
    cases hc : c.callee with
    | invoke r m => rw [hc] at h; cases h
    | value f =>
      rw [hc] at h
      simp only at h
      split at h
      · split at h
        · obtain ⟨⟨v, S'⟩, _, h⟩ := bind_some h
          simp only at h
          split at h
          · cases h; assumption
          · cases h
        · obtain ⟨args, _, h⟩ := bind_some h
          obtain ⟨v, _, rfl⟩ := map_some h
          rw [length_freezeAll]
          exact Nat.le_refl _
      · cases h
    | builtin b =>
      rw [hc] at h
      cases b <;> simp only [reduceCtorEq] at h
      case append =>
        split at h <;> try cases h
        split at h <;> try cases h
        split at h <;> try cases h
        unfold evAppend at h
        split at h
        case h_2 => cases h
        rename_i heq
        rw [heq] at h
        split at h
        · obtain ⟨rows, g, _, _, _, f4, _⟩ := append1_facts h
          rw [f4]; exact Nat.le_refl _
        · obtain ⟨out1, h1, rfl⟩ := map_some h
          obtain ⟨rows, g, _, _, _, f4, _⟩ := append1_facts h1
          simp [renewed, f4]
      case copy =>
        split at h <;> try cases h
        split at h <;> try cases h
        split at h <;> try cases h
        unfold evCopy at h
        split at h
        · split at h
          · obtain ⟨new, _, h⟩ := bind_some h
            split at h
            · cases h; simp
            · cases h
          · cases h
        · cases h
end Go.Vs
end
/- A region that draws its order: it comes to what its text's order comes to. -/
section
set_option linter.unusedVariables false
set_option linter.unusedSimpArgs false
namespace Go.Vs
open Go

/-! ### Which operation must come ahead of which -/
theorem testBit_edges (f : Edge → Bool) (g : Edge → Nat) (i : Nat) : ∀ (l : List Edge) (s : Nat), (l.foldl (fun s e => if f e then s ||| 2 ^ e.on ||| g e else s) s).testBit i = true →
    s.testBit i = true ∨ ∃ e ∈ l, f e = true ∧ (i = e.on ∨ (g e).testBit i = true)
  | [], s, h => .inl h
  | e :: l, s, h => by
    simp only [List.foldl_cons] at h
    rcases testBit_edges f g i l _ h with h | ⟨e', h1, h2⟩
    · by_cases he : f e = true
      · rw [if_pos he] at h
        simp only [Nat.testBit_or, Bool.or_eq_true] at h
        rcases h with (h | h) | h
        · exact .inl h
        · rw [Nat.testBit_two_pow] at h
          exact .inr ⟨e, by simp, he, .inl (by simpa using (of_decide_eq_true h).symm)⟩
        · exact .inr ⟨e, by simp, he, .inr h⟩
      · rw [if_neg he] at h
        exact .inl h
    · exact .inr ⟨e', by simp [h1], h2⟩

def beforeF (acc : Array Nat) (o : Oper) : Array Nat := acc.push (o.after.toList.foldl (fun s e => if Region.binds .any e then s ||| 2 ^ e.on ||| acc.getD e.on 0 else s) 0)
theorem before_eq (ops : Array Oper) : Region.before ops = ops.toList.foldl beforeF #[] := by
  unfold Region.before
  rw [← Array.foldl_toList]
  congr 1
  funext acc o
  unfold beforeF
  rw [← Array.foldl_toList]

theorem before_aux : ∀ (l : List Oper), (l.foldl beforeF #[]).size = l.length ∧ ∀ j i, ((l.foldl beforeF #[]).getD j 0).testBit i = true →
    ∃ o, l[j]? = some o ∧ ∃ e ∈ o.after, Region.binds .any e = true ∧ (i = e.on ∨ ((l.foldl beforeF #[]).getD e.on 0).testBit i = true) := by
  intro l
  induction hn : l.length generalizing l with
  | zero =>
    have := List.eq_nil_of_length_eq_zero hn
    subst this
    simp
  | succ n ih =>
    obtain ⟨l', o, rfl⟩ : ∃ l' o, l = l' ++ [o] := by
      have hne : l ≠ [] := by intro h; subst h; cases hn
      exact ⟨l.dropLast, l.getLast hne, (List.dropLast_concat_getLast hne).symm⟩
    have hl : l'.length = n := by simpa using hn
    obtain ⟨h1, h2⟩ := ih l' hl
    have e1 : (l' ++ [o]).foldl beforeF #[] = beforeF (l'.foldl beforeF #[]) o := by rw [List.foldl_append]; rfl
    rw [e1]
    generalize l'.foldl beforeF #[] = acc at h1 h2 ⊢
    have hlt : ∀ k b, k < acc.size → (acc.push b).getD k 0 = acc.getD k 0 := fun k b hk => by
      simp [Array.getD_eq_getD_getElem?, Array.getElem?_push, Nat.ne_of_lt hk]
    have hbit : ∀ k i, (acc.getD k 0).testBit i = true → k < acc.size := fun k i h => by
      by_cases hk : k < acc.size
      · exact hk
      · simp [Array.getD_eq_getD_getElem?, hk] at h
    refine ⟨by simp [beforeF, h1], fun j i h => ?_⟩
    unfold beforeF at h ⊢
    by_cases hj : j < acc.size
    · rw [hlt j _ hj] at h
      obtain ⟨o', e2, e, e3, e4, e5⟩ := h2 j i h
      refine ⟨o', by rw [List.getElem?_append_left (by omega)]; exact e2, e, e3, e4, ?_⟩
      rcases e5 with e5 | e5
      · exact .inl e5
      · rw [hlt _ _ (hbit _ _ e5)]; exact .inr e5
    · by_cases hj2 : j = acc.size
      · subst hj2
        have : ∀ b, (acc.push b).getD acc.size 0 = b := fun b => by simp [Array.getD_eq_getD_getElem?]
        rw [this] at h
        rcases testBit_edges (Region.binds .any) (fun e => acc.getD e.on 0) i _ _ h with h | ⟨e, e3, e4, e5⟩
        · simp at h
        · refine ⟨o, by rw [h1, ← hl]; simp, e, by simpa using e3, e4, ?_⟩
          rcases e5 with e5 | e5
          · exact .inl e5
          · rw [hlt _ _ (hbit _ _ e5)]; exact .inr e5
      · have hno : ∀ b, (acc.push b).getD j 0 = 0 := fun b => by
          have : (acc.push b)[j]? = none := Array.getElem?_eq_none (by simp; omega)
          simp [Array.getD_eq_getD_getElem?, this]
        rw [hno] at h
        simp at h

/-- Closed under what must come ahead. -/
def Closed (ops : Array Oper) (D : Nat → Bool) : Prop := ∀ j o, D j = true → ops[j]? = some o → ∀ e ∈ o.after, Region.binds .any e = true → D e.on = true

theorem drawOK_spec {ops : Array Oper} {kd : Nat → Nat} (h : drawOK ops kd = true) : ∀ j o, ops[j]? = some o → (∀ e ∈ o.after, Region.binds .any e = true → e.on < j) ∧
    ∀ i p, i < j → ops[i]? = some p → ((Region.before ops).getD j 0).testBit i = true ∨ swapOK ops (kd i) (kd j) p o = true := by
  intro j o ho
  unfold drawOK at h
  have hj := (Array.getElem?_eq_some_iff.1 ho).1
  rw [List.all_eq_true] at h
  have h1 := h j (List.mem_range.2 hj)
  rw [ho] at h1
  simp only [Bool.and_eq_true] at h1
  refine ⟨fun e he hb => ?_, fun i p hi hp => ?_⟩
  · have := (Array.all_eq_true_iff_forall_mem.1 h1.1) e he
    simp only [hb, Bool.not_true, Bool.false_or, decide_eq_true_eq] at this
    exact this
  · have := (List.all_eq_true.1 h1.2) i (List.mem_range.2 hi)
    rw [hp] at this
    simpa using this

theorem before_in {ops : Array Oper} {kd : Nat → Nat} (h : drawOK ops kd = true) {D : Nat → Bool} (hD : Closed ops D) : ∀ (n j : Nat), j < n → ∀ o i, ops[j]? = some o → (∀ e ∈ o.after, Region.binds .any e = true → D e.on = true) → ((Region.before ops).getD j 0).testBit i = true → D i = true := by
  intro n
  induction n with
  | zero => intro j hj; exact absurd hj (Nat.not_lt_zero _)
  | succ n ih =>
    intro j hj o i ho he hb
    rw [before_eq] at hb
    obtain ⟨o', e1, e, e2, e3, e4⟩ := (before_aux ops.toList).2 j i hb
    rw [Array.getElem?_toList, ho] at e1
    cases e1
    rcases e4 with rfl | e4
    · exact he e e2 e3
    · rw [← before_eq] at e4
      have hlt := (drawOK_spec h j o ho).1 e e2 e3
      have hd := he e e2 e3
      have hsz : e.on < ops.size := Nat.lt_trans hlt (Array.getElem?_eq_some_iff.1 ho).1
      exact ih e.on (by omega) ops[e.on] i (Array.getElem?_eq_getElem hsz) (fun e' h1 h2 => hD e.on _ hd (Array.getElem?_eq_getElem hsz) e' h1 h2) e4

/-- Operation i, not done yet, all done that must come ahead of it: what it may have been swapped with. -/
theorem free_of {ops : Array Oper} {kd : Nat → Nat} (h : drawOK ops kd = true) {D : Nat → Bool} (hD : Closed ops D) {i : Nat} {oi : Oper} (hi : ops[i]? = some oi) (hni : D i = false) (he : ∀ e ∈ oi.after, Region.binds .any e = true → D e.on = true) :
    (∀ j oj, j < i → D j = false → ops[j]? = some oj → swapOK ops (kd j) (kd i) oj oi = true) ∧ (∀ j oj, i < j → D j = true → ops[j]? = some oj → swapOK ops (kd i) (kd j) oi oj = true) := by
  refine ⟨fun j oj hj hd ho => ?_, fun j oj hj hd ho => ?_⟩
  · rcases (drawOK_spec h i oi hi).2 j oj hj ho with hb | hs
    · have := before_in h hD (i + 1) i (Nat.lt_succ_self _) oi j hi he hb
      rw [hd] at this; cases this
    · exact hs
  · rcases (drawOK_spec h j oj ho).2 i oi hj hi with hb | hs
    · have := before_in h hD (j + 1) j (Nat.lt_succ_self _) oj i ho (fun e h1 h2 => hD j oj hd ho e h1 h2) hb
      rw [hni] at this; cases this
    · exact hs

theorem swapOK_spec {ops : Array Oper} {kp ko : Nat} {p o : Oper} (h : swapOK ops kp ko p o = true) : Oper.apart ops p o = true ∧ kp ≠ 4 ∧ ko ≠ 4 ∧ (kp = 3 → ko ≠ 1 ∧ ko ≠ 3) ∧ (ko = 3 → kp ≠ 1 ∧ kp ≠ 3) := by
  unfold swapOK at h
  simp only [Bool.and_eq_true, bne_iff_ne, ne_eq, Bool.not_eq_true', Bool.and_eq_false_iff, Bool.or_eq_false_iff, beq_eq_false_iff_ne] at h
  obtain ⟨⟨⟨⟨h1, h2⟩, h3⟩, h4⟩, h5⟩ := h
  refine ⟨h1, h2, h3, fun hp => ?_, fun ho => ⟨?_, ?_⟩⟩
  · rcases h4 with h4 | h4
    · exact absurd hp h4
    · exact h4
  · rcases h5 with h5 | h5
    · exact absurd ho h5
    · exact h5
  · intro hp
    rcases h4 with h4 | h4
    · exact h4 hp
    · exact h4.2 ho

/-! ### What one operation does to the arrays -/
inductive Ef where
  | new (fz : List Nat) (nid : Nat) (nw : Option (List (List PV) × Option (Option Nat)))
  | st (id : Nat) (a : Arr)
  | all (A : Arrs)
def Ef.app : Ef → Arrs → Arrs
  | .new fz nid nw, A => placeA (frz A fz) nid nw
  | .st id a, A => upd A id a
  | .all B, _ => B
def Ef.isAll : Ef → Bool
  | .all _ => true
  | _ => false

inductive EfOK (C : Ctx) (ops : Array Oper) (o : Oper) (e : Env) (S : Store) : Env → Store → Ef → Nat → Prop
  | skip (hw : wantedV ops e o = some false) (k : Nat) : EfOK C ops o e S (putD e o.dst .skip) S (.new [] S.length none) k
  | one (out : Out) (hw : wantedV ops e o = some true) (he : isEff C.H o e = false) (h : ev1 C.P C.cp o e S S.length = some out) :
      EfOK C ops o e S (putD e o.dst out.v) (place (freezeAll S out.fz) out.new) (.new out.fz S.length out.new) (kind C.H o e)
  | st (t : TypeId) (x y : Operand) (hop : o.op = .store t x y) (hw : wantedV ops e o = some true) (hk : (tyi C.P t).known = true) (id i off : Nat) (rows : List (List PV)) (g : Option (Option Nat)) (hx : ev e x = .mp id i off)
      (hS : S[id]? = some (.arr rows g false)) (c1 : i < rows.length) (c2 : off + (tyi C.P t).size ≤ (rows.getD i []).length) (c3 : (ev e y).cells.length = (tyi C.P t).size) (c4 : (ev e y).cells.all PV.cell = true) :
      EfOK C ops o e S (putD e o.dst .skip) (S.set id (.arr (rows.set i (splice (rows.getD i []) off (ev e y).cells)) g false)) (.st id ⟨rows.set i (splice (rows.getD i []) off (ev e y).cells), g, false⟩) 3
  | all (r : Eff) (hw : wantedV ops e o = some true) (h : ev2 C o e S = some r) : EfOK C ops o e S (putD (killE r.kill e) o.dst r.v) r.S (.all (arrs r.S)) 4

theorem efOK {C : Ctx} {ops : Array Oper} {o : Oper} {e e' : Env} {S S' : Store} (h : stepOp C ops o e S = some (e', S')) : ∃ ef, EfOK C ops o e S e' S' ef (kind C.H o e) := by
  unfold stepOp at h
  obtain ⟨b, hw, h⟩ := bind_some h
  cases b with
  | false =>
    simp only [Bool.false_eq_true, if_false, Option.some.injEq, Prod.mk.injEq] at h
    obtain ⟨rfl, rfl⟩ := h
    exact ⟨_, .skip hw _⟩
  | true =>
    simp only [if_true] at h
    split at h
    · rename_i he
      obtain ⟨r, h1, h2⟩ := map_some h
      simp only [Prod.mk.injEq] at h2
      obtain ⟨rfl, rfl⟩ := h2
      by_cases hk : kind C.H o e = 4
      · rw [hk]; exact ⟨_, .all r hw h1⟩
      · have hk3 : ∃ t x y, o.op = .store t x y := by
          unfold kind at hk
          rw [he] at hk
          simp only [if_true] at hk
          split at hk
          · rename_i t x y hop; exact ⟨t, x, y, hop⟩
          · exact absurd rfl hk
        obtain ⟨t, x, y, hop⟩ := hk3
        have hkd : kind C.H o e = 3 := by unfold kind; rw [he, hop]; rfl
        rw [hkd]
        unfold ev2 at h1
        rw [hop] at h1
        simp only at h1
        split at h1
        · rename_i hkn
          obtain ⟨S', h3, rfl⟩ := map_some h1
          unfold evStore at h3
          split at h3
          · rename_i id i off hx
            split at h3
            · rename_i rows g hS
              split at h3
              · rename_i hc
                cases h3
                exact ⟨_, .st t x y hop hw hkn id i off rows g hx hS hc.1 hc.2.1 hc.2.2.1 hc.2.2.2⟩
              · cases h3
            · cases h3
          · cases h3
        · cases h1
    · rename_i he
      obtain ⟨out, h1, h2⟩ := map_some h
      simp only [Prod.mk.injEq] at h2
      obtain ⟨rfl, rfl⟩ := h2
      exact ⟨_, .one out hw (by simpa using he) h1⟩

section
variable {C : Ctx} {ops : Array Oper} {o : Oper} {e e' : Env} {S S' : Store} {ef : Ef} {kd : Nat}

theorem EfOK.arrs (h : EfOK C ops o e S e' S' ef kd) : Vs.arrs S' = ef.app (Vs.arrs S) := by
  cases h with
  | skip hw k => simp [Ef.app, placeA, frz_nil]
  | one out hw he h => simp only [Ef.app]; rw [arrs_place, arrs_freezeAll, length_freezeAll]
  | st t x y hop hw hk id i off rows g hx hS c1 c2 c3 c4 =>
    simp only [Ef.app]
    exact arrs_set (List.getElem?_eq_some_iff.1 hS).1 rfl
  | all r hw h => rfl
theorem EfOK.len (h : EfOK C ops o e S e' S' ef kd) : S.length ≤ S'.length := by
  cases h with
  | skip hw k => exact Nat.le_refl _
  | one out hw he h => have := (length_place (freezeAll S out.fz) out.new).1; rwa [length_freezeAll] at this
  | st t x y hop hw hk id i off rows g hx hS c1 c2 c3 c4 => simp
  | all r hw h => exact ev2_length h
theorem EfOK.get (h : EfOK C ops o e S e' S' ef kd) (ha : ef.isAll = false) {t : Nat} (ht : o.dst ≠ some t) : get e' t = Vs.get e t := by
  have key : ∀ v, Vs.get (putD e o.dst v) t = Vs.get e t := fun v => by
    cases hd : o.dst with
    | none => rfl
    | some d =>
      simp only [putD]
      rw [get_put, if_neg]
      intro hc
      exact ht (by rw [hd, hc])
  cases h with
  | skip hw k => exact key _
  | one out hw he h => exact key _
  | st t x y hop hw hk id i off rows g hx hS c1 c2 c3 c4 => exact key _
  | all r hw h => cases ha
theorem EfOK.kindAll (h : EfOK C ops o e S e' S' ef kd) (ha : ef.isAll = true) : kd = 4 := by
  cases h <;> first | rfl | cases ha
/-- A new array. -/
theorem EfOK.new (h : EfOK C ops o e S e' S' ef kd) {fz : List Nat} {nid : Nat} {nw : Option (List (List PV) × Option (Option Nat))} (he : ef = .new fz nid nw) :
    nid = S.length ∧ (∀ i ∈ fz, i < S.length) ∧ (kd ≠ 1 → fz = []) ∧ (nw ≠ none → S'.length = S.length + 1) ∧ (kd = 3 ∨ kd = 4 → nw = none) := by
  cases h with
  | skip hw k => cases he; simp
  | one out hw hef h =>
    cases he
    obtain ⟨h1, h2, h3, h4⟩ := ev1_facts hef h
    refine ⟨rfl, h1, h2, fun hn => ?_, fun hk => by omega⟩
    have := (length_place (freezeAll S out.fz) out.new).2.2
    cases hq : out.new with
    | none => exact absurd hq hn
    | some p => rw [hq] at this; rw [this p rfl, length_freezeAll]
  | st => cases he
  | all => cases he
theorem EfOK.store (h : EfOK C ops o e S e' S' ef kd) {id : Nat} {a : Arr} (he : ef = .st id a) : kd = 3 ∧ id < S.length ∧ (∃ a0, Vs.arrs S id = some a0) := by
  cases h with
  | skip hw k => cases he
  | one out hw hef h => cases he
  | st t x y hop hw hk id i off rows g hx hS c1 c2 c3 c4 => cases he; exact ⟨rfl, (List.getElem?_eq_some_iff.1 hS).1, _, arrs_get hS⟩
  | all => cases he
end

/-- The same arrays, more of them frozen. -/
def Le (A A' : Arrs) : Prop := ∀ id, (A id = none → A' id = none) ∧ ∀ a, A id = some a → ∃ f, A' id = some ⟨a.rows, a.g, f⟩ ∧ (a.f = true → f = true)
theorem Le.refl (A : Arrs) : Le A A := fun id => ⟨_root_.id, fun a h => ⟨a.f, h, _root_.id⟩⟩
theorem Le.trans {A B B' : Arrs} (h : Le A B) (k : Le B B') : Le A B' := fun id => ⟨fun x => (k id).1 ((h id).1 x), fun a ha => by
  obtain ⟨f, h1, h2⟩ := (h id).2 a ha
  obtain ⟨f', k1, k2⟩ := (k id).2 _ h1
  exact ⟨f', k1, fun x => k2 (h2 x)⟩⟩
theorem frz_at (A : Arrs) (ids : List Nat) (id : Nat) : frz A ids id = (A id).map fun a => if ids.contains id then { a with f := true } else a := rfl
theorem Le.frz_mono {A A' : Arrs} (h : Le A A') (ids : List Nat) : Le (frz A ids) (frz A' ids) := fun id => by
  refine ⟨fun hn => ?_, fun a ha => ?_⟩
  · rw [frz_at] at hn ⊢
    cases hA : A id with
    | none => rw [(h id).1 hA]; rfl
    | some a => rw [hA] at hn; cases hn
  · rw [frz_at] at ha
    cases hA : A id with
    | none => rw [hA] at ha; cases ha
    | some a0 =>
      rw [hA] at ha
      simp only [Option.map_some, Option.some.injEq] at ha
      obtain ⟨f, h1, h2⟩ := (h id).2 a0 hA
      rw [frz_at, h1]
      simp only [Option.map_some]
      split at ha
      · rename_i hc; rw [if_pos hc]; subst ha; exact ⟨true, rfl, fun _ => rfl⟩
      · rename_i hc; rw [if_neg hc]; subst ha; exact ⟨f, rfl, h2⟩
theorem Le.upd_mono {A A' : Arrs} (h : Le A A') (i : Nat) (a : Arr) : Le (upd A i a) (upd A' i a) := fun id => by
  by_cases hi : id = i
  · subst hi; rw [upd_same, upd_same]; exact ⟨by simp, fun b hb => by cases hb; exact ⟨a.f, rfl, _root_.id⟩⟩
  · rw [upd_ne _ _ _ hi, upd_ne _ _ _ hi]; exact h id
theorem Le.place_mono {A A' : Arrs} (h : Le A A') (i : Nat) (nw : Option (List (List PV) × Option (Option Nat))) : Le (placeA A i nw) (placeA A' i nw) := by
  cases nw with
  | none => exact h
  | some p => exact h.upd_mono _ _
theorem Le.app_mono {A A' : Arrs} (h : Le A A') (ef : Ef) : Le (ef.app A) (ef.app A') := by
  cases ef with
  | new fz nid nw => exact (h.frz_mono fz).place_mono _ _
  | st id a => exact h.upd_mono _ _
  | all B => exact .refl _

theorem SR.more {w : World} {X : Nat → Prop} {A A' : Arrs} {n : Nat} {μ : Mu} (hS : SR w X A n μ) (h : Le A A') (base : Nat) : SR w X A' n μ ∧ Tr base w A μ w A' μ := by
  have e : A' = Vs.frz A ((List.range n).filter fun i => match A' i with | some a => a.f | none => false) := by
    funext id
    rw [frz_at]
    cases hA : A id with
    | none => rw [(h id).1 hA]; rfl
    | some a =>
      obtain ⟨f, h1, h2⟩ := (h id).2 a hA
      have hlt : id < n := by
        by_cases hlt : id < n
        · exact hlt
        · rw [(hS.lt id (by omega)).2] at hA; cases hA
      have hc : ((List.range n).filter fun i => match A' i with | some a => a.f | none => false).contains id = f := by
        rw [List.contains_eq_mem]
        by_cases hf : f = true
        · subst hf
          simp [List.mem_filter, hlt, h1]
        · simp [List.mem_filter, h1, hf]
      rw [h1]
      simp only [Option.map_some, hc]
      cases f with
      | true => rfl
      | false =>
        have : a.f = false := by cases hq : a.f with
          | false => rfl
          | true => exact absurd (h2 hq) (by simp)
        cases a; simp_all
  rw [e]
  exact hS.frz _ base
theorem SR.relt {w : World} {X : Nat → Prop} {A : Arrs} {n n' : Nat} {μ : Mu} (hS : SR w X A n μ) (h : ∀ id, n' ≤ id → μ id = none ∧ A id = none) : SR w X A n' μ := ⟨h, hS.blk, hS.nob, hS.gsz, hS.inj, hS.out, hS.xlt⟩
end Go.Vs
end
/- A region that draws its order (2): the states between. -/
section
set_option linter.unusedVariables false
set_option linter.unusedSimpArgs false
namespace Go.Vs
open Go

/-- The run in the text's order: slots, store, what each operation does. -/
structure Run (C : Ctx) (ops : Array Oper) (e : Nat → Env) (S : Nat → Store) (r : Nat → Ef) (kd : Nat → Nat) : Prop where
  ok : ∀ j o, ops[j]? = some o → EfOK C ops o (e j) (S j) (e (j + 1)) (S (j + 1)) (r j) (kd j)
def dstOf (ops : Array Oper) (j : Nat) : Option Nat := (ops[j]?).bind (·.dst)

/-- The slots, when the operations D are done. -/
def gf (ops : Array Oper) (e : Nat → Env) (r : Nat → Ef) (D : Nat → Bool) : Nat → Nat → PV
  | 0, t => get (e 0) t
  | j + 1, t => if D j = true then (if (r j).isAll = true ∨ dstOf ops j = some t then get (e (j + 1)) t else gf ops e r D j t) else gf ops e r D j t
/-- The arrays. -/
def af (S : Nat → Store) (r : Nat → Ef) (D : Nat → Bool) : Nat → Arrs
  | 0 => arrs (S 0)
  | j + 1 => if D j = true then (r j).app (af S r D j) else af S r D j

section
variable {C : Ctx} {ops : Array Oper} {e : Nat → Env} {S : Nat → Store} {r : Nat → Ef} {kd : Nat → Nat} {D : Nat → Bool}

theorem Run.mono (hr : Run C ops e S r kd) {i j : Nat} (h : i ≤ j) (hj : j ≤ ops.size) : (S i).length ≤ (S j).length := by
  induction h with
  | refl => exact Nat.le_refl _
  | step h ih =>
    rename_i m
    exact Nat.le_trans (ih (by omega)) (hr.ok m ops[m] (Array.getElem?_eq_getElem (by omega))).len

theorem gf_succ (j t : Nat) : gf ops e r D (j + 1) t = if D j = true then (if (r j).isAll = true ∨ dstOf ops j = some t then get (e (j + 1)) t else gf ops e r D j t) else gf ops e r D j t := rfl
theorem af_succ (j : Nat) : af S r D (j + 1) = if D j = true then (r j).app (af S r D j) else af S r D j := rfl

/-- The slots that an operation looks at, up to it. -/
theorem gf_lo (hr : Run C ops e S r kd) {i t : Nat} (hi : i ≤ ops.size) (h : ∀ j oj, j < i → ops[j]? = some oj → D j = true ∨ ((r j).isAll = false ∧ oj.dst ≠ some t)) : ∀ j, j ≤ i → gf ops e r D j t = get (e j) t := by
  intro j
  induction j with
  | zero => intro _; rfl
  | succ j ih =>
    intro hj
    have ho : ops[j]? = some ops[j] := Array.getElem?_eq_getElem (by omega)
    have hd : dstOf ops j = ops[j].dst := by unfold dstOf; rw [ho]; rfl
    rw [gf_succ, hd]
    split
    · split
      · rfl
      · rename_i hc
        rw [ih (by omega)]
        exact ((hr.ok j _ ho).get (by simpa using fun h => hc (.inl h)) (fun h => hc (.inr h))).symm
    · rename_i hD
      rcases h j _ (by omega) ho with h1 | ⟨h1, h2⟩
      · exact absurd h1 hD
      · rw [ih (by omega)]
        exact ((hr.ok j _ ho).get h1 h2).symm
theorem gf_hi {i t : Nat} (h : ∀ j oj, i ≤ j → D j = true → ops[j]? = some oj → (r j).isAll = false ∧ oj.dst ≠ some t) : ∀ j, i ≤ j → j ≤ ops.size → gf ops e r D j t = gf ops e r D i t := by
  intro j hij
  induction hij with
  | refl => intro _; rfl
  | step hij ih =>
    rename_i m
    intro hj
    have hm : m < ops.size := by omega
    have ho : ops[m]? = some ops[m] := Array.getElem?_eq_getElem hm
    have hd : dstOf ops m = ops[m].dst := by unfold dstOf; rw [ho]; rfl
    rw [gf_succ, hd, ← ih (by omega)]
    split
    · rename_i hD
      obtain ⟨h1, h2⟩ := h m _ hij hD ho
      rw [if_neg (by simp [h1, h2])]
    · rfl
/-- All done. -/
theorem gf_full (hr : Run C ops e S r kd) (h : ∀ j, j < ops.size → D j = true) (t : Nat) : gf ops e r D ops.size t = get (e ops.size) t :=
  gf_lo hr (Nat.le_refl _) (fun j oj hj ho => .inl (h j hj)) _ (Nat.le_refl _)
theorem af_lo (hr : Run C ops e S r kd) {i : Nat} (hi : i ≤ ops.size) (h : ∀ j, j < i → D j = true) : ∀ j, j ≤ i → af S r D j = arrs (S j) := by
  intro j
  induction j with
  | zero => intro _; rfl
  | succ j ih =>
    intro hj
    rw [af_succ, if_pos (h j (by omega)), ih (by omega)]
    exact (hr.ok j ops[j] (Array.getElem?_eq_getElem (by omega))).arrs.symm
theorem af_hi {i m : Nat} (h : ∀ j, i ≤ j → j < m → D j = false) : ∀ j, i ≤ j → j ≤ m → af S r D j = af S r D i := by
  intro j hij
  induction hij with
  | refl => intro _; rfl
  | step hij ih =>
    rename_i k
    intro hj
    rw [af_succ, h k hij (by omega), ← ih (by omega)]
    simp

/-- What text order says of the arrays that an operation may read: it is so. -/
theorem sees_lo (hr : Run C ops e S r kd) {μ : Mu} {i : Nat} (hi : i ≤ ops.size) (hfr : ∀ j, j < ops.size → D j = false → (S j).length ≠ (S (j + 1)).length → μ (S j).length = none)
    (h : ∀ j oj, j < i → D j = false → ops[j]? = some oj → kd j ≠ 3 ∧ kd j ≠ 4) : ∀ j, j ≤ i → ∀ id a b, arrs (S j) id = some a → μ id = some b → ∃ f, af S r D j id = some ⟨a.rows, a.g, f⟩ := by
  intro j
  induction j with
  | zero => intro _ id a b ha _; exact ⟨a.f, ha⟩
  | succ j ih =>
    intro hj id a b ha hb
    have ho : ops[j]? = some ops[j] := Array.getElem?_eq_getElem (by omega)
    have hok := hr.ok j _ ho
    rw [hok.arrs] at ha
    rw [af_succ]
    have IH := ih (by omega) id
    by_cases hD : D j = true
    · rw [if_pos hD]
      cases hef : r j with
      | all B => rw [hef] at ha; exact ⟨a.f, ha⟩
      | st id0 a0 =>
        rw [hef] at ha
        simp only [Ef.app] at ha ⊢
        by_cases hid : id = id0
        · subst hid; rw [upd_same] at ha ⊢; cases ha; exact ⟨_, rfl⟩
        · rw [upd_ne _ _ _ hid] at ha ⊢; exact IH a b ha hb
      | new fz nid nw =>
        rw [hef] at ha
        simp only [Ef.app] at ha ⊢
        have fzc : ∀ a, frz (arrs (S j)) fz id = some a → ∃ f, frz (af S r D j) fz id = some ⟨a.rows, a.g, f⟩ := fun a ha => by
          obtain ⟨a0, k1, k2, k3⟩ := frz_some ha
          obtain ⟨f, k4⟩ := IH a0 b k1 hb
          rw [frz_at, k4, k2.1, k2.2]
          simp only [Option.map_some]
          split <;> exact ⟨_, rfl⟩
        cases nw with
        | none => exact fzc a ha
        | some p =>
          obtain ⟨rows, g⟩ := p
          simp only [placeA] at ha ⊢
          by_cases hid : id = nid
          · subst hid; rw [upd_same] at ha ⊢; cases ha; exact ⟨_, rfl⟩
          · rw [upd_ne _ _ _ hid] at ha ⊢; exact fzc a ha
    · rw [if_neg hD]
      have hD' : D j = false := by simpa using hD
      obtain ⟨h3, h4⟩ := h j _ (by omega) hD' ho
      cases hef : r j with
      | all B => exact absurd (hok.kindAll (by rw [hef]; rfl)) h4
      | st id0 a0 => exact absurd (hok.store hef).1 h3
      | new fz nid nw =>
        rw [hef] at ha
        obtain ⟨n1, n2, n3, n4, n5⟩ := hok.new hef
        simp only [Ef.app] at ha
        have fzc : ∀ a, frz (arrs (S j)) fz id = some a → ∃ f, af S r D j id = some ⟨a.rows, a.g, f⟩ := fun a ha => by
          obtain ⟨a0, k1, k2, k3⟩ := frz_some ha
          obtain ⟨f, k4⟩ := IH a0 b k1 hb
          rw [k4, k2.1, k2.2]
          exact ⟨_, rfl⟩
        cases nw with
        | none => exact fzc a ha
        | some p =>
          obtain ⟨rows, g⟩ := p
          simp only [placeA] at ha
          by_cases hid : id = nid
          · subst hid
            have := hfr j (by omega) hD' (by have := n4 (by simp); omega)
            rw [← n1, hb] at this
            cases this
          · rw [upd_ne _ _ _ hid] at ha; exact fzc a ha
theorem sees_hi (hr : Run C ops e S r kd) {i : Nat} (h : ∀ j oj, i ≤ j → D j = true → ops[j]? = some oj → kd j ≠ 3 ∧ kd j ≠ 4) {id : Nat} (hid : id < (S i).length) {rows : List (List PV)} {g : Option (Option Nat)} :
    ∀ j, i ≤ j → j ≤ ops.size → (∃ f, af S r D i id = some ⟨rows, g, f⟩) → ∃ f, af S r D j id = some ⟨rows, g, f⟩ := by
  intro j hij
  induction hij with
  | refl => intro _ h; exact h
  | step hij ih =>
    rename_i k
    intro hj h0
    obtain ⟨f, hf⟩ := ih (by omega) h0
    have ho : ops[k]? = some ops[k] := Array.getElem?_eq_getElem (by omega)
    have hok := hr.ok k _ ho
    rw [af_succ]
    split
    · rename_i hD
      obtain ⟨h3, h4⟩ := h k _ hij hD ho
      cases hef : r k with
      | all B => exact absurd (hok.kindAll (by rw [hef]; rfl)) h4
      | st id0 a0 => exact absurd (hok.store hef).1 h3
      | new fz nid nw =>
        obtain ⟨n1, n2, n3, n4, n5⟩ := hok.new hef
        have hne : id ≠ nid := by rw [n1]; have := hr.mono hij (by omega); omega
        have fzc : ∃ f', frz (af S r D k) fz id = some ⟨rows, g, f'⟩ := by
          rw [frz_at, hf]
          simp only [Option.map_some]
          split <;> exact ⟨_, rfl⟩
        cases nw with
        | none => exact fzc
        | some p =>
          obtain ⟨rows', g'⟩ := p
          simp only [Ef.app, placeA]
          rw [upd_ne _ _ _ hne]; exact fzc
    · exact ⟨f, hf⟩

/-- Where a store writes: all is as text order says. -/
theorem same_lo (hr : Run C ops e S r kd) {μ : Mu} {i : Nat} (hi : i ≤ ops.size) (hfr : ∀ j, j < ops.size → D j = false → (S j).length ≠ (S (j + 1)).length → μ (S j).length = none)
    (h : ∀ j oj, j < i → D j = false → ops[j]? = some oj → kd j ≠ 1 ∧ kd j ≠ 3 ∧ kd j ≠ 4) : ∀ j, j ≤ i → ∀ id b, μ id = some b → af S r D j id = arrs (S j) id := by
  intro j
  induction j with
  | zero => intro _ id b _; rfl
  | succ j ih =>
    intro hj id b hb
    have ho : ops[j]? = some ops[j] := Array.getElem?_eq_getElem (by omega)
    have hok := hr.ok j _ ho
    rw [hok.arrs, af_succ]
    have IH := ih (by omega) id b hb
    by_cases hD : D j = true
    · rw [if_pos hD]
      cases hef : r j with
      | all B => rfl
      | st id0 a0 =>
        simp only [Ef.app]
        by_cases hid : id = id0
        · subst hid; rw [upd_same, upd_same]
        · rw [upd_ne _ _ _ hid, upd_ne _ _ _ hid]; exact IH
      | new fz nid nw =>
        simp only [Ef.app]
        have fzc : frz (af S r D j) fz id = frz (arrs (S j)) fz id := by rw [frz_at, frz_at, IH]
        cases nw with
        | none => exact fzc
        | some p =>
          obtain ⟨rows, g⟩ := p
          simp only [placeA]
          by_cases hid : id = nid
          · subst hid; rw [upd_same, upd_same]
          · rw [upd_ne _ _ _ hid, upd_ne _ _ _ hid]; exact fzc
    · rw [if_neg hD]
      have hD' : D j = false := by simpa using hD
      obtain ⟨h1, h3, h4⟩ := h j _ (by omega) hD' ho
      cases hef : r j with
      | all B => exact absurd (hok.kindAll (by rw [hef]; rfl)) h4
      | st id0 a0 => exact absurd (hok.store hef).1 h3
      | new fz nid nw =>
        obtain ⟨n1, n2, n3, n4, n5⟩ := hok.new hef
        have := n3 h1
        subst this
        simp only [Ef.app, frz_nil]
        cases nw with
        | none => exact IH
        | some p =>
          obtain ⟨rows, g⟩ := p
          simp only [placeA]
          by_cases hid : id = nid
          · subst hid
            have := hfr j (by omega) hD' (by have := n4 (by simp); omega)
            rw [← n1, hb] at this
            cases this
          · rw [upd_ne _ _ _ hid]; exact IH
theorem same_hi (hr : Run C ops e S r kd) {i : Nat} (h : ∀ j oj, i ≤ j → D j = true → ops[j]? = some oj → kd j ≠ 1 ∧ kd j ≠ 3 ∧ kd j ≠ 4) {id : Nat} (hid : id < (S i).length) :
    ∀ j, i ≤ j → j ≤ ops.size → af S r D j id = af S r D i id := by
  intro j hij
  induction hij with
  | refl => intro _; rfl
  | step hij ih =>
    rename_i k
    intro hj
    have ho : ops[k]? = some ops[k] := Array.getElem?_eq_getElem (by omega)
    have hok := hr.ok k _ ho
    rw [af_succ, ← ih (by omega)]
    split
    · rename_i hD
      obtain ⟨h1, h3, h4⟩ := h k _ hij hD ho
      cases hef : r k with
      | all B => exact absurd (hok.kindAll (by rw [hef]; rfl)) h4
      | st id0 a0 => exact absurd (hok.store hef).1 h3
      | new fz nid nw =>
        obtain ⟨n1, n2, n3, n4, n5⟩ := hok.new hef
        have := n3 h1
        subst this
        have hne : id ≠ nid := by rw [n1]; have := hr.mono hij (by omega); omega
        simp only [Ef.app, frz_nil]
        cases nw with
        | none => rfl
        | some p =>
          obtain ⟨rows', g'⟩ := p
          simp only [placeA]
          rw [upd_ne _ _ _ hne]
    · rfl

/-- What a later store has written is there. -/
theorem st_there (hr : Run C ops e S r kd) {i : Nat} (h : ∀ j, i ≤ j → j < ops.size → D j = true → (r j).isAll = false) : ∀ j, i ≤ j → j ≤ ops.size → ∀ k id a, i ≤ k → k < j → D k = true → r k = .st id a → ∃ a', af S r D j id = some a' := by
  intro j hij
  induction hij with
  | refl => intro _ k id a h1 h2; omega
  | step hij ih =>
    rename_i m
    intro hj k id a h1 h2 h3 h4
    have keep : ∀ A : Arrs, (∃ a', A id = some a') → ∀ ef : Ef, ef.isAll = false → ∃ a', ef.app A id = some a' := by
      rintro A ⟨a', ha⟩ ef hef
      cases ef with
      | all B => cases hef
      | st id0 a0 =>
        simp only [Ef.app]
        by_cases hid : id = id0
        · subst hid; rw [upd_same]; exact ⟨_, rfl⟩
        · rw [upd_ne _ _ _ hid]; exact ⟨_, ha⟩
      | new fz nid nw =>
        have hf : ∃ a', frz A fz id = some a' := by rw [frz_at, ha]; exact ⟨_, rfl⟩
        cases nw with
        | none => exact hf
        | some p =>
          obtain ⟨rows, g⟩ := p
          simp only [Ef.app, placeA]
          by_cases hid : id = nid
          · subst hid; rw [upd_same]; exact ⟨_, rfl⟩
          · rw [upd_ne _ _ _ hid]; exact hf
    rw [af_succ]
    by_cases hk : k = m
    · subst hk
      rw [if_pos h3, h4]
      simp only [Ef.app, upd_same]
      exact ⟨_, rfl⟩
    · have := ih (by omega) k id a h1 (by omega) h3 h4
      split
      · rename_i hD
        exact keep _ this _ (h m hij (by omega) hD)
      · exact this
end
end Go.Vs
end
/- A region that draws its order (3): any order comes to the same. -/
section
set_option linter.unusedVariables false
set_option linter.unusedSimpArgs false
namespace Go.Vs
open Go

theorem Le.of_pt {A A' : Arrs} (h : ∀ id, A id = A' id ∨ ∃ a f, A id = some a ∧ A' id = some ⟨a.rows, a.g, f⟩ ∧ (a.f = true → f = true)) : Le A A' := fun id => by
  rcases h id with h | ⟨a, f, h1, h2, h3⟩
  · rw [h]; exact ⟨_root_.id, fun a h => ⟨a.f, h, _root_.id⟩⟩
  · refine ⟨fun hn => (by rw [hn] at h1; cases h1), fun a' ha => ?_⟩
    rw [h1] at ha; cases ha
    exact ⟨f, h2, h3⟩
theorem frz_comm (A : Arrs) (x y : List Nat) : frz (frz A x) y = frz (frz A y) x := by
  funext id
  simp only [frz_at]
  cases A id with
  | none => rfl
  | some a => simp only [Option.map_some]; split <;> split <;> rfl
theorem frz_out {A : Arrs} {x : List Nat} {id : Nat} (h : id ∉ x) : frz A x id = A id := by
  rw [frz_at]
  have : x.contains id = false := by rw [List.contains_eq_mem]; simpa using h
  rw [this]
  cases A id <;> rfl

section
variable {C : Ctx} {ops : Array Oper} {e : Nat → Env} {S : Nat → Store} {r : Nat → Ef} {kd : Nat → Nat} {D D' : Nat → Bool}

theorem af_agree {i : Nat} (h : ∀ j, j < i → D' j = D j) : ∀ j, j ≤ i → af S r D' j = af S r D j := by
  intro j
  induction j with
  | zero => intro _; rfl
  | succ j ih => intro hj; rw [af_succ, af_succ, h j (by omega), ih (by omega)]

theorem swap_app (hr : Run C ops e S r kd) {i j : Nat} {oi oj : Oper} (hij : i < j) (hoi : ops[i]? = some oi) (hoj : ops[j]? = some oj) (hs : swapOK ops (kd i) (kd j) oi oj = true)
    (hne : ∀ id a, r j = .st id a → (S i).length ≠ (S (i + 1)).length → id ≠ (S i).length) (B : Arrs) : Le ((r i).app ((r j).app B)) ((r j).app ((r i).app B)) := by
  obtain ⟨_, k1, k2, k3, k4⟩ := swapOK_spec hs
  have oki := hr.ok i _ hoi
  have okj := hr.ok j _ hoj
  have hjs := (Array.getElem?_eq_some_iff.1 hoj).1
  have hlen : (S (i + 1)).length ≤ (S j).length := hr.mono hij (by omega)
  cases hi : r i with
  | all B => exact absurd (oki.kindAll (by rw [hi]; rfl)) k1
  | st idi ai =>
    obtain ⟨s1, s2, _⟩ := oki.store hi
    cases hj : r j with
    | all B => exact absurd (okj.kindAll (by rw [hj]; rfl)) k2
    | st idj aj => exact absurd (okj.store hj).1 (k3 s1).2
    | new fz nid nw =>
      obtain ⟨n1, n2, n3, n4, n5⟩ := okj.new hj
      have := n3 (k3 s1).1
      subst this
      simp only [Ef.app, frz_nil]
      cases nw with
      | none => exact .refl _
      | some p =>
        obtain ⟨rows, g⟩ := p
        simp only [placeA]
        have hne' : idi ≠ nid := by rw [n1]; have := oki.len; omega
        refine .of_pt fun id => .inl ?_
        by_cases h1 : id = idi
        · subst h1; rw [upd_same, upd_ne _ _ _ hne', upd_same]
        · rw [upd_ne _ _ _ h1]
          by_cases h2 : id = nid
          · subst h2; rw [upd_same, upd_same]
          · rw [upd_ne _ _ _ h2, upd_ne _ _ _ h2, upd_ne _ _ _ h1]
  | new fzi nidi nwi =>
    obtain ⟨m1, m2, m3, m4, m5⟩ := oki.new hi
    cases hj : r j with
    | all B => exact absurd (okj.kindAll (by rw [hj]; rfl)) k2
    | st idj aj =>
      obtain ⟨s1, s2, _⟩ := okj.store hj
      have := m3 (k4 s1).1
      subst this
      simp only [Ef.app, frz_nil]
      cases nwi with
      | none => exact .refl _
      | some p =>
        obtain ⟨rows, g⟩ := p
        simp only [placeA]
        have hne' : idj ≠ nidi := by rw [m1]; exact hne _ _ hj (by have := m4 (by simp); omega)
        refine .of_pt fun id => .inl ?_
        by_cases h1 : id = idj
        · subst h1; rw [upd_same, upd_ne _ _ _ hne', upd_same]
        · rw [upd_ne _ _ _ h1]
          by_cases h2 : id = nidi
          · subst h2; rw [upd_same, upd_same]
          · rw [upd_ne _ _ _ h2, upd_ne _ _ _ h2, upd_ne _ _ _ h1]
    | new fzj nidj nwj =>
      obtain ⟨n1, n2, n3, n4, n5⟩ := okj.new hj
      have hout : nidj ∉ fzi := fun hm => by have := m2 _ hm; have := oki.len; omega
      cases nwi with
      | none =>
        cases nwj with
        | none => simp only [Ef.app, placeA]; rw [frz_comm]; exact .refl _
        | some q =>
          obtain ⟨rj, gj⟩ := q
          simp only [Ef.app, placeA]
          refine .of_pt fun id => .inl ?_
          by_cases h2 : id = nidj
          · subst h2; rw [frz_out hout, upd_same, upd_same]
          · rw [upd_ne _ _ _ h2, frz_at, upd_ne _ _ _ h2, ← frz_at, frz_comm]
      | some p =>
        obtain ⟨ri, gi⟩ := p
        have hlt : nidi < (S j).length := by have := m4 (by simp); omega
        cases nwj with
        | none =>
          simp only [Ef.app, placeA]
          refine .of_pt fun id => ?_
          by_cases h2 : id = nidi
          · subst h2
            refine .inr ⟨⟨ri, gi, false⟩, fzj.contains id, by rw [upd_same], ?_, by simp⟩
            rw [frz_at, upd_same]
            simp only [Option.map_some]
            cases fzj.contains id <;> rfl
          · refine .inl ?_
            rw [upd_ne _ _ _ h2, frz_comm, frz_at, frz_at (upd _ _ _), upd_ne _ _ _ h2]
        | some q =>
          obtain ⟨rj, gj⟩ := q
          simp only [Ef.app, placeA]
          refine .of_pt fun id => ?_
          by_cases h1 : id = nidj
          · subst h1
            refine .inl ?_
            rw [upd_ne _ _ _ (by omega), frz_out hout, upd_same, upd_same]
          · rw [upd_ne _ nidj _ h1]
            by_cases h2 : id = nidi
            · subst h2
              refine .inr ⟨⟨ri, gi, false⟩, fzj.contains id, by rw [upd_same], ?_, by simp⟩
              rw [frz_at, upd_same]
              simp only [Option.map_some]
              cases fzj.contains id <;> rfl
            · refine .inl ?_
              rw [upd_ne _ _ _ h2, frz_at, upd_ne _ _ _ h1, ← frz_at, frz_comm, frz_at, frz_at (upd _ _ _), upd_ne _ _ _ h2]

theorem af_comm (hr : Run C ops e S r kd) {i : Nat} {oi : Oper} (hoi : ops[i]? = some oi) (hD : D i = false) (hD' : ∀ j, D' j = (D j || j == i)) (hs : ∀ j oj, i < j → D j = true → ops[j]? = some oj → swapOK ops (kd i) (kd j) oi oj = true)
    (hne : ∀ j, i < j → j < ops.size → D j = true → ∀ id a, r j = .st id a → (S i).length ≠ (S (i + 1)).length → id ≠ (S i).length) :
    ∀ j, i + 1 ≤ j → j ≤ ops.size → Le ((r i).app (af S r D j)) (af S r D' j) := by
  intro j hij
  induction hij with
  | refl =>
    intro _
    rw [af_succ, af_succ, hD, hD' i]
    simp only [Bool.false_eq_true, if_false, Bool.false_or, beq_self_eq_true, if_true]
    rw [af_agree (D := D) (D' := D') (i := i) (fun j hj => by rw [hD' j, beq_eq_false_iff_ne.2 (by omega), Bool.or_false]) i (Nat.le_refl _), hD]
    simp only [Bool.false_or, if_true]
    exact .refl _
  | step hij ih =>
    rename_i m
    intro hm
    have ho : ops[m]? = some ops[m] := Array.getElem?_eq_getElem (by omega)
    have hmi : i < m := hij
    have hDm : D' m = D m := by rw [hD' m, beq_eq_false_iff_ne.2 (by omega), Bool.or_false]
    rw [af_succ, af_succ, hDm]
    by_cases hd : D m = true
    · rw [if_pos hd, if_pos hd]
      exact (swap_app hr hmi hoi ho (hs m _ hmi hd ho) (hne m hmi (by omega) hd) _).trans ((ih (by omega)).app_mono _)
    · rw [if_neg hd, if_neg hd]
      exact ih (by omega)

theorem gf_agree {i : Nat} (h : ∀ j, j < i → D' j = D j) (t : Nat) : ∀ j, j ≤ i → gf ops e r D' j t = gf ops e r D j t := by
  intro j
  induction j with
  | zero => intro _; rfl
  | succ j ih => intro hj; rw [gf_succ, gf_succ, h j (by omega), ih (by omega)]
theorem gf_step {i : Nat} {oi : Oper} (hoi : ops[i]? = some oi) (hD : D i = false) (hD' : ∀ j, D' j = (D j || j == i)) (hall : (r i).isAll = false) (hr : Run C ops e S r kd)
    (hs : ∀ j oj, i < j → D j = true → ops[j]? = some oj → swapOK ops (kd i) (kd j) oi oj = true) (t : Nat) : ∀ j, i + 1 ≤ j → j ≤ ops.size → gf ops e r D' j t = if oi.dst = some t then get (e (i + 1)) t else gf ops e r D j t := by
  intro j hij
  induction hij with
  | refl =>
    intro _
    have hd : dstOf ops i = oi.dst := by unfold dstOf; rw [hoi]; rfl
    rw [gf_succ, gf_succ, hD, hD' i, hd, hall]
    simp only [Bool.false_eq_true, if_false, hD, Bool.false_or, beq_self_eq_true, if_true, false_or]
    rw [gf_agree (D := D) (D' := D') (i := i) (fun j hj => by rw [hD' j, beq_eq_false_iff_ne.2 (by omega), Bool.or_false]) t i (Nat.le_refl _)]
  | step hij ih =>
    rename_i m
    intro hm
    have ho : ops[m]? = some ops[m] := Array.getElem?_eq_getElem (by omega)
    have hmi : i < m := hij
    have hDm : D' m = D m := by rw [hD' m, beq_eq_false_iff_ne.2 (by omega), Bool.or_false]
    have hdm : dstOf ops m = ops[m].dst := by unfold dstOf; rw [ho]; rfl
    rw [gf_succ, gf_succ, hDm, hdm, ih (by omega)]
    by_cases hd : D m = true
    · rw [if_pos hd, if_pos hd]
      obtain ⟨hap, k1, k2, _⟩ := swapOK_spec (hs m _ hmi hd ho)
      have hna : (r m).isAll = false := by
        cases hq : (r m).isAll with
        | false => rfl
        | true => exact absurd ((hr.ok m _ ho).kindAll hq) k2
      obtain ⟨_, hdd, _⟩ := Oper.apart_spec hap
      by_cases h1 : ops[m].dst = some t
      · have hnot : ¬ oi.dst = some t := fun h => hdd t h h1
        simp [h1, hnot]
      · simp [hna, h1]
    · rw [if_neg hd, if_neg hd]

/-- No array of this number. -/
def Fresh (S : Nat → Store) (r : Nat → Ef) (N : Nat) (D : Nat → Bool) (μ : Mu) : Prop :=
  ∀ id, (S 0).length ≤ id → (∀ j, j < N → D j = true → ¬ ((S j).length ≤ id ∧ id < (S (j + 1)).length)) → μ id = none ∧ af S r D N id = none
theorem Fresh.undone (hr : Run C ops e S r kd) {μ : Mu} (h : Fresh S r ops.size D μ) {j : Nat} (hj : j < ops.size) (hD : D j = false) (hne : (S j).length ≠ (S (j + 1)).length) : μ (S j).length = none ∧ af S r D ops.size (S j).length = none := by
  refine h _ (hr.mono (Nat.zero_le _) (by omega)) fun k hk hDk hc => ?_
  have h0 := hr.mono (i := j) (j := j + 1) (by omega) (by omega)
  rcases Nat.lt_trichotomy k j with hkj | rfl | hkj
  · have := hr.mono (i := k + 1) (j := j) hkj (by omega); omega
  · rw [hD] at hDk; cases hDk
  · have := hr.mono (i := j + 1) (j := k) hkj (by omega); omega
/-- Between two lengths lies an operation that makes it. -/
theorem maker (hr : Run C ops e S r kd) {id : Nat} (h0 : (S 0).length ≤ id) : ∀ m, m ≤ ops.size → id < (S m).length → ∃ j, j < m ∧ (S j).length ≤ id ∧ id < (S (j + 1)).length := by
  intro m
  induction m with
  | zero => intro _ h; omega
  | succ m ih =>
    intro hm h
    by_cases hl : id < (S m).length
    · obtain ⟨j, h1, h2⟩ := ih (by omega) hl
      exact ⟨j, by omega, h2⟩
    · exact ⟨m, by omega, by omega, h⟩
end
end Go.Vs
end
