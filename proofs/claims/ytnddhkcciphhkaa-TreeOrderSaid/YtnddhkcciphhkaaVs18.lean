/- What the pure operations look at; the numbers that they give. -/
import Derived.Test.YtnddhkcciphhkaaVs17
set_option linter.unusedVariables false
set_option linter.unusedSimpArgs false
namespace Go.Vs
open Go

theorem fillAll_congr {fs : List (Nat × Nat × Bool)} {ρ σ : Operand → PV} : ∀ (parts : List (Nat × Operand)) (cs : List PV), (∀ p ∈ parts, ρ p.2 = σ p.2) → fillAll fs ρ cs parts = fillAll fs σ cs parts
  | [], cs, _ => rfl
  | (i, x) :: r, cs, h => by
    have h0 : ρ x = σ x := h (i, x) (by simp)
    simp only [fillAll, h0]
    split
    · split
      · exact fillAll_congr r _ fun p hp => h p (by simp [hp])
      · rfl
    · rfl

theorem ev1_congr {P : Program} {cp : CallP} {o : Oper} {e e' : Env} {S : Store} {nid : Nat} (h : ∀ x ∈ o.op.operands, ev e x = ev e' x) : ev1 P cp o e S nid = ev1 P cp o e' S nid := by
  obtain ⟨dst, op, type, pos, after, guard⟩ := o
  have parr : ∀ xs : Array Operand, (∀ x ∈ xs, ev e x = ev e' x) → xs.toList.map (ev e) = xs.toList.map (ev e') := fun xs hx => List.map_congr_left fun x hm => hx x (by simpa using hm)
  cases op <;> simp only [Op.operands] at h <;> simp only [ev1]
  case build t ps =>
    have : ∀ z, fillAll (match (tyi P t).d with | .struct fs => fs | _ => []) (ev e) z ps.toList = fillAll (match (tyi P t).d with | .struct fs => fs | _ => []) (ev e') z ps.toList := fun z => fillAll_congr _ _ fun p hp => h p.2 (by
      exact List.mem_toArray.2 (List.mem_map.2 ⟨p, hp, rfl⟩))
    split
    · rename_i fs hd
      rw [hd] at this
      simp only at this
      simp only [this]
    · rfl
  case buildSlice t n ps =>
    have : (ps.toList.map fun (_, x) => (ev e x).cells) = ps.toList.map fun (_, x) => (ev e' x).cells := List.map_congr_left fun p hp => by
      obtain ⟨i, x⟩ := p
      simp only [h x (List.mem_toArray.2 (List.mem_map.2 ⟨(i, x), hp, rfl⟩))]
    simp only [this]
  case makeFunc fn first captured =>
    cases fn <;> simp only
    rw [parr first fun x hx => h x (by simp [hx]), parr captured fun x hx => h x (by simp [hx])]
  case call c =>
    have ha : c.args.toList.map (ev e) = c.args.toList.map (ev e') := parr c.args fun x hx => h x (by simp [Call.operands, hx])
    cases hc : c.callee with
    | invoke r m => rfl
    | value f =>
      have hf : ev e f = ev e' f := h f (by simp [Call.operands, hc])
      simp only [ha, hf]
    | builtin b =>
      cases b <;> simp only [ha]
      case len =>
        have : ∀ x, c.args[0]? = some x → ev e x = ev e' x := fun x hx => h x (by
          have := Array.mem_of_getElem? hx
          simp [Call.operands, this])
        split
        · rename_i t x ht hx; rw [this x hx]
        · rfl
      case append =>
        split
        · rename_i t u x y ht hu hargs
          have hy : ev e y = ev e' y := h y (by
            have : y ∈ c.args := by rw [← Array.mem_toList_iff, hargs]; simp
            simp [Call.operands, this])
          have hx : ev e x = ev e' x := h x (by
            have : x ∈ c.args := by rw [← Array.mem_toList_iff, hargs]; simp
            simp [Call.operands, this])
          rw [hy, hx]
        · rfl
  case slice t x lo hi mx => cases lo <;> cases hi <;> cases mx <;> simp_all
  all_goals (first | rfl | (simp_all; done) | (simp_all <;> rfl))

/-- An operation that is not one that reads. -/
theorem ev1_noS {P : Program} {H : Hints} {cp : CallP} {o : Oper} {e : Env} {S S' : Store} {nid : Nat} (he : isEff H o e = false) (hk : kind H o e ≠ 1) : ev1 P cp o e S nid = ev1 P cp o e S' nid := by
  obtain ⟨dst, op, type, pos, after, guard⟩ := o
  unfold kind at hk
  rw [he] at hk
  cases op
  case makeFunc fn x y => cases fn <;> simp [ev1]
  all_goals (simp at hk; try simp [ev1, boxed])
theorem ev1_nid {P : Program} {cp : CallP} {o : Oper} {e : Env} {S : Store} {nid nid' : Nat} {out : Out} (h : ev1 P cp o e S nid = some out) (hn : out.new = none) : ev1 P cp o e S nid' = some out := by
  obtain ⟨dst, op, type, pos, after, guard⟩ := o
  cases op
  case makeFunc fn x y => cases fn <;> simp only [ev1] at h ⊢ <;> exact h
  all_goals (simp only [ev1, reduceCtorEq] at h ⊢; try exact h)
  case alloc t =>
    obtain ⟨z, _, h⟩ := bind_some h
    split at h <;> cases h
    cases hn
  case box t x =>
    unfold boxed at h
    split at h <;> cases h
    cases hn
  case buildSlice t n ps =>
    split at h <;> try cases h
    split at h <;> cases h
    cases hn
  case makeSlice t l c =>
    split at h <;> try cases h
    obtain ⟨z, _, h⟩ := bind_some h
    split at h <;> cases h
    cases hn
  case call c =>
    cases hc : c.callee with
    | invoke r m => rw [hc] at h; cases h
    | value f => rw [hc] at h; exact h
    | builtin b =>
      rw [hc] at h
      cases b <;> simp only [reduceCtorEq] at h ⊢ <;> try exact h
      split at h <;> try cases h
      split at h <;> try cases h
      split at h <;> try cases h
      unfold evAppendNew at h ⊢
      split at h
      · rename_i hex
        rw [if_pos hex]
        obtain ⟨rows, h1, h⟩ := bind_some h
        rw [h1]
        simp only [Option.bind_some]
        obtain ⟨new, h2, h⟩ := bind_some h
        rw [h2]
        simp only [Option.bind_some]
        split at h
        · rename_i hc
          rw [if_pos hc]
          split at h
          · rename_i h0
            rw [if_pos h0]
            split at h
            · cases h; cases hn
            · rename_i h3; rw [if_neg h3]; simp_all
          · cases h; cases hn
        · cases h
      · cases h
theorem ev1_facts {P : Program} {H : Hints} {cp : CallP} {o : Oper} {e : Env} {S : Store} {nid : Nat} {out : Out} (he : isEff H o e = false) (h : ev1 P cp o e S nid = some out) :
    (∀ i ∈ out.fz, i < S.length) ∧ (kind H o e ≠ 1 → out.fz = []) ∧ (kind H o e = 0 → out.new = none) ∧ (kind H o e = 0 ∨ kind H o e = 1 ∨ kind H o e = 2) := by
  have hk : kind H o e = 0 ∨ kind H o e = 1 ∨ kind H o e = 2 := by
    unfold kind
    rw [he]
    simp only [Bool.false_eq_true, if_false]
    split <;> simp
  obtain ⟨dst, op, type, pos, after, guard⟩ := o
  suffices hs : (∀ i ∈ out.fz, i < S.length) ∧ (kind H ⟨dst, op, type, pos, after, guard⟩ e ≠ 1 → out.fz = []) ∧ (kind H ⟨dst, op, type, pos, after, guard⟩ e = 0 → out.new = none) from ⟨hs.1, hs.2.1, hs.2.2, hk⟩
  have k2 : ∀ {k : Nat}, kind H ⟨dst, op, type, pos, after, guard⟩ e = k → k ≠ 0 → (kind H ⟨dst, op, type, pos, after, guard⟩ e = 0 → out.new = none) := fun h1 h2 h3 => absurd (h1.symm.trans h3) h2
  have val : ∀ v, out = { v := v } → (∀ i ∈ out.fz, i < S.length) ∧ (kind H ⟨dst, op, type, pos, after, guard⟩ e ≠ 1 → out.fz = []) ∧ (kind H ⟨dst, op, type, pos, after, guard⟩ e = 0 → out.new = none) := fun v hv => by subst hv; simp
  have mp : ∀ {x : Option PV}, (x.map fun v => ({ v } : Out)) = some out → (∀ i ∈ out.fz, i < S.length) ∧ (kind H ⟨dst, op, type, pos, after, guard⟩ e ≠ 1 → out.fz = []) ∧ (kind H ⟨dst, op, type, pos, after, guard⟩ e = 0 → out.new = none) := fun h => by
    obtain ⟨v, _, rfl⟩ := map_some h
    exact val v rfl
  cases op <;> simp only [ev1, reduceCtorEq, Option.some.injEq] at h
  case move x => exact val _ h.symm
  case assign x => exact val _ h.symm
  case pick c x y =>
    split at h
    · cases h; exact val _ rfl
    · cases h
  case alloc t =>
    obtain ⟨z, _, h⟩ := bind_some h
    split at h <;> cases h
    simp [kind, he]
  case box t x =>
    unfold boxed at h
    split at h <;> cases h
    simp [kind, he]
  case build t ps =>
    split at h <;> try cases h
    obtain ⟨z, _, h⟩ := bind_some h
    split at h
    · obtain ⟨v, _, rfl⟩ := map_some h; simp
    · cases h
  case buildSlice t n ps =>
    split at h <;> try cases h
    split at h <;> cases h
    simp [kind, he]
  case load t x => exact mp h
  case nilCheck x =>
    split at h <;> first | cases h | skip
    all_goals exact val _ rfl
  case binOp op t x y c => exact mp h
  case unOp op t x => exact mp h
  case convert s d x =>
    split at h
    · exact mp h
    · cases h
  case makeFunc fn first caps =>
    cases fn <;> simp only [reduceCtorEq, Option.some.injEq] at h
    exact val _ h.symm
  case makeSlice t l c =>
    split at h <;> try cases h
    obtain ⟨z, _, h⟩ := bind_some h
    split at h <;> cases h
    simp [kind, he]
  case slice t x lo hi mx =>
    split at h
    · cases h
    · exact mp h
  case fieldAddr t x f => exact mp h
  case field t x f => exact mp h
  case indexAddr t x i =>
    split at h
    · exact mp h
    · cases h
  case index t x i =>
    split at h
    · split at h
      · exact mp h
      · cases h
    · exact mp h
    · cases h
  case extract x i =>
    split at h
    · exact mp h
    · cases h
  case call c =>
    have k1 : kind H ⟨dst, .call c, type, pos, after, guard⟩ e = 1 := by simp [kind, he]
    rw [k1]
    simp only [ne_eq, not_true_eq_false, false_implies, true_and, and_true, Nat.one_ne_zero]
    cases hc : c.callee with
    | invoke r m => rw [hc] at h; cases h
    | value f =>
      rw [hc] at h
      simp only at h
      split at h
      · split at h
        · rename_i ha
          obtain ⟨args, _, h⟩ := bind_some h
          obtain ⟨v, _, rfl⟩ := map_some h
          intro i hi
          rw [List.all_eq_true] at ha
          simpa using ha i hi
        · cases h
      · cases h
    | builtin b =>
      rw [hc] at h
      cases b <;> simp only [reduceCtorEq] at h
      case len =>
        split at h
        · exact (mp h).1
        · cases h
      case max =>
        split at h <;> cases h
        simp
      case min =>
        split at h <;> cases h
        simp
      case append =>
        split at h <;> try cases h
        split at h <;> try cases h
        split at h <;> try cases h
        unfold evAppendNew at h
        split at h
        · obtain ⟨rows, _, h⟩ := bind_some h
          obtain ⟨new, _, h⟩ := bind_some h
          split at h
          · split at h
            · split at h <;> (cases h; simp)
            · cases h; simp
          · cases h
        · cases h

theorem ev2_length {C : Ctx} {o : Oper} {e : Env} {S : Store} {r : Eff} (h : ev2 C o e S = some r) : S.length ≤ r.S.length := by
  obtain ⟨dst, op, type, pos, after, guard⟩ := o
  cases op <;> simp only [ev2, reduceCtorEq] at h
  case store t x y =>
    split at h
    · obtain ⟨S', h1, rfl⟩ := map_some h
      unfold evStore at h1
      split at h1
      · split at h1
        · split at h1
          · cases h1; simp
          · cases h1
        · cases h1
      · cases h1
    · cases h
  case call c =>
    cases hc : c.callee with
    | invoke r m => rw [hc] at h; cases h
    | value f =>
      rw [hc] at h
      simp only at h
      split at h
      · split at h
        · obtain ⟨⟨v, S'⟩, _, h⟩ := bind_some h
          simp only at h
          split at h
          · cases h; assumption
          · cases h
        · obtain ⟨args, _, h⟩ := bind_some h
          obtain ⟨v, _, rfl⟩ := map_some h
          rw [length_freezeAll]
          exact Nat.le_refl _
      · cases h
    | builtin b =>
      rw [hc] at h
      cases b <;> simp only [reduceCtorEq] at h
      case append =>
        split at h <;> try cases h
        split at h <;> try cases h
        split at h <;> try cases h
        unfold evAppend at h
        split at h
        case h_2 => cases h
        rename_i heq
        rw [heq] at h
        split at h
        · obtain ⟨rows, g, _, _, _, f4, _⟩ := append1_facts h
          rw [f4]; exact Nat.le_refl _
        · obtain ⟨out1, h1, rfl⟩ := map_some h
          obtain ⟨rows, g, _, _, _, f4, _⟩ := append1_facts h1
          simp [renewed, f4]
      case copy =>
        split at h <;> try cases h
        split at h <;> try cases h
        split at h <;> try cases h
        unfold evCopy at h
        split at h
        · split at h
          · obtain ⟨new, _, h⟩ := bind_some h
            split at h
            · cases h; simp
            · cases h
          · cases h
        · cases h
end Go.Vs
