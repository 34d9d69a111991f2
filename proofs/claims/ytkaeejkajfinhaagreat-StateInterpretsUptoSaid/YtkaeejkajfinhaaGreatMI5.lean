
import Derived.Test.YtkaeejkajfinhaaGreatMI4
section
set_option linter.unusedVariables false
set_option linter.unusedSimpArgs false
namespace Go.Vs
open Go
theorem fillAll_congr {fs : List (Nat × Nat × Bool)} {ρ σ : Operand → PV} : ∀ (parts : List (Nat × Operand)) (cs : List PV), (∀ p ∈ parts, ρ p.2 = σ p.2) → fillAll fs ρ cs parts = fillAll fs σ cs parts
  | [], cs, _ => rfl
  | (i, x) :: r, cs, h => by
    have h0 : ρ x = σ x := h (i, x) (by simp)
    simp only [fillAll, h0]
    split
    · split
      · exact fillAll_congr r _ fun p hp => h p (by simp [hp])
      · rfl
    · rfl
theorem ev1_congr {P : Program} {cp : CallP} {o : Oper} {e e' : Env} {S : Store} {nid : Nat} (h : ∀ x ∈ o.op.operands, ev e x = ev e' x) : ev1 P cp o e S nid = ev1 P cp o e' S nid := by
  obtain ⟨dst, op, type, pos, after, guard⟩ := o
  have parr : ∀ xs : Array Operand, (∀ x ∈ xs, ev e x = ev e' x) → xs.toList.map (ev e) = xs.toList.map (ev e') := fun xs hx => List.map_congr_left fun x hm => hx x (by simpa using hm)
  cases op <;> simp only [Op.operands] at h <;> simp only [ev1]
  case build t ps =>
    have : ∀ z, fillAll (match (tyi P t).d with | .struct fs => fs | _ => []) (ev e) z ps.toList = fillAll (match (tyi P t).d with | .struct fs => fs | _ => []) (ev e') z ps.toList := fun z => fillAll_congr _ _ fun p hp => h p.2 (by
      exact List.mem_toArray.2 (List.mem_map.2 ⟨p, hp, rfl⟩))
    split
    · rename_i fs hd
      rw [hd] at this
      simp only at this
      simp only [this]
    · rfl
  case buildSlice t n ps =>
    have : (ps.toList.map fun (_, x) => (ev e x).cells) = ps.toList.map fun (_, x) => (ev e' x).cells := List.map_congr_left fun p hp => by
      obtain ⟨i, x⟩ := p
      simp only [h x (List.mem_toArray.2 (List.mem_map.2 ⟨(i, x), hp, rfl⟩))]
    simp only [this]
  case makeFunc fn first captured =>
    cases fn <;> simp only
    rw [parr first fun x hx => h x (by simp [hx]), parr captured fun x hx => h x (by simp [hx])]
  case call c =>
    have ha : c.args.toList.map (ev e) = c.args.toList.map (ev e') := parr c.args fun x hx => h x (by simp [Call.operands, hx])
    cases hc : c.callee with
    | invoke r m => rfl
    | value f =>
      have hf : ev e f = ev e' f := h f (by simp [Call.operands, hc])
      simp only [ha, hf]
    | builtin b =>
      cases b <;> simp only [ha]
      case len =>
        have : ∀ x, c.args[0]? = some x → ev e x = ev e' x := fun x hx => h x (by
          have := Array.mem_of_getElem? hx
          simp [Call.operands, this])
        split
        · rename_i t x ht hx; rw [this x hx]
        · rfl
      case append =>
        split
        · rename_i t u x y ht hu hargs
          have hy : ev e y = ev e' y := h y (by
            have : y ∈ c.args := by rw [← Array.mem_toList_iff, hargs]; simp
            simp [Call.operands, this])
          have hx : ev e x = ev e' x := h x (by
            have : x ∈ c.args := by rw [← Array.mem_toList_iff, hargs]; simp
            simp [Call.operands, this])
          rw [hy, hx]
        · rfl
  case slice t x lo hi mx => cases lo <;> cases hi <;> cases mx <;> simp_all
  all_goals (first | rfl | (simp_all; done) | (simp_all <;> rfl))
theorem ev1_noS {P : Program} {H : Hints} {cp : CallP} {o : Oper} {e : Env} {S S' : Store} {nid : Nat} (he : isEff H o e = false) (hk : kind H o e ≠ 1) : ev1 P cp o e S nid = ev1 P cp o e S' nid := by
  obtain ⟨dst, op, type, pos, after, guard⟩ := o
  unfold kind at hk
  rw [he] at hk
  cases op
  case makeFunc fn x y => cases fn <;> simp [ev1]
  all_goals (simp at hk; try simp [ev1, boxed])
theorem ev1_nid {P : Program} {cp : CallP} {o : Oper} {e : Env} {S : Store} {nid nid' : Nat} {out : Out} (h : ev1 P cp o e S nid = some out) (hn : out.new = none) : ev1 P cp o e S nid' = some out := by
  obtain ⟨dst, op, type, pos, after, guard⟩ := o
  cases op
  case makeFunc fn x y => cases fn <;> simp only [ev1] at h ⊢ <;> exact h
  all_goals (simp only [ev1, reduceCtorEq] at h ⊢; try exact h)
  case alloc t =>
    obtain ⟨z, _, h⟩ := bind_some h
    split at h <;> cases h
    cases hn
  case box t x =>
    unfold boxed at h
    split at h <;> cases h
    cases hn
  case buildSlice t n ps =>
    split at h <;> try cases h
    split at h <;> cases h
    cases hn
  case makeSlice t l c =>
    split at h <;> try cases h
    obtain ⟨z, _, h⟩ := bind_some h
    split at h <;> cases h
    cases hn
  case call c =>
    cases hc : c.callee with
    | invoke r m => rw [hc] at h; cases h
    | value f => rw [hc] at h; exact h
    | builtin b =>
      rw [hc] at h
      cases b <;> simp only [reduceCtorEq] at h ⊢ <;> try exact h
      split at h <;> try cases h
      split at h <;> try cases h
      split at h <;> try cases h
      unfold evAppendNew at h ⊢
      split at h
      · rename_i hex
        rw [if_pos hex]
        obtain ⟨rows, h1, h⟩ := bind_some h
        rw [h1]
        simp only [Option.bind_some]
        obtain ⟨new, h2, h⟩ := bind_some h
        rw [h2]
        simp only [Option.bind_some]
        split at h
        · rename_i hc
          rw [if_pos hc]
          split at h
          · rename_i h0
            rw [if_pos h0]
            split at h
            · cases h; cases hn
            · rename_i h3; rw [if_neg h3]; simp_all
          · cases h; cases hn
        · cases h
      · cases h
theorem ev1_facts {P : Program} {H : Hints} {cp : CallP} {o : Oper} {e : Env} {S : Store} {nid : Nat} {out : Out} (he : isEff H o e = false) (h : ev1 P cp o e S nid = some out) :
    (∀ i ∈ out.fz, i < S.length) ∧ (kind H o e ≠ 1 → out.fz = []) ∧ (kind H o e = 0 → out.new = none) ∧ (kind H o e = 0 ∨ kind H o e = 1 ∨ kind H o e = 2) := by
  have hk : kind H o e = 0 ∨ kind H o e = 1 ∨ kind H o e = 2 := by
    unfold kind
    rw [he]
    simp only [Bool.false_eq_true, if_false]
    split <;> simp
  obtain ⟨dst, op, type, pos, after, guard⟩ := o
  suffices hs : (∀ i ∈ out.fz, i < S.length) ∧ (kind H ⟨dst, op, type, pos, after, guard⟩ e ≠ 1 → out.fz = []) ∧ (kind H ⟨dst, op, type, pos, after, guard⟩ e = 0 → out.new = none) from ⟨hs.1, hs.2.1, hs.2.2, hk⟩
  have k2 : ∀ {k : Nat}, kind H ⟨dst, op, type, pos, after, guard⟩ e = k → k ≠ 0 → (kind H ⟨dst, op, type, pos, after, guard⟩ e = 0 → out.new = none) := fun h1 h2 h3 => absurd (h1.symm.trans h3) h2
  have val : ∀ v, out = { v := v } → (∀ i ∈ out.fz, i < S.length) ∧ (kind H ⟨dst, op, type, pos, after, guard⟩ e ≠ 1 → out.fz = []) ∧ (kind H ⟨dst, op, type, pos, after, guard⟩ e = 0 → out.new = none) := fun v hv => by subst hv; simp
  have mp : ∀ {x : Option PV}, (x.map fun v => ({ v } : Out)) = some out → (∀ i ∈ out.fz, i < S.length) ∧ (kind H ⟨dst, op, type, pos, after, guard⟩ e ≠ 1 → out.fz = []) ∧ (kind H ⟨dst, op, type, pos, after, guard⟩ e = 0 → out.new = none) := fun h => by
    obtain ⟨v, _, rfl⟩ := map_some h
    exact val v rfl
  cases op <;> simp only [ev1, reduceCtorEq, Option.some.injEq] at h
  case move x => exact val _ h.symm
  case assign x => exact val _ h.symm
  case pick c x y =>
    split at h
    · cases h; exact val _ rfl
    · cases h
  case alloc t =>
    obtain ⟨z, _, h⟩ := bind_some h
    split at h <;> cases h
    simp [kind, he]
  case box t x =>
    unfold boxed at h
    split at h <;> cases h
    simp [kind, he]
  case build t ps =>
    split at h <;> try cases h
    obtain ⟨z, _, h⟩ := bind_some h
    split at h
    · obtain ⟨v, _, rfl⟩ := map_some h; simp
    · cases h
  case buildSlice t n ps =>
    split at h <;> try cases h
    split at h <;> cases h
    simp [kind, he]
  case load t x => exact mp h
  case nilCheck x =>
    split at h <;> first | cases h | skip
    all_goals exact val _ rfl
  case binOp op t x y c => exact mp h
  case unOp op t x => exact mp h
  case convert s d x =>
    split at h
    · exact mp h
    · cases h
  case makeFunc fn first caps =>
    cases fn <;> simp only [reduceCtorEq, Option.some.injEq] at h
    exact val _ h.symm
  case makeSlice t l c =>
    split at h <;> try cases h
    obtain ⟨z, _, h⟩ := bind_some h
    split at h <;> cases h
    simp [kind, he]
  case slice t x lo hi mx =>
    split at h
    · cases h
    · exact mp h
  case fieldAddr t x f => exact mp h
  case field t x f => exact mp h
  case indexAddr t x i =>
    split at h
    · exact mp h
    · cases h
  case index t x i =>
    split at h
    · split at h
      · exact mp h
      · cases h
    · exact mp h
    · cases h
  case extract x i =>
    split at h
    · exact mp h
    · cases h
  case call c =>
    have k1 : kind H ⟨dst, .call c, type, pos, after, guard⟩ e = 1 := by simp [kind, he]
    rw [k1]
    simp only [ne_eq, not_true_eq_false, false_implies, true_and, and_true, Nat.one_ne_zero]
    cases hc : c.callee with
    | invoke r m => rw [hc] at h; cases h
    | value f =>
      rw [hc] at h
      simp only at h
      split at h
      · split at h
        · rename_i ha
          obtain ⟨args, _, h⟩ := bind_some h
          obtain ⟨v, _, rfl⟩ := map_some h
          intro i hi
          rw [List.all_eq_true] at ha
          simpa using ha i hi
        · cases h
      · cases h
    | builtin b =>
      rw [hc] at h
      cases b <;> simp only [reduceCtorEq] at h
      case len =>
        split at h
        · exact (mp h).1
        · cases h
      case max =>
        split at h <;> cases h
        simp
      case min =>
        split at h <;> cases h
        simp
      case append =>
        split at h <;> try cases h
        split at h <;> try cases h
        split at h <;> try cases h
        unfold evAppendNew at h
        split at h
        · obtain ⟨rows, _, h⟩ := bind_some h
          obtain ⟨new, _, h⟩ := bind_some h
          split at h
          · split at h
            · split at h <;> (cases h; simp)
            · cases h; simp
          · cases h
        · cases h
theorem ev2_length {C : Ctx} {o : Oper} {e : Env} {S : Store} {r : Eff} (h : ev2 C o e S = some r) : S.length ≤ r.S.length := by
  obtain ⟨dst, op, type, pos, after, guard⟩ := o
  cases op <;> simp only [ev2, reduceCtorEq] at h
  case store t x y =>
    split at h
    · obtain ⟨S', h1, rfl⟩ := map_some h
      unfold evStore at h1
      split at h1
      · split at h1
        · split at h1
          · cases h1; simp
          · cases h1
        · cases h1
      · cases h1
    · cases h
  case call c =>
    cases hc : c.callee with
    | invoke r m => rw [hc] at h; cases h
    | value f =>
      rw [hc] at h
      simp only at h
      split at h
      · split at h
        · obtain ⟨⟨v, S'⟩, _, h⟩ := bind_some h
          simp only at h
          split at h
          · rename_i hle; cases h; exact hle.1
          · cases h
        · obtain ⟨args, _, h⟩ := bind_some h
          obtain ⟨v, _, rfl⟩ := map_some h
          rw [length_freezeAll]
          exact Nat.le_refl _
      · cases h
    | builtin b =>
      rw [hc] at h
      cases b <;> simp only [reduceCtorEq] at h
      case append =>
        split at h <;> try cases h
        split at h <;> try cases h
        split at h <;> try cases h
        unfold evAppend at h
        split at h
        case h_2 => cases h
        rename_i heq
        rw [heq] at h
        split at h
        · obtain ⟨rows, g, _, _, _, f4, _⟩ := append1_facts h
          rw [f4]; exact Nat.le_refl _
        · obtain ⟨out1, h1, rfl⟩ := map_some h
          obtain ⟨rows, g, _, _, _, f4, _⟩ := append1_facts h1
          simp [renewed, f4]
      case copy =>
        split at h <;> try cases h
        split at h <;> try cases h
        split at h <;> try cases h
        unfold evCopy at h
        split at h
        · split at h
          · obtain ⟨new, _, h⟩ := bind_some h
            split at h
            · cases h; simp
            · cases h
          · cases h
        · cases h
end Go.Vs
end
section
set_option linter.unusedVariables false
set_option linter.unusedSimpArgs false
namespace Go.Vs
open Go
section
variable {P : Program} {w : World} {X : Nat → Prop} {A : Arrs} {n : Nat} {μ : Mu} {S : Store}
def ClosedA (S : Store) : Prop := ∀ id a, arrs S id = some a → ∀ i ∈ rowsRefs a.rows, i < S.length
theorem closedS_spec (h : closedS S = true) : ClosedA S := by
  intro id a ha i hi
  unfold arrs at ha
  split at ha
  · rename_i rows g f hq
    cases ha
    have := List.all_eq_true.1 h _ (List.mem_of_getElem? hq)
    simp only at this
    exact of_decide_eq_true (List.all_eq_true.1 this i hi)
  · cases ha
def over (lo : Nat) (B : Store) (A : Arrs) : Arrs := fun id => if lo ≤ id ∧ id < B.length then arrs B id else A id
def overMu (m : Nat) (μ' μ : Mu) : Mu := fun id => if id < m then μ' id else μ id
def loMu (m : Nat) (μ : Mu) : Mu := fun id => if id < m then μ id else none
def loX (X : Nat → Prop) (A : Arrs) (μ : Mu) (m : Nat) (b : Nat) : Prop := X b ∨ ∃ id a k, m ≤ id ∧ A id = some a ∧ a.f = false ∧ μ id = some k ∧ k.b = b
theorem arrs_lt {S : Store} {id : Nat} {a : Arr} (h : arrs S id = some a) : id < S.length := by
  unfold arrs at h
  split at h
  · rename_i hq; exact (List.getElem?_eq_some_iff.1 hq).1
  · cases h
theorem loAv (h1 : ∀ id, id < S.length → A id = arrs S id) {b : Nat} (h : Av (loX X A μ S.length) (arrs S) (loMu S.length μ) b) : Av X A μ b := by
  rcases h with h | ⟨id, rows, g, k, q1, q2, q3⟩
  · rcases h with h | ⟨id, a, k, q0, q1, q2, q3, q4⟩
    · exact .inl h
    · obtain ⟨rows, g, f⟩ := a
      simp only at q2
      subst q2
      exact .inr ⟨id, rows, g, k, q1, q3, q4⟩
  · have hlt := arrs_lt q1
    simp only [loMu, if_pos hlt] at q2
    exact .inr ⟨id, rows, g, k, by rw [h1 id hlt]; exact q1, q2, q3⟩
theorem SR.lo (hS : SR w X A n μ) (h1 : ∀ id, id < S.length → A id = arrs S id) (hc : ClosedA S) : SR w (loX X A μ S.length) (arrs S) S.length (loMu S.length μ) where
  lt := fun id hid => ⟨by simp only [loMu]; rw [if_neg (by omega)], by
    unfold arrs
    rw [List.getElem?_eq_none hid]⟩
  blk := fun id a ha b hb => by
    have hlt := arrs_lt ha
    simp only [loMu, if_pos hlt] at hb
    obtain ⟨c, el, k0, k1, k2, k3, k4⟩ := hS.blk id a (by rw [h1 id hlt]; exact ha) b hb
    refine ⟨c, el, k0, k1, k2, k3, fun i row j pv hi hj => ?_⟩
    obtain ⟨v, q1, q2, q3⟩ := k4 i row j pv hi hj
    refine ⟨v, q1, q2, q3.mono (Keeps.less fun b hb => loAv h1 hb) fun x hx b hb => ?_⟩
    have := hc id a ha x (by
      simp only [rowsRefs, List.mem_flatMap]
      exact ⟨row, List.mem_of_getElem? hi, mem_refsL hj hx⟩)
    simp only [loMu, if_pos this]
    exact hb
  nob := fun id a ha hn => by
    have hlt := arrs_lt ha
    simp only [loMu, if_pos hlt] at hn
    exact hS.nob id a (by rw [h1 id hlt]; exact ha) hn
  gsz := fun id a ha => by
    have hlt := arrs_lt ha
    have := hS.gsz id a (by rw [h1 id hlt]; exact ha)
    simp only [loMu, if_pos hlt]
    exact this
  inj := fun id id' a a' b b' ha ha' hb hb' he => by
    have hlt := arrs_lt ha
    have hlt' := arrs_lt ha'
    simp only [loMu, if_pos hlt] at hb
    simp only [loMu, if_pos hlt'] at hb'
    exact hS.inj id id' a a' b b' (by rw [h1 id hlt]; exact ha) (by rw [h1 id' hlt']; exact ha') hb hb' he
  out := fun id a b ha hb hx => by
    have hlt := arrs_lt ha
    simp only [loMu, if_pos hlt] at hb
    have ha' : A id = some a := by rw [h1 id hlt]; exact ha
    rcases hx with hx | ⟨id', a', k, q0, q1, q2, q3, q4⟩
    · exact hS.out id a b ha' hb hx
    · have := hS.inj id' id a' a k b q1 ha' q3 hb q4
      omega
  xlt := fun b hb => by
    rcases hb with hb | ⟨id, a, k, q0, q1, q2, q3, q4⟩
    · exact hS.xlt b hb
    · obtain ⟨c, el, hh, _⟩ := hS.blk id a q1 k q3
      rw [← q4]
      exact (Array.getElem?_eq_some_iff.1 hh).1
section
variable {w' : World} {S' : Store} {μ' : Mu}
theorem hiAv (h1 : ∀ id, id < S.length → A id = arrs S id) (hl : S.length ≤ S'.length) (h3 : ∀ id a, S'.length ≤ id → A id = some a → a.f = false) {b : Nat} (h : Av X (over 0 S' A) (overMu S'.length μ' μ) b) : Av (loX X A μ S.length) (arrs S') μ' b := by
  rcases h with h | ⟨id, rows, g, k, q1, q2, q3⟩
  · exact .inl (.inl h)
  · by_cases hlt : id < S'.length
    · simp only [over, Nat.zero_le, true_and, if_pos hlt] at q1
      simp only [overMu, if_pos hlt] at q2
      exact .inr ⟨id, rows, g, k, q1, q2, q3⟩
    · simp only [over, Nat.zero_le, true_and, if_neg hlt] at q1
      simp only [overMu, if_neg hlt] at q2
      exact .inl (.inr ⟨id, _, k, by omega, q1, rfl, q2, q3⟩)
theorem SR.hi (hS : SR w X A n μ) (h1 : ∀ id, id < S.length → A id = arrs S id) (hl : S.length ≤ S'.length) (h2 : ∀ id, S.length ≤ id → id < S'.length → A id = none ∧ μ id = none) (h3 : ∀ id a, S'.length ≤ id → A id = some a → a.f = false)
    (k1 : SR w' (loX X A μ S.length) (arrs S') S'.length μ') (k2 : Tr S.length w (arrs S) (loMu S.length μ) w' (arrs S') μ') {base : Nat} (hb : base ≤ S.length) :
    SR w' X (over 0 S' A) (max n S'.length) (overMu S'.length μ' μ) ∧ Tr base w A μ w' (over 0 S' A) (overMu S'.length μ' μ) ∧
    (∀ pv v, VR w (Av X A μ) μ pv v → VR w' (Av X (over 0 S' A) (overMu S'.length μ' μ)) (overMu S'.length μ' μ) pv v) ∧
    (∀ pv v, VR w' (Av (loX X A μ S.length) (arrs S') μ') μ' pv v → VR w' (Av X (over 0 S' A) (overMu S'.length μ' μ)) (overMu S'.length μ' μ) pv v) := by
  have oA : ∀ {id}, id < S'.length → over 0 S' A id = arrs S' id := fun {id} h => by simp only [over, Nat.zero_le, true_and, if_pos h]
  have oB : ∀ {id}, ¬ id < S'.length → over 0 S' A id = A id := fun {id} h => by simp only [over, Nat.zero_le, true_and, if_neg h]
  have mA : ∀ {id}, id < S'.length → overMu S'.length μ' μ id = μ' id := fun {id} h => by simp only [overMu, if_pos h]
  have mB : ∀ {id}, ¬ id < S'.length → overMu S'.length μ' μ id = μ id := fun {id} h => by simp only [overMu, if_neg h]
  have av1 : ∀ b, Av (loX X A μ S.length) (arrs S) (loMu S.length μ) b → Av X A μ b := fun b h => loAv h1 h
  have av2 : ∀ b, Av X (over 0 S' A) (overMu S'.length μ' μ) b → Av (loX X A μ S.length) (arrs S') μ' b := fun b h => hiAv h1 hl h3 h
  have kp : Keeps w (Av X A μ) w' (Av X (over 0 S' A) (overMu S'.length μ' μ)) := fun a u q1 q2 => by
    obtain ⟨r1, r2⟩ := k2.keeps (X := loX X A μ S.length) a u q1 fun h => q2 (av1 _ h)
    exact ⟨r1, fun h => r2 (av2 _ h)⟩
  have muk : ∀ i b, μ i = some b → overMu S'.length μ' μ i = some b := fun i b h => by
    by_cases hi : i < S.length
    · rw [mA (by omega), k2.mu i hi]
      simp only [loMu, if_pos hi]; exact h
    · by_cases hi2 : i < S'.length
      · rw [(h2 i (by omega) hi2).2] at h; cases h
      · rw [mB hi2]; exact h
  have muk' : ∀ i b, μ' i = some b → overMu S'.length μ' μ i = some b := fun i b h => by
    by_cases hi2 : i < S'.length
    · rw [mA hi2]; exact h
    · rw [(k1.lt i (by omega)).1] at h; cases h
  have vr1 : ∀ pv v, VR w (Av X A μ) μ pv v → VR w' (Av X (over 0 S' A) (overMu S'.length μ' μ)) (overMu S'.length μ' μ) pv v := fun pv v h => h.mono kp fun i _ b hb => muk i b hb
  have vr2 : ∀ pv v, VR w' (Av (loX X A μ S.length) (arrs S') μ') μ' pv v → VR w' (Av X (over 0 S' A) (overMu S'.length μ' μ)) (overMu S'.length μ' μ) pv v := fun pv v h => h.mono (Keeps.less av2) fun i _ b hb => muk' i b hb
  have stay : ∀ id a b, S'.length ≤ id → A id = some a → μ id = some b → b.b < w.heap.size ∧ w'.heap[b.b]? = w.heap[b.b]? ∧ loX X A μ S.length b.b := fun id a b hid ha hbm => by
    obtain ⟨c, el, hh, _⟩ := hS.blk id a ha b hbm
    have hlt := (Array.getElem?_eq_some_iff.1 hh).1
    refine ⟨hlt, k2.keep _ hlt ?_, .inr ⟨id, a, b, by omega, ha, h3 id a hid ha, hbm, rfl⟩⟩
    rintro ⟨id', rows, g, k, q1, q2, q3⟩
    have hlt' := arrs_lt q1
    simp only [loMu, if_pos hlt'] at q2
    have := hS.inj id' id _ a k b (by rw [h1 id' hlt']; exact q1) ha q2 hbm q3
    omega
  refine ⟨⟨fun id hid => ?_, fun id a ha b hbm => ?_, fun id a ha hn => ?_, fun id a ha => ?_, fun id id' a a' b b' ha ha' hb hb' he => ?_, fun id a b ha hbm hx => ?_, fun b hx => Nat.lt_of_lt_of_le (hS.xlt b hx) k2.size⟩, ⟨k2.os, k2.tape, k2.output, k2.size, fun b hlt hm => k2.keep b hlt fun h => hm ?_, fun b hlt hm => ?_, fun id hid => ?_⟩, vr1, vr2⟩
  · rw [oB (by omega), mB (by omega)]
    exact hS.lt id (by omega)
  · by_cases hlt : id < S'.length
    · rw [oA hlt] at ha
      rw [mA hlt] at hbm
      obtain ⟨c, el, q0, q1, q2, q3, q4⟩ := k1.blk id a ha b hbm
      refine ⟨c, el, q0, q1, q2, q3, fun i row j pv hi hj => ?_⟩
      obtain ⟨v, r1, r2, r3⟩ := q4 i row j pv hi hj
      exact ⟨v, r1, r2, vr2 _ _ r3⟩
    · rw [oB hlt] at ha
      rw [mB hlt] at hbm
      obtain ⟨c, el, q0, q1, q2, q3, q4⟩ := hS.blk id a ha b hbm
      refine ⟨c, el, by rw [(stay id a b (by omega) ha hbm).2.1]; exact q0, q1, q2, q3, fun i row j pv hi hj => ?_⟩
      obtain ⟨v, r1, r2, r3⟩ := q4 i row j pv hi hj
      exact ⟨v, r1, r2, vr1 _ _ r3⟩
  · by_cases hlt : id < S'.length
    · rw [oA hlt] at ha; rw [mA hlt] at hn
      exact k1.nob id a ha hn
    · rw [oB hlt] at ha; rw [mB hlt] at hn
      exact hS.nob id a ha hn
  · by_cases hlt : id < S'.length
    · rw [oA hlt] at ha; rw [mA hlt]
      exact k1.gsz id a ha
    · rw [oB hlt] at ha; rw [mB hlt]
      exact hS.gsz id a ha
  · by_cases hlt : id < S'.length <;> by_cases hlt' : id' < S'.length
    · rw [oA hlt] at ha; rw [mA hlt] at hb; rw [oA hlt'] at ha'; rw [mA hlt'] at hb'
      exact k1.inj id id' a a' b b' ha ha' hb hb' he
    · rw [oA hlt] at ha; rw [mA hlt] at hb; rw [oB hlt'] at ha'; rw [mB hlt'] at hb'
      have := (stay id' a' b' (by omega) ha' hb').2.2
      rw [← he] at this
      exact absurd this (k1.out id a b ha hb)
    · rw [oB hlt] at ha; rw [mB hlt] at hb; rw [oA hlt'] at ha'; rw [mA hlt'] at hb'
      have := (stay id a b (by omega) ha hb).2.2
      rw [he] at this
      exact absurd this (k1.out id' a' b' ha' hb')
    · rw [oB hlt] at ha; rw [mB hlt] at hb; rw [oB hlt'] at ha'; rw [mB hlt'] at hb'
      exact hS.inj id id' a a' b b' ha ha' hb hb' he
  · by_cases hlt : id < S'.length
    · rw [oA hlt] at ha; rw [mA hlt] at hbm
      exact k1.out id a b ha hbm (.inl hx)
    · rw [oB hlt] at ha; rw [mB hlt] at hbm
      exact hS.out id a b ha hbm hx
  · obtain ⟨id, rows, g, k, q1, q2, q3⟩ := h
    have hlt' := arrs_lt q1
    simp only [loMu, if_pos hlt'] at q2
    exact ⟨id, rows, g, k, by rw [h1 id hlt']; exact q1, q2, q3⟩
  · obtain ⟨id, rows, g, k, q1, q2, q3⟩ := hm
    by_cases hlt2 : id < S'.length
    · rw [oA hlt2] at q1; rw [mA hlt2] at q2
      obtain ⟨id', rows', g', k', r1, r2, r3⟩ := k2.less b hlt ⟨id, rows, g, k, q1, q2, q3⟩
      have hlt' := arrs_lt r1
      simp only [loMu, if_pos hlt'] at r2
      exact ⟨id', rows', g', k', by rw [h1 id' hlt']; exact r1, r2, r3⟩
    · rw [oB hlt2] at q1; rw [mB hlt2] at q2
      exact ⟨id, rows, g, k, q1, q2, q3⟩
  · rw [mA (by omega), k2.mu id (by omega)]
    simp only [loMu]
    rw [if_pos (by omega)]
end
end
end Go.Vs
end
section
set_option linter.unusedVariables false
set_option linter.unusedSimpArgs false
namespace Go.Vs
open Go
theorem testBit_edges (f : Edge → Bool) (g : Edge → Nat) (i : Nat) : ∀ (l : List Edge) (s : Nat), (l.foldl (fun s e => if f e then s ||| 2 ^ e.on ||| g e else s) s).testBit i = true →
    s.testBit i = true ∨ ∃ e ∈ l, f e = true ∧ (i = e.on ∨ (g e).testBit i = true)
  | [], s, h => .inl h
  | e :: l, s, h => by
    simp only [List.foldl_cons] at h
    rcases testBit_edges f g i l _ h with h | ⟨e', h1, h2⟩
    · by_cases he : f e = true
      · rw [if_pos he] at h
        simp only [Nat.testBit_or, Bool.or_eq_true] at h
        rcases h with (h | h) | h
        · exact .inl h
        · rw [Nat.testBit_two_pow] at h
          exact .inr ⟨e, by simp, he, .inl (by simpa using (of_decide_eq_true h).symm)⟩
        · exact .inr ⟨e, by simp, he, .inr h⟩
      · rw [if_neg he] at h
        exact .inl h
    · exact .inr ⟨e', by simp [h1], h2⟩
def beforeF (acc : Array Nat) (o : Oper) : Array Nat := acc.push (o.after.toList.foldl (fun s e => if Region.binds .any e then s ||| 2 ^ e.on ||| acc.getD e.on 0 else s) 0)
theorem before_eq (ops : Array Oper) : Region.before ops = ops.toList.foldl beforeF #[] := by
  unfold Region.before
  rw [← Array.foldl_toList]
  congr 1
  funext acc o
  unfold beforeF
  rw [← Array.foldl_toList]
theorem before_aux : ∀ (l : List Oper), (l.foldl beforeF #[]).size = l.length ∧ ∀ j i, ((l.foldl beforeF #[]).getD j 0).testBit i = true →
    ∃ o, l[j]? = some o ∧ ∃ e ∈ o.after, Region.binds .any e = true ∧ (i = e.on ∨ ((l.foldl beforeF #[]).getD e.on 0).testBit i = true) := by
  intro l
  induction hn : l.length generalizing l with
  | zero =>
    have := List.eq_nil_of_length_eq_zero hn
    subst this
    simp
  | succ n ih =>
    obtain ⟨l', o, rfl⟩ : ∃ l' o, l = l' ++ [o] := by
      have hne : l ≠ [] := by intro h; subst h; cases hn
      exact ⟨l.dropLast, l.getLast hne, (List.dropLast_concat_getLast hne).symm⟩
    have hl : l'.length = n := by simpa using hn
    obtain ⟨h1, h2⟩ := ih l' hl
    have e1 : (l' ++ [o]).foldl beforeF #[] = beforeF (l'.foldl beforeF #[]) o := by rw [List.foldl_append]; rfl
    rw [e1]
    generalize l'.foldl beforeF #[] = acc at h1 h2 ⊢
    have hlt : ∀ k b, k < acc.size → (acc.push b).getD k 0 = acc.getD k 0 := fun k b hk => by
      simp [Array.getD_eq_getD_getElem?, Array.getElem?_push, Nat.ne_of_lt hk]
    have hbit : ∀ k i, (acc.getD k 0).testBit i = true → k < acc.size := fun k i h => by
      by_cases hk : k < acc.size
      · exact hk
      · simp [Array.getD_eq_getD_getElem?, hk] at h
    refine ⟨by simp [beforeF, h1], fun j i h => ?_⟩
    unfold beforeF at h ⊢
    by_cases hj : j < acc.size
    · rw [hlt j _ hj] at h
      obtain ⟨o', e2, e, e3, e4, e5⟩ := h2 j i h
      refine ⟨o', by rw [List.getElem?_append_left (by omega)]; exact e2, e, e3, e4, ?_⟩
      rcases e5 with e5 | e5
      · exact .inl e5
      · rw [hlt _ _ (hbit _ _ e5)]; exact .inr e5
    · by_cases hj2 : j = acc.size
      · subst hj2
        have : ∀ b, (acc.push b).getD acc.size 0 = b := fun b => by simp [Array.getD_eq_getD_getElem?]
        rw [this] at h
        rcases testBit_edges (Region.binds .any) (fun e => acc.getD e.on 0) i _ _ h with h | ⟨e, e3, e4, e5⟩
        · simp at h
        · refine ⟨o, by rw [h1, ← hl]; simp, e, by simpa using e3, e4, ?_⟩
          rcases e5 with e5 | e5
          · exact .inl e5
          · rw [hlt _ _ (hbit _ _ e5)]; exact .inr e5
      · have hno : ∀ b, (acc.push b).getD j 0 = 0 := fun b => by
          have : (acc.push b)[j]? = none := Array.getElem?_eq_none (by simp; omega)
          simp [Array.getD_eq_getD_getElem?, this]
        rw [hno] at h
        simp at h
def Closed (ops : Array Oper) (D : Nat → Bool) : Prop := ∀ j o, D j = true → ops[j]? = some o → ∀ e ∈ o.after, Region.binds .any e = true → D e.on = true
def DrawS (ops : Array Oper) (sw : Nat → Nat → Oper → Oper → Prop) : Prop := ∀ j o, ops[j]? = some o → (∀ e ∈ o.after, Region.binds .any e = true → e.on < j) ∧
    ∀ i p, i < j → ops[i]? = some p → ((Region.before ops).getD j 0).testBit i = true ∨ sw i j p o
theorem DrawS.mono {ops : Array Oper} {sw sw' : Nat → Nat → Oper → Oper → Prop} (h : DrawS ops sw) (hs : ∀ i j p o, ops[i]? = some p → ops[j]? = some o → sw i j p o → sw' i j p o) : DrawS ops sw' := fun j o ho => ⟨(h j o ho).1, fun i p hi hp => ((h j o ho).2 i p hi hp).imp_right (hs i j p o hp ho)⟩
theorem drawOK_spec {ops : Array Oper} {kd : Nat → Nat} (h : drawOK ops kd = true) : DrawS ops fun i j p o => swapOK ops (kd i % 8) (kd j % 8) p o = true ∨ (Oper.apart ops p o = true ∧ farK (kd i % 8) (kd j % 8) (kd i / 8) (kd j / 8) = true) := by
  intro j o ho
  unfold drawOK at h
  have hj := (Array.getElem?_eq_some_iff.1 ho).1
  rw [List.all_eq_true] at h
  have h1 := h j (List.mem_range.2 hj)
  rw [ho] at h1
  simp only [Bool.and_eq_true] at h1
  refine ⟨fun e he hb => ?_, fun i p hi hp => ?_⟩
  · have := (Array.all_eq_true_iff_forall_mem.1 h1.1) e he
    simp only [hb, Bool.not_true, Bool.false_or, decide_eq_true_eq] at this
    exact this
  · have := (List.all_eq_true.1 h1.2) i (List.mem_range.2 hi)
    rw [hp] at this
    simpa using this
theorem before_in {ops : Array Oper} {sw : Nat → Nat → Oper → Oper → Prop} (h : DrawS ops sw) {D : Nat → Bool} (hD : Closed ops D) : ∀ (n j : Nat), j < n → ∀ o i, ops[j]? = some o → (∀ e ∈ o.after, Region.binds .any e = true → D e.on = true) → ((Region.before ops).getD j 0).testBit i = true → D i = true := by
  intro n
  induction n with
  | zero => intro j hj; exact absurd hj (Nat.not_lt_zero _)
  | succ n ih =>
    intro j hj o i ho he hb
    rw [before_eq] at hb
    obtain ⟨o', e1, e, e2, e3, e4⟩ := (before_aux ops.toList).2 j i hb
    rw [Array.getElem?_toList, ho] at e1
    cases e1
    rcases e4 with rfl | e4
    · exact he e e2 e3
    · rw [← before_eq] at e4
      have hlt := (h j o ho).1 e e2 e3
      have hd := he e e2 e3
      have hsz : e.on < ops.size := Nat.lt_trans hlt (Array.getElem?_eq_some_iff.1 ho).1
      exact ih e.on (by omega) ops[e.on] i (Array.getElem?_eq_getElem hsz) (fun e' h1 h2 => hD e.on _ hd (Array.getElem?_eq_getElem hsz) e' h1 h2) e4
theorem free_of {ops : Array Oper} {sw : Nat → Nat → Oper → Oper → Prop} (h : DrawS ops sw) {D : Nat → Bool} (hD : Closed ops D) {i : Nat} {oi : Oper} (hi : ops[i]? = some oi) (hni : D i = false) (he : ∀ e ∈ oi.after, Region.binds .any e = true → D e.on = true) :
    (∀ j oj, j < i → D j = false → ops[j]? = some oj → sw j i oj oi) ∧ (∀ j oj, i < j → D j = true → ops[j]? = some oj → sw i j oi oj) := by
  refine ⟨fun j oj hj hd ho => ?_, fun j oj hj hd ho => ?_⟩
  · rcases (h i oi hi).2 j oj hj ho with hb | hs
    · have := before_in h hD (i + 1) i (Nat.lt_succ_self _) oi j hi he hb
      rw [hd] at this; cases this
    · exact hs
  · rcases (h j oj ho).2 i oi hj hi with hb | hs
    · have := before_in h hD (j + 1) j (Nat.lt_succ_self _) oj i ho (fun e h1 h2 => hD j oj hd ho e h1 h2) hb
      rw [hni] at this; cases this
    · exact hs
theorem swapOK_spec {ops : Array Oper} {kp ko : Nat} {p o : Oper} (h : swapOK ops kp ko p o = true) : Oper.apart ops p o = true ∧ kp ≠ 4 ∧ ko ≠ 4 ∧ (kp = 3 → ko ≠ 1 ∧ ko ≠ 3) ∧ (ko = 3 → kp ≠ 1 ∧ kp ≠ 3) ∧
    (kp = 5 ∨ kp = 6 → ko = 2) ∧ (ko = 5 → kp = 0) ∧ (ko = 6 → kp = 0 ∨ (kp = 1 ∧ isLoad p = true)) := by
  unfold swapOK at h
  rw [Bool.and_eq_true] at h
  obtain ⟨h1, h⟩ := h
  refine ⟨h1, ?_⟩
  unfold swapK at h
  split at h
  · cases h
  rename_i h4
  split at h
  · rename_i h5
    have h2 : ko = 2 := by simpa using h
    omega
  rename_i h5
  split at h
  · rename_i h6
    have h2 : kp = 0 := by simpa using h
    omega
  rename_i h6
  split at h
  · rename_i h7
    have h2 : kp = 0 ∨ (kp = 1 ∧ isLoad p = true) := by simpa using h
    refine ⟨by omega, by omega, by omega, by omega, by omega, by omega, fun _ => h2⟩
  · rename_i h7
    simp only [Bool.and_eq_true, Bool.not_eq_true', Bool.and_eq_false_iff, Bool.or_eq_false_iff, beq_eq_false_iff_ne] at h
    obtain ⟨h8, h9⟩ := h
    refine ⟨by omega, by omega, ?_, ?_, by omega, by omega, by omega⟩
    · intro hp
      rcases h8 with h8 | h8
      · exact absurd hp h8
      · exact h8
    · intro ho
      refine ⟨?_, ?_⟩
      · rcases h9 with h9 | h9
        · exact absurd ho h9
        · exact h9
      · intro hp
        rcases h8 with h8 | h8
        · exact h8 hp
        · exact h8.2 ho
def Sw (ops : Array Oper) (kd : Nat → Nat) (e : Nat → Env) (i j : Nat) (p o : Oper) : Prop :=
  swapOK ops (kd i) (kd j) p o = true ∨ (Oper.apart ops p o = true ∧ (kd i = 1 ∨ kd i = 3) ∧ (kd j = 1 ∨ kd j = 3) ∧ touch p (e i) ≠ 0 ∧ touch o (e j) ≠ 0 ∧ touch p (e i) ≠ touch o (e j))
theorem Sw.basic {ops : Array Oper} {kd : Nat → Nat} {e : Nat → Env} {i j : Nat} {p o : Oper} (h : Sw ops kd e i j p o) : Oper.apart ops p o = true ∧ kd i ≠ 4 ∧ kd j ≠ 4 := by
  rcases h with h | ⟨h1, h2, h3, _⟩
  · obtain ⟨a, b, c, _⟩ := swapOK_spec h
    exact ⟨a, b, c⟩
  · exact ⟨h1, by omega, by omega⟩
theorem Sw.near {ops : Array Oper} {kd : Nat → Nat} {e : Nat → Env} {i j : Nat} {p o : Oper} (h : Sw ops kd e i j p o) (hk : (kd i ≠ 1 ∧ kd i ≠ 3) ∨ (kd j ≠ 1 ∧ kd j ≠ 3) ∨ touch p (e i) = 0 ∨ touch o (e j) = 0) : swapOK ops (kd i) (kd j) p o = true := by
  rcases h with h | ⟨_, h2, h3, h4, h5, _⟩
  · exact h
  · exfalso; omega
inductive Ef where
  | new (fz : List Nat) (nid : Nat) (nw : Option (List (List PV) × Option (Option Nat)))
  | st (id : Nat) (a : Arr)
  | all (A : Arrs)
  | call (lo : Nat) (B : Store)
def Ef.app : Ef → Arrs → Arrs
  | .new fz nid nw, A => placeA (frz A fz) nid nw
  | .st id a, A => upd A id a
  | .all B, _ => B
  | .call lo B, A => over lo B A
def Ef.isCall : Ef → Bool
  | .call .. => true
  | _ => false
def Ef.isAll : Ef → Bool
  | .all _ => true
  | _ => false
inductive EfOK (C : Ctx) (ops : Array Oper) (o : Oper) (e : Env) (S : Store) : Env → Store → Ef → Nat → Prop
  | skip (hw : wantedV ops e o = some false) (k : Nat) : EfOK C ops o e S (putD e o.dst .skip) S (.new [] S.length none) k
  | one (out : Out) (hw : wantedV ops e o = some true) (he : isEff C.H o e = false) (h : ev1 C.P C.cp o e S S.length = some out) :
      EfOK C ops o e S (putD e o.dst out.v) (place (freezeAll S out.fz) out.new) (.new out.fz S.length out.new) (kind C.H o e)
  | st (t : TypeId) (x y : Operand) (hop : o.op = .store t x y) (hw : wantedV ops e o = some true) (hk : (tyi C.P t).known = true) (id i off : Nat) (rows : List (List PV)) (g : Option (Option Nat)) (hx : ev e x = .mp id i off)
      (hS : S[id]? = some (.arr rows g false)) (c1 : i < rows.length) (c2 : off + (tyi C.P t).size ≤ (rows.getD i []).length) (c3 : (ev e y).cells.length = (tyi C.P t).size) (c4 : (ev e y).cells.all PV.cell = true) :
      EfOK C ops o e S (putD e o.dst .skip) (S.set id (.arr (rows.set i (splice (rows.getD i []) off (ev e y).cells)) g false)) (.st id ⟨rows.set i (splice (rows.getD i []) off (ev e y).cells), g, false⟩) 3
  | all (r : Eff) (hw : wantedV ops e o = some true) (h : ev2 C o e S = some r) : EfOK C ops o e S (putD (killE r.kill e) o.dst r.v) r.S (.all (arrs r.S)) 4
  | call (c : Call) (f : Operand) (g : FuncId) (first caps : List PV) (v : PV) (S' : Store) (hop : o.op = .call c) (hce : c.callee = .value f) (hf : ev e f = .fn g first caps) (hw : wantedV ops e o = some true) (hr : C.H.refs g = true)
      (hc : C.cr g (first ++ c.args.toList.map (ev e) ++ caps) S = some (v, S')) (hl : S.length ≤ S'.length) (hcl : closedS S = true) (hbl : belowL S.length (first ++ c.args.toList.map (ev e) ++ caps) = true) (k lo : Nat)
      (hk : (k = 5 ∧ lo = 0) ∨ (k = 6 ∧ lo = S.length ∧ S'.take S.length = S)) : EfOK C ops o e S (putD e o.dst v) S' (.call lo S') k
theorem efOK {C : Ctx} {ops : Array Oper} {o : Oper} {e e' : Env} {S S' : Store} (h : stepOp C ops o e S = some (e', S')) : ∃ ef, EfOK C ops o e S e' S' ef (kind C.H o e) := by
  unfold stepOp at h
  obtain ⟨b, hw, h⟩ := bind_some h
  cases b with
  | false =>
    simp only [Bool.false_eq_true, if_false, Option.some.injEq, Prod.mk.injEq] at h
    obtain ⟨rfl, rfl⟩ := h
    exact ⟨_, .skip hw _⟩
  | true =>
    simp only [if_true] at h
    split at h
    · rename_i he
      obtain ⟨r, h1, h2⟩ := map_some h
      simp only [Prod.mk.injEq] at h2
      obtain ⟨rfl, rfl⟩ := h2
      by_cases hk : kind C.H o e = 4
      · rw [hk]; exact ⟨_, .all r hw h1⟩
      by_cases hkc : ∃ c f g first caps, o.op = .call c ∧ c.callee = .value f ∧ ev e f = .fn g first caps ∧ C.H.refs g = true
      · obtain ⟨c, f, g, first, caps, q1, q2, q3, q4⟩ := hkc
        have hkd : kind C.H o e = if C.H.reads g then 6 else 5 := by
          unfold kind
          rw [he]
          simp only [if_true, q1, q2, q3, q4]
        unfold ev2 at h1
        simp only [q1, q2, q3, q4, if_true] at h1
        obtain ⟨⟨v, S'⟩, h3, h4⟩ := bind_some h1
        simp only at h4
        split at h4
        · rename_i hc
          cases h4
          have hkill : putD (killE [] e) o.dst v = putD e o.dst v := by rfl
          rw [hkill, hkd]
          by_cases hrd : C.H.reads g = true
          · rw [if_pos hrd]
            exact ⟨_, .call c f g first caps v S' q1 q2 q3 hw q4 h3 hc.1 hc.2.1 hc.2.2.1 6 S.length (.inr ⟨rfl, rfl, hc.2.2.2 hrd⟩)⟩
          · rw [if_neg hrd]
            exact ⟨_, .call c f g first caps v S' q1 q2 q3 hw q4 h3 hc.1 hc.2.1 hc.2.2.1 5 0 (.inl ⟨rfl, rfl⟩)⟩
        · cases h4
      · have hk3 : ∃ t x y, o.op = .store t x y := by
          unfold kind at hk
          rw [he] at hk
          simp only [if_true] at hk
          split at hk
          · rename_i t x y hop; exact ⟨t, x, y, hop⟩
          · rename_i c hop
            exfalso
            split at hk
            · rename_i f hce
              split at hk
              · rename_i g first caps hf
                split at hk
                · rename_i hr
                  exact hkc ⟨c, f, g, first, caps, hop, hce, hf, hr⟩
                · exact hk rfl
              · exact hk rfl
            · exact hk rfl
          · exact absurd rfl hk
        obtain ⟨t, x, y, hop⟩ := hk3
        have hkd : kind C.H o e = 3 := by unfold kind; rw [he, hop]; rfl
        rw [hkd]
        unfold ev2 at h1
        rw [hop] at h1
        simp only at h1
        split at h1
        · rename_i hkn
          obtain ⟨S', h3, rfl⟩ := map_some h1
          unfold evStore at h3
          split at h3
          · rename_i id i off hx
            split at h3
            · rename_i rows g hS
              split at h3
              · rename_i hc
                cases h3
                exact ⟨_, .st t x y hop hw hkn id i off rows g hx hS hc.1 hc.2.1 hc.2.2.1 hc.2.2.2⟩
              · cases h3
            · cases h3
          · cases h3
        · cases h1
    · rename_i he
      obtain ⟨out, h1, h2⟩ := map_some h
      simp only [Prod.mk.injEq] at h2
      obtain ⟨rfl, rfl⟩ := h2
      exact ⟨_, .one out hw (by simpa using he) h1⟩
section
variable {C : Ctx} {ops : Array Oper} {o : Oper} {e e' : Env} {S S' : Store} {ef : Ef} {kd : Nat}
theorem EfOK.arrs (h : EfOK C ops o e S e' S' ef kd) : Vs.arrs S' = ef.app (Vs.arrs S) := by
  cases h with
  | skip hw k => simp [Ef.app, placeA, frz_nil]
  | one out hw he h => simp only [Ef.app]; rw [arrs_place, arrs_freezeAll, length_freezeAll]
  | st t x y hop hw hk id i off rows g hx hS c1 c2 c3 c4 =>
    simp only [Ef.app]
    exact arrs_set (List.getElem?_eq_some_iff.1 hS).1 rfl
  | all r hw h => rfl
  | call c f g first caps v B hop hce hf hw hr hc hl hcl hbl k lo hk =>
    simp only [Ef.app]
    funext id
    unfold over
    by_cases hlt : id < S'.length
    · by_cases hlo : lo ≤ id
      · rw [if_pos ⟨hlo, hlt⟩]
      · rw [if_neg fun h => hlo h.1]
        rcases hk with hk | ⟨_, h1, h2⟩
        · omega
        · have : S[id]? = S'[id]? := by
            rw [← h2, List.getElem?_take_of_lt (by omega)]
          unfold Vs.arrs
          rw [this]
    · rw [if_neg fun h => hlt h.2]
      unfold Vs.arrs
      rw [List.getElem?_eq_none (by omega), List.getElem?_eq_none (by omega)]
theorem EfOK.len (h : EfOK C ops o e S e' S' ef kd) : S.length ≤ S'.length := by
  cases h with
  | skip hw k => exact Nat.le_refl _
  | one out hw he h => have := (length_place (freezeAll S out.fz) out.new).1; rwa [length_freezeAll] at this
  | st t x y hop hw hk id i off rows g hx hS c1 c2 c3 c4 => simp
  | all r hw h => exact ev2_length h
  | call c f g first caps v B hop hce hf hw hr hc hl hcl hbl k lo hk => exact hl
theorem EfOK.get (h : EfOK C ops o e S e' S' ef kd) (ha : ef.isAll = false) {t : Nat} (ht : o.dst ≠ some t) : get e' t = Vs.get e t := by
  have key : ∀ v, Vs.get (putD e o.dst v) t = Vs.get e t := fun v => by
    cases hd : o.dst with
    | none => rfl
    | some d =>
      simp only [putD]
      rw [get_put, if_neg]
      intro hc
      exact ht (by rw [hd, hc])
  cases h with
  | skip hw k => exact key _
  | one out hw he h => exact key _
  | st t x y hop hw hk id i off rows g hx hS c1 c2 c3 c4 => exact key _
  | all r hw h => cases ha
  | call c f g first caps v B hop hce hf hw hr hc hl hcl hbl k lo hk => exact key _
theorem EfOK.kindAll (h : EfOK C ops o e S e' S' ef kd) (ha : ef.isAll = true) : kd = 4 := by
  cases h <;> first | rfl | cases ha
theorem EfOK.new (h : EfOK C ops o e S e' S' ef kd) {fz : List Nat} {nid : Nat} {nw : Option (List (List PV) × Option (Option Nat))} (he : ef = .new fz nid nw) :
    nid = S.length ∧ (∀ i ∈ fz, i < S.length) ∧ (kd ≠ 1 → fz = []) ∧ (nw ≠ none → S'.length = S.length + 1) ∧ (kd = 3 ∨ kd = 4 ∨ kd = 0 → nw = none) := by
  cases h with
  | skip hw k => cases he; simp
  | one out hw hef h =>
    cases he
    obtain ⟨h1, h2, h3, h4⟩ := ev1_facts hef h
    refine ⟨rfl, h1, h2, fun hn => ?_, fun hk => by
      rcases hk with hk | hk | hk
      · omega
      · omega
      · exact h3 hk⟩
    have := (length_place (freezeAll S out.fz) out.new).2.2
    cases hq : out.new with
    | none => exact absurd hq hn
    | some p => rw [hq] at this; rw [this p rfl, length_freezeAll]
  | st => cases he
  | all => cases he
  | call => cases he
theorem EfOK.calls (h : EfOK C ops o e S e' S' ef kd) (he : ef.isCall = true) : ∃ lo, ef = .call lo S' ∧ ((kd = 5 ∧ lo = 0) ∨ (kd = 6 ∧ lo = S.length ∧ S'.take S.length = S)) := by
  cases h with
  | call c f g first caps v B hop hce hf hw hr hc hl hcl hbl k lo hk => exact ⟨lo, rfl, hk⟩
  | _ => cases he
theorem EfOK.load (h : EfOK C ops o e S e' S' ef kd) (ho : isLoad o = true) : ∃ nid, ef = .new [] nid none ∧ nid = S.length ∧ S'.length = S.length := by
  obtain ⟨dst, op, type, pos, after, guard⟩ := o
  cases op <;> simp only [isLoad, Bool.false_eq_true] at ho
  cases h with
  | skip hw k => exact ⟨_, rfl, rfl, rfl⟩
  | one out hw hef h =>
    simp only [ev1] at h
    obtain ⟨v, _, rfl⟩ := map_some h
    refine ⟨_, rfl, rfl, ?_⟩
    have := (length_place (freezeAll S ([] : List Nat)) none).2.1
    simp [place, freezeAll]
  | st t x y hop => cases hop
  | all r hw h => simp [ev2] at h
  | call c f g first caps v B hop => cases hop
theorem EfOK.touched (h : EfOK C ops o e S e' S' ef kd) (ht : touch o e ≠ 0) (hk : kd = 1 ∨ kd = 3) : (∃ nid, ef = .new [] nid none ∧ S'.length = S.length) ∨ (∃ id a, ef = .st id a ∧ touch o e = id + 1) := by
  cases h with
  | skip hw k => exact .inl ⟨_, rfl, rfl⟩
  | one out hw hef h =>
    obtain ⟨dst, op, type, pos, after, guard⟩ := o
    cases op <;> simp only [touch, ne_eq, not_true] at ht
    case indexAddr t x i =>
      simp only [ev1] at h
      split at h
      · obtain ⟨v, _, rfl⟩ := map_some h
        exact .inl ⟨_, rfl, by simp [place, freezeAll]⟩
      · cases h
    case store t a x => simp [isEff] at hef
  | st t x y hop hw hk id i off rows g hx hS c1 c2 c3 c4 => exact .inr ⟨id, _, rfl, by simp only [touch, hop, hx]⟩
  | all r hw h => omega
  | call c f g first caps v B hop hce hf hw hr hc hl hcl hbl k lo hk => omega
theorem EfOK.len0 (h : EfOK C ops o e S e' S' ef kd) (h0 : kd = 0) : S'.length = S.length := by
  cases h with
  | skip hw k => rfl
  | one out hw hef h =>
    obtain ⟨h1, h2, h3, h4⟩ := ev1_facts hef h
    rw [h3 h0]
    show (freezeAll S out.fz).length = _
    rw [length_freezeAll]
  | st t x y hop hw hk id i off rows g hx hS c1 c2 c3 c4 => cases h0
  | all r hw h => cases h0
  | call c f g first caps v B hop hce hf hw hr hc hl hcl hbl k lo hk => omega
theorem EfOK.store (h : EfOK C ops o e S e' S' ef kd) {id : Nat} {a : Arr} (he : ef = .st id a) : kd = 3 ∧ id < S.length ∧ (∃ a0, Vs.arrs S id = some a0) := by
  cases h with
  | skip hw k => cases he
  | one out hw hef h => cases he
  | st t x y hop hw hk id i off rows g hx hS c1 c2 c3 c4 => cases he; exact ⟨rfl, (List.getElem?_eq_some_iff.1 hS).1, _, arrs_get hS⟩
  | all => cases he
  | call => cases he
end
def Le (A A' : Arrs) : Prop := ∀ id, (A id = none → A' id = none) ∧ ∀ a, A id = some a → ∃ f, A' id = some ⟨a.rows, a.g, f⟩ ∧ (a.f = true → f = true)
theorem Le.refl (A : Arrs) : Le A A := fun id => ⟨_root_.id, fun a h => ⟨a.f, h, _root_.id⟩⟩
theorem Le.trans {A B B' : Arrs} (h : Le A B) (k : Le B B') : Le A B' := fun id => ⟨fun x => (k id).1 ((h id).1 x), fun a ha => by
  obtain ⟨f, h1, h2⟩ := (h id).2 a ha
  obtain ⟨f', k1, k2⟩ := (k id).2 _ h1
  exact ⟨f', k1, fun x => k2 (h2 x)⟩⟩
theorem frz_at (A : Arrs) (ids : List Nat) (id : Nat) : frz A ids id = (A id).map fun a => if ids.contains id then { a with f := true } else a := rfl
theorem Le.frz_mono {A A' : Arrs} (h : Le A A') (ids : List Nat) : Le (frz A ids) (frz A' ids) := fun id => by
  refine ⟨fun hn => ?_, fun a ha => ?_⟩
  · rw [frz_at] at hn ⊢
    cases hA : A id with
    | none => rw [(h id).1 hA]; rfl
    | some a => rw [hA] at hn; cases hn
  · rw [frz_at] at ha
    cases hA : A id with
    | none => rw [hA] at ha; cases ha
    | some a0 =>
      rw [hA] at ha
      simp only [Option.map_some, Option.some.injEq] at ha
      obtain ⟨f, h1, h2⟩ := (h id).2 a0 hA
      rw [frz_at, h1]
      simp only [Option.map_some]
      split at ha
      · rename_i hc; rw [if_pos hc]; subst ha; exact ⟨true, rfl, fun _ => rfl⟩
      · rename_i hc; rw [if_neg hc]; subst ha; exact ⟨f, rfl, h2⟩
theorem Le.upd_mono {A A' : Arrs} (h : Le A A') (i : Nat) (a : Arr) : Le (upd A i a) (upd A' i a) := fun id => by
  by_cases hi : id = i
  · subst hi; rw [upd_same, upd_same]; exact ⟨by simp, fun b hb => by cases hb; exact ⟨a.f, rfl, _root_.id⟩⟩
  · rw [upd_ne _ _ _ hi, upd_ne _ _ _ hi]; exact h id
theorem Le.place_mono {A A' : Arrs} (h : Le A A') (i : Nat) (nw : Option (List (List PV) × Option (Option Nat))) : Le (placeA A i nw) (placeA A' i nw) := by
  cases nw with
  | none => exact h
  | some p => exact h.upd_mono _ _
theorem Le.app_mono {A A' : Arrs} (h : Le A A') (ef : Ef) : Le (ef.app A) (ef.app A') := by
  cases ef with
  | new fz nid nw => exact (h.frz_mono fz).place_mono _ _
  | st id a => exact h.upd_mono _ _
  | all B => exact .refl _
  | call lo B =>
    intro id
    simp only [Ef.app, over]
    by_cases hc : lo ≤ id ∧ id < B.length
    · rw [if_pos hc, if_pos hc]; exact Le.refl (arrs B) id
    · rw [if_neg hc, if_neg hc]; exact h id
theorem SR.more {w : World} {X : Nat → Prop} {A A' : Arrs} {n : Nat} {μ : Mu} (hS : SR w X A n μ) (h : Le A A') (base : Nat) : SR w X A' n μ ∧ Tr base w A μ w A' μ := by
  have e : A' = Vs.frz A ((List.range n).filter fun i => match A' i with | some a => a.f | none => false) := by
    funext id
    rw [frz_at]
    cases hA : A id with
    | none => rw [(h id).1 hA]; rfl
    | some a =>
      obtain ⟨f, h1, h2⟩ := (h id).2 a hA
      have hlt : id < n := by
        by_cases hlt : id < n
        · exact hlt
        · rw [(hS.lt id (by omega)).2] at hA; cases hA
      have hc : ((List.range n).filter fun i => match A' i with | some a => a.f | none => false).contains id = f := by
        rw [List.contains_eq_mem]
        by_cases hf : f = true
        · subst hf
          simp [List.mem_filter, hlt, h1]
        · simp [List.mem_filter, h1, hf]
      rw [h1]
      simp only [Option.map_some, hc]
      cases f with
      | true => rfl
      | false =>
        have : a.f = false := by cases hq : a.f with
          | false => rfl
          | true => exact absurd (h2 hq) (by simp)
        cases a; simp_all
  rw [e]
  exact hS.frz _ base
theorem SR.relt {w : World} {X : Nat → Prop} {A : Arrs} {n n' : Nat} {μ : Mu} (hS : SR w X A n μ) (h : ∀ id, n' ≤ id → μ id = none ∧ A id = none) : SR w X A n' μ := ⟨h, hS.blk, hS.nob, hS.gsz, hS.inj, hS.out, hS.xlt⟩
end Go.Vs
end
