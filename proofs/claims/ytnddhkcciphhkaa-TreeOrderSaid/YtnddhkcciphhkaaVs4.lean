/- Each operation that reads at most: what the machine's run comes to. -/
import Derived.Test.YtnddhkcciphhkaaVs3
import Derived.Laws.CopyRow
import Derived.Laws.Cells
import Derived.Laws.Slices
set_option linter.unusedVariables false
set_option linter.unusedSimpArgs false
namespace Go.Vs
open Go

theorem flat_oneCell {v : Value} (h : flat v = true) : v.oneCell' = true := by cases v <;> simp_all [flat, Value.oneCell']

/-! ### Types -/
theorem tyi_known {P : Program} {t : TypeId} (h : (tyi P t).known = true) : ∃ d i, P.underlying t = some d ∧ P.info? t = some i ∧ i.size = (tyi P t).size ∧ i.bytes = (tyi P t).bytes := by
  have h' : (P.underlying t).isSome = true := h
  obtain ⟨d, hd⟩ := Option.isSome_iff_exists.1 h'
  cases hi : P.info? t with
  | none => simp [Program.underlying, hi] at hd
  | some i => exact ⟨d, i, hd, rfl, by simp [tyi, Program.cellsOf, hi], by simp [tyi, Program.bytesOf, hi]⟩
theorem tyi_und {P : Program} {t : TypeId} {d : TypeDesc} (h : P.underlying t = some d) : (tyi P t).known = true := by simp [tyi, h]
theorem tyi_slice {P : Program} {t e : TypeId} (h : (tyi P t).d = .slice e) : P.underlying t = some (.slice e) := by
  unfold tyi at h
  revert h
  cases P.underlying t with
  | none => simp
  | some d => cases d <;> simp
theorem tyi_str {P : Program} {t : TypeId} (h : (tyi P t).d = .str) : P.underlying t = some .string := by
  unfold tyi at h
  revert h
  cases P.underlying t with
  | none => simp
  | some d => cases d <;> simp
theorem tyi_bool {P : Program} {t : TypeId} (h : (tyi P t).d = .bool) : P.underlying t = some .bool := by
  unfold tyi at h
  revert h
  cases P.underlying t with
  | none => simp
  | some d => cases d <;> simp
theorem tyi_int {P : Program} {t : TypeId} {k : IntKind} (h : (tyi P t).d = .int k) : P.underlying t = some (.int k) := by
  unfold tyi at h
  revert h
  cases P.underlying t with
  | none => simp
  | some d => cases d <;> simp
theorem tyi_struct {P : Program} {t : TypeId} {fs : List (Nat × Nat × Bool)} (h : (tyi P t).d = .struct fs) : ∃ gs : Array Field, P.underlying t = some (.struct gs) ∧ fs = gs.toList.map fun f => (f.offset, sizeK P f.type, isAggB P f.type) := by
  unfold tyi at h
  revert h
  cases P.underlying t with
  | none => simp
  | some d => cases d <;> simp <;> (intro h; exact h.symm)
theorem sizeK_ne {P : Program} {t : TypeId} (h : sizeK P t ≠ 0) : ∃ d i, P.underlying t = some d ∧ P.info? t = some i ∧ i.size = sizeK P t := by
  unfold sizeK at *
  by_cases hk : (P.underlying t).isSome = true
  · rw [if_pos hk] at h ⊢
    obtain ⟨d, i, hd, hi, hs, _⟩ := tyi_known (P := P) (t := t) (by simpa [tyi] using hk)
    exact ⟨d, i, hd, hi, hs⟩
  · rw [if_neg hk] at h; exact absurd rfl h
theorem tyi_array {P : Program} {t e : TypeId} {n : Nat} (h : (tyi P t).d = .array n e) : P.underlying t = some (.array n e) := by
  unfold tyi at h
  revert h
  cases P.underlying t with
  | none => simp
  | some d => cases d <;> simp
theorem isAgg_eq {P : Program} {t : TypeId} : (tyi P t).isAgg = isAggB P t := by
  unfold tyi TI.isAgg isAggB
  cases P.underlying t with
  | none => simp
  | some d => cases d <;> simp
theorem run_isAgg {P : Program} {t : TypeId} {d : TypeDesc} (h : P.underlying t = some d) (w : World) : (isAgg t).run P w = .ok (isAggB P t) w := by
  simp only [isAgg, Sem.run_bind, run_underlying h, Result.andThen_ok, isAggB, h]
  cases d <;> rfl
theorem run_sizeOf' {P : Program} {t : TypeId} {i : TypeInfo} (h : P.info? t = some i) (w : World) : (sizeOf t).run P w = .ok i.size w := by
  simp [sizeOf, typeInfo, h]

section
variable {P : Program} {w : World} {av : Nat → Prop} {μ : Mu}

theorem VR.int_inv {k : IntKind} {n : Int} {v : Value} (h : VR w av μ (.int k n) v) : v = .int k n := by cases h with | fr h => cases h; rfl
theorem VR.bool_inv {b : Bool} {v : Value} (h : VR w av μ (.bool b) v) : v = .bool b := by cases h with | fr h => cases h; rfl
theorem VR.str_inv {s : ByteArray} {v : Value} (h : VR w av μ (.str s) v) : v = .string s := by cases h with | fr h => cases h; rfl
theorem VR.i {k : IntKind} {n : Int} : VR w av μ (.int k n) (.int k n) := .fr (.int k n)
theorem VR.b {b : Bool} : VR w av μ (.bool b) (.bool b) := .fr (.bool b)
theorem VR.s {s : ByteArray} : VR w av μ (.str s) (.string s) := .fr (.str s)

theorem ofCell_sound (v : Value) (hf : flat v = true) : VR w av μ (ofCell v) v := by
  unfold ofCell
  split
  · exact .i
  · exact .b
  · exact .s
  · exact .fr (.sl [] true none 0 default 0 (fun _ _ => Go.undef) (Nat.le_refl _) (fun _ => rfl) (fun _ => rfl) (fun h => absurd rfl h) (by simp) (by simp) (by simp))
  · rename_i f first caps
    split
    · rename_i h
      have h1 : first = #[] := Array.eq_empty_of_size_eq_zero h.1
      have h2 : caps = #[] := Array.eq_empty_of_size_eq_zero h.2
      subst h1; subst h2
      exact .fr (.fn f)
    · exact .raw _
  · exact .raw _
theorem ofConst_sound (v : Value) : VR w av μ (ofConst v) v := by
  unfold ofConst
  split
  · rename_i cs
    split
    · rename_i h
      rw [List.all_eq_true] at h
      refine .agg _ _ (by simp) (fun j v hv => h v ?_) (fun j pv v hp hv => ?_)
      · rw [← Array.getElem?_toList] at hv; exact List.mem_of_getElem? hv
      · rw [← Array.getElem?_toList] at hv
        rw [List.getElem?_map, hv] at hp
        simp at hp
        subst hp
        exact ofCell_sound v (h v (List.mem_of_getElem? hv))
    · exact .raw _
  · rename_i h
    by_cases hf : flat v = true
    · exact ofCell_sound v hf
    · cases v with
      | agg cs => exact absurd rfl (h cs)
      | tuple vs => exact .raw _
      | _ => exact absurd rfl hf
def ER (w : World) (av : Nat → Prop) (μ : Mu) (e : Env) (tmps : Array Value) : Prop := ∀ t, VR w av μ (get e t) (tmps.getD t undef)
theorem ev_sound {e : Env} {a : Act} (h : ER w av μ e a.tmps) (x : Operand) : VR w av μ (ev e x) (a.eval x) := by
  cases x with
  | tmp t => exact h t
  | const v => exact ofConst_sound v
  | global g => exact .undef _
  | func f => exact .fr (.fn f)

/-! ### Environments -/
theorem get_put (e : Env) (d : Nat) (v : PV) (t : Nat) : get (put e d v) t = if d = t then v else get e t := by
  induction e with
  | nil => simp [put, get]
  | cons x r ih =>
    obtain ⟨k, u⟩ := x
    simp only [put]
    by_cases hk : k = d
    · subst hk; simp only [if_true, get]; split <;> rfl
    · rw [if_neg hk]
      simp only [get, ih]
      by_cases h1 : k = t
      · subst h1; simp [Ne.symm hk]
      · simp [h1]
theorem ER.put {e : Env} {tmps : Array Value} (h : ER w av μ e tmps) {d : Nat} (hd : d < tmps.size) {pv : PV} {v : Value} (hv : VR w av μ pv v) : ER w av μ (put e d pv) (tmps.setIfInBounds d v) := by
  intro t
  rw [get_put]
  by_cases hdt : d = t
  · subst hdt; simp [hd]; exact hv
  · rw [if_neg hdt]
    have := h t
    simpa [Array.getElem?_setIfInBounds_ne hdt] using this
theorem ER.mono {w' : World} {av' : Nat → Prop} {μ' : Mu} {e : Env} {tmps : Array Value} (h : ER w av μ e tmps) (hk : Keeps w av w' av') (hμ : ∀ i b, μ i = some b → μ' i = some b) : ER w' av' μ' e tmps :=
  fun t => (h t).mono hk fun i _ b hb => hμ i b hb
theorem get_trim (keep : List Nat) (e : Env) (t : Nat) : get (trim keep e) t = get e t ∨ get (trim keep e) t = .undef := by
  induction keep with
  | nil => exact .inr rfl
  | cons k r ih =>
    show get ((k, get e k) :: trim r e) t = _ ∨ get ((k, get e k) :: trim r e) t = _
    simp only [get]
    split
    · rename_i h; subst h; exact .inl rfl
    · exact ih
theorem ER.trim {e : Env} {tmps : Array Value} (h : ER w av μ e tmps) (keep : List Nat) : ER w av μ (trim keep e) tmps := by
  intro t
  rcases get_trim keep e t with h1 | h1 <;> rw [h1]
  · exact h t
  · exact .undef _
theorem get_keepOnly (live : List Nat) (e : Env) (t : Nat) : get (keepOnly live e) t = get e t ∨ get (keepOnly live e) t = .undef := by
  induction e with
  | nil => exact .inl rfl
  | cons x r ih =>
    obtain ⟨k, u⟩ := x
    simp only [keepOnly, List.map_cons]
    by_cases hc : live.contains k = true
    · rw [if_pos hc]; simp only [get]
      split
      · exact .inl rfl
      · exact ih
    · rw [if_neg hc]; simp only [get]
      split
      · exact .inr rfl
      · exact ih
theorem ER.keepOnly {e : Env} {tmps : Array Value} (h : ER w av μ e tmps) (live : List Nat) : ER w av μ (keepOnly live e) tmps := by
  intro t
  rcases get_keepOnly live e t with h1 | h1 <;> rw [h1]
  · exact h t
  · exact .undef _
end
end Go.Vs
