/- StateSets: arguments by their types; the law for all arguments. -/

import Derived.Test.YtkaeejkajfinhaaGreatMS8
import Derived.Test.YtkaeejkajfinhaaGreatMS27
set_option linter.unusedVariables false
set_option linter.unusedSimpArgs false
namespace Go.Vs
open Go Go.Proofs
/-- The types of a struct's fields. -/
def fieldTypes (P : Program) (t : TypeId) : Option (List TypeId) := match P.underlying t with
  | some (.struct fs) => some (fs.toList.map Field.type)
  | _ => none
theorem all2_map {α β γ : Type} {R : γ → β → Prop} {f : α → γ} : ∀ {x : List α} {y : List β}, All2 (fun a b => R (f a) b) x y → All2 R (x.map f) y
  | _, _, .nil => .nil
  | _, _, .cons h t => .cons h (all2_map t)
theorem Dt.struct {P : Program} {k : Nat} {t : TypeId} {ts : List TypeId} {pvs : List PV} (hf : fieldTypes P t = some ts) (h : Dt P k t pvs) : ∃ k', k = k' + 1 ∧ ∃ pss : List (List PV), pvs = pss.flatten ∧ All2 (fun t ps => Dt P k' t ps) ts pss := by
  cases k with
  | zero => simp only [Dt] at h
  | succ k =>
    unfold fieldTypes at hf
    split at hf
    · rename_i fs hu
      simp only [Dt, hu] at h
      obtain ⟨pss, h1, h2⟩ := h
      simp only [Option.some.injEq] at hf
      subst hf
      exact ⟨k, rfl, pss, h1, all2_map (R := fun t ps => Dt P k t ps) h2⟩
    · cases hf
theorem Dt.slice {P : Program} {k : Nat} {t e : TypeId} {pvs : List PV} (hu : P.underlying t = some (.slice e)) (h : Dt P k t pvs) : ∃ k', k = k' + 1 ∧ ∃ rows, pvs = [.sl rows false] ∧ rows.length ≤ maxLen ∧ ∀ r ∈ rows, Dt P k' e r := by
  cases k with
  | zero => simp only [Dt] at h
  | succ k =>
    simp only [Dt, hu] at h
    exact ⟨k, rfl, h⟩
theorem Dt.int {P : Program} {k : Nat} {t : TypeId} {kd : IntKind} {pvs : List PV} (hu : P.underlying t = some (.int kd)) (h : Dt P k t pvs) : ∃ n, (Lit.int kd n).wf = true ∧ pvs = [.int kd n] := by
  cases k with
  | zero => simp only [Dt] at h
  | succ k => simpa only [Dt, hu] using h
theorem Dt.bool {P : Program} {k : Nat} {t : TypeId} {pvs : List PV} (hu : P.underlying t = some .bool) (h : Dt P k t pvs) : ∃ b, pvs = [.bool b] := by
  cases k with
  | zero => simp only [Dt] at h
  | succ k => simpa only [Dt, hu] using h
theorem Dt.str {P : Program} {k : Nat} {t : TypeId} {pvs : List PV} (hu : P.underlying t = some .string) (h : Dt P k t pvs) : ∃ s : ByteArray, s.size ≤ maxLen ∧ pvs = [.str s] := by
  cases k with
  | zero => simp only [Dt] at h
  | succ k => simpa only [Dt, hu] using h
theorem All2.inv {α β : Type} {R : α → β → Prop} {a : α} {x : List α} {y : List β} (h : All2 R (a :: x) y) : ∃ b z, y = b :: z ∧ R a b ∧ All2 R x z := by
  cases h with
  | cons h t => exact ⟨_, _, rfl, h, t⟩
theorem All2.inv0 {α β : Type} {R : α → β → Prop} {y : List β} (h : All2 R [] y) : y = [] := by cases h; rfl
theorem rows_choose {α : Type} {P : List PV → Prop} {Q : α → Prop} {f : α → List PV} (h : ∀ r, P r → ∃ a, Q a ∧ r = f a) : ∀ rows : List (List PV), (∀ r ∈ rows, P r) → ∃ l : List α, (∀ a ∈ l, Q a) ∧ rows = l.map f
  | [], _ => ⟨[], by simp, rfl⟩
  | r :: rows, hr => by
    obtain ⟨a, h1, h2⟩ := h r (hr r (by simp))
    obtain ⟨l, h3, h4⟩ := rows_choose h rows fun x hx => hr x (by simp [hx])
    exact ⟨a :: l, by simpa using ⟨h1, h3⟩, by simp [h2, h4]⟩
theorem wf_u32 {n : Int} (h : (Lit.int .u32 n).wf = true) : 0 ≤ n ∧ n ≤ 4294967295 := by
  simpa [Lit.wf, IntKind.min, IntKind.max, IntKind.signed, IntKind.bits] using h
section
variable {P : Program} {k : Nat} {t : TypeId} {pv : PV} {pvs : List PV}
theorem Arg.str (hu : P.underlying t = some .string) (h : Arg P k t pv) : ∃ s : ByteArray, s.size ≤ maxLen ∧ pv = .str s := by
  simp only [Arg, hu] at h
  cases k with
  | zero => simp only [Dt] at h
  | succ k =>
    simp only [Dt, hu] at h
    obtain ⟨s, h1, h2⟩ := h
    exact ⟨s, h1, by simpa using h2⟩
theorem Arg.int {kd : IntKind} (hu : P.underlying t = some (.int kd)) (h : Arg P k t pv) : ∃ n, (Lit.int kd n).wf = true ∧ pv = .int kd n := by
  simp only [Arg, hu] at h
  cases k with
  | zero => simp only [Dt] at h
  | succ k =>
    simp only [Dt, hu] at h
    obtain ⟨s, h1, h2⟩ := h
    exact ⟨s, h1, by simpa using h2⟩
theorem Args.nil_inv (h : Args P [] pvs) : pvs = [] := by cases h; rfl
theorem Args.cons_inv {ts : List TypeId} (h : Args P (t :: ts) pvs) : ∃ pv r k, pvs = pv :: r ∧ Arg P k t pv ∧ Args P ts r := by
  cases h with
  | cons h r =>
    obtain ⟨k, h⟩ := h
    exact ⟨_, _, k, rfl, h, r⟩
end
theorem und_us : Tryz.prog.underlying 25 = some (.slice 126) := by kernel_rfl
theorem und_u32 : Tryz.prog.underlying 126 = some (.int .u32) := by kernel_rfl
theorem und_str : Tryz.prog.underlying 9 = some .string := by kernel_rfl
theorem und_bool : Tryz.prog.underlying 4 = some .bool := by kernel_rfl
theorem und_ss : Tryz.prog.underlying 45 = some (.slice 9) := by kernel_rfl
theorem und_st : Tryz.prog.underlying 35 = some (.slice 98) := by kernel_rfl
theorem ft_Rat : fieldTypes Tryz.prog 27 = some [4, 25, 25] := by kernel_rfl
theorem ft_Bind : fieldTypes Tryz.prog 98 = some [9, 27] := by kernel_rfl
theorem ft_Nms : fieldTypes Tryz.prog 47 = some [4, 45] := by kernel_rfl
theorem okD_of {l : List Int} (h : ∀ w ∈ l, 0 ≤ w ∧ w ≤ 4294967295) : OkD WB l := fun w hw => by
  have := h w hw
  exact ⟨this.1, by show w < 4294967296; omega⟩
theorem Dt.wordsK {k : Nat} {pvs : List PV} (h : Dt Tryz.prog k 25 pvs) : ∃ l : List Int, l.length ≤ maxLen ∧ OkD WB l ∧ pvs = [.sl (kRows .u32 l) false] := by
  obtain ⟨k', rfl, rows, rfl, h1, h2⟩ := h.slice und_us
  obtain ⟨l, h3, h4⟩ := rows_choose (Q := fun w => 0 ≤ w ∧ w ≤ 4294967295) (f := fun w : Int => [.int .u32 w]) (fun r hr => by
    obtain ⟨n, h5, h6⟩ := Dt.int und_u32 hr
    exact ⟨n, wf_u32 h5, h6⟩) rows h2
  subst h4
  exact ⟨l, by simpa using h1, okD_of h3, rfl⟩
theorem Dt.rat {k : Nat} {pvs : List PV} (h : Dt Tryz.prog k 27 pvs) : ∃ v : RV, v.ok ∧ pvs = v.cells := by
  obtain ⟨k', rfl, pss, rfl, h1⟩ := h.struct ft_Rat
  obtain ⟨p1, r1, rfl, a1, h2⟩ := h1.inv
  obtain ⟨p2, r2, rfl, a2, h3⟩ := h2.inv
  obtain ⟨p3, r3, rfl, a3, h4⟩ := h3.inv
  cases h4.inv0
  obtain ⟨b, rfl⟩ := Dt.bool und_bool a1
  obtain ⟨N, n1, n2, rfl⟩ := Dt.wordsK a2
  obtain ⟨D, d1, d2, rfl⟩ := Dt.wordsK a3
  exact ⟨⟨b, N, D⟩, ⟨n2, d2, n1, d1⟩, rfl⟩
theorem Dt.bind {k : Nat} {pvs : List PV} (h : Dt Tryz.prog k 98 pvs) : ∃ b : Bd, b.ok ∧ pvs = b.cells := by
  obtain ⟨k', rfl, pss, rfl, h1⟩ := h.struct ft_Bind
  obtain ⟨p1, r1, rfl, a1, h2⟩ := h1.inv
  obtain ⟨p2, r2, rfl, a2, h3⟩ := h2.inv
  cases h3.inv0
  obtain ⟨s, s1, rfl⟩ := Dt.str und_str a1
  obtain ⟨v, v1, rfl⟩ := Dt.rat a2
  exact ⟨⟨s, v⟩, ⟨s1, v1⟩, rfl⟩
theorem Arg.rat {k : Nat} {pv : PV} (h : Arg Tryz.prog k 27 pv) : ∃ v : RV, v.ok ∧ pv = .agg v.cells := by
  have hf := ft_Rat
  unfold fieldTypes at hf
  split at hf
  · rename_i fs hu
    simp only [Arg, hu] at h
    obtain ⟨cells, rfl, h⟩ := h
    obtain ⟨n, h1, h2⟩ := Dt.rat h
    exact ⟨n, h1, by rw [h2]⟩
  · cases hf
theorem Arg.names {k : Nat} {pv : PV} (h : Arg Tryz.prog k 47 pv) : ∃ (al : Bool) (l : List ByteArray), NmsOk l ∧ pv = .agg [.bool al, .sl (ssRows l) false] := by
  have hf := ft_Nms
  unfold fieldTypes at hf
  split at hf
  · rename_i fs hu
    simp only [Arg, hu] at h
    obtain ⟨cells, rfl, h⟩ := h
    obtain ⟨k', rfl, pss, rfl, h1⟩ := Dt.struct ft_Nms h
    obtain ⟨p1, r1, rfl, a1, h2⟩ := h1.inv
    obtain ⟨p2, r2, rfl, a2, h3⟩ := h2.inv
    cases h3.inv0
    obtain ⟨b, rfl⟩ := Dt.bool und_bool a1
    obtain ⟨k', rfl, rows, rfl, g1, g2⟩ := Dt.slice und_ss a2
    obtain ⟨l, g3, g4⟩ := rows_choose (Q := fun s : ByteArray => s.size ≤ maxLen) (f := fun s : ByteArray => [.str s]) (fun r hr => Dt.str und_str hr) rows g2
    subst g4
    exact ⟨b, l, g3, rfl⟩
  · cases hf
theorem Arg.state {k : Nat} {pv : PV} (h : Arg Tryz.prog k 35 pv) : ∃ L : List Bd, L.length ≤ maxLen ∧ StOk L ∧ pv = .sl (stRows L) false := by
  simp only [Arg, und_st] at h
  obtain ⟨k', rfl, rows, h0, h1, h2⟩ := h.slice und_st
  obtain ⟨l, h3, h4⟩ := rows_choose (Q := Bd.ok) (f := Bd.cells) (fun r hr => Dt.bind hr) rows h2
  subst h4
  exact ⟨l, by simpa using h1, h3, by simpa [stRows] using h0⟩
theorem law_StateSets (pvs : List PV) (h : Args Tryz.prog [35, 35, 9, 9, 27, 47] pvs) : callL Tryz.prog hints 6 pvs = some (.bool true) := by
  obtain ⟨x1, r1, k1, rfl, h1, t1⟩ := h.cons_inv
  obtain ⟨x2, r2, k2, rfl, h2, t2⟩ := t1.cons_inv
  obtain ⟨x3, r3, k3, rfl, h3, t3⟩ := t2.cons_inv
  obtain ⟨x4, r4, k4, rfl, h4, t4⟩ := t3.cons_inv
  obtain ⟨x5, r5, k5, rfl, h5, t5⟩ := t4.cons_inv
  obtain ⟨x6, r6, k6, rfl, h6, t6⟩ := t5.cons_inv
  cases t6.nil_inv
  obtain ⟨A, _, hA, rfl⟩ := h1.state
  obtain ⟨B, _, hB, rfl⟩ := h2.state
  obtain ⟨nm, hn, rfl⟩ := h3.str und_str
  obtain ⟨ot, ho, rfl⟩ := h4.str und_str
  obtain ⟨v, hv, rfl⟩ := h5.rat
  obtain ⟨al, l, hl, rfl⟩ := h6.names
  exact call_StateSets A B nm ot v al l hA hB hn ho hv hl
end Go.Vs
