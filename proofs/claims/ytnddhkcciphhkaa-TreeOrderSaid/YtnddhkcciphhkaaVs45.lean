/- Trees as arguments. -/
import Derived.Test.YtnddhkcciphhkaaVs43
set_option linter.unusedVariables false
set_option linter.unusedSimpArgs false
namespace Go.Vs
open Go Go.Proofs
/-- The types of a struct's fields. -/
def fieldTypes (P : Program) (t : TypeId) : Option (List TypeId) := match P.underlying t with
  | some (.struct fs) => some (fs.toList.map Field.type)
  | _ => none
theorem all2_map {α β γ : Type} {R : γ → β → Prop} {f : α → γ} : ∀ {x : List α} {y : List β}, All2 (fun a b => R (f a) b) x y → All2 R (x.map f) y
  | _, _, .nil => .nil
  | _, _, .cons h t => .cons h (all2_map t)
theorem Dt.struct {P : Program} {k : Nat} {t : TypeId} {ts : List TypeId} {pvs : List PV} (hf : fieldTypes P t = some ts) (h : Dt P k t pvs) : ∃ k', k = k' + 1 ∧ ∃ pss : List (List PV), pvs = pss.flatten ∧ All2 (fun t ps => Dt P k' t ps) ts pss := by
  cases k with
  | zero => simp only [Dt] at h
  | succ k =>
    unfold fieldTypes at hf
    split at hf
    · rename_i fs hu
      simp only [Dt, hu] at h
      obtain ⟨pss, h1, h2⟩ := h
      simp only [Option.some.injEq] at hf
      subst hf
      exact ⟨k, rfl, pss, h1, all2_map (R := fun t ps => Dt P k t ps) h2⟩
    · cases hf
theorem Dt.slice {P : Program} {k : Nat} {t e : TypeId} {pvs : List PV} (hu : P.underlying t = some (.slice e)) (h : Dt P k t pvs) : ∃ k', k = k' + 1 ∧ ∃ rows, pvs = [.sl rows false] ∧ rows.length ≤ maxLen ∧ ∀ r ∈ rows, Dt P k' e r := by
  cases k with
  | zero => simp only [Dt] at h
  | succ k =>
    simp only [Dt, hu] at h
    exact ⟨k, rfl, h⟩
theorem Dt.int {P : Program} {k : Nat} {t : TypeId} {kd : IntKind} {pvs : List PV} (hu : P.underlying t = some (.int kd)) (h : Dt P k t pvs) : ∃ n, (Lit.int kd n).wf = true ∧ pvs = [.int kd n] := by
  cases k with
  | zero => simp only [Dt] at h
  | succ k => simpa only [Dt, hu] using h
theorem Dt.bool {P : Program} {k : Nat} {t : TypeId} {pvs : List PV} (hu : P.underlying t = some .bool) (h : Dt P k t pvs) : ∃ b, pvs = [.bool b] := by
  cases k with
  | zero => simp only [Dt] at h
  | succ k => simpa only [Dt, hu] using h
theorem Dt.str {P : Program} {k : Nat} {t : TypeId} {pvs : List PV} (hu : P.underlying t = some .string) (h : Dt P k t pvs) : ∃ s : ByteArray, s.size ≤ maxLen ∧ pvs = [.str s] := by
  cases k with
  | zero => simp only [Dt] at h
  | succ k => simpa only [Dt, hu] using h
theorem All2.inv {α β : Type} {R : α → β → Prop} {a : α} {x : List α} {y : List β} (h : All2 R (a :: x) y) : ∃ b z, y = b :: z ∧ R a b ∧ All2 R x z := by
  cases h with
  | cons h t => exact ⟨_, _, rfl, h, t⟩
theorem All2.inv0 {α β : Type} {R : α → β → Prop} {y : List β} (h : All2 R [] y) : y = [] := by cases h; rfl
theorem rows_choose {α : Type} {P : List PV → Prop} {Q : α → Prop} {f : α → List PV} (h : ∀ r, P r → ∃ a, Q a ∧ r = f a) : ∀ rows : List (List PV), (∀ r ∈ rows, P r) → ∃ l : List α, (∀ a ∈ l, Q a) ∧ rows = l.map f
  | [], _ => ⟨[], by simp, rfl⟩
  | r :: rows, hr => by
    obtain ⟨a, h1, h2⟩ := h r (hr r (by simp))
    obtain ⟨l, h3, h4⟩ := rows_choose h rows fun x hx => hr x (by simp [hx])
    exact ⟨a :: l, by simpa using ⟨h1, h3⟩, by simp [h2, h4]⟩
theorem und76 : Try.prog.underlying 76 = some (.int .u32) := by kernel_rfl
theorem und49 : Try.prog.underlying 49 = some (.slice 76) := by kernel_rfl
theorem und52 : Try.prog.underlying 52 = some (.slice 54) := by kernel_rfl
theorem und22 : Try.prog.underlying 22 = some (.slice 3) := by kernel_rfl
theorem ft54 : fieldTypes Try.prog 54 = some [3, 9, 51, 52] := by kernel_rfl
theorem ft51 : fieldTypes Try.prog 51 = some [4, 49, 49] := by kernel_rfl
theorem wf_i64 {n : Int} (h : (Lit.int .i64 n).wf = true) : -9223372036854775808 ≤ n ∧ n ≤ 9223372036854775807 := by
  simpa [Lit.wf, IntKind.min, IntKind.max, IntKind.signed, IntKind.bits] using h
theorem wf_u32 {n : Int} (h : (Lit.int .u32 n).wf = true) : 0 ≤ n ∧ n ≤ 4294967295 := by
  simpa [Lit.wf, IntKind.min, IntKind.max, IntKind.signed, IntKind.bits] using h
theorem Dt.words {k : Nat} {pvs : List PV} (h : Dt Try.prog k 49 pvs) : ∃ l : List Int, l.length ≤ maxLen ∧ (∀ w ∈ l, 0 ≤ w ∧ w ≤ 4294967295) ∧ pvs = [.sl (wordRows l) false] := by
  obtain ⟨k', rfl, rows, rfl, h1, h2⟩ := h.slice und49
  obtain ⟨l, h3, h4⟩ := rows_choose (Q := fun w => 0 ≤ w ∧ w ≤ 4294967295) (f := fun w : Int => [.int .u32 w]) (fun r hr => by
    obtain ⟨n, h5, h6⟩ := Dt.int und76 hr
    exact ⟨n, wf_u32 h5, h6⟩) rows h2
  subst h4
  exact ⟨l, by simpa using h1, h3, rfl⟩
theorem Dt.node : ∀ (k : Nat) {pvs : List PV}, Dt Try.prog k 54 pvs → ∃ n : Node, n.ok ∧ pvs = n.cells := by
  intro k
  induction k using Nat.strongRecOn with
  | ind k ih =>
    intro pvs h
    obtain ⟨k1, rfl, pss, rfl, s0⟩ := h.struct ft54
    obtain ⟨p1, z1, rfl, h1, s1⟩ := s0.inv
    obtain ⟨p2, z2, rfl, h2, s2⟩ := s1.inv
    obtain ⟨p3, z3, rfl, h3, s3⟩ := s2.inv
    obtain ⟨p4, z4, rfl, h4, s4⟩ := s3.inv
    obtain rfl := s4.inv0
    obtain ⟨a, ha, rfl⟩ := h1.int und3
    obtain ⟨b, hb, rfl⟩ := h2.str und9
    obtain ⟨k2, rfl, qss, rfl, t0⟩ := h3.struct ft51
    obtain ⟨q1, y1, rfl, g1, t1⟩ := t0.inv
    obtain ⟨q2, y2, rfl, g2, t2⟩ := t1.inv
    obtain ⟨q3, y3, rfl, g3, t3⟩ := t2.inv
    obtain rfl := t3.inv0
    obtain ⟨c, rfl⟩ := g1.bool und4
    obtain ⟨d, hd, hd', rfl⟩ := g2.words
    obtain ⟨e, he, he', rfl⟩ := g3.words
    obtain ⟨k3, hk3, rows, rfl, h5, h6⟩ := h4.slice und52
    obtain ⟨f, h7, rfl⟩ := rows_choose (Q := Node.ok) (f := Node.cells) (fun r hr => ih k3 (by omega) hr) rows h6
    refine ⟨.mk a b c d e f, ⟨wf_i64 ha, hb, hd, he, hd', he', by simpa using h5, Node.oks_iff.2 h7⟩, ?_⟩
    simp [Node.cells, Node.rows_eq]
theorem Arg.node {k : Nat} {pv : PV} (h : Arg Try.prog k 54 pv) : ∃ n : Node, n.ok ∧ pv = .agg n.cells := by
  have hf := ft54
  unfold fieldTypes at hf
  split at hf
  · rename_i fs hu
    simp only [Arg, hu] at h
    obtain ⟨cells, rfl, h⟩ := h
    obtain ⟨n, h1, h2⟩ := Dt.node k h
    exact ⟨n, h1, by rw [h2]⟩
  · cases hf
/-- A slice of ints, as an argument. -/
def intRows (l : List Int) : List (List PV) := l.map fun w => [.int .i64 w]
theorem Arg.ints {k : Nat} {pv : PV} (h : Arg Try.prog k 22 pv) : ∃ l : List Int, l.length ≤ maxLen ∧ (∀ w ∈ l, -9223372036854775808 ≤ w ∧ w ≤ 9223372036854775807) ∧ pv = .sl (intRows l) false := by
  simp only [Arg, und22] at h
  obtain ⟨k', rfl, rows, h0, h1, h2⟩ := h.slice und22
  obtain ⟨l, h3, rfl⟩ := rows_choose (Q := fun w => -9223372036854775808 ≤ w ∧ w ≤ 9223372036854775807) (f := fun w : Int => [.int .i64 w]) (fun r hr => by
    obtain ⟨n, h5, h6⟩ := Dt.int und3 hr
    exact ⟨n, wf_i64 h5, h6⟩) rows h2
  exact ⟨l, by simpa using h1, h3, by simpa [intRows] using h0⟩
end Go.Vs
