/- The oracle is true: rat.Text of 2 is "2" and no error. -/
import Derived.WalkKit
import Derived.Test.YtkaeejkajfinhaaGreatMS8
import Derived.Test.YtkaeejkajfinhaaGreatMS12
import Derived.Test.YtkaeejkajfinhaaGreatMS27
section
set_option linter.unusedVariables false
set_option linter.unusedSimpArgs false
namespace Go.Vs
open Go Go.Proofs Go.RowKit
/-- The same interpreter without an oracle. -/
def hints0 : Hints := { hints with orc := fun _ => none }
theorem hints0_none : OrcOK Tryz.prog hints0 := OrcOK.none fun _ => rfl
theorem builder_keep {B b : Nat} {p : Value} {bs : List Value} {w w' : World} (h : Lib.BuilderAt 166 5 B b p bs w) (hk : ∀ k, k < w.heap.size → w'.heap[k]? = w.heap[k]?) : Lib.BuilderAt 166 5 B b p bs w' := by
  have hlt := h.lt
  obtain ⟨hB, v, hb, ho, hn⟩ := h
  refine ⟨hB, v, by rw [hk b hlt]; exact hb, ⟨ho.1, ?_⟩, hn⟩
  rcases ho.2 with h1 | ⟨g, cap, cur, h1, h2, h3, h4⟩
  · exact .inl h1
  · exact .inr ⟨g, cap, cur, h1, h2, by rw [hk g (Array.getElem?_eq_some_iff.1 h3).1]; exact h3, h4⟩
theorem Grown.trans {a b c : World} (h : Grown a b) (k : Grown b c) : Grown a c := ⟨k.os.trans h.os, k.tape.trans h.tape, k.output.trans h.output, Nat.le_trans h.size k.size, fun i hi => (k.keep i (Nat.lt_of_lt_of_le hi h.size)).trans (h.keep i hi)⟩
theorem Grown.alloc (w : World) (o : Go.Obj) : Grown w (w.alloc o) := by
  have h := (Below.refl w.heap.size w).alloc (Nat.le_refl _) o
  exact ⟨h.os, h.tape, h.output, h.size, h.block⟩
theorem keeps_of {w w' : World} {Y : Nat → Prop} (hg : ∀ k, k < w.heap.size → w'.heap[k]? = w.heap[k]?) : Keeps w Y w' Y := fun a v h hn => by
  refine ⟨?_, hn⟩
  have hlt : a.block < w.heap.size := by
    rcases Nat.lt_or_ge a.block w.heap.size with h' | h'
    · exact h'
    · simp [World.cell?, Array.getElem?_eq_none h'] at h
  rw [World.cell?_of_block (w := w) (hg a.block hlt)]
  exact h
def two (x y : Bool) : PV := .agg [.bool false, .sl [[.int .u32 2]] x, .sl [[.int .u32 1]] y]
theorem run_Valid (x y : Bool) : callP Tryz.prog hints0 60 109 [two x y] = some (.bool true) := by cases x <;> cases y <;> kernel_rfl
theorem run_Text (x : Bool) : callP Tryz.prog hints0 60 155 [.sl [[.int .u32 2]] x] = some (.tup [.str ⟨#[50]⟩, .int .i64 0]) := by cases x <;> kernel_rfl
theorem run_Whole (x y : Bool) : callP Tryz.prog hints0 60 157 [two x y] = some (.bool true) := by cases x <;> cases y <;> kernel_rfl
theorem inv_two {w : World} {Y : Nat → Prop} {x y : Bool} {v : Value} (h : VR w Y noMu (two x y) v) : ∃ v1 v2, v = .agg #[.bool false, v1, v2] ∧ flat v1 = true ∧ flat v2 = true ∧ VR w Y noMu (.sl [[.int .u32 2]] x) v1 ∧ VR w Y noMu (.sl [[.int .u32 1]] y) v2 := by
  unfold two at h
  cases h with
  | fr h => cases h
  | agg cells cs hn hf hr =>
    obtain ⟨l⟩ := cs
    match l, hn with
    | [a, b, c], _ =>
      have h0 := hr 0 _ a rfl rfl
      have h1 := hr 1 _ b rfl rfl
      have h2 := hr 2 _ c rfl rfl
      have e0 : a = .bool false := by
        cases h0 with
        | fr h => cases h; rfl
      exact ⟨b, c, by rw [e0], hf 1 b rfl, hf 2 c rfl, h1, h2⟩
theorem vr_two {w : World} {Y : Nat → Prop} {x y : Bool} {v1 v2 : Value} (f1 : flat v1 = true) (f2 : flat v2 = true) (h1 : VR w Y noMu (.sl [[.int .u32 2]] x) v1) (h2 : VR w Y noMu (.sl [[.int .u32 1]] y) v2) : VR w Y noMu (two x y) (.agg #[.bool false, v1, v2]) :=
  .agg _ _ rfl (fun j v hj => by
    match j, hj with
    | 0, hj => simp at hj; subst hj; rfl
    | 1, hj => simp at hj; subst hj; exact f1
    | 2, hj => simp at hj; subst hj; exact f2) (fun j pv v hp hv => by
    match j, hp, hv with
    | 0, hp, hv => simp at hp hv; subst hp hv; exact .fr (.bool _)
    | 1, hp, hv => simp at hp hv; subst hp hv; exact h1
    | 2, hp, hv => simp at hp hv; subst hp hv; exact h2)
/-- One argument. -/
theorem call1 {f : FuncId} {a r : PV} {k : Nat} (hr : callP Tryz.prog hints0 k f [a] = some r) {w : World} {Y : Nat → Prop} (hY : ∀ b, Y b → b < w.heap.size) {v : Value} (hv : VR w Y noMu a v) : Calls Tryz.prog f #[v] w fun e w' => ∃ u, e = .returned u ∧ Grown w w' ∧ VR w' Y noMu r u := by
  obtain ⟨_, _, _, _, _, h⟩ := callP_sound Tryz.checked.mixed hints0_none k f [a] r hr
  exact h w Y #[v] hY rfl fun j pv u hp hu => by
    match j, hp, hu with
    | 0, hp, hu => simp at hp hu; subst hp hu; exact hv
theorem vr_bool {w : World} {Y : Nat → Prop} {b : Bool} {u : Value} (h : VR w Y noMu (.bool b) u) : u = .bool b := by
  cases h with
  | fr h => cases h; rfl
theorem vr_text {w : World} {Y : Nat → Prop} {s : ByteArray} {n : Int} {u : Value} (h : VR w Y noMu (.tup [.str s, .int .i64 n]) u) : u = .tuple #[.string s, .int .i64 n] := by
  cases h with
  | fr h => cases h
  | tup vs us hn hr =>
    obtain ⟨l⟩ := us
    match l, hn with
    | [a, b], _ =>
      have h0 := hr 0 _ a rfl rfl
      have h1 := hr 1 _ b rfl rfl
      cases h0 with
      | fr h => cases h; cases h1 with
        | fr h => cases h; rfl
set_option maxHeartbeats 4000000 in
set_option maxRecDepth 1000000 in
theorem text_calls {w : World} {Y : Nat → Prop} (hY : ∀ b, Y b → b < w.heap.size) {x y : Bool} {v : Value} (hv : VR w Y noMu (two x y) v) : Calls Tryz.prog 121 #[v] w fun e w' => ∃ u, e = .returned u ∧ Grown w w' ∧ VR w' Y noMu (.tup [.str ⟨#[50]⟩, .int .i64 0]) u := by
  obtain ⟨v1, v2, rfl, f1, f2, r1, r2⟩ := inv_two hv
  go_enter Tryz.func121, Tryz.ntmps121
  go_wp2_with (go_at_call 109; refine (call1 (run_Valid x y) (Y := Y) ?hY1 ?hv1).mono ?_)
  case hY1 => intro b hb; exact Nat.lt_of_lt_of_le (hY b hb) (Grown.alloc w _).size
  case hv1 => exact vr_two f1 f2 (r1.mono (keeps_of (Grown.alloc w _).keep) fun _ _ _ h => by cases h) (r2.mono (keeps_of (Grown.alloc w _).keep) fun _ _ _ h => by cases h)
  rintro e w1 ⟨u, rfl, g1, hu⟩
  cases vr_bool hu
  have k1 : w1.heap[w.heap.size]? = some (.cells #[.bool false, v1, v2] 27 (0, 0)) := by
    rw [g1.keep _ (by simp)]
    exact heap_alloc_new
  have g1' : Grown w w1 := (Grown.alloc w _).trans g1
  have lt1 : w.heap.size < w1.heap.size := (Array.getElem?_eq_some_iff.1 k1).1
  have k2 := Lib.alloc_old w1 (.cells #[.pointer none, .slice none 0 0] 166) _ lt1
  have hf := Lib.fresh_isBuilder 166 5 w1
  have g2 : Grown w (w1.alloc (.cells #[.pointer none, .slice none 0 0] 166)) := Grown.trans g1' (Grown.alloc _ _)
  have z2 : (w1.alloc (.cells #[.pointer none, .slice none 0 0] 166)).heap.size = w1.heap.size + 1 := by simp
  rw [k1] at k2
  have a0 : (w1.alloc (.cells #[.pointer none, .slice none 0 0] 166)).cell? ⟨w.heap.size, 0, none⟩ = some (.bool false) := by rw [Lib.cell_of_heap k2]; rfl
  have a1 : (w1.alloc (.cells #[.pointer none, .slice none 0 0] 166)).cell? ⟨w.heap.size, 1, none⟩ = some v1 := by rw [Lib.cell_of_heap k2]; rfl
  go_wp2_with (go_at_call 155; refine (call1 (run_Text x) (Y := Y) ?hY1 ?hv1).mono ?_)
  case hY1 => intro b hb; exact Nat.lt_of_lt_of_le (hY b hb) g2.size
  case hv1 => exact r1.mono (keeps_of g2.keep) fun _ _ _ h => by cases h
  rintro e w2 ⟨u, rfl, g3, hu⟩
  cases vr_text hu
  have b0 : Lib.BuilderAt 166 5 w1.heap.size w1.heap.size (.pointer none) [] w2 := by
    rcases hf with hf | hf
    · exact builder_keep hf g3.keep
    · exfalso
      obtain ⟨_, v, hb, _⟩ := hf
      have := (heap_alloc_new (w := w1)).symm.trans hb
      cases this
  have g4 : Grown w w2 := g2.trans g3
  have z4 : w1.heap.size + 1 ≤ w2.heap.size := by rw [← z2]; exact g3.size
  have k4 : w2.heap[w.heap.size]? = some (.cells #[.bool false, v1, v2] 27 (0, 0)) := by rw [g3.keep _ (by omega)]; exact k2
  go_wp2_with (go_at_call 156; refine (Tryz.WriteString_fresh _ _ _ _ _ b0 ?hl1 ?hB1).mono ?_)
  case hl1 => decide
  case hB1 => omega
  rintro e w3 ⟨rfl, b1, g5⟩
  have k5 : w3.heap[w.heap.size]? = some (.cells #[.bool false, v1, v2] 27 (0, 0)) := by rw [g5.block _ lt1]; exact k4
  have g6 : Grown w w3 := ⟨g5.os.trans g4.os, g5.tape.trans g4.tape, g5.output.trans g4.output, Nat.le_trans g4.size g5.size, fun b hb => (g5.block b (by have := g1'.size; omega)).trans (g4.keep b hb)⟩
  have a0 : w3.cell? ⟨w.heap.size, 0, none⟩ = some (.bool false) := by rw [Lib.cell_of_heap k5]; rfl
  have a1 : w3.cell? ⟨w.heap.size, 1, none⟩ = some v1 := by rw [Lib.cell_of_heap k5]; rfl
  have a2 : w3.cell? ⟨w.heap.size, 2, none⟩ = some v2 := by rw [Lib.cell_of_heap k5]; rfl
  go_wp2_with (go_at_call 157; refine (call1 (run_Whole x y) (Y := Y) ?hY1 ?hv1).mono ?_)
  case hY1 => intro b hb; exact Nat.lt_of_lt_of_le (hY b hb) g6.size
  case hv1 => exact vr_two f1 f2 (r1.mono (keeps_of g6.keep) fun _ _ _ h => by cases h) (r2.mono (keeps_of g6.keep) fun _ _ _ h => by cases h)
  rintro e w4 ⟨u, rfl, g7, hu⟩
  cases vr_bool hu
  have b2 : Lib.IsBuilder 166 5 w1.heap.size w1.heap.size (Lib.byteCells [50]) w4 := .inr (builder_keep b1 g7.keep)
  have g8 : Grown w w4 := g6.trans g7
  go_wp2_with (go_at_call 158; refine (Tryz.Builder_String _ _ [50] _ b2 (by decide)).mono ?_)
  rintro e w5 ⟨rfl, g9⟩
  have g10 : Grown w w5 := ⟨g9.os.trans g8.os, g9.tape.trans g8.tape, g9.output.trans g8.output, Nat.le_trans g8.size g9.size, fun b hb => (g9.block b (by have := g1'.size; omega)).trans (g8.keep b hb)⟩
  go_wp2
  go_ret2
  refine ⟨_, rfl, g10, .tup _ _ rfl fun j pv v hp hv => ?_⟩
  match j, hp, hv with
  | 0, hp, hv => simp at hp hv; subst hp hv; exact .fr (.str _)
  | 1, hp, hv => simp at hp hv; subst hp hv; exact .fr (.int _ _)
theorem orcText2_some {args : List PV} {r : PV} (h : orcText2 args = some r) : ∃ x y, args = [two x y] ∧ r = .tup [.str ⟨#[50]⟩, .int .i64 0] := by
  unfold orcText2 at h
  split at h
  · rename_i x y
    exact ⟨x, y, rfl, (Option.some.inj h).symm⟩
  · cases h
theorem hints_orc : OrcOK Tryz.prog hints := by
  intro f args r hr
  have ho : hints.orc f = if f = 121 then some orcText2 else none := by
    show ([(121, orcText2)] : List (Nat × _)).lookup f = _
    by_cases hf : f = 121
    · subst hf; rfl
    · rw [if_neg hf, List.lookup_cons, beq_eq_false_iff_ne.2 hf]; rfl
  simp only [ho] at hr
  by_cases hf : f = 121
  · subst hf
    rw [if_pos rfl, Option.bind_some] at hr
    obtain ⟨x, y, rfl, rfl⟩ := orcText2_some hr
    refine ⟨_, _, Tryz.func121, rfl, by decide, fun w Y vs hY hn hv => ?_⟩
    obtain ⟨l⟩ := vs
    match l, hn with
    | [v], _ => exact text_calls hY (hv 0 _ _ rfl rfl)
  · rw [if_neg hf, Option.bind_none] at hr; cases hr
end Go.Vs
end
/- StateSets: arguments by their types; the law for all arguments. -/
section
set_option linter.unusedVariables false
set_option linter.unusedSimpArgs false
namespace Go.Vs
open Go Go.Proofs
/-- The types of a struct's fields. -/
def fieldTypes (P : Program) (t : TypeId) : Option (List TypeId) := match P.underlying t with
  | some (.struct fs) => some (fs.toList.map Field.type)
  | _ => none
theorem all2_map {α β γ : Type} {R : γ → β → Prop} {f : α → γ} : ∀ {x : List α} {y : List β}, All2 (fun a b => R (f a) b) x y → All2 R (x.map f) y
  | _, _, .nil => .nil
  | _, _, .cons h t => .cons h (all2_map t)
theorem Dt.struct {P : Program} {k : Nat} {t : TypeId} {ts : List TypeId} {pvs : List PV} (hf : fieldTypes P t = some ts) (h : Dt P k t pvs) : ∃ k', k = k' + 1 ∧ ∃ pss : List (List PV), pvs = pss.flatten ∧ All2 (fun t ps => Dt P k' t ps) ts pss := by
  cases k with
  | zero => simp only [Dt] at h
  | succ k =>
    unfold fieldTypes at hf
    split at hf
    · rename_i fs hu
      simp only [Dt, hu] at h
      obtain ⟨pss, h1, h2⟩ := h
      simp only [Option.some.injEq] at hf
      subst hf
      exact ⟨k, rfl, pss, h1, all2_map (R := fun t ps => Dt P k t ps) h2⟩
    · cases hf
theorem Dt.slice {P : Program} {k : Nat} {t e : TypeId} {pvs : List PV} (hu : P.underlying t = some (.slice e)) (h : Dt P k t pvs) : ∃ k', k = k' + 1 ∧ ∃ rows, pvs = [.sl rows false] ∧ rows.length ≤ maxLen ∧ ∀ r ∈ rows, Dt P k' e r := by
  cases k with
  | zero => simp only [Dt] at h
  | succ k =>
    simp only [Dt, hu] at h
    exact ⟨k, rfl, h⟩
theorem Dt.int {P : Program} {k : Nat} {t : TypeId} {kd : IntKind} {pvs : List PV} (hu : P.underlying t = some (.int kd)) (h : Dt P k t pvs) : ∃ n, (Lit.int kd n).wf = true ∧ pvs = [.int kd n] := by
  cases k with
  | zero => simp only [Dt] at h
  | succ k => simpa only [Dt, hu] using h
theorem Dt.bool {P : Program} {k : Nat} {t : TypeId} {pvs : List PV} (hu : P.underlying t = some .bool) (h : Dt P k t pvs) : ∃ b, pvs = [.bool b] := by
  cases k with
  | zero => simp only [Dt] at h
  | succ k => simpa only [Dt, hu] using h
theorem Dt.str {P : Program} {k : Nat} {t : TypeId} {pvs : List PV} (hu : P.underlying t = some .string) (h : Dt P k t pvs) : ∃ s : ByteArray, s.size ≤ maxLen ∧ pvs = [.str s] := by
  cases k with
  | zero => simp only [Dt] at h
  | succ k => simpa only [Dt, hu] using h
theorem All2.inv {α β : Type} {R : α → β → Prop} {a : α} {x : List α} {y : List β} (h : All2 R (a :: x) y) : ∃ b z, y = b :: z ∧ R a b ∧ All2 R x z := by
  cases h with
  | cons h t => exact ⟨_, _, rfl, h, t⟩
theorem All2.inv0 {α β : Type} {R : α → β → Prop} {y : List β} (h : All2 R [] y) : y = [] := by cases h; rfl
theorem rows_choose {α : Type} {P : List PV → Prop} {Q : α → Prop} {f : α → List PV} (h : ∀ r, P r → ∃ a, Q a ∧ r = f a) : ∀ rows : List (List PV), (∀ r ∈ rows, P r) → ∃ l : List α, (∀ a ∈ l, Q a) ∧ rows = l.map f
  | [], _ => ⟨[], by simp, rfl⟩
  | r :: rows, hr => by
    obtain ⟨a, h1, h2⟩ := h r (hr r (by simp))
    obtain ⟨l, h3, h4⟩ := rows_choose h rows fun x hx => hr x (by simp [hx])
    exact ⟨a :: l, by simpa using ⟨h1, h3⟩, by simp [h2, h4]⟩
theorem wf_u32 {n : Int} (h : (Lit.int .u32 n).wf = true) : 0 ≤ n ∧ n ≤ 4294967295 := by
  simpa [Lit.wf, IntKind.min, IntKind.max, IntKind.signed, IntKind.bits] using h
section
variable {P : Program} {k : Nat} {t : TypeId} {pv : PV} {pvs : List PV}
theorem Arg.str (hu : P.underlying t = some .string) (h : Arg P k t pv) : ∃ s : ByteArray, s.size ≤ maxLen ∧ pv = .str s := by
  simp only [Arg, hu] at h
  cases k with
  | zero => simp only [Dt] at h
  | succ k =>
    simp only [Dt, hu] at h
    obtain ⟨s, h1, h2⟩ := h
    exact ⟨s, h1, by simpa using h2⟩
theorem Arg.int {kd : IntKind} (hu : P.underlying t = some (.int kd)) (h : Arg P k t pv) : ∃ n, (Lit.int kd n).wf = true ∧ pv = .int kd n := by
  simp only [Arg, hu] at h
  cases k with
  | zero => simp only [Dt] at h
  | succ k =>
    simp only [Dt, hu] at h
    obtain ⟨s, h1, h2⟩ := h
    exact ⟨s, h1, by simpa using h2⟩
theorem Args.nil_inv (h : Args P [] pvs) : pvs = [] := by cases h; rfl
theorem Args.cons_inv {ts : List TypeId} (h : Args P (t :: ts) pvs) : ∃ pv r k, pvs = pv :: r ∧ Arg P k t pv ∧ Args P ts r := by
  cases h with
  | cons h r =>
    obtain ⟨k, h⟩ := h
    exact ⟨_, _, k, rfl, h, r⟩
end
theorem und_us : Tryz.prog.underlying 25 = some (.slice 126) := by kernel_rfl
theorem und_u32 : Tryz.prog.underlying 126 = some (.int .u32) := by kernel_rfl
theorem und_str : Tryz.prog.underlying 9 = some .string := by kernel_rfl
theorem und_bool : Tryz.prog.underlying 4 = some .bool := by kernel_rfl
theorem und_ss : Tryz.prog.underlying 45 = some (.slice 9) := by kernel_rfl
theorem und_st : Tryz.prog.underlying 35 = some (.slice 98) := by kernel_rfl
theorem ft_Rat : fieldTypes Tryz.prog 27 = some [4, 25, 25] := by kernel_rfl
theorem ft_Bind : fieldTypes Tryz.prog 98 = some [9, 27] := by kernel_rfl
theorem ft_Nms : fieldTypes Tryz.prog 47 = some [4, 45] := by kernel_rfl
theorem okD_of {l : List Int} (h : ∀ w ∈ l, 0 ≤ w ∧ w ≤ 4294967295) : OkD WB l := fun w hw => by
  have := h w hw
  exact ⟨this.1, by show w < 4294967296; omega⟩
theorem Dt.wordsK {k : Nat} {pvs : List PV} (h : Dt Tryz.prog k 25 pvs) : ∃ l : List Int, l.length ≤ maxLen ∧ OkD WB l ∧ pvs = [.sl (kRows .u32 l) false] := by
  obtain ⟨k', rfl, rows, rfl, h1, h2⟩ := h.slice und_us
  obtain ⟨l, h3, h4⟩ := rows_choose (Q := fun w => 0 ≤ w ∧ w ≤ 4294967295) (f := fun w : Int => [.int .u32 w]) (fun r hr => by
    obtain ⟨n, h5, h6⟩ := Dt.int und_u32 hr
    exact ⟨n, wf_u32 h5, h6⟩) rows h2
  subst h4
  exact ⟨l, by simpa using h1, okD_of h3, rfl⟩
theorem Dt.rat {k : Nat} {pvs : List PV} (h : Dt Tryz.prog k 27 pvs) : ∃ v : RV, v.ok ∧ pvs = v.cells := by
  obtain ⟨k', rfl, pss, rfl, h1⟩ := h.struct ft_Rat
  obtain ⟨p1, r1, rfl, a1, h2⟩ := h1.inv
  obtain ⟨p2, r2, rfl, a2, h3⟩ := h2.inv
  obtain ⟨p3, r3, rfl, a3, h4⟩ := h3.inv
  cases h4.inv0
  obtain ⟨b, rfl⟩ := Dt.bool und_bool a1
  obtain ⟨N, n1, n2, rfl⟩ := Dt.wordsK a2
  obtain ⟨D, d1, d2, rfl⟩ := Dt.wordsK a3
  exact ⟨⟨b, N, D⟩, ⟨n2, d2, n1, d1⟩, rfl⟩
theorem Dt.bind {k : Nat} {pvs : List PV} (h : Dt Tryz.prog k 98 pvs) : ∃ b : Bd, b.ok ∧ pvs = b.cells := by
  obtain ⟨k', rfl, pss, rfl, h1⟩ := h.struct ft_Bind
  obtain ⟨p1, r1, rfl, a1, h2⟩ := h1.inv
  obtain ⟨p2, r2, rfl, a2, h3⟩ := h2.inv
  cases h3.inv0
  obtain ⟨s, s1, rfl⟩ := Dt.str und_str a1
  obtain ⟨v, v1, rfl⟩ := Dt.rat a2
  exact ⟨⟨s, v⟩, ⟨s1, v1⟩, rfl⟩
theorem Arg.rat {k : Nat} {pv : PV} (h : Arg Tryz.prog k 27 pv) : ∃ v : RV, v.ok ∧ pv = .agg v.cells := by
  have hf := ft_Rat
  unfold fieldTypes at hf
  split at hf
  · rename_i fs hu
    simp only [Arg, hu] at h
    obtain ⟨cells, rfl, h⟩ := h
    obtain ⟨n, h1, h2⟩ := Dt.rat h
    exact ⟨n, h1, by rw [h2]⟩
  · cases hf
theorem Arg.names {k : Nat} {pv : PV} (h : Arg Tryz.prog k 47 pv) : ∃ (al : Bool) (l : List ByteArray), NmsOk l ∧ pv = .agg [.bool al, .sl (ssRows l) false] := by
  have hf := ft_Nms
  unfold fieldTypes at hf
  split at hf
  · rename_i fs hu
    simp only [Arg, hu] at h
    obtain ⟨cells, rfl, h⟩ := h
    obtain ⟨k', rfl, pss, rfl, h1⟩ := Dt.struct ft_Nms h
    obtain ⟨p1, r1, rfl, a1, h2⟩ := h1.inv
    obtain ⟨p2, r2, rfl, a2, h3⟩ := h2.inv
    cases h3.inv0
    obtain ⟨b, rfl⟩ := Dt.bool und_bool a1
    obtain ⟨k', rfl, rows, rfl, g1, g2⟩ := Dt.slice und_ss a2
    obtain ⟨l, g3, g4⟩ := rows_choose (Q := fun s : ByteArray => s.size ≤ maxLen) (f := fun s : ByteArray => [.str s]) (fun r hr => Dt.str und_str hr) rows g2
    subst g4
    exact ⟨b, l, g3, rfl⟩
  · cases hf
theorem Arg.state {k : Nat} {pv : PV} (h : Arg Tryz.prog k 35 pv) : ∃ L : List Bd, L.length ≤ maxLen ∧ StOk L ∧ pv = .sl (stRows L) false := by
  simp only [Arg, und_st] at h
  obtain ⟨k', rfl, rows, h0, h1, h2⟩ := h.slice und_st
  obtain ⟨l, h3, h4⟩ := rows_choose (Q := Bd.ok) (f := Bd.cells) (fun r hr => Dt.bind hr) rows h2
  subst h4
  exact ⟨l, by simpa using h1, h3, by simpa [stRows] using h0⟩
theorem law_StateSets (pvs : List PV) (h : Args Tryz.prog [35, 35, 9, 9, 27, 47] pvs) : callL Tryz.prog hints 6 pvs = some (.bool true) := by
  obtain ⟨x1, r1, k1, rfl, h1, t1⟩ := h.cons_inv
  obtain ⟨x2, r2, k2, rfl, h2, t2⟩ := t1.cons_inv
  obtain ⟨x3, r3, k3, rfl, h3, t3⟩ := t2.cons_inv
  obtain ⟨x4, r4, k4, rfl, h4, t4⟩ := t3.cons_inv
  obtain ⟨x5, r5, k5, rfl, h5, t5⟩ := t4.cons_inv
  obtain ⟨x6, r6, k6, rfl, h6, t6⟩ := t5.cons_inv
  cases t6.nil_inv
  obtain ⟨A, _, hA, rfl⟩ := h1.state
  obtain ⟨B, _, hB, rfl⟩ := h2.state
  obtain ⟨nm, hn, rfl⟩ := h3.str und_str
  obtain ⟨ot, ho, rfl⟩ := h4.str und_str
  obtain ⟨v, hv, rfl⟩ := h5.rat
  obtain ⟨al, l, hl, rfl⟩ := h6.names
  exact call_StateSets A B nm ot v al l hA hB hn ho hv hl
end Go.Vs
end
