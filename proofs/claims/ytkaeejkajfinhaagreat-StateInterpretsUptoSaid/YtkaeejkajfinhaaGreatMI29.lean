import Derived.WalkKit
import Derived.Test.YtkaeejkajfinhaaGreatRows
import Derived.Test.YtkaeejkajfinhaaGreatMI8
import Derived.Test.YtkaeejkajfinhaaGreatMI12
import Derived.Test.YtkaeejkajfinhaaGreatMI28
section
set_option linter.unusedVariables false
set_option linter.unusedSimpArgs false
namespace Go.Vs
open Go Go.Proofs Go.RowKit
def hints0 : Hints := { hints with orc := fun _ => none }
theorem hints0_none : OrcOK Tryz.prog hints0 := OrcOK.none fun _ => rfl
theorem builder_keep {B b : Nat} {p : Value} {bs : List Value} {w w' : World} (h : Lib.BuilderAt 166 5 B b p bs w) (hk : ∀ k, k < w.heap.size → w'.heap[k]? = w.heap[k]?) : Lib.BuilderAt 166 5 B b p bs w' := by
  have hlt := h.lt
  obtain ⟨hB, v, hb, ho, hn⟩ := h
  refine ⟨hB, v, by rw [hk b hlt]; exact hb, ⟨ho.1, ?_⟩, hn⟩
  rcases ho.2 with h1 | ⟨g, cap, cur, h1, h2, h3, h4⟩
  · exact .inl h1
  · exact .inr ⟨g, cap, cur, h1, h2, by rw [hk g (Array.getElem?_eq_some_iff.1 h3).1]; exact h3, h4⟩
theorem Grown.trans {a b c : World} (h : Grown a b) (k : Grown b c) : Grown a c := ⟨k.os.trans h.os, k.tape.trans h.tape, k.output.trans h.output, Nat.le_trans h.size k.size, fun i hi => (k.keep i (Nat.lt_of_lt_of_le hi h.size)).trans (h.keep i hi)⟩
theorem Grown.alloc (w : World) (o : Go.Obj) : Grown w (w.alloc o) := by
  have h := (Below.refl w.heap.size w).alloc (Nat.le_refl _) o
  exact ⟨h.os, h.tape, h.output, h.size, h.block⟩
theorem keeps_of {w w' : World} {Y : Nat → Prop} (hg : ∀ k, k < w.heap.size → w'.heap[k]? = w.heap[k]?) : Keeps w Y w' Y := fun a v h hn => by
  refine ⟨?_, hn⟩
  have hlt : a.block < w.heap.size := by
    rcases Nat.lt_or_ge a.block w.heap.size with h' | h'
    · exact h'
    · simp [World.cell?, Array.getElem?_eq_none h'] at h
  rw [World.cell?_of_block (w := w) (hg a.block hlt)]
  exact h
def two (x y : Bool) : PV := .agg [.bool false, .sl [[.int .u32 2]] x, .sl [[.int .u32 1]] y]
theorem run_Valid (x y : Bool) : callP Tryz.prog hints0 60 109 [two x y] = some (.bool true) := by cases x <;> cases y <;> kernel_rfl
theorem run_Text (x : Bool) : callP Tryz.prog hints0 60 155 [.sl [[.int .u32 2]] x] = some (.tup [.str ⟨#[50]⟩, .int .i64 0]) := by cases x <;> kernel_rfl
theorem run_Whole (x y : Bool) : callP Tryz.prog hints0 60 157 [two x y] = some (.bool true) := by cases x <;> cases y <;> kernel_rfl
theorem inv_two {w : World} {Y : Nat → Prop} {x y : Bool} {v : Value} (h : VR w Y noMu (two x y) v) : ∃ v1 v2, v = .agg #[.bool false, v1, v2] ∧ flat v1 = true ∧ flat v2 = true ∧ VR w Y noMu (.sl [[.int .u32 2]] x) v1 ∧ VR w Y noMu (.sl [[.int .u32 1]] y) v2 := by
  unfold two at h
  cases h with
  | fr h => cases h
  | agg cells cs hn hf hr =>
    obtain ⟨l⟩ := cs
    match l, hn with
    | [a, b, c], _ =>
      have h0 := hr 0 _ a rfl rfl
      have h1 := hr 1 _ b rfl rfl
      have h2 := hr 2 _ c rfl rfl
      have e0 : a = .bool false := by
        cases h0 with
        | fr h => cases h; rfl
      exact ⟨b, c, by rw [e0], hf 1 b rfl, hf 2 c rfl, h1, h2⟩
theorem vr_two {w : World} {Y : Nat → Prop} {x y : Bool} {v1 v2 : Value} (f1 : flat v1 = true) (f2 : flat v2 = true) (h1 : VR w Y noMu (.sl [[.int .u32 2]] x) v1) (h2 : VR w Y noMu (.sl [[.int .u32 1]] y) v2) : VR w Y noMu (two x y) (.agg #[.bool false, v1, v2]) :=
  .agg _ _ rfl (fun j v hj => by
    match j, hj with
    | 0, hj => simp at hj; subst hj; rfl
    | 1, hj => simp at hj; subst hj; exact f1
    | 2, hj => simp at hj; subst hj; exact f2) (fun j pv v hp hv => by
    match j, hp, hv with
    | 0, hp, hv => simp at hp hv; subst hp hv; exact .fr (.bool _)
    | 1, hp, hv => simp at hp hv; subst hp hv; exact h1
    | 2, hp, hv => simp at hp hv; subst hp hv; exact h2)
theorem call1 {f : FuncId} {a r : PV} {k : Nat} (hr : callP Tryz.prog hints0 k f [a] = some r) {w : World} {Y : Nat → Prop} (hY : ∀ b, Y b → b < w.heap.size) {v : Value} (hv : VR w Y noMu a v) : Calls Tryz.prog f #[v] w fun e w' => ∃ u, e = .returned u ∧ Grown w w' ∧ VR w' Y noMu r u := by
  obtain ⟨_, _, _, _, _, h⟩ := callP_sound Tryz.checked.mixed hints0_none k f [a] r hr
  exact h w Y #[v] hY rfl fun j pv u hp hu => by
    match j, hp, hu with
    | 0, hp, hu => simp at hp hu; subst hp hu; exact hv
theorem vr_bool {w : World} {Y : Nat → Prop} {b : Bool} {u : Value} (h : VR w Y noMu (.bool b) u) : u = .bool b := by
  cases h with
  | fr h => cases h; rfl
theorem vr_text {w : World} {Y : Nat → Prop} {s : ByteArray} {n : Int} {u : Value} (h : VR w Y noMu (.tup [.str s, .int .i64 n]) u) : u = .tuple #[.string s, .int .i64 n] := by
  cases h with
  | fr h => cases h
  | tup vs us hn hr =>
    obtain ⟨l⟩ := us
    match l, hn with
    | [a, b], _ =>
      have h0 := hr 0 _ a rfl rfl
      have h1 := hr 1 _ b rfl rfl
      cases h0 with
      | fr h => cases h; cases h1 with
        | fr h => cases h; rfl
set_option maxHeartbeats 4000000 in
set_option maxRecDepth 1000000 in
theorem text_calls {w : World} {Y : Nat → Prop} (hY : ∀ b, Y b → b < w.heap.size) {x y : Bool} {v : Value} (hv : VR w Y noMu (two x y) v) : Calls Tryz.prog 121 #[v] w fun e w' => ∃ u, e = .returned u ∧ Grown w w' ∧ VR w' Y noMu (.tup [.str ⟨#[50]⟩, .int .i64 0]) u := by
  obtain ⟨v1, v2, rfl, f1, f2, r1, r2⟩ := inv_two hv
  go_enter Tryz.func121, Tryz.ntmps121
  go_wp2_with (go_at_call 109; refine (call1 (run_Valid x y) (Y := Y) ?hY1 ?hv1).mono ?_)
  case hY1 => intro b hb; exact Nat.lt_of_lt_of_le (hY b hb) (Grown.alloc w _).size
  case hv1 => exact vr_two f1 f2 (r1.mono (keeps_of (Grown.alloc w _).keep) fun _ _ _ h => by cases h) (r2.mono (keeps_of (Grown.alloc w _).keep) fun _ _ _ h => by cases h)
  rintro e w1 ⟨u, rfl, g1, hu⟩
  cases vr_bool hu
  have k1 : w1.heap[w.heap.size]? = some (.cells #[.bool false, v1, v2] 27 (0, 0)) := by
    rw [g1.keep _ (by simp)]
    exact heap_alloc_new
  have g1' : Grown w w1 := (Grown.alloc w _).trans g1
  have lt1 : w.heap.size < w1.heap.size := (Array.getElem?_eq_some_iff.1 k1).1
  have k2 := Lib.alloc_old w1 (.cells #[.pointer none, .slice none 0 0] 166) _ lt1
  have hf := Lib.fresh_isBuilder 166 5 w1
  have g2 : Grown w (w1.alloc (.cells #[.pointer none, .slice none 0 0] 166)) := Grown.trans g1' (Grown.alloc _ _)
  have z2 : (w1.alloc (.cells #[.pointer none, .slice none 0 0] 166)).heap.size = w1.heap.size + 1 := by simp
  rw [k1] at k2
  have a0 : (w1.alloc (.cells #[.pointer none, .slice none 0 0] 166)).cell? ⟨w.heap.size, 0, none⟩ = some (.bool false) := by rw [Lib.cell_of_heap k2]; rfl
  have a1 : (w1.alloc (.cells #[.pointer none, .slice none 0 0] 166)).cell? ⟨w.heap.size, 1, none⟩ = some v1 := by rw [Lib.cell_of_heap k2]; rfl
  go_wp2_with (go_at_call 155; refine (call1 (run_Text x) (Y := Y) ?hY1 ?hv1).mono ?_)
  case hY1 => intro b hb; exact Nat.lt_of_lt_of_le (hY b hb) g2.size
  case hv1 => exact r1.mono (keeps_of g2.keep) fun _ _ _ h => by cases h
  rintro e w2 ⟨u, rfl, g3, hu⟩
  cases vr_text hu
  have b0 : Lib.BuilderAt 166 5 w1.heap.size w1.heap.size (.pointer none) [] w2 := by
    rcases hf with hf | hf
    · exact builder_keep hf g3.keep
    · exfalso
      obtain ⟨_, v, hb, _⟩ := hf
      have := (heap_alloc_new (w := w1)).symm.trans hb
      cases this
  have g4 : Grown w w2 := g2.trans g3
  have z4 : w1.heap.size + 1 ≤ w2.heap.size := by rw [← z2]; exact g3.size
  have k4 : w2.heap[w.heap.size]? = some (.cells #[.bool false, v1, v2] 27 (0, 0)) := by rw [g3.keep _ (by omega)]; exact k2
  go_wp2_with (go_at_call 156; refine (Tryz.WriteString_fresh _ _ _ _ _ b0 ?hl1 ?hB1).mono ?_)
  case hl1 => decide
  case hB1 => omega
  rintro e w3 ⟨rfl, b1, g5⟩
  have k5 : w3.heap[w.heap.size]? = some (.cells #[.bool false, v1, v2] 27 (0, 0)) := by rw [g5.block _ lt1]; exact k4
  have g6 : Grown w w3 := ⟨g5.os.trans g4.os, g5.tape.trans g4.tape, g5.output.trans g4.output, Nat.le_trans g4.size g5.size, fun b hb => (g5.block b (by have := g1'.size; omega)).trans (g4.keep b hb)⟩
  have a0 : w3.cell? ⟨w.heap.size, 0, none⟩ = some (.bool false) := by rw [Lib.cell_of_heap k5]; rfl
  have a1 : w3.cell? ⟨w.heap.size, 1, none⟩ = some v1 := by rw [Lib.cell_of_heap k5]; rfl
  have a2 : w3.cell? ⟨w.heap.size, 2, none⟩ = some v2 := by rw [Lib.cell_of_heap k5]; rfl
  go_wp2_with (go_at_call 157; refine (call1 (run_Whole x y) (Y := Y) ?hY1 ?hv1).mono ?_)
  case hY1 => intro b hb; exact Nat.lt_of_lt_of_le (hY b hb) g6.size
  case hv1 => exact vr_two f1 f2 (r1.mono (keeps_of g6.keep) fun _ _ _ h => by cases h) (r2.mono (keeps_of g6.keep) fun _ _ _ h => by cases h)
  rintro e w4 ⟨u, rfl, g7, hu⟩
  cases vr_bool hu
  have b2 : Lib.IsBuilder 166 5 w1.heap.size w1.heap.size (Lib.byteCells [50]) w4 := .inr (builder_keep b1 g7.keep)
  have g8 : Grown w w4 := g6.trans g7
  go_wp2_with (go_at_call 158; refine (Tryz.Builder_String _ _ [50] _ b2 (by decide)).mono ?_)
  rintro e w5 ⟨rfl, g9⟩
  have g10 : Grown w w5 := ⟨g9.os.trans g8.os, g9.tape.trans g8.tape, g9.output.trans g8.output, Nat.le_trans g8.size g9.size, fun b hb => (g9.block b (by have := g1'.size; omega)).trans (g8.keep b hb)⟩
  go_wp2
  go_ret2
  refine ⟨_, rfl, g10, .tup _ _ rfl fun j pv v hp hv => ?_⟩
  match j, hp, hv with
  | 0, hp, hv => simp at hp hv; subst hp hv; exact .fr (.str _)
  | 1, hp, hv => simp at hp hv; subst hp hv; exact .fr (.int _ _)
theorem orcText2_some {args : List PV} {r : PV} (h : orcText2 args = some r) : ∃ x y, args = [two x y] ∧ r = .tup [.str ⟨#[50]⟩, .int .i64 0] := by
  unfold orcText2 at h
  split at h
  · rename_i x y
    exact ⟨x, y, rfl, (Option.some.inj h).symm⟩
  · cases h
theorem hints_orc : OrcOK Tryz.prog hints := by
  intro f args r hr
  have ho : hints.orc f = if f = 121 then some orcText2 else none := by
    show ([(121, orcText2)] : List (Nat × _)).lookup f = _
    by_cases hf : f = 121
    · subst hf; rfl
    · rw [if_neg hf, List.lookup_cons, beq_eq_false_iff_ne.2 hf]; rfl
  simp only [ho] at hr
  by_cases hf : f = 121
  · subst hf
    rw [if_pos rfl, Option.bind_some] at hr
    obtain ⟨x, y, rfl, rfl⟩ := orcText2_some hr
    refine ⟨_, _, Tryz.func121, rfl, by decide, fun w Y vs hY hn hv => ?_⟩
    obtain ⟨l⟩ := vs
    match l, hn with
    | [v], _ => exact text_calls hY (hv 0 _ _ rfl rfl)
  · rw [if_neg hf, Option.bind_none] at hr; cases hr
end Go.Vs
end
section
set_option linter.unusedVariables false
set_option linter.unusedSimpArgs false
namespace Go.Vs
open Go Go.Proofs
def fieldTypes (P : Program) (t : TypeId) : Option (List TypeId) := match P.underlying t with
  | some (.struct fs) => some (fs.toList.map Field.type)
  | _ => none
theorem all2_map {α β γ : Type} {R : γ → β → Prop} {f : α → γ} : ∀ {x : List α} {y : List β}, All2 (fun a b => R (f a) b) x y → All2 R (x.map f) y
  | _, _, .nil => .nil
  | _, _, .cons h t => .cons h (all2_map t)
theorem Dt.struct {P : Program} {k : Nat} {t : TypeId} {ts : List TypeId} {pvs : List PV} (hf : fieldTypes P t = some ts) (h : Dt P k t pvs) : ∃ k', k = k' + 1 ∧ ∃ pss : List (List PV), pvs = pss.flatten ∧ All2 (fun t ps => Dt P k' t ps) ts pss := by
  cases k with
  | zero => simp only [Dt] at h
  | succ k =>
    unfold fieldTypes at hf
    split at hf
    · rename_i fs hu
      simp only [Dt, hu] at h
      obtain ⟨pss, h1, h2⟩ := h
      simp only [Option.some.injEq] at hf
      subst hf
      exact ⟨k, rfl, pss, h1, all2_map (R := fun t ps => Dt P k t ps) h2⟩
    · cases hf
theorem Dt.slice {P : Program} {k : Nat} {t e : TypeId} {pvs : List PV} (hu : P.underlying t = some (.slice e)) (h : Dt P k t pvs) : ∃ k', k = k' + 1 ∧ ∃ rows, pvs = [.sl rows false] ∧ rows.length ≤ maxLen ∧ ∀ r ∈ rows, Dt P k' e r := by
  cases k with
  | zero => simp only [Dt] at h
  | succ k =>
    simp only [Dt, hu] at h
    exact ⟨k, rfl, h⟩
theorem Dt.int {P : Program} {k : Nat} {t : TypeId} {kd : IntKind} {pvs : List PV} (hu : P.underlying t = some (.int kd)) (h : Dt P k t pvs) : ∃ n, (Lit.int kd n).wf = true ∧ pvs = [.int kd n] := by
  cases k with
  | zero => simp only [Dt] at h
  | succ k => simpa only [Dt, hu] using h
theorem Dt.bool {P : Program} {k : Nat} {t : TypeId} {pvs : List PV} (hu : P.underlying t = some .bool) (h : Dt P k t pvs) : ∃ b, pvs = [.bool b] := by
  cases k with
  | zero => simp only [Dt] at h
  | succ k => simpa only [Dt, hu] using h
theorem Dt.str {P : Program} {k : Nat} {t : TypeId} {pvs : List PV} (hu : P.underlying t = some .string) (h : Dt P k t pvs) : ∃ s : ByteArray, s.size ≤ maxLen ∧ pvs = [.str s] := by
  cases k with
  | zero => simp only [Dt] at h
  | succ k => simpa only [Dt, hu] using h
theorem All2.inv {α β : Type} {R : α → β → Prop} {a : α} {x : List α} {y : List β} (h : All2 R (a :: x) y) : ∃ b z, y = b :: z ∧ R a b ∧ All2 R x z := by
  cases h with
  | cons h t => exact ⟨_, _, rfl, h, t⟩
theorem All2.inv0 {α β : Type} {R : α → β → Prop} {y : List β} (h : All2 R [] y) : y = [] := by cases h; rfl
theorem rows_choose {α : Type} {P : List PV → Prop} {Q : α → Prop} {f : α → List PV} (h : ∀ r, P r → ∃ a, Q a ∧ r = f a) : ∀ rows : List (List PV), (∀ r ∈ rows, P r) → ∃ l : List α, (∀ a ∈ l, Q a) ∧ rows = l.map f
  | [], _ => ⟨[], by simp, rfl⟩
  | r :: rows, hr => by
    obtain ⟨a, h1, h2⟩ := h r (hr r (by simp))
    obtain ⟨l, h3, h4⟩ := rows_choose h rows fun x hx => hr x (by simp [hx])
    exact ⟨a :: l, by simpa using ⟨h1, h3⟩, by simp [h2, h4]⟩
theorem wf_u32 {n : Int} (h : (Lit.int .u32 n).wf = true) : 0 ≤ n ∧ n ≤ 4294967295 := by
  simpa [Lit.wf, IntKind.min, IntKind.max, IntKind.signed, IntKind.bits] using h
section
variable {P : Program} {k : Nat} {t : TypeId} {pv : PV} {pvs : List PV}
theorem Arg.str (hu : P.underlying t = some .string) (h : Arg P k t pv) : ∃ s : ByteArray, s.size ≤ maxLen ∧ pv = .str s := by
  simp only [Arg, hu] at h
  cases k with
  | zero => simp only [Dt] at h
  | succ k =>
    simp only [Dt, hu] at h
    obtain ⟨s, h1, h2⟩ := h
    exact ⟨s, h1, by simpa using h2⟩
theorem Arg.int {kd : IntKind} (hu : P.underlying t = some (.int kd)) (h : Arg P k t pv) : ∃ n, (Lit.int kd n).wf = true ∧ pv = .int kd n := by
  simp only [Arg, hu] at h
  cases k with
  | zero => simp only [Dt] at h
  | succ k =>
    simp only [Dt, hu] at h
    obtain ⟨s, h1, h2⟩ := h
    exact ⟨s, h1, by simpa using h2⟩
theorem Args.nil_inv (h : Args P [] pvs) : pvs = [] := by cases h; rfl
theorem Args.cons_inv {ts : List TypeId} (h : Args P (t :: ts) pvs) : ∃ pv r k, pvs = pv :: r ∧ Arg P k t pv ∧ Args P ts r := by
  cases h with
  | cons h r =>
    obtain ⟨k, h⟩ := h
    exact ⟨_, _, k, rfl, h, r⟩
end
theorem und_us : Tryz.prog.underlying 25 = some (.slice 126) := by kernel_rfl
theorem und_u32 : Tryz.prog.underlying 126 = some (.int .u32) := by kernel_rfl
theorem und_str : Tryz.prog.underlying 9 = some .string := by kernel_rfl
theorem und_bool : Tryz.prog.underlying 4 = some .bool := by kernel_rfl
theorem und_ss : Tryz.prog.underlying 45 = some (.slice 9) := by kernel_rfl
theorem und_st : Tryz.prog.underlying 35 = some (.slice 98) := by kernel_rfl
theorem ft_Rat : fieldTypes Tryz.prog 27 = some [4, 25, 25] := by kernel_rfl
theorem ft_Bind : fieldTypes Tryz.prog 98 = some [9, 27] := by kernel_rfl
theorem ft_Nms : fieldTypes Tryz.prog 47 = some [4, 45] := by kernel_rfl
theorem okD_of {l : List Int} (h : ∀ w ∈ l, 0 ≤ w ∧ w ≤ 4294967295) : OkD WB l := fun w hw => by
  have := h w hw
  exact ⟨this.1, by show w < 4294967296; omega⟩
theorem Dt.wordsK {k : Nat} {pvs : List PV} (h : Dt Tryz.prog k 25 pvs) : ∃ l : List Int, l.length ≤ maxLen ∧ OkD WB l ∧ pvs = [.sl (kRows .u32 l) false] := by
  obtain ⟨k', rfl, rows, rfl, h1, h2⟩ := h.slice und_us
  obtain ⟨l, h3, h4⟩ := rows_choose (Q := fun w => 0 ≤ w ∧ w ≤ 4294967295) (f := fun w : Int => [.int .u32 w]) (fun r hr => by
    obtain ⟨n, h5, h6⟩ := Dt.int und_u32 hr
    exact ⟨n, wf_u32 h5, h6⟩) rows h2
  subst h4
  exact ⟨l, by simpa using h1, okD_of h3, rfl⟩
theorem Dt.rat {k : Nat} {pvs : List PV} (h : Dt Tryz.prog k 27 pvs) : ∃ v : RV, v.ok ∧ pvs = v.cells := by
  obtain ⟨k', rfl, pss, rfl, h1⟩ := h.struct ft_Rat
  obtain ⟨p1, r1, rfl, a1, h2⟩ := h1.inv
  obtain ⟨p2, r2, rfl, a2, h3⟩ := h2.inv
  obtain ⟨p3, r3, rfl, a3, h4⟩ := h3.inv
  cases h4.inv0
  obtain ⟨b, rfl⟩ := Dt.bool und_bool a1
  obtain ⟨N, n1, n2, rfl⟩ := Dt.wordsK a2
  obtain ⟨D, d1, d2, rfl⟩ := Dt.wordsK a3
  exact ⟨⟨b, N, D⟩, ⟨n2, d2, n1, d1⟩, rfl⟩
theorem Dt.bind {k : Nat} {pvs : List PV} (h : Dt Tryz.prog k 98 pvs) : ∃ b : Bd, b.ok ∧ pvs = b.cells := by
  obtain ⟨k', rfl, pss, rfl, h1⟩ := h.struct ft_Bind
  obtain ⟨p1, r1, rfl, a1, h2⟩ := h1.inv
  obtain ⟨p2, r2, rfl, a2, h3⟩ := h2.inv
  cases h3.inv0
  obtain ⟨s, s1, rfl⟩ := Dt.str und_str a1
  obtain ⟨v, v1, rfl⟩ := Dt.rat a2
  exact ⟨⟨s, v⟩, ⟨s1, v1⟩, rfl⟩
theorem Arg.rat {k : Nat} {pv : PV} (h : Arg Tryz.prog k 27 pv) : ∃ v : RV, v.ok ∧ pv = .agg v.cells := by
  have hf := ft_Rat
  unfold fieldTypes at hf
  split at hf
  · rename_i fs hu
    simp only [Arg, hu] at h
    obtain ⟨cells, rfl, h⟩ := h
    obtain ⟨n, h1, h2⟩ := Dt.rat h
    exact ⟨n, h1, by rw [h2]⟩
  · cases hf
theorem Arg.names {k : Nat} {pv : PV} (h : Arg Tryz.prog k 47 pv) : ∃ (al : Bool) (l : List ByteArray), NmsOk l ∧ pv = .agg [.bool al, .sl (ssRows l) false] := by
  have hf := ft_Nms
  unfold fieldTypes at hf
  split at hf
  · rename_i fs hu
    simp only [Arg, hu] at h
    obtain ⟨cells, rfl, h⟩ := h
    obtain ⟨k', rfl, pss, rfl, h1⟩ := Dt.struct ft_Nms h
    obtain ⟨p1, r1, rfl, a1, h2⟩ := h1.inv
    obtain ⟨p2, r2, rfl, a2, h3⟩ := h2.inv
    cases h3.inv0
    obtain ⟨b, rfl⟩ := Dt.bool und_bool a1
    obtain ⟨k', rfl, rows, rfl, g1, g2⟩ := Dt.slice und_ss a2
    obtain ⟨l, g3, g4⟩ := rows_choose (Q := fun s : ByteArray => s.size ≤ maxLen) (f := fun s : ByteArray => [.str s]) (fun r hr => Dt.str und_str hr) rows g2
    subst g4
    exact ⟨b, l, g3, rfl⟩
  · cases hf
theorem Arg.state {k : Nat} {pv : PV} (h : Arg Tryz.prog k 35 pv) : ∃ L : List Bd, L.length ≤ maxLen ∧ StOk L ∧ pv = .sl (stRows L) false := by
  simp only [Arg, und_st] at h
  obtain ⟨k', rfl, rows, h0, h1, h2⟩ := h.slice und_st
  obtain ⟨l, h3, h4⟩ := rows_choose (Q := Bd.ok) (f := Bd.cells) (fun r hr => Dt.bind hr) rows h2
  subst h4
  exact ⟨l, by simpa using h1, h3, by simpa [stRows] using h0⟩
end Go.Vs
end
section
set_option linter.unusedVariables false
set_option linter.unusedSimpArgs false
namespace Go.Vs
open Go Go.RowKit Go.Proofs
mutual
def pvB : PV → Nat
  | .sl rows _ => rowsB rows + 1
  | .agg ps => pvsB ps
  | .str s => s.size + 1
  | _ => 1
def pvsB : List PV → Nat
  | [] => 0
  | p :: r => pvB p + pvsB r
def rowsB : List (List PV) → Nat
  | [] => 0
  | p :: r => pvsB p + rowsB r
end
theorem pvsB_app : ∀ a b : List PV, pvsB (a ++ b) = pvsB a + pvsB b
  | [], b => by simp [pvsB]
  | x :: a, b => by simp [pvsB, pvsB_app a b, Nat.add_assoc]
open Go.Proofs.YtkaeejkajfinhaaGreat.Rows
section
variable {H : Type}
theorem fields_relB {P : Program} {w : World} {k : Nat} {cs : List Value} : ∀ (fs : List Field) (xs : List (DataW H × List MemPlace)) (o : Nat), tight P o fs = true → o + spanOf P fs = cs.length → xs.length = fs.length →
    (∀ (i : Nat) (f : Field), fs[i]? = some f → ∃ b, xs[i]? = some b ∧ ∃ ps, Dt P k f.type ps ∧ Rel w ps ((cs.drop f.offset).take (P.cellsOf f.type)) ∧ pvsB ps ≤ uptoBulk b.1) →
    ∃ pss : List (List PV), All2 (fun (f : Field) ps => Dt P k f.type ps) fs pss ∧ Rel w pss.flatten (cs.drop o) ∧ pvsB pss.flatten ≤ uptoBulkAll (xs.map (·.1))
  | [], [], o, _, hl, _, _ => ⟨[], .nil, by
    simp only [spanOf] at hl
    rw [List.drop_of_length_le (by omega)]
    exact Rel.nil, by simp [pvsB, uptoBulkAll]⟩
  | f :: r, x :: xs, o, ht, hl, hx, h => by
    simp only [tight, Bool.and_eq_true, beq_iff_eq] at ht
    simp only [spanOf] at hl
    obtain ⟨b, hb, ps, h1, h2, h2'⟩ := h 0 f rfl
    simp only [List.getElem?_cons_zero, Option.some.injEq] at hb
    subst hb
    obtain ⟨pss, h3, h4, h5⟩ := fields_relB (cs := cs) r xs (o + P.cellsOf f.type) ht.2 (by omega) (by simpa using hx) fun i g hg => by
      have := h (i + 1) g (by simpa using hg)
      simpa using this
    refine ⟨ps :: pss, .cons h1 h3, ?_, ?_⟩
    · have e : cs.drop o = (cs.drop f.offset).take (P.cellsOf f.type) ++ cs.drop (o + P.cellsOf f.type) := by
        rw [ht.1, ← List.drop_drop, List.take_append_drop]
      rw [e, List.flatten_cons]
      exact h2.app h4
    · rw [List.flatten_cons, pvsB_app, List.map_cons]
      simp only [uptoBulkAll]
      omega
  | [], _ :: _, _, _, _, hx, _ => by simp at hx
  | _ :: _, [], _, _, _, hx, _ => by simp at hx
theorem rows_bulk {n : Nat} {g : Nat → List PV} : ∀ {l : List (DataW H × List MemPlace)} (o : Nat), (∀ i b, l[i]? = some b → pvsB (g (o + i)) ≤ uptoBulk b.1) → rowsB ((List.range' o l.length).map g) ≤ uptoBulkAll (l.map (·.1))
  | [], o, _ => by simp [rowsB]
  | x :: l, o, h => by
    have h0 := h 0 x rfl
    have h1 := rows_bulk (n := n) (g := g) (l := l) (o + 1) fun i b hb => by
      have := h (i + 1) b (by simpa using hb)
      rw [show o + (i + 1) = o + 1 + i by omega] at this
      exact this
    simp only [List.length_cons, List.range'_succ, List.map_cons, rowsB, uptoBulkAll]
    simp only [Nat.add_zero] at h0
    omega
theorem trod_relB {enc : TypeId × Value → H} {P : Program} {w : World} {base : Nat} {sp : Nat → Bool} {held : Bool} {L : List TypeId} (hL : closedB P L = true) : ∀ (fuel : Nat) {t : TypeId} {cs : List Value} {x : DataW H × List MemPlace}, t ∈ L →
    DataW.trod enc P w base sp held fuel t cs = some x → ∃ pvs, Dt P fuel t pvs ∧ Rel w pvs cs ∧ pvsB pvs ≤ uptoBulk x.1 := by
  intro fuel
  induction fuel with
  | zero => intro t cs x _ h; cases h
  | succ k ih =>
    intro t cs x ht h
    have hc := (List.all_eq_true.1 hL) t ht
    unfold DataW.trod at h
    simp only [Dt]
    cases hu : P.underlying t with
    | none => rw [hu] at hc; cases hc
    | some d =>
      rw [hu] at hc h
      cases d <;> simp only [reduceCtorEq, Bool.false_eq_true] at hc
      case bool =>
        split at h <;> try (first | (cases h; done) | (rename_i hq; cases hq; done))
        rename_i hq
        cases hq
        cases h
        exact ⟨_, ⟨_, rfl⟩, .one (.bool _), by simp [pvsB, pvB, uptoBulk]⟩
      case int kd =>
        split at h <;> try (first | (cases h; done) | (rename_i hq; cases hq; done))
        rename_i hq
        cases hq
        split at h
        · rename_i hw
          obtain ⟨rfl, hw⟩ := hw
          cases h
          exact ⟨_, ⟨_, hw, rfl⟩, .one (.int _ _), by simp [pvsB, pvB, uptoBulk]⟩
        · cases h
      case string =>
        split at h <;> try (first | (cases h; done) | (rename_i hq; cases hq; done))
        rename_i hq
        cases hq
        split at h
        · rename_i hw
          cases h
          exact ⟨_, ⟨_, hw, rfl⟩, .one (.str _), by
            simp only [pvsB, pvB, uptoBulk, Array.length_toList]
            exact Nat.le_refl _⟩
        · cases h
      case slice e =>
        simp only [Bool.and_eq_true, List.contains_iff_mem, beq_iff_eq] at hc
        split at h <;> try (first | (cases h; done) | (rename_i hq; cases hq; done))
        · have key := FR.sl (w := w) (av := NoAv) [] false none 0 default 0 (fun _ _ => Go.undef) (Nat.le_refl _) (by simp) (fun _ => rfl) (fun h => absurd rfl h) (by simp) (by simp) (by simp)
          cases h
          exact ⟨_, ⟨[], rfl, by simp, by simp⟩, .one key, by simp [pvsB, pvB, rowsB, uptoBulk]⟩
        · rename_i e0 a len cap hq
          cases hq
          split at h
          case isFalse => cases h
          rename_i hcap
          obtain ⟨elems, h2, h2'⟩ := bind_some h
          obtain ⟨h3, h4⟩ := mapM_at h2
          rw [List.length_range] at h3
          have each : ∀ i, i < len → ∃ ps, Dt P k e ps ∧ ps.length = P.cellsOf e ∧ (∀ j pv, ps[j]? = some pv → ∃ u, w.cell? (a.add (i * P.cellsOf e + j)) = some u ∧ FR w NoAv pv u) ∧ ∀ b, elems[i]? = some b → pvsB ps ≤ uptoBulk b.1 := by
            intro i hi
            obtain ⟨b, hb, hb'⟩ := h4 i i (by simp [hi])
            obtain ⟨cs, hcs, hb⟩ := bind_some hb
            obtain ⟨ps, p1, p2, p3⟩ := ih hc.1 hb
            unfold World.cells? at hcs
            split at hcs
            · obtain ⟨q1, q2⟩ := mapM_at hcs
              rw [List.length_range] at q1
              refine ⟨ps, p1, by rw [p2.1, q1], fun j pv hj => ?_, fun b' hb2 => ?_⟩
              · have hjl := (List.getElem?_eq_some_iff.1 hj).1
                rw [p2.1, q1] at hjl
                obtain ⟨u, hu1, hu2⟩ := q2 j j (by simp [hjl])
                rw [add_add] at hu1
                exact ⟨u, hu1, p2.2 j pv u hj hu2⟩
              · rw [hb'] at hb2
                cases hb2
                exact p3
            · cases hcs
          have pick : ∀ i : Nat, ∃ ps : List PV, i < len → Dt P k e ps ∧ ps.length = P.cellsOf e ∧ (∀ j pv, ps[j]? = some pv → ∃ u, w.cell? (a.add (i * P.cellsOf e + j)) = some u ∧ FR w NoAv pv u) ∧ ∀ b, elems[i]? = some b → pvsB ps ≤ uptoBulk b.1 := fun i => by
            by_cases hi : i < len
            · obtain ⟨ps, hps⟩ := each i hi
              exact ⟨ps, fun _ => hps⟩
            · exact ⟨[], fun h => absurd h hi⟩
          obtain ⟨g, hg⟩ := Classical.axiomOfChoice pick
          have hrows : ∀ i row, ((List.range len).map g)[i]? = some row → i < len ∧ row = g i := fun i row hi => by
            rw [List.getElem?_map] at hi
            by_cases hlt : i < len
            · rw [List.getElem?_range hlt] at hi
              simp at hi
              exact ⟨hlt, hi.symm⟩
            · rw [List.getElem?_eq_none (by simpa using hlt)] at hi; cases hi
          have hlen : ((List.range len).map g).length = len := by simp
          have hbulk : rowsB ((List.range len).map g) ≤ uptoBulkAll (elems.map (·.1)) := by
            rw [List.range_eq_range', ← h3]
            refine rows_bulk (n := 0) 0 fun i b hb => ?_
            rw [Nat.zero_add]
            refine (hg i ?_).2.2.2 b hb
            rw [← h3]
            exact (List.getElem?_eq_some_iff.1 hb).1
          obtain ⟨rest, _, hx⟩ := map_some h2'
          refine ⟨_, ⟨(List.range len).map g, rfl, by rw [hlen]; omega, fun row hrow => ?_⟩, ?_, ?_⟩
          · obtain ⟨i, hi⟩ := List.getElem?_of_mem hrow
            obtain ⟨hlt, rfl⟩ := hrows i row hi
            exact (hg i hlt).1
          · have key := FR.sl (w := w) (av := NoAv) ((List.range len).map g) false (some a) cap a (P.cellsOf e) (fun i j => (w.cell? (a.add (i * P.cellsOf e + j))).getD Go.undef) (by rw [hlen]; exact hcap.2.1) (by simp) (by simp) (fun _ => rfl)
              (fun row hrow => by
                obtain ⟨i, hi⟩ := List.getElem?_of_mem hrow
                obtain ⟨hlt, rfl⟩ := hrows i row hi
                exact (hg i hlt).2.1)
              (fun i row j pv hi hj => by
                obtain ⟨hlt, rfl⟩ := hrows i row hi
                obtain ⟨u, u1, u2⟩ := (hg i hlt).2.2.1 j pv hj
                rw [u1]
                exact ⟨rfl, fun h => h⟩)
              (fun i row j pv hi hj => by
                obtain ⟨hlt, rfl⟩ := hrows i row hi
                obtain ⟨u, u1, u2⟩ := (hg i hlt).2.2.1 j pv hj
                simp only [u1, Option.getD_some]
                exact u2)
            rw [hlen] at key
            exact .one key
          · subst hx
            simp only [pvsB, pvB, uptoBulk]
            omega
      case struct fs =>
        simp only [Bool.and_eq_true, List.all_eq_true, List.contains_iff_mem, beq_iff_eq] at hc
        replace h : (if cs.length = P.cellsOf t then (fs.toList.mapM fun f => DataW.trod enc P w base sp held k f.type ((cs.drop f.offset).take (P.cellsOf f.type))).map fun xs => (.agg (xs.map (·.1)), xs.flatMap (·.2)) else none) = some x := h
        split at h
        case isFalse => cases h
        rename_i hlen
        obtain ⟨xs, h2, hx⟩ := map_some h
        obtain ⟨h3, h4⟩ := mapM_at h2
        obtain ⟨pss, q1, q2, q3⟩ := fields_relB (P := P) (w := w) (k := k) (cs := cs) fs.toList xs 0 hc.1.1 (by rw [Nat.zero_add, hc.1.2, hlen]) h3 (fun i f hf => by
          obtain ⟨b, hb, hb'⟩ := h4 i f hf
          exact ⟨b, hb', ih (hc.2 f (List.mem_of_getElem? hf)) hb⟩)
        subst hx
        exact ⟨_, ⟨pss, rfl, q1⟩, by simpa using q2, by simp only [uptoBulk]; omega⟩
theorem arg_ofB {enc : TypeId × Value → H} {P : Program} {W : World} {base base' : Nat} {sp : Nat → Bool} {held : Bool} {L : List TypeId} (hL : closedB P L = true) {t : TypeId} (ht : t ∈ L) {v : Value} {d : DataW H} {p : List MemPlace}
    (hok : Value.okWide P W .any base' t v) (h : DataW.Trod enc P W base sp held t v d p) : ∃ k pv, Arg P k t pv ∧ VR W NoAv noMu pv v ∧ pvB pv ≤ uptoBulk d := by
  obtain ⟨fuel, h⟩ := h
  obtain ⟨pvs, h1, h2, h3⟩ := trod_relB hL fuel ht h
  rcases okWide_form hL ht hok with ⟨fs, cs, hu, rfl⟩ | ⟨hu, hv⟩
  · refine ⟨fuel, .agg pvs, by unfold Arg; rw [hu]; exact ⟨pvs, rfl, h1⟩, .agg _ _ (by rw [h2.1]; rfl) (fun j v hv => ?_) (fun j pv v hp hv => .fr (h2.2 j pv v hp (by rw [← hv]; exact Array.getElem?_toList))), by simpa only [pvB] using h3⟩
    have hlt := (Array.getElem?_eq_some_iff.1 hv).1
    have hp : pvs[j]? = some (pvs[j]'(by rw [h2.1]; exact hlt)) := List.getElem?_eq_getElem _
    exact FR.flat _ _ (h2.2 j _ v hp (by rw [← hv]; exact Array.getElem?_toList))
  · rw [hv] at h2
    obtain ⟨pv, rfl⟩ : ∃ pv, pvs = [pv] := by
      have := h2.1
      cases pvs with
      | nil => simp at this
      | cons a l => cases l with
        | nil => exact ⟨a, rfl⟩
        | cons _ _ => simp at this
    refine ⟨fuel, pv, ?_, .fr (h2.2 0 pv v rfl rfl), by simpa [pvsB] using h3⟩
    unfold Arg
    split
    · rename_i fs hq; exact absurd hq (hu fs)
    · exact h1
theorem args_ofB {enc : TypeId × Value → H} {P : Program} {W : World} {base base' : Nat} {sp : Nat → Bool} {held : Bool} {L : List TypeId} (hL : closedB P L = true) : ∀ {ts : List TypeId} {vs : List Value} {ds : List (DataW H)} {p : List MemPlace}, (∀ t ∈ ts, t ∈ L) →
    (∀ (j : Nat) (t : TypeId) (v : Value), ts[j]? = some t → vs[j]? = some v → Value.okWide P W .any base' t v) → DataW.TrodAll enc P W base sp held ts vs ds p →
    ∃ pvs, Args P ts pvs ∧ pvs.length = vs.length ∧ (∀ (j : Nat) (pv : PV) (v : Value), pvs[j]? = some pv → vs[j]? = some v → VR W NoAv noMu pv v) ∧ pvsB pvs ≤ uptoBulkAll ds
  | [], [], [], _, _, _, _ => ⟨[], .nil, rfl, by simp, by simp [pvsB, uptoBulkAll]⟩
  | t :: ts, v :: vs, d :: ds, _, hsub, hok, ⟨p, q, h1, h2, _⟩ => by
    obtain ⟨k, pv, a1, a2, a3⟩ := arg_ofB hL (hsub t (by simp)) (hok 0 t v rfl rfl) h1
    obtain ⟨pvs, b1, b2, b3, b4⟩ := args_ofB hL (fun t ht => hsub t (by simp [ht])) (fun j t v h1 h2 => hok (j + 1) t v h1 h2) h2
    refine ⟨pv :: pvs, .cons ⟨k, a1⟩ b1, by simp [b2], fun j pv' v' hp hv => ?_, by simp only [pvsB, uptoBulkAll]; omega⟩
    cases j with
    | zero => simp at hp hv; subst hp; subst hv; exact a2
    | succ j => simp at hp hv; exact b3 j pv' v' hp hv
  | [], [], _ :: _, _, _, _, h => h.elim
  | [], _ :: _, _, _, _, _, h => h.elim
  | _ :: _, [], _, _, _, _, h => h.elim
  | _ :: _, _ :: _, [], _, _, _, h => h.elim
theorem law_callsB {P : Program} {Hn : Hints} (hm : P.follows .mixedOrders = true) (hO : OrcOK P Hn) {f : FuncId} {ts : List TypeId} {n : Nat} (law : ∀ pvs, Args P ts pvs → pvsB pvs ≤ n → ∃ n, callP P Hn n f pvs = some (.bool true)) {L : List TypeId} (hL : closedB P L = true) (hsub : ∀ t ∈ ts, t ∈ L)
    {enc : TypeId × Value → H} {W : World} {base base' : Nat} {sp : Nat → Bool} {held : Bool} {args : Array Value} {ds : List (DataW H)} {p : List MemPlace} (hn : uptoBulkAll ds ≤ n)
    (hok : ∀ (j : Nat) (t : TypeId) (v : Value), ts[j]? = some t → args[j]? = some v → Value.okWide P W .any base' t v) (h : DataW.TrodAll enc P W base sp held ts args.toList ds p) :
    Calls P f args W fun e W' => e = .returned (.bool true) ∧ Below W.heap.size W W' := by
  obtain ⟨pvs, a1, a2, a3, a4⟩ := args_ofB hL hsub (fun j t v h1 h2 => hok j t v h1 (by rw [← Array.getElem?_toList]; exact h2)) h
  obtain ⟨n, hn⟩ := law pvs a1 (by omega)
  obtain ⟨fn, c, e1, e2, e3, e4⟩ := callP_sound hm hO n f pvs _ hn
  refine (e4 W NoAv args (fun b h => h.elim) (by rw [a2]; exact Array.length_toList) (fun j pv v hp hv => a3 j pv v hp (by rw [Array.getElem?_toList]; exact hv))).mono ?_
  rintro e w' ⟨v, rfl, hg, hv⟩
  exact ⟨by rw [hv.bool_inv], Grown.below hg⟩
end
end Go.Vs
end
section
set_option linter.unusedVariables false
set_option linter.unusedSimpArgs false
namespace Go.Vs
open Go Go.Proofs
theorem und_int : Tryz.prog.underlying 3 = some (.int .i64) := by kernel_rfl
theorem und_nds : Tryz.prog.underlying 28 = some (.slice 30) := by kernel_rfl
theorem und_prs : Tryz.prog.underlying 22 = some (.slice 69) := by kernel_rfl
theorem ft_Nd : fieldTypes Tryz.prog 30 = some [3, 9, 27, 28] := by kernel_rfl
theorem ft_Pair : fieldTypes Tryz.prog 69 = some [30, 30, 28] := by kernel_rfl
theorem wf_i64 {n : Int} (h : (Lit.int .i64 n).wf = true) : -9223372036854775808 ≤ n ∧ n ≤ 9223372036854775807 := by
  simpa [Lit.wf, IntKind.min, IntKind.max, IntKind.signed, IntKind.bits] using h
theorem Dt.node : ∀ (k : Nat) {pvs : List PV}, Dt Tryz.prog k 30 pvs → ∃ n : Node, n.ok ∧ pvs = n.cells := by
  intro k
  induction k using Nat.strongRecOn with
  | ind k ih =>
    intro pvs h
    obtain ⟨k1, rfl, pss, rfl, s0⟩ := h.struct ft_Nd
    obtain ⟨p1, z1, rfl, h1, s1⟩ := s0.inv
    obtain ⟨p2, z2, rfl, h2, s2⟩ := s1.inv
    obtain ⟨p3, z3, rfl, h3, s3⟩ := s2.inv
    obtain ⟨p4, z4, rfl, h4, s4⟩ := s3.inv
    obtain rfl := s4.inv0
    obtain ⟨a, ha, rfl⟩ := h1.int und_int
    obtain ⟨b, hb, rfl⟩ := h2.str und_str
    obtain ⟨v, hv, rfl⟩ := h3.rat
    obtain ⟨k3, hk3, rows, rfl, h5, h6⟩ := h4.slice und_nds
    obtain ⟨f, h7, rfl⟩ := rows_choose (Q := Node.ok) (f := Node.cells) (fun r hr => ih k3 (by omega) hr) rows h6
    refine ⟨.mk a b v.neg v.num v.den f, ⟨wf_i64 ha, hb, hv, by simpa using h5, Node.oks_iff.2 h7⟩, ?_⟩
    simp [Node.cells, Node.rows_eq, RV.cells]
theorem Arg.node {k : Nat} {pv : PV} (h : Arg Tryz.prog k 30 pv) : ∃ n : Node, n.ok ∧ pv = .agg n.cells := by
  have hf := ft_Nd
  unfold fieldTypes at hf
  split at hf
  · rename_i fs hu
    simp only [Arg, hu] at h
    obtain ⟨cells, rfl, h⟩ := h
    obtain ⟨n, h1, h2⟩ := Dt.node k h
    exact ⟨n, h1, by rw [h2]⟩
  · cases hf
theorem Dt.pair {k : Nat} {pvs : List PV} (h : Dt Tryz.prog k 69 pvs) : ∃ p : Pr, p.ok ∧ pvs = p.cells := by
  obtain ⟨k1, rfl, pss, rfl, s0⟩ := h.struct ft_Pair
  obtain ⟨p1, z1, rfl, h1, s1⟩ := s0.inv
  obtain ⟨p2, z2, rfl, h2, s2⟩ := s1.inv
  obtain ⟨p3, z3, rfl, h3, s3⟩ := s2.inv
  obtain rfl := s3.inv0
  obtain ⟨a, ha, rfl⟩ := Dt.node _ h1
  obtain ⟨b, hb, rfl⟩ := Dt.node _ h2
  obtain ⟨k3, hk3, rows, rfl, h5, h6⟩ := h3.slice und_nds
  obtain ⟨f, h7, rfl⟩ := rows_choose (Q := Node.ok) (f := Node.cells) (fun r hr => Dt.node _ hr) rows h6
  exact ⟨⟨a, b, f⟩, ⟨ha, hb, by simpa using h5⟩, by simp [Pr.cells, Node.rows_eq]⟩
theorem Arg.prs {k : Nat} {pv : PV} (h : Arg Tryz.prog k 22 pv) : ∃ I : List Pr, I.length ≤ maxLen ∧ (∀ p ∈ I, p.ok) ∧ pv = .sl (prRows I) false := by
  simp only [Arg, und_prs] at h
  obtain ⟨k', rfl, rows, h0, h1, h2⟩ := h.slice und_prs
  obtain ⟨l, h3, rfl⟩ := rows_choose (Q := Pr.ok) (f := Pr.cells) (fun r hr => Dt.pair hr) rows h2
  exact ⟨l, by simpa using h1, h3, by simpa [prRows] using h0⟩
mutual
theorem count_bulk : ∀ n : Node, n.count ≤ pvsB n.cells
  | .mk a b c d e f => by
    have := counts_bulk f
    simp only [Node.count, Node.cells, pvsB, pvB]
    omega
theorem counts_bulk : ∀ l : List Node, Node.counts l ≤ rowsB (Node.rows l)
  | [] => by simp [Node.counts, Node.rows, rowsB]
  | x :: l => by
    have h1 := count_bulk x
    have h2 := counts_bulk l
    simp only [Node.counts, Node.rows, rowsB]
    omega
end
theorem prs_bulk : ∀ (I : List Pr), ∀ p ∈ I, p.wth.count ≤ rowsB (prRows I) ∧ p.what.count ≤ rowsB (prRows I)
  | [] => by simp
  | q :: I => by
    intro p hp
    have e : rowsB (prRows (q :: I)) = pvsB q.cells + rowsB (prRows I) := by simp [prRows, rowsB]
    rw [e]
    rcases List.mem_cons.1 hp with rfl | hp
    · have h1 := count_bulk p.what
      have h2 := count_bulk p.wth
      have e2 : pvsB p.cells = pvsB p.what.cells + (pvsB p.wth.cells + pvsB [.sl (Node.rows p.rates) false]) := by rw [Pr.cells, pvsB_app, pvsB_app]
      omega
    · have := prs_bulk I p hp
      omega
section
attribute [local irreducible] Vs.callL Vs.callRL tyi callO callM callMV appendE storeE evLoad indexAddrO sliceO evFieldAddr evField buildO buildSliceO makeSliceO allocO boxed lenO copyE convertO indexO Vs.gc freezeAll
noncomputable def fx3_ : FX := ⟨Tryz.f3, hints.of 3, []⟩
theorem ok3_ : fx3_.ok 3 := ⟨by kernel_rfl, of_decide_eq_true (by kernel_rfl), by kernel_rfl, by kernel_rfl, by kernel_rfl, by kernel_rfl⟩
theorem sem3_ (b0 : Nat) (m : Md) (fs : List Fr) (e : Env) (S : Store) : sem b0 fx3_ m fs e S = run b0 fx3_ 1000 m fs e S := (sem_eq _ _ _ _ _ _).trans (run_sem b0 fx3_ ok3_.good 1000 m fs e S).symm
theorem awake_o (S : Store) : callO (callL Tryz.prog hints) S 8 [] = some { v := .bool true } := callO_plain awake_L (by simp)
theorem call_StateInterprets (I : List Pr) (hI : ∀ p ∈ I, p.ok) (hb : ∀ p ∈ I, p.wth.count ≤ 1000000000 ∧ p.what.count ≤ 1000000000) : callL Tryz.prog hints 3 [.sl (prRows I) false] = some (.bool true) := by
  have hn : nd0.count ≤ 1000000000 := by decide
  have light : callL Tryz.prog hints 9 [.sl [] true, .sl (prRows I) false, .agg nd0.cells] = some (.bool (lightV 0 I nd0)) := call_light (by kernel_rfl) I nd0 hI nd0_ok
  have light_c := fun S => callO_fz3 (S := S) (a := .sl [] true) (a' := .sl [] true) (b := .sl (prRows I) false) (c := .agg [.int .i64 0, .str ⟨#[]⟩, .bool false, .sl [] true, .sl [] true, .sl [] true]) (c' := .agg nd0.cells) light Plain.nil (Plain.sl _) ⟨rfl, fun _ => rfl⟩
  cases hl : lightV 0 I nd0
  · rw [hl] at light_c
    apply FX.callB2 ok3_ 1000 rfl rfl
    ((repeat ((conv => lhs; whnf); simp only [go_sem, simprocAttr, sem3_, awake_o, light_c])); try (conv => lhs; whnf); try rfl)
  · rw [hl] at light_c
    obtain ⟨_, h1, _, h2⟩ := lightV_spec hb hn hl
    have c1 := fun S => stCheck_o S I hI h1 fun p hp => (h2 p hp).2
    have c2 := fun S => CheckR_o S I hI h1 fun p hp => (h2 p hp).2
    rw [← check_same2 I] at c2
    apply FX.callB2 ok3_ 1000 rfl rfl
    ((repeat ((conv => lhs; whnf); simp only [go_sem, simprocAttr, sem3_, awake_o, light_c, c1, c2])); try (conv => lhs; whnf); try rfl)
end
theorem law_StateInterprets (pvs : List PV) (h : Args Tryz.prog [22] pvs) (hb : pvsB pvs ≤ 1048576) : callL Tryz.prog hints 3 pvs = some (.bool true) := by
  obtain ⟨x1, r1, k1, rfl, h1, t1⟩ := h.cons_inv
  cases t1.nil_inv
  obtain ⟨I, _, hI, rfl⟩ := h1.prs
  simp only [pvsB, pvB] at hb
  refine call_StateInterprets I hI fun p hp => ?_
  have := prs_bulk I p hp
  omega
end Go.Vs
end
