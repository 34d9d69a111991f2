/- An operation that reads at most: what the machine's run comes to. -/
import Derived.Test.YtnddhkcciphhkaaVs14
set_option linter.unusedVariables false
set_option linter.unusedSimpArgs false
namespace Go.Vs
open Go

def placeA (A : Arrs) (nid : Nat) : Option (List (List PV) × Option (Option Nat)) → Arrs
  | some (rows, g) => upd A nid ⟨rows, g, false⟩
  | none => A
/-- Memory has grown, nothing else. -/
structure Grown (w w' : World) : Prop where
  os : w'.os = w.os
  tape : w'.tape = w.tape
  output : w'.output = w.output
  size : w.heap.size ≤ w'.heap.size
  keep : ∀ b, b < w.heap.size → w'.heap[b]? = w.heap[b]?
theorem Grown.refl (w : World) : Grown w w := ⟨rfl, rfl, rfl, Nat.le_refl _, fun _ _ => rfl⟩
/-- What is known of a call of a function over frozen values. -/
def CPOK (P : Program) (cp : CallP) : Prop := ∀ f args r, cp f args = some r → ∃ fn c, P.funcs[f]? = some fn ∧ fn.body = some c ∧ fn.name ≠ "runtime.NumGoroutine" ∧
  ∀ (w : World) (Y : Nat → Prop) (vs : Array Value), (∀ b, Y b → b < w.heap.size) → args.length = vs.size → (∀ (j : Nat) (pv : PV) (v : Value), args[j]? = some pv → vs[j]? = some v → VR w Y noMu pv v) →
    Calls P f vs w fun e w' => ∃ v, e = .returned v ∧ Grown w w' ∧ VR w' Y noMu r v

section
variable {P : Program} {w : World} {X : Nat → Prop} {A : Arrs} {n : Nat} {μ : Mu} {av : Nat → Prop} {S : Store}

theorem SR.up (hS : SR w X A n μ) {n' : Nat} (h : n ≤ n') : SR w X A n' μ := ⟨fun id hid => hS.lt id (Nat.le_trans h hid), hS.blk, hS.nob, hS.gsz, hS.inj, hS.out, hS.xlt⟩
theorem SR.grown (hS : SR w X A n μ) {w' : World} (h : Grown w w') (base : Nat) : SR w' X A n μ ∧ Tr base w A μ w' A μ := by
  have hlt : ∀ id a b, A id = some a → μ id = some b → b.b < w.heap.size := fun id a b h1 h2 => by
    obtain ⟨c, el, hh, _⟩ := hS.blk id a h1 b h2
    exact (Array.getElem?_eq_some_iff.1 hh).1
  have htr : Tr base w A μ w' A μ := ⟨h.os, h.tape, h.output, h.size, fun b hb _ => h.keep b hb, fun _ _ h => h, fun _ _ => rfl⟩
  refine ⟨⟨hS.lt, fun id a ha b hb => ?_, hS.nob, hS.gsz, hS.inj, hS.out, fun b hb => Nat.lt_of_lt_of_le (hS.xlt b hb) h.size⟩, htr⟩
  obtain ⟨c, el, k0, k1, k2, k3, k4⟩ := hS.blk id a ha b hb
  refine ⟨c, el, by rw [h.keep _ (hlt id a b ha hb)]; exact k0, k1, k2, k3, fun i row j pv hi hj => ?_⟩
  obtain ⟨v, hv1, hv2, hv3⟩ := k4 i row j pv hi hj
  exact ⟨v, hv1, hv2, hv3.mono htr.keeps fun _ _ _ h => h⟩
theorem SR.avlt (hS : SR w X A n μ) {b : Nat} (h : Av X A μ b) : b < w.heap.size := by
  rcases h with h | ⟨id, rows, g, k, h1, h2, rfl⟩
  · exact hS.xlt b h
  · obtain ⟨c, el, hh, _⟩ := hS.blk id _ h1 k h2
    exact (Array.getElem?_eq_some_iff.1 hh).1

/-- The operation comes to what the pure one says. -/
def Done (P : Program) (o : Oper) (a : Act) (w : World) (X : Nat → Prop) (A : Arrs) (μ : Mu) (n' base nid : Nat) (out : Out) : Prop :=
  ∀ (K : Act → World → Prop) (Q : Exit → Act → World → Prop),
    (∀ v w' μ', SR w' X (placeA (frz A out.fz) nid out.new) n' μ' → Tr base w A μ w' (placeA (frz A out.fz) nid out.new) μ' → (∀ i, i ≠ nid ∨ out.new = none → μ' i = μ i) →
      VR w' (Av X (placeA (frz A out.fz) nid out.new) μ') μ' out.v v → K (a.put o.dst v) w') → o.wp P a w K Q

theorem Done.val {o : Oper} {a : Act} {n' base nid : Nat} {pv : PV} (hS : SR w X A n μ) (hnn : n ≤ n') (h : ∃ z, (execOp a.eval o).run P w = .ok (.value z) w ∧ VR w (Av X A μ) μ pv z) : Done P o a w X A μ n' base nid { v := pv } := by
  intro K Q hK
  obtain ⟨z, h1, h2⟩ := h
  unfold Oper.wp
  rw [h1]
  refine hK z w μ ?_ ?_ (fun _ _ => rfl) ?_ <;> simp only [placeA, frz_nil]
  · exact hS.up hnn
  · exact Tr.refl _ _ _ _
  · exact h2
theorem Done.new {o : Oper} {a : Act} {n' base nid : Nat} {pv : PV} {rows : List (List PV)} {g : Option (Option Nat)}
    (h : ∃ z w' μ', (execOp a.eval o).run P w = .ok (.value z) w' ∧ SR w' X (upd A nid ⟨rows, g, false⟩) n' μ' ∧ Tr base w A μ w' (upd A nid ⟨rows, g, false⟩) μ' ∧ (∀ i, i ≠ nid → μ' i = μ i) ∧
      VR w' (Av X (upd A nid ⟨rows, g, false⟩) μ') μ' pv z) : Done P o a w X A μ n' base nid { v := pv, new := some (rows, g) } := by
  intro K Q hK
  obtain ⟨z, w', μ', h1, h2, h3, h4, h5⟩ := h
  unfold Oper.wp
  rw [h1]
  refine hK z w' μ' ?_ ?_ (fun i hi => h4 i (hi.resolve_right (by simp))) ?_ <;> simp only [placeA, frz_nil] <;> assumption

theorem val_of {s : Sem Value} {f : Sem Next} (hf : f = (do pure (Next.value (← s)))) {pv : PV} (h : ∃ z, s.run P w = .ok z w ∧ VR w av μ pv z) : ∃ z, f.run P w = .ok (.value z) w ∧ VR w av μ pv z := by
  obtain ⟨z, h1, h2⟩ := h
  subst hf
  exact ⟨z, by simp [h1], h2⟩
theorem map_some {α β : Type} {f : α → β} {x : Option α} {b : β} (h : x.map f = some b) : ∃ a, x = some a ∧ b = f a := by
  cases x with
  | none => cases h
  | some a => exact ⟨a, rfl, by simpa using h.symm⟩
theorem bind_some {α β : Type} {f : α → Option β} {x : Option α} {b : β} (h : x.bind f = some b) : ∃ a, x = some a ∧ f a = some b := by
  cases x with
  | none => cases h
  | some a => exact ⟨a, rfl, h⟩
theorem VR.tup_inv {vs : List PV} {v : Value} (h : VR w av μ (.tup vs) v) : ∃ us : Array Value, v = .tuple us ∧ vs.length = us.size ∧ ∀ (j : Nat) (pv : PV) (v : Value), vs[j]? = some pv → us[j]? = some v → VR w av μ pv v := by
  cases h with
  | fr h => cases h
  | tup _ us hn hr => exact ⟨us, rfl, hn, hr⟩
theorem VR.fn_inv {f : FuncId} {x y : List PV} {v : Value} (h : VR w av μ (.fn f x y) v) : ∃ us vs : Array Value, v = .func (.func f) us vs ∧ x.length = us.size ∧ y.length = vs.size ∧
    (∀ (j : Nat) (pv : PV) (v : Value), x[j]? = some pv → us[j]? = some v → VR w av μ pv v) ∧ (∀ (j : Nat) (pv : PV) (v : Value), y[j]? = some pv → vs[j]? = some v → VR w av μ pv v) := by
  cases h with
  | fr h => cases h; exact ⟨#[], #[], rfl, rfl, rfl, by simp, by simp⟩
  | fn _ _ _ u v hx hy rx ry => exact ⟨u, v, rfl, hx, hy, rx, ry⟩
/-- Values one beside the other. -/
theorem rel_app {x y : List PV} {us vs : Array Value} {R : PV → Value → Prop} (hx : x.length = us.size) (h1 : ∀ (j : Nat) (pv : PV) (v : Value), x[j]? = some pv → us[j]? = some v → R pv v)
    (h2 : ∀ (j : Nat) (pv : PV) (v : Value), y[j]? = some pv → vs[j]? = some v → R pv v) : ∀ (j : Nat) (pv : PV) (v : Value), (x ++ y)[j]? = some pv → (us ++ vs)[j]? = some v → R pv v := by
  intro j pv v hp hv
  by_cases hj : j < x.length
  · rw [List.getElem?_append_left hj] at hp
    rw [Array.getElem?_append_left (by omega)] at hv
    exact h1 j pv v hp hv
  · rw [List.getElem?_append_right (by omega)] at hp
    rw [Array.getElem?_append_right (by omega)] at hv
    rw [hx] at hp
    exact h2 _ pv v hp hv
theorem rel_map {e : Env} {a : Act} (hE : ER w av μ e a.tmps) (xs : Array Operand) : ∀ (j : Nat) (pv : PV) (v : Value), (xs.toList.map (ev e))[j]? = some pv → (xs.map a.eval)[j]? = some v → VR w av μ pv v := by
  intro j pv v hp hv
  rw [List.getElem?_map, Array.getElem?_toList] at hp
  rw [Array.getElem?_map] at hv
  cases hx : xs[j]? with
  | none => rw [hx] at hp; cases hp
  | some x =>
    rw [hx] at hp hv
    simp at hp hv
    subst hp; subst hv
    exact ev_sound hE x

theorem callP_op (hS : SR w X A n μ) (hSA : Sees S A μ) {n' base nid : Nat} (hnn : n ≤ n') {cp : CallP} (hcp : CPOK P cp) {o : Oper} {a : Act} {c : Call} {f : Operand} {e : Env} (hE : ER w (Av X A μ) μ e a.tmps)
    (ho : o.op = .call c) (hc : c.callee = .value f) {g : FuncId} {first caps : List PV} (hf : ev e f = .fn g first caps) {args : List PV} (hargs : mapO (fzPV S) (first ++ c.args.toList.map (ev e) ++ caps) = some args)
    {r : PV} (hr : cp g args = some r) : Done P o a w X A μ n' base nid { v := r, fz := reach S 8 ((first ++ c.args.toList.map (ev e) ++ caps).flatMap PV.refs) } := by
  intro K Q hK
  have hfv := ev_sound hE f
  rw [hf] at hfv
  obtain ⟨us, vs, hv, hx, hy, rx, ry⟩ := hfv.fn_inv
  obtain ⟨fn, cd, e1, e2, e3, e4⟩ := hcp g args r hr
  have hrun : (execOp a.eval o).run P w = .ok (.enter g ((us ++ c.args.map a.eval) ++ vs)) w := by
    simp [execOp, ho, resolve, hc, hv, Deferred.ofValue, invoke, callFunc, e1, e2, e3]
  unfold Oper.wp
  rw [hrun]
  rw [Oper.upon_enter]
  obtain ⟨k1, k2⟩ := hS.frz (reach S 8 ((first ++ c.args.toList.map (ev e) ++ caps).flatMap PV.refs)) base
  obtain ⟨m1, m2⟩ := mapO_spec hargs
  have hrel := rel_app (R := VR w (Av X A μ) μ) (x := first ++ c.args.toList.map (ev e)) (us := us ++ c.args.map a.eval) (y := caps) (vs := vs) (by simp [hx]) (rel_app hx rx (rel_map hE c.args)) ry
  refine Calls.mono (e4 w (Av X (frz A (reach S 8 ((first ++ c.args.toList.map (ev e) ++ caps).flatMap PV.refs))) μ) ((us ++ c.args.map a.eval) ++ vs) (fun b hb => k1.avlt hb) (by rw [m1]; simp [hx, hy]) (fun j pv v hp hv => ?_)) ?_
  · obtain ⟨pv0, q1, q2⟩ := m2 j pv hp
    refine fzPV_sound hS hSA q2 (hrel j pv0 v q1 hv) (fun id hid => reach_sub 8 _ _ (fun m hm => ?_) id hid)
    exact List.mem_flatMap.2 ⟨pv0, List.mem_of_getElem? q1, hm⟩
  · rintro e w' ⟨v, rfl, hg, hvr⟩
    obtain ⟨j1, j2⟩ := k1.grown hg base
    refine hK v w' μ ?_ ?_ (fun _ _ => rfl) ?_ <;> simp only [placeA]
    · exact j1.up hnn
    · exact k2.trans j2
    · exact hvr.mono (Keeps.refl _ _) fun i _ b hb => by cases hb

theorem ev1_sound (hS : SR w X A n μ) (hSA : Sees S A μ) {nid n' : Nat} (hA : A nid = none) (hμ : μ nid = none) (hn : nid < n') (hnn : n ≤ n') {base : Nat} (hb : base ≤ nid) {cp : CallP} (hcp : CPOK P cp) {o : Oper} {a : Act} {e : Env}
    (hE : ER w (Av X A μ) μ e a.tmps) {out : Out} (h : ev1 P cp o e S nid = some out) : Done P o a w X A μ n' base nid out := by
  have hev := ev_sound hE
  obtain ⟨dst, op, type, pos, after, guard⟩ := o
  cases op <;> simp only [ev1, reduceCtorEq, Option.some.injEq] at h
  case move x =>
    subst h
    exact .val hS hnn ⟨_, by simp [execOp], hev x⟩
  case assign x =>
    subst h
    exact .val hS hnn ⟨_, by simp [execOp], hev x⟩
  case pick c x y =>
    split at h
    · rename_i t hc
      cases h
      have := hev c
      rw [hc] at this
      refine .val hS hnn ⟨_, by simp [execOp, this.bool_inv, asBool]; rfl, ?_⟩
      cases t
      · exact hev y
      · exact hev x
    · cases h
  case alloc t =>
    obtain ⟨z, hz, h⟩ := bind_some h
    split at h
    · rename_i hc
      cases h
      obtain ⟨w', μ', k1, k2, k3, k4, k5⟩ := alloc_sound (P := P) hS hA hμ hn hnn hb (.tuple #[]) hz hc
      exact .new ⟨_, w', μ', by simp [execOp, k1], k2, k3, k4, k5⟩
    · cases h
  case box t x =>
    unfold boxed at h
    split at h
    · rename_i hc
      cases h
      obtain ⟨w', μ', k1, k2, k3, k4, k5⟩ := box_sound (P := P) hS hA hμ hn hnn hb (el := t) (hev x) hc.2
      exact .new ⟨_, w', μ', by simp [execOp, k1], k2, k3, k4, k5⟩
    · cases h
  case build t parts =>
    split at h
    · rename_i fs hd
      obtain ⟨z, hz, h⟩ := bind_some h
      split at h
      · rename_i hc
        obtain ⟨cs, h1, rfl⟩ := map_some h
        exact .val hS hnn (val_of (by simp [execOp]) (build_sound hd hz hc.1 (by simpa using hc.2) hev h1))
      · cases h
    · cases h
  case buildSlice t len parts =>
    split at h
    · rename_i el hd
      split at h
      · rename_i hc
        cases h
        obtain ⟨z, w', μ', k1, k2, k3, k4, k5⟩ := buildSlice_sound (P := P) hS hA hμ hn hnn hb hev hd hc
        exact .new ⟨_, w', μ', by simp [execOp, k1], k2, k3, k4, k5⟩
      · cases h
    · cases h
  case load t x =>
    obtain ⟨v, h1, rfl⟩ := map_some h
    exact .val hS hnn (val_of (by simp [execOp]) (load_sound hS hSA (hev x) h1))
  case nilCheck x =>
    split at h <;> first | cases h | skip
    · rename_i i j k hx
      have := hev x
      rw [hx] at this
      refine .val hS hnn ⟨_, ?_, this⟩
      simp only [execOp]
      generalize a.eval x = v at this ⊢
      cases this with
      | fr q => cases q
      | mp _ _ _ b hb => rfl
    · rename_i r hx
      have := hev x
      rw [hx] at this
      refine .val hS hnn ⟨_, ?_, this⟩
      simp only [execOp]
      generalize a.eval x = v at this ⊢
      cases this with
      | fr q => cases q; rfl
    · rename_i f p q hx
      have := hev x
      rw [hx] at this
      obtain ⟨us, vs, hv, _⟩ := this.fn_inv
      refine .val hS hnn ⟨_, ?_, this⟩
      rw [hv]
      simp [execOp, hv]
  case binOp op t x y c =>
    obtain ⟨v, h1, rfl⟩ := map_some h
    exact .val hS hnn (val_of (by simp [execOp]) (evBin_sound x y (hev x) (hev y) h1))
  case unOp op t x =>
    obtain ⟨v, h1, rfl⟩ := map_some h
    exact .val hS hnn (val_of (by simp [execOp]) (evUn_sound (hev x) h1))
  case convert s d x =>
    split at h
    · rename_i hk
      obtain ⟨v, h1, rfl⟩ := map_some h
      exact .val hS hnn (val_of (by simp [execOp]) (evConvert_sound hk (hev x) h1))
    · cases h
  case makeFunc fn first caps =>
    cases fn <;> simp only [reduceCtorEq, Option.some.injEq] at h
    rename_i f
    subst h
    refine .val hS hnn ⟨_, by simp [execOp, Instr.makeFunc]; rfl, ?_⟩
    exact .fn f _ _ _ _ (by simp) (by simp) (rel_map hE first) (rel_map hE caps)
  case makeSlice t l c =>
    split at h
    · rename_i el kn n0 km m0 hd hl hc
      obtain ⟨z, hz, h⟩ := bind_some h
      split at h
      · rename_i hcc
        cases h
        have e1 := hev l
        rw [hl] at e1
        have e2 := hev c
        rw [hc] at e2
        obtain ⟨v, w', μ', k1, k2, k3, k4, k5⟩ := makeSlice_sound (P := P) hS hA hμ hn hnn hb hd (kl := kn) (km := km) hz hcc
        exact .new ⟨_, w', μ', by simp [execOp, e1.int_inv, e2.int_inv, k1], k2, k3, k4, k5⟩
      · cases h
    · cases h
  case slice t x lo hi mx =>
    split at h
    · cases h
    · rename_i hk
      obtain ⟨v, h1, rfl⟩ := map_some h
      have opt : ∀ (q : Option Operand) (p : PV) (u : Value), q.map (ev e) = some p → q.map a.eval = some u → VR w (Av X A μ) μ p u := fun q p u h1 h2 => by
        cases q with
        | none => cases h1
        | some q => simp at h1 h2; subst h1; subst h2; exact hev q
      exact .val hS hnn (val_of (by simp [execOp]) (slice_sound hS hSA (fun hs => by
        by_cases hq : (tyi P (elemTy (tyi P t))).known = true
        · exact hq
        · exact absurd ⟨hs, by simpa using hq⟩ hk) (hev x) (by simp) (opt lo) (by simp) (opt hi) (by simp) (opt mx) h1))
  case fieldAddr t x f =>
    obtain ⟨v, h1, rfl⟩ := map_some h
    exact .val hS hnn (val_of (by simp [execOp]) (fieldAddr_sound (hev x) h1))
  case field t x f =>
    obtain ⟨v, h1, rfl⟩ := map_some h
    exact .val hS hnn (val_of (by simp [execOp]) (field_sound (hev x) h1))
  case indexAddr t x i =>
    split at h
    · rename_i hk
      obtain ⟨v, h1, rfl⟩ := map_some h
      have hd : (tyi P t).d = .slice (elemTy (tyi P t)) := by
        have := hk.1
        unfold isSlice at this
        unfold elemTy
        split at this
        · rename_i el hd; rw [hd]
        · cases this
      exact .val hS hnn (val_of (by simp [execOp]) (indexAddr_sound hS hSA (tyi_slice hd) hk.2 (hev x) (hev i) h1))
    · cases h
  case index t x i =>
    split at h
    · rename_i m el hd
      split at h
      · rename_i hk
        obtain ⟨v, h1, rfl⟩ := map_some h
        have h2 : evIndex (tyi P t) (tyi P el).size (tyi P el).isAgg (ev e x) (ev e i) = some v := by
          rw [← h1]; unfold evIndex; simp only [hd]
        exact .val hS hnn (val_of (by simp [execOp]) (index_sound (hev x) (hev i) (fun len el' hd' => by rw [hd] at hd'; cases hd'; exact ⟨hk, rfl, rfl⟩) h2))
      · cases h
    · rename_i hd
      obtain ⟨v, h1, rfl⟩ := map_some h
      have h2 : evIndex (tyi P t) 0 false (ev e x) (ev e i) = some v := by
        rw [← h1]; unfold evIndex; simp only [hd]
      exact .val hS hnn (val_of (by simp [execOp]) (index_sound (hev x) (hev i) (fun len el' hd' => by rw [hd] at hd'; cases hd') h2))
    · cases h
  case extract x i =>
    split at h
    · rename_i vs hx
      obtain ⟨v, h1, rfl⟩ := map_some h
      have := hev x
      rw [hx] at this
      obtain ⟨us, hv, hn', hr⟩ := this.tup_inv
      have hlt := (List.getElem?_eq_some_iff.1 h1).1
      have hu : us[i]? = some (us[i]'(by omega)) := Array.getElem?_eq_getElem _
      refine .val hS hnn ⟨_, ?_, hr i _ _ h1 hu⟩
      simp [execOp, hv, Instr.extract, hu]
    · cases h
  case call c =>
    cases hc : c.callee with
    | invoke r m => rw [hc] at h; cases h
    | value f =>
      rw [hc] at h
      simp only at h
      split at h
      · rename_i g first caps hf
        split at h
        · obtain ⟨args, h1, h⟩ := bind_some h
          obtain ⟨r, h2, rfl⟩ := map_some h
          exact callP_op hS hSA hnn hcp hE rfl hc hf h1 h2
        · cases h
      · cases h
    | builtin b =>
      rw [hc] at h
      cases b <;> simp only [reduceCtorEq] at h
      case len =>
        split at h
        · rename_i t x ht hx
          obtain ⟨v, h1, rfl⟩ := map_some h
          refine .val hS hnn (val_of (s := Builtin.len_ c.argTypes type (c.args.map a.eval)) (by simp [execOp, resolve, hc, invoke, builtin]) ?_)
          have : Builtin.len_ c.argTypes type (c.args.map a.eval) = Builtin.len_ #[t] type #[a.eval x] := by
            simp [Builtin.len_, ht, hx]
          rw [this]
          exact evLen_sound type (hev x) h1
        · cases h
      case max =>
        split at h
        · rename_i k x k' y hx
          cases h
          obtain ⟨p, q, hpq⟩ : ∃ p q, c.args.toList = [p, q] := by
            have := congrArg List.length hx
            rw [List.length_map] at this
            generalize c.args.toList = l at this
            cases l with
            | nil => cases this
            | cons p l =>
              cases l with
              | nil => simp at this
              | cons q l =>
                cases l with
                | nil => exact ⟨p, q, rfl⟩
                | cons _ _ => simp at this
          rw [hpq] at hx
          simp only [List.map_cons, List.map_nil, List.cons.injEq, and_true] at hx
          have e1 := hev p
          have e2 := hev q
          rw [hx.1] at e1
          rw [hx.2] at e2
          refine .val hS hnn (val_of (s := Builtin.max_ c.argTypes type (c.args.map a.eval)) (by simp [execOp, resolve, hc, invoke, builtin]) ⟨_, ?_, .i⟩)
          simp [Builtin.max_, hpq, e1.int_inv, e2.int_inv, Builtin.max2]
        · cases h
      case min =>
        split at h
        · rename_i k x k' y hx
          cases h
          obtain ⟨p, q, hpq⟩ : ∃ p q, c.args.toList = [p, q] := by
            have := congrArg List.length hx
            rw [List.length_map] at this
            generalize c.args.toList = l at this
            cases l with
            | nil => cases this
            | cons p l =>
              cases l with
              | nil => simp at this
              | cons q l =>
                cases l with
                | nil => exact ⟨p, q, rfl⟩
                | cons _ _ => simp at this
          rw [hpq] at hx
          simp only [List.map_cons, List.map_nil, List.cons.injEq, and_true] at hx
          have e1 := hev p
          have e2 := hev q
          rw [hx.1] at e1
          rw [hx.2] at e2
          refine .val hS hnn (val_of (s := Builtin.min_ c.argTypes type (c.args.map a.eval)) (by simp [execOp, resolve, hc, invoke, builtin]) ⟨_, ?_, .i⟩)
          simp [Builtin.min_, hpq, e1.int_inv, e2.int_inv, Builtin.min2]
        · cases h
      case append =>
        split at h
        · rename_i t u x y ht hu hargs
          split at h
          · rename_i el el' hd hd'
            split at h
            · rename_i hz
              have hx := hev x
              have hap : Builtin.append_ c.argTypes type (c.args.map a.eval) = Builtin.append_ #[t, u] type #[a.eval x, a.eval y] := by
                have : c.args = #[x, y] := by rw [← Array.toArray_toList (xs := c.args), hargs]
                simp [Builtin.append_, ht, hu, this]
              rcases appendNew_sound (P := P) hS hSA hA hμ hn hnn hb type hd hd' hz hx (hev y) h with ⟨rfl, hrun⟩ | ⟨rows, g, o1, o2, r, w', μ', k1, k2, k3, k4, k5⟩
              · refine .val hS hnn ⟨_, ?_, hx⟩
                simp [execOp, resolve, hc, invoke, builtin, hap, hrun]
              · obtain ⟨v, nw, fz⟩ := out
                simp only at o1 o2
                subst o1; subst o2
                refine .new ⟨r, w', μ', ?_, k2, k3, k4, k5⟩
                simp [execOp, resolve, hc, invoke, builtin, hap, k1]
            · cases h
          · cases h
        · cases h
end
end Go.Vs
