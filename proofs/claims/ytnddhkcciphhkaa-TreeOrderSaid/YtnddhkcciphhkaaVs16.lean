/- An operation that writes: what the machine's run comes to. Then one operation in its turn, and a region that runs in its text's order. -/
import Derived.Test.YtnddhkcciphhkaaVs15
set_option linter.unusedVariables false
set_option linter.unusedSimpArgs false
namespace Go.Vs
open Go

/-- What is known of a call of a function over the store. -/
def CROK (P : Program) (cr : CallR) : Prop := ∀ f args S r S', cr f args S = some (r, S') → ∃ fn c, P.funcs[f]? = some fn ∧ fn.body = some c ∧ fn.name ≠ "runtime.NumGoroutine" ∧
  ∀ (w : World) (X : Nat → Prop) (μ : Mu) (vs : Array Value), SR w X (arrs S) S.length μ → args.length = vs.size → (∀ (j : Nat) (pv : PV) (v : Value), args[j]? = some pv → vs[j]? = some v → VR w (Av X (arrs S) μ) μ pv v) →
    Calls P f vs w fun e w' => ∃ v μ', e = .returned v ∧ SR w' X (arrs S') S'.length μ' ∧ Tr S.length w (arrs S) μ w' (arrs S') μ' ∧ VR w' (Av X (arrs S') μ') μ' r v

theorem get_killE (ids : List Nat) (e : Env) (t : Nat) : get (killE ids e) t = kill1 ids (get e t) := by
  have h0 : ∀ v : PV, kill1 [] v = v := fun v => by
    unfold kill1
    rw [if_neg (by simp)]
  unfold killE
  split
  · rename_i h; subst h; rw [h0]
  · induction e with
    | nil => simp [Vs.get, kill1, PV.refs]
    | cons p e ih =>
      obtain ⟨k, v⟩ := p
      simp only [List.map_cons, Vs.get]
      split
      · rfl
      · exact ih

section
variable {P : Program} {w : World} {X : Nat → Prop} {A : Arrs} {n : Nat} {μ : Mu} {av : Nat → Prop} {S : Store}

theorem SR.mulen (hS : SR w X (arrs S) S.length μ) {i : Nat} {b : Blk} (h : μ i = some b) : i < S.length := by
  by_cases hi : i < S.length
  · exact hi
  · rw [(hS.lt i (by omega)).1] at h; cases h

theorem ER.putD {e : Env} {a : Act} (h : ER w av μ e a.tmps) {d : Option Nat} (hd : ∀ t, d = some t → t < a.tmps.size) {pv : PV} {v : Value} (hv : VR w av μ pv v) : ER w av μ (Vs.putD e d pv) (a.put d v).tmps := by
  cases d with
  | none => exact h
  | some t => exact h.put (hd t rfl) hv

/-- The operation comes to what the pure one says. -/
def Done2 (P : Program) (o : Oper) (a : Act) (w : World) (X : Nat → Prop) (S : Store) (μ : Mu) (base : Nat) (r : Eff) : Prop :=
  ∀ (K : Act → World → Prop) (Q : Exit → Act → World → Prop),
    (∀ v w' μ', SR w' X (arrs r.S) r.S.length μ' → Tr base w (arrs S) μ w' (arrs r.S) μ' → S.length ≤ r.S.length → (∀ pv v, VR w (Av X (arrs S) μ) μ pv v → VR w' (Av X (arrs r.S) μ') μ' (kill1 r.kill pv) v) →
      VR w' (Av X (arrs r.S) μ') μ' r.v v → K (a.put o.dst v) w') → o.wp P a w K Q

theorem kill1_nil (v : PV) : kill1 [] v = v := by
  unfold kill1
  rw [if_neg (by simp)]

theorem arrs_place (S : Store) (nw : Option (List (List PV) × Option (Option Nat))) : arrs (place S nw) = placeA (arrs S) S.length nw := by
  cases nw with
  | none => rfl
  | some p =>
    obtain ⟨rows, g⟩ := p
    funext id
    simp only [place, placeA]
    by_cases hid : id = S.length
    · subst hid; rw [upd_same]; unfold arrs; simp
    · rw [upd_ne _ _ _ hid]
      unfold arrs
      by_cases hlt : id < S.length
      · rw [List.getElem?_append_left hlt]
      · rw [List.getElem?_eq_none (by simp; omega), List.getElem?_eq_none (by omega)]

theorem ev2_sound (hS : SR w X (arrs S) S.length μ) {C : Ctx} (hcp : CPOK P C.cp) (hcr : CROK P C.cr) (hP : C.P = P) (hbase : C.base ≤ S.length) {o : Oper} {a : Act} {e : Env}
    (hE : ER w (Av X (arrs S) μ) μ e a.tmps) {r : Eff} (h : ev2 C o e S = some r) : Done2 P o a w X S μ C.base r := by
  have hev := ev_sound hE
  subst hP
  obtain ⟨dst, op, type, pos, after, guard⟩ := o
  cases op <;> simp only [ev2, reduceCtorEq] at h
  case store t x y =>
    split at h
    · rename_i hk
      obtain ⟨S', h1, rfl⟩ := map_some h
      obtain ⟨w', k1, k2, k3, k4⟩ := store_sound hS hk (hev x) (hev y) h1 C.base
      intro K Q hK
      unfold Oper.wp
      have : (execOp a.eval ⟨dst, .store t x y, type, pos, after, guard⟩).run C.P w = .ok .skip w' := by simp [execOp, k1]
      rw [this]
      refine hK Go.undef w' μ (by rw [k4]; exact k2) k3 (by rw [k4]; exact Nat.le_refl _) (fun pv v hv => ?_) .skip
      rw [kill1_nil]
      exact hv.mono k3.keeps fun _ _ _ h => h
    · cases h
  case call c =>
    cases hc : c.callee with
    | invoke x m => rw [hc] at h; cases h
    | builtin b =>
      rw [hc] at h
      cases b <;> simp only [reduceCtorEq] at h
      case append =>
        split at h
        · rename_i t u x y ht hu hargs
          split at h
          · rename_i el el' hd hd'
            split at h
            · rename_i hz
              have hap : Builtin.append_ c.argTypes type (c.args.map a.eval) = Builtin.append_ #[t, u] type #[a.eval x, a.eval y] := by
                have : c.args = #[x, y] := by rw [← Array.toArray_toList (xs := c.args), hargs]
                simp [Builtin.append_, ht, hu, this]
              obtain ⟨z, w', μ', k1, k2, k3, k4, k5, k6⟩ := append_sound (P := C.P) hS hbase (ty := type) hd hd' hz (hev x) (hev y) h
              intro K Q hK
              unfold Oper.wp
              rw [show (execOp a.eval ⟨dst, .call c, type, pos, after, guard⟩).run C.P w = .ok (.value z) w' by simp [execOp, resolve, hc, invoke, builtin, hap, k1]]
              exact hK z w' μ' k2 k3 k6 k4 k5
            · cases h
          · cases h
        · cases h
      case copy =>
        split at h
        · rename_i t u x y ht hu hargs
          split at h
          · rename_i el el' hd hd'
            split at h
            · rename_i hz
              obtain ⟨z, w', k1, k2, k3, k4, k5, k6⟩ := copy_sound (P := C.P) hS (base := C.base) (tx := u) (e' := el) (ty := type) hd hz (hev x) (hev y) h
              intro K Q hK
              have : Builtin.copy_ c.argTypes type (c.args.map a.eval) = Builtin.copy_ #[t, u] type #[a.eval x, a.eval y] := by
                have : c.args = #[x, y] := by rw [← Array.toArray_toList (xs := c.args), hargs]
                simp [Builtin.copy_, ht, this]
              unfold Oper.wp
              rw [show (execOp a.eval ⟨dst, .call c, type, pos, after, guard⟩).run C.P w = .ok (.value z) w' by simp [execOp, resolve, hc, invoke, builtin, this, k1]]
              refine hK z w' μ (by rw [k5]; exact k2) k3 (by rw [k5]; exact Nat.le_refl _) (fun pv v hv => ?_) k4
              rw [k6, kill1_nil]
              exact hv.mono k3.keeps fun _ _ _ h => h
            · cases h
          · cases h
        · cases h
    | value f =>
      rw [hc] at h
      simp only at h
      split at h
      · rename_i g first caps hf
        split at h
        · obtain ⟨⟨v, S'⟩, h1, h⟩ := bind_some h
          simp only at h
          split at h
          case isFalse => cases h
          rename_i hle
          cases h
          obtain ⟨fn, cd, e1, e2, e3, e4⟩ := hcr _ _ _ _ _ h1
          intro K Q hK
          have hfv := hev f
          rw [hf] at hfv
          obtain ⟨us, vs, hv, hx, hy, rx, ry⟩ := hfv.fn_inv
          have hrun : (execOp a.eval ⟨dst, .call c, type, pos, after, guard⟩).run C.P w = .ok (.enter g ((us ++ c.args.map a.eval) ++ vs)) w := by
            simp [execOp, resolve, hc, hv, Deferred.ofValue, invoke, callFunc, e1, e2, e3]
          unfold Oper.wp
          rw [hrun]
          rw [Oper.upon_enter]
          have hrel := rel_app (R := VR w (Av X (arrs S) μ) μ) (x := first ++ c.args.toList.map (ev e)) (us := us ++ c.args.map a.eval) (y := caps) (vs := vs) (by simp [hx]) (rel_app hx rx (rel_map hE c.args)) ry
          refine Calls.mono (e4 w X μ _ hS (by simp [hx, hy]) hrel) ?_
          rintro e' w' ⟨z, μ', rfl, j1, j2, j4⟩
          refine hK z w' μ' j1 ?_ hle (fun pv u hu => ?_) j4
          · exact ⟨j2.os, j2.tape, j2.output, j2.size, j2.keep, j2.less, fun id hid => j2.mu id (by omega)⟩
          · rw [kill1_nil]
            exact hu.mono j2.keeps fun i _ b hb => by rw [j2.mu i (hS.mulen hb)]; exact hb
        · obtain ⟨args, h1, h⟩ := bind_some h
          obtain ⟨v, h2, rfl⟩ := map_some h
          have hd := callP_op (n' := S.length) (base := C.base) (nid := S.length) hS (Sees.refl S μ) (Nat.le_refl _) hcp (o := ⟨dst, .call c, type, pos, after, guard⟩) hE rfl hc hf h1 h2
          intro K Q hK
          refine hd K Q (fun z w' μ' j1 j2 j3 j4 => ?_)
          simp only [placeA, ← arrs_freezeAll] at j1 j2 j4
          have hlen : (freezeAll S (reach S 8 ((first ++ c.args.toList.map (ev e) ++ caps).flatMap PV.refs))).length = S.length := length_freezeAll ..
          refine hK z w' μ' ?_ j2 (by rw [hlen]; exact Nat.le_refl _) (fun pv u hu => ?_) j4
          · rw [hlen]; exact j1
          · rw [kill1_nil]
            exact hu.mono j2.keeps fun i _ b hb => by rw [j3 i (.inl (by have := hS.mulen hb; omega))]; exact hb
      · cases h
end
end Go.Vs
