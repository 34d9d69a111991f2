/- One operation in its turn, and a region that runs in its text's order. -/
import Derived.Test.YtnddhkcciphhkaaVs16
set_option linter.unusedVariables false
set_option linter.unusedSimpArgs false
namespace Go.Vs
open Go

/-- The machine is where the pure run is. -/
def Now (base nt : Nat) (X : Nat → Prop) (w0 : World) (A0 : Arrs) (μ0 : Mu) (e : Env) (S : Store) (a : Act) (w : World) : Prop :=
  ∃ μ, SR w X (arrs S) S.length μ ∧ ER w (Av X (arrs S) μ) μ e a.tmps ∧ base ≤ S.length ∧ a.defers = [] ∧ a.tmps.size = nt ∧ Tr base w0 A0 μ0 w (arrs S) μ

theorem length_place (S : Store) (nw : Option (List (List PV) × Option (Option Nat))) : S.length ≤ (place S nw).length ∧ (nw = none → (place S nw).length = S.length) ∧ (∀ p, nw = some p → (place S nw).length = S.length + 1) := by
  cases nw with
  | none => simp [place]
  | some p => obtain ⟨rows, g⟩ := p; simp [place]

theorem yielded_of {ops : Array Oper} {tmps : Array Value} {j t : Nat} (ht : (ops[j]?).bind (·.dst) = some t) : yielded ops tmps j = match tmps[t]? with | some (.bool b) => some b | _ => none := by
  unfold yielded
  rw [ht]
  rfl

section
variable {P : Program} {w : World} {X : Nat → Prop} {A : Arrs} {n : Nat} {μ : Mu} {av : Nat → Prop} {S : Store}

theorem put_size (a : Act) (d : Option Tmp) (v : Value) : (a.put d v).tmps.size = a.tmps.size := by cases d <;> simp [Act.put]
theorem put_defers' (a : Act) (d : Option Tmp) (v : Value) : (a.put d v).defers = a.defers := by cases d <;> rfl

theorem wantedV_sound {ops : Array Oper} {e : Env} {o : Oper} {a : Act} {b : Bool} (hE : ∀ j want t, o.guard = some (j, want) → (ops[j]?).bind (·.dst) = some t → VR w av μ (get e t) (a.tmps.getD t Go.undef)) (h : wantedV ops e o = some b) :
    Region.wanted o (yielded ops a.tmps) = b := by
  unfold wantedV at h
  unfold Region.wanted
  cases hg : o.guard with
  | none => rw [hg] at h; simpa using h
  | some p =>
    obtain ⟨j, want⟩ := p
    rw [hg] at h
    simp only at h ⊢
    cases ht : (ops[j]?).bind (·.dst) with
    | none => rw [ht] at h; simp at h; subst h; unfold yielded; rw [ht]; rfl
    | some t =>
      rw [ht] at h
      simp only at h
      rw [yielded_of ht]
      have hv := hE j want t hg ht
      split at h
      · rename_i c hc
        rw [hc] at hv
        have hb := hv.bool_inv
        have hs : a.tmps[t]? = some (.bool c) := by
          by_cases hlt : t < a.tmps.size
          · simp [Array.getD, hlt] at hb
            rw [Array.getElem?_eq_getElem hlt, hb]
          · simp [Array.getD, hlt, Go.undef] at hb
        rw [hs]
        simp at h; subst h
        cases c <;> cases want <;> rfl
      · rename_i hc
        simp at h; subst h
        rw [hc] at hv
        have hs : a.tmps.getD t Go.undef = Go.undef := by
          generalize a.tmps.getD t Go.undef = v at hv
          cases hv with
          | fr h => cases h
          | skip => rfl
        have hs2 : ∀ c, a.tmps[t]? ≠ some (.bool c) := fun c hc => by
          simp [Array.getD_eq_getD_getElem?, hc, Go.undef] at hs
        split
        · rename_i c hc'; exact absurd hc' (hs2 c)
        · rfl
      · cases h

variable {base nt : Nat} {w0 : World} {A0 : Arrs} {μ0 : Mu} {e : Env} {a : Act}

theorem stepOp_sound {C : Ctx} (hcp : CPOK C.P C.cp) (hcr : CROK C.P C.cr) {ops : Array Oper} {o : Oper} (hd : ∀ t, o.dst = some t → t < nt) {e' : Env} {S' : Store} (hb : C.base = base)
    (hN : Now base nt X w0 A0 μ0 e S a w) (h : stepOp C ops o e S = some (e', S')) {K : Act → World → Prop} {Q : Exit → Act → World → Prop} (hK : ∀ a' w', Now base nt X w0 A0 μ0 e' S' a' w' → K a' w') :
    if Region.wanted o (yielded ops a.tmps) then o.wp C.P a w K Q else K (a.put o.dst Go.undef) w := by
  subst hb
  obtain ⟨μ, hS, hE, hbase, hdef, hsz, htr⟩ := hN
  subst hsz
  unfold stepOp at h
  obtain ⟨b, hw, h⟩ := bind_some h
  rw [wantedV_sound (fun _ _ t _ _ => hE t) hw]
  cases b with
  | false =>
    simp only [Bool.false_eq_true, if_false, Option.some.injEq, Prod.mk.injEq] at h ⊢
    obtain ⟨rfl, rfl⟩ := h
    exact hK _ _ ⟨μ, hS, hE.putD hd .skip, hbase, by rw [put_defers']; exact hdef, by rw [put_size], htr⟩
  | true =>
    simp only [if_true] at h ⊢
    split at h
    · obtain ⟨r, h1, h2⟩ := map_some h
      simp only [Prod.mk.injEq] at h2
      obtain ⟨rfl, rfl⟩ := h2
      refine ev2_sound hS hcp hcr rfl hbase hE h1 K Q fun v w' μ' k1 k2 k3 k4 k5 => hK _ _ ⟨μ', k1, ?_, Nat.le_trans hbase k3, by rw [put_defers']; exact hdef, by rw [put_size], htr.trans k2⟩
      refine ER.putD (fun t => ?_) hd k5
      rw [get_killE]
      exact k4 _ _ (hE t)
    · obtain ⟨out, h1, h2⟩ := map_some h
      simp only [Prod.mk.injEq] at h2
      obtain ⟨rfl, rfl⟩ := h2
      have hA : arrs S S.length = none := (hS.lt _ (Nat.le_refl _)).2
      have hμ : μ S.length = none := (hS.lt _ (Nat.le_refl _)).1
      have hlen : S.length ≤ (place (freezeAll S out.fz) out.new).length := by have := (length_place (freezeAll S out.fz) out.new).1; rwa [length_freezeAll] at this
      -- a number behind all
      refine ev1_sound (n' := S.length + 1) (base := C.base) hS (Sees.refl S μ) hA hμ (Nat.lt_succ_self _) (Nat.le_succ _) hbase hcp hE h1 K Q fun v w' μ' k1 k2 k3 k4 => hK _ _ ⟨μ', ?_, ?_, Nat.le_trans hbase hlen, by rw [put_defers']; exact hdef, by rw [put_size], ?_⟩
      · have e1 : arrs (place (freezeAll S out.fz) out.new) = placeA (frz (arrs S) out.fz) S.length out.new := by rw [arrs_place, arrs_freezeAll, length_freezeAll]
        rw [e1]
        refine ⟨fun id hid => ?_, k1.blk, k1.nob, k1.gsz, k1.inj, k1.out, k1.xlt⟩
        have hl := length_place (freezeAll S out.fz) out.new
        rw [length_freezeAll] at hl
        cases hn : out.new with
        | some p => rw [hl.2.2 p hn] at hid; rw [← hn]; exact k1.lt id hid
        | none =>
          rw [hl.2.1 hn] at hid
          by_cases he : id = S.length
          · subst he
            have h2 : placeA (frz (arrs S) out.fz) S.length out.new S.length = none := by
              rw [hn]
              simp only [placeA, frz, hA]
              rfl
            rw [hn] at h2
            exact ⟨by rw [k3 _ (.inr hn)]; exact hμ, h2⟩
          · have := k1.lt id (by omega)
            rw [hn] at this
            exact this
      · have e1 : arrs (place (freezeAll S out.fz) out.new) = placeA (frz (arrs S) out.fz) S.length out.new := by rw [arrs_place, arrs_freezeAll, length_freezeAll]
        rw [e1]
        refine ER.putD ?_ hd k4
        exact hE.mono k2.keeps fun i b hb => by rw [k3 i (.inl (by have := hS.mulen hb; omega))]; exact hb
      · have e1 : arrs (place (freezeAll S out.fz) out.new) = placeA (frz (arrs S) out.fz) S.length out.new := by rw [arrs_place, arrs_freezeAll, length_freezeAll]
        rw [e1]
        exact htr.trans k2

theorem runOps_sound {C : Ctx} (hcp : CPOK C.P C.cp) (hcr : CROK C.P C.cr) (hb : C.base = base) {ops : Array Oper} : ∀ (l : List Oper), (∀ o ∈ l, ∀ t, o.dst = some t → t < nt) → ∀ {e e' : Env} {S S' : Store} {a : Act} {w : World},
    Now base nt X w0 A0 μ0 e S a w → runOps C ops l e S = some (e', S') → ∀ {Q : Exit → Act → World → Prop}, (∀ a' w', Now base nt X w0 A0 μ0 e' S' a' w' → Q .normal a' w') → wpList C.P ops Q l a w
  | [], _, e, e', S, S', a, w, hN, h, Q, hQ => by
    simp only [runOps, Option.some.injEq, Prod.mk.injEq] at h
    obtain ⟨rfl, rfl⟩ := h
    exact hQ a w hN
  | o :: l, hd, e, e', S, S', a, w, hN, h, Q, hQ => by
    simp only [runOps] at h
    obtain ⟨⟨e1, S1⟩, h1, h2⟩ := bind_some h
    exact wpList_step fun K hK => stepOp_sound hcp hcr (hd o (by simp)) hb hN h1 fun a' w' hN' => hK a' w' (runOps_sound hcp hcr hb l (fun o ho => hd o (by simp [ho])) hN' h2 hQ)
end
end Go.Vs
