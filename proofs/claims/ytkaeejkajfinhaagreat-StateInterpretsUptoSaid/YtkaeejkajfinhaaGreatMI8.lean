import Derived.WalkKit
import Derived.ProofKit
import Derived.OpenShut
import Derived.ShutString
import Derived.ChangeOld
import Derived.Below
import Derived.Carry
import Derived.SizedLaws
import Derived.Test.YtkaeejkajfinhaaGreatMI7
section
set_option linter.unusedVariables false
set_option linter.unusedSimpArgs false
namespace Go.Vs
open Go
section
variable {P : Program} {w : World} {X : Nat → Prop} {A : Arrs} {n : Nat} {μ : Mu} {av : Nat → Prop} {S : Store} {base nt : Nat} {w0 : World} {A0 : Arrs} {μ0 : Mu} {e : Env} {a : Act}
theorem Now.keepOnly (h : Now base nt X w0 A0 μ0 e S a w) (live : List Nat) : Now base nt X w0 A0 μ0 (Vs.keepOnly live e) S a w := by
  obtain ⟨μ, h1, h2, h3⟩ := h
  exact ⟨μ, h1, h2.keepOnly live, h3⟩
theorem Now.trim (h : Now base nt X w0 A0 μ0 e S a w) (keep : List Nat) : Now base nt X w0 A0 μ0 (Vs.trim keep e) S a w := by
  obtain ⟨μ, h1, h2, h3⟩ := h
  exact ⟨μ, h1, h2.trim keep, h3⟩
theorem ER.set {tmps : Array Value} (h : ER w av μ e tmps) {t : Nat} {pv : PV} (hv : VR w av μ pv (tmps.getD t Go.undef)) : ER w av μ (Vs.put e t pv) tmps := fun u => by
  rw [get_put]
  split
  · rename_i h; subst h; exact hv
  · exact h u
theorem SR.other {rows rows' : List (List PV)} {g : Option (Option Nat)} {f : Bool} {id : Nat} (hS : SR w X A n μ) (hA : A id = some ⟨rows, g, f⟩) (hl : rows'.length = rows.length)
    (hr : ∀ (i : Nat) (row' : List PV), rows'[i]? = some row' → ∃ row : List PV, rows[i]? = some row ∧ row'.length = row.length ∧ ∀ (j : Nat) (pv' : PV), row'[j]? = some pv' → ∃ pv, row[j]? = some pv ∧ ∀ v, VR w (Av X A μ) μ pv v → VR w (Av X A μ) μ pv' v) (base : Nat) :
    SR w X (upd A id ⟨rows', g, f⟩) n μ ∧ Tr base w A μ w (upd A id ⟨rows', g, f⟩) μ := by
  have hm : ∀ b, Mut (upd A id ⟨rows', g, f⟩) μ b → Mut A μ b := by
    rintro b ⟨i, rs, g', k, h1, h2, h3⟩
    by_cases hi : i = id
    · subst hi
      rw [upd_same] at h1
      simp only [Option.some.injEq, Arr.mk.injEq] at h1
      obtain ⟨_, _, rfl⟩ := h1
      exact ⟨i, rows, g, k, hA, h2, h3⟩
    · rw [upd_ne _ _ _ hi] at h1; exact ⟨i, rs, g', k, h1, h2, h3⟩
  have htr : Tr base w A μ w (upd A id ⟨rows', g, f⟩) μ := ⟨rfl, rfl, rfl, Nat.le_refl _, fun _ _ _ => rfl, fun b _ h => hm b h, fun _ _ => rfl⟩
  have hn : ∀ i a, upd A id ⟨rows', g, f⟩ i = some a → ∃ a', A i = some a' ∧ a'.g = a.g ∧ (i ≠ id → a' = a) := fun i a h => by
    by_cases hi : i = id
    · subst hi
      rw [upd_same] at h
      simp only [Option.some.injEq] at h
      subst h
      exact ⟨_, hA, rfl, fun h => absurd rfl h⟩
    · rw [upd_ne _ _ _ hi] at h; exact ⟨a, h, rfl, fun _ => rfl⟩
  refine ⟨⟨fun i hi => ⟨(hS.lt i hi).1, ?_⟩, fun i a ha b hb => ?_, fun i a ha hb => ?_, fun i a ha => ?_, fun i i' a a' b b' h1 h2 h3 h4 h5 => ?_, fun i a b h1 h2 => ?_, hS.xlt⟩, htr⟩
  · rw [upd_ne _ _ _ (by rintro rfl; rw [(hS.lt i hi).2] at hA; cases hA)]; exact (hS.lt i hi).2
  · by_cases hi : i = id
    · subst hi
      rw [upd_same] at ha
      simp only [Option.some.injEq] at ha
      subst ha
      obtain ⟨c, el, k0, k1, k2, k3, k4⟩ := hS.blk i _ hA b hb
      refine ⟨c, el, k0, k1, by rw [hl]; exact k2, fun r hrr => ?_, fun x row' j pv' hx hj => ?_⟩
      · obtain ⟨x, hx⟩ := List.getElem?_of_mem hrr
        obtain ⟨row, q1, q2, _⟩ := hr x r hx
        rw [q2]; exact k3 _ (List.mem_of_getElem? q1)
      · obtain ⟨row, q1, q2, q3⟩ := hr x row' hx
        obtain ⟨pv, q4, q5⟩ := q3 j pv' hj
        obtain ⟨v, hv1, hv2, hv3⟩ := k4 x row j pv q1 q4
        exact ⟨v, hv1, hv2, (q5 v hv3).mono htr.keeps fun _ _ _ h => h⟩
    · rw [upd_ne _ _ _ hi] at ha
      obtain ⟨c, el, k0, k1, k2, k3, k4⟩ := hS.blk i a ha b hb
      refine ⟨c, el, k0, k1, k2, k3, fun x row j pv hx hj => ?_⟩
      obtain ⟨v, hv1, hv2, hv3⟩ := k4 x row j pv hx hj
      exact ⟨v, hv1, hv2, hv3.mono htr.keeps fun _ _ _ h => h⟩
  · by_cases hi : i = id
    · subst hi
      rw [upd_same] at ha
      simp only [Option.some.injEq] at ha
      subst ha
      have := hS.nob i _ hA hb
      simp only at this
      subst this
      exact List.eq_nil_of_length_eq_zero (by simpa using hl)
    · rw [upd_ne _ _ _ hi] at ha; exact hS.nob i a ha hb
  · obtain ⟨a', q1, q2, _⟩ := hn i a ha
    rw [← q2]; exact hS.gsz i a' q1
  · obtain ⟨c, q1, _, _⟩ := hn i a h1
    obtain ⟨c', q2, _, _⟩ := hn i' a' h2
    exact hS.inj i i' c c' b b' q1 q2 h3 h4 h5
  · obtain ⟨c, q1, _, _⟩ := hn i a h1
    exact hS.out i c b q1 h2
theorem set_set_rows {rows : List (List PV)} {i j : Nat} {u u' : PV} (hu : (rows.getD i [])[j]? = some u) : (rows.set i ((rows.getD i []).set j u')).length = rows.length ∧
    ∀ (k : Nat) (row' : List PV), (rows.set i ((rows.getD i []).set j u'))[k]? = some row' → ∃ row : List PV, rows[k]? = some row ∧ row'.length = row.length ∧ ∀ (m : Nat) (pv' : PV), row'[m]? = some pv' → ∃ pv, row[m]? = some pv ∧ (pv' = pv ∨ (pv = u ∧ pv' = u')) := by
  refine ⟨by simp, fun k row' hk => ?_⟩
  by_cases hki : i = k
  · subst hki
    rw [List.getElem?_set] at hk
    simp only [if_true] at hk
    split at hk
    case isFalse => cases hk
    rename_i hlt
    cases hk
    have e : rows[i]? = some (rows.getD i []) := by simp [List.getD_eq_getElem?_getD, hlt]
    refine ⟨_, e, by simp, fun m pv' hm => ?_⟩
    rw [List.getElem?_set] at hm
    split at hm
    · rename_i hjm
      subst hjm
      split at hm
      · cases hm; exact ⟨u, hu, .inr ⟨rfl, rfl⟩⟩
      · cases hm
    · exact ⟨pv', hm, .inl rfl⟩
  · rw [List.getElem?_set_ne hki] at hk
    exact ⟨row', hk, rfl, fun m pv' hm => ⟨pv', hm, .inl rfl⟩⟩
theorem arrs_at {S : Store} {id : Nat} {rows : List (List PV)} {g : Option (Option Nat)} {f : Bool} (h : S[id]? = some (.arr rows g f)) : arrs S id = some ⟨rows, g, f⟩ := by simp only [arrs, h]
theorem Now.ownCell (h : Now base nt X w0 A0 μ0 e S a w) (id i j : Nat) : Now base nt X w0 A0 μ0 e (Vs.ownCell S id i j) a w := by
  unfold Vs.ownCell
  split
  case h_2 => exact h
  rename_i rows g f hid
  have hidl : id < S.length := (List.getElem?_eq_some_iff.1 hid).1
  split
  case h_3 => exact h
  · rename_i hu
    obtain ⟨μ, h1, h2, h3, h4, h5, h6⟩ := h
    have hlt := h1.lt S.length (Nat.le_refl _)
    obtain ⟨k1, k2⟩ := h1.newNil hlt.2 hlt.1 (Nat.lt_succ_self _) (Nat.le_succ _) (some none) base
    have eid : upd (arrs S) S.length ⟨[], some none, false⟩ id = some ⟨rows, g, f⟩ := by rw [upd_ne _ _ _ (by omega)]; exact arrs_at hid
    obtain ⟨q1, q2⟩ := set_set_rows (u' := .msl S.length 0 0 false) hu
    obtain ⟨k3, k4⟩ := k1.other eid q1 (fun k row' hk => by
      obtain ⟨row, p1, p2, p3⟩ := q2 k row' hk
      refine ⟨row, p1, p2, fun m pv' hm => ?_⟩
      obtain ⟨pv, r1, r2⟩ := p3 m pv' hm
      refine ⟨pv, r1, fun v hv => ?_⟩
      rcases r2 with rfl | ⟨rfl, rfl⟩
      · exact hv
      · cases hv with | fr hv =>
        cases hv with | sl _ _ ad cap _ _ _ hcap hex =>
        have : cap = 0 := by simpa using hex rfl
        subst this
        exact .mslNil _ _ _) base
    have hlen : (S.set id (.arr (rows.set i ((rows.getD i []).set j (.msl S.length 0 0 false))) g f) ++ [Obj.arr [] (some none) false]).length = S.length + 1 := by simp
    have e1 : arrs (S.set id (.arr (rows.set i ((rows.getD i []).set j (.msl S.length 0 0 false))) g f) ++ [.arr [] (some none) false]) = upd (upd (arrs S) S.length ⟨[], some none, false⟩) id ⟨rows.set i ((rows.getD i []).set j (.msl S.length 0 0 false)), g, f⟩ := by
      funext x
      by_cases hx : x = id
      · subst hx
        rw [upd_same]
        simp only [arrs]
        rw [List.getElem?_append_left (by simpa using hidl)]
        simp [hidl]
      · rw [upd_ne _ _ _ hx]
        by_cases hx2 : x = S.length
        · subst hx2
          rw [upd_same]
          simp only [arrs]
          rw [List.getElem?_append_right (by simp)]
          simp
        · rw [upd_ne _ _ _ hx2]
          simp only [arrs]
          by_cases hx3 : x < S.length
          · rw [List.getElem?_append_left (by simpa using hx3), List.getElem?_set_ne (fun h => hx h.symm)]
          · rw [List.getElem?_eq_none (by simp; omega), List.getElem?_eq_none (by omega)]
    refine ⟨μ, by rw [hlen, e1]; exact k3, ?_, by rw [hlen]; omega, h4, h5, by rw [e1]; exact h6.trans (k2.trans k4)⟩
    rw [e1]
    exact h2.mono (k2.trans k4).keeps fun _ _ h => h
  · rename_i a' o l hu
    obtain ⟨μ, h1, h2, h3, h4, h5, h6⟩ := h
    obtain ⟨q1, q2⟩ := set_set_rows (u' := .msl a' o l false) hu
    obtain ⟨k3, k4⟩ := h1.other (arrs_at hid) q1 (fun k row' hk => by
      obtain ⟨row, p1, p2, p3⟩ := q2 k row' hk
      refine ⟨row, p1, p2, fun m pv' hm => ?_⟩
      obtain ⟨pv, r1, r2⟩ := p3 m pv' hm
      refine ⟨pv, r1, fun v hv => ?_⟩
      rcases r2 with rfl | ⟨rfl, rfl⟩
      · exact hv
      · cases hv with
        | fr hv => cases hv
        | mslNil => exact .mslNil _ _ _
        | msl _ _ _ _ ad cap b hb hlen htot hex had => exact .msl _ _ _ false ad cap b hb hlen htot (by simp) had) base
    have e1 : arrs (S.set id (.arr (rows.set i ((rows.getD i []).set j (.msl a' o l false))) g f)) = upd (arrs S) id ⟨rows.set i ((rows.getD i []).set j (.msl a' o l false)), g, f⟩ := by
      funext x
      by_cases hx : x = id
      · subst hx
        rw [upd_same]
        simp [arrs, hidl]
      · rw [upd_ne _ _ _ hx]
        simp only [arrs]
        rw [List.getElem?_set_ne (fun h => hx h.symm)]
    refine ⟨μ, by rw [List.length_set, e1]; exact k3, ?_, by rw [List.length_set]; exact h3, h4, h5, by rw [e1]; exact h6.trans k4⟩
    rw [e1]
    exact h2.mono k4.keeps fun _ _ h => h
theorem Now.ownMem (h : Now base nt X w0 A0 μ0 e S a w) (x : PV) (j : Nat) : Now base nt X w0 A0 μ0 e (Vs.ownMem S x j) a w := by
  unfold Vs.ownMem
  split
  · exact h.ownCell _ _ _
  · rename_i id off len ex
    generalize List.range len = l
    induction l generalizing S with
    | nil => exact h
    | cons k l ih => exact ih (h.ownCell id (off + k) j)
  · exact h
theorem Now.own1 (h : Now base nt X w0 A0 μ0 e S a w) (t : Nat) : Now base nt X w0 A0 μ0 (Vs.own1 e S t).1 (Vs.own1 e S t).2 a w := by
  unfold Vs.own1
  split
  case isFalse => exact h.ownMem _ _
  split
  · rename_i hg
    obtain ⟨μ, h1, h2, h3, h4, h5, h6⟩ := h
    have hlt := h1.lt S.length (Nat.le_refl _)
    obtain ⟨k1, k2⟩ := h1.newNil hlt.2 hlt.1 (Nat.lt_succ_self _) (Nat.le_succ _) (some none) base
    have e1 : arrs (S ++ [.arr [] (some none) false]) = upd (arrs S) S.length ⟨[], some none, false⟩ := arrs_place S (some ([], some none))
    refine ⟨μ, by rw [e1]; simpa using k1, ?_, by simp; omega, h4, h5, by rw [e1]; exact h6.trans k2⟩
    rw [e1]
    refine ER.set (h2.mono k2.keeps fun _ _ h => h) ?_
    have hv := h2 t
    rw [hg] at hv
    generalize a.tmps.getD t Go.undef = v at hv
    cases hv with | fr hv =>
    cases hv with | sl _ _ ad cap _ _ _ hcap hex =>
    have : cap = 0 := by simpa using hex rfl
    subst this
    exact .mslNil _ _ _
  · rename_i id off len hg
    obtain ⟨μ, h1, h2, h3, h4, h5, h6⟩ := h
    refine ⟨μ, h1, ER.set h2 ?_, h3, h4, h5, h6⟩
    have hv := h2 t
    rw [hg] at hv
    generalize a.tmps.getD t Go.undef = v at hv
    cases hv with
    | fr hv => cases hv
    | mslNil => exact .mslNil _ _ _
    | msl _ _ _ _ ad cap b hb hlen htot hex had => exact .msl _ _ _ false ad cap b hb hlen htot (by simp) had
  · exact h
theorem Now.ownAll (ts : List Nat) : ∀ {e : Env} {S : Store}, Now base nt X w0 A0 μ0 e S a w → Now base nt X w0 A0 μ0 (Vs.ownAll ts e S).1 (Vs.ownAll ts e S).2 a w := by
  induction ts with
  | nil => intro e S h; exact h
  | cons t ts ih => intro e S h; exact ih (h.own1 t)
theorem Now.fzSlot (h : Now base nt X w0 A0 μ0 e S a w) {t : Nat} {e' : Env} {S' : Store} (hf : Vs.fzSlot e S t = some (e', S')) : Now base nt X w0 A0 μ0 e' S' a w := by
  unfold Vs.fzSlot at hf
  obtain ⟨v, h1, h2⟩ := map_some hf
  simp only [Prod.mk.injEq] at h2
  obtain ⟨rfl, rfl⟩ := h2
  obtain ⟨μ, k1, k2, k3, k4, k5, k6⟩ := h
  obtain ⟨j1, j2⟩ := k1.frz (reach S 8 (get e t).refs) base
  have hl := length_freezeAll S (reach S 8 (get e t).refs)
  refine ⟨μ, by rw [hl, arrs_freezeAll]; exact j1, ?_, by rw [hl]; exact k3, k4, k5, by rw [arrs_freezeAll]; exact k6.trans j2⟩
  rw [arrs_freezeAll]
  refine ER.set (k2.mono j2.keeps fun _ _ h => h) ?_
  have := fzPV_sound k1 (Sees.refl S μ) h1 (k2 t) (fun _ h => h)
  exact this.mono (Keeps.refl _ _) fun i _ b hb => by cases hb
theorem Now.fzSlots (ts : List Nat) : ∀ {e : Env} {S : Store} {r : Env × Store}, Now base nt X w0 A0 μ0 e S a w → Vs.fzSlots ts e S = some r → Now base nt X w0 A0 μ0 r.1 r.2 a w := by
  induction ts with
  | nil => intro e S r h hf; simp only [Vs.fzSlots, Option.some.injEq] at hf; subst hf; exact h
  | cons t ts ih =>
    intro e S r h hf
    simp only [Vs.fzSlots] at hf
    obtain ⟨⟨e1, S1⟩, h1, h2⟩ := bind_some hf
    exact ih (h.fzSlot h1) h2
theorem get_mem {e : Env} {t : Nat} : get e t = .undef ∨ ∃ p ∈ e, p.2 = get e t := by
  induction e with
  | nil => exact .inl rfl
  | cons p e ih =>
    obtain ⟨k, v⟩ := p
    simp only [Vs.get]
    split
    · exact .inr ⟨(k, v), by simp, rfl⟩
    · rcases ih with h | ⟨q, h1, h2⟩
      · exact .inl h
      · exact .inr ⟨q, by simp [h1], h2⟩
theorem Now.gc (h : Now base nt X w0 A0 μ0 e S a w) {m : Nat} (hm : base ≤ m) : Now base nt X w0 A0 μ0 e (Vs.gc m e S) a w := by
  unfold Vs.gc
  split
  case isFalse => exact h
  rename_i hc
  obtain ⟨hc1, hc2⟩ := hc
  rw [List.all_eq_true] at hc1 hc2
  obtain ⟨μ, h1, h2, h3, h4, h5, h6⟩ := h
  have hA : ∀ id, arrs (S.take m) id = if id < m then arrs S id else none := fun id => by
    unfold arrs
    by_cases hid : id < m
    · rw [if_pos hid, List.getElem?_take_of_lt hid]
    · rw [if_neg hid, List.getElem?_take, if_neg hid]
  have hAs : ∀ id a, arrs (S.take m) id = some a → id < m ∧ arrs S id = some a := fun id a ha => by
    rw [hA] at ha
    split at ha
    · rename_i h; exact ⟨h, ha⟩
    · cases ha
  let μ' : Mu := fun id => if id < m then μ id else none
  have hμs : ∀ id b, μ' id = some b → id < m ∧ μ id = some b := fun id b hb => by
    simp only [μ'] at hb
    split at hb
    · rename_i h; exact ⟨h, hb⟩
    · cases hb
  have hμ : ∀ id, id < m → μ' id = μ id := fun id h => by simp only [μ', if_pos h]
  have hmut : ∀ b, Mut (arrs (S.take m)) μ' b → Mut (arrs S) μ b := by
    rintro b ⟨id, rows, g, k, k1, k2, k3⟩
    exact ⟨id, rows, g, k, (hAs _ _ k1).2, (hμs _ _ k2).2, k3⟩
  have htr : Tr base w (arrs S) μ w (arrs (S.take m)) μ' := ⟨rfl, rfl, rfl, Nat.le_refl _, fun _ _ _ => rfl, fun b _ h => hmut b h, fun id hid => hμ id (by omega)⟩
  refine ⟨μ', ⟨fun id hid => ?_, fun id a ha b hb => ?_, fun id a ha hb => ?_, fun id a ha => ?_, fun id id' a a' b b' q1 q2 q3 q4 q5 => ?_, fun id a b q1 q2 => ?_, h1.xlt⟩, fun t => ?_, by rw [List.length_take]; omega, h4, h5, h6.trans htr⟩
  · rw [List.length_take] at hid
    rw [hA]
    simp only [μ']
    by_cases hid2 : id < m
    · rw [if_pos hid2, if_pos hid2]; exact h1.lt id (by omega)
    · rw [if_neg hid2, if_neg hid2]; exact ⟨rfl, rfl⟩
  · obtain ⟨hid, ha'⟩ := hAs id a ha
    obtain ⟨c, el, k0, k1, k2, k3, k4⟩ := h1.blk id a ha' b (hμs _ _ hb).2
    refine ⟨c, el, k0, k1, k2, k3, fun i row j pv hi hj => ?_⟩
    obtain ⟨v, hv1, hv2, hv3⟩ := k4 i row j pv hi hj
    refine ⟨v, hv1, hv2, hv3.mono htr.keeps fun k hk b hb => ?_⟩
    rw [hμ k]
    · exact hb
    · have hob : ∃ o, S[id]? = some o ∧ (match o with | .arr rows _ _ => (rowsRefs rows).all fun i => decide (i < m) | .gone => true) = true ∧ ∃ g f, o = .arr a.rows g f := by
        unfold arrs at ha'
        cases hq : S[id]? with
        | none => rw [hq] at ha'; cases ha'
        | some o =>
          rw [hq] at ha'
          refine ⟨o, rfl, hc2 o ?_, ?_⟩
          · refine List.mem_of_getElem? (i := id) ?_
            rw [List.getElem?_take_of_lt hid]; exact hq
          · cases o with
            | gone => cases ha'
            | arr rows g f => simp at ha'; subst ha'; exact ⟨g, f, rfl⟩
      obtain ⟨o, _, ho, g, f, rfl⟩ := hob
      simp only [List.all_eq_true, decide_eq_true_eq] at ho
      exact ho k (refs_in_rows hi hj hk)
  · obtain ⟨hid, ha'⟩ := hAs id a ha
    exact h1.nob id a ha' (by rw [← hμ id hid]; exact hb)
  · obtain ⟨hid, ha'⟩ := hAs id a ha
    rw [hμ id hid]
    exact h1.gsz id a ha'
  · exact h1.inj id id' a a' b b' (hAs _ _ q1).2 (hAs _ _ q2).2 (hμs _ _ q3).2 (hμs _ _ q4).2 q5
  · exact h1.out id a b (hAs _ _ q1).2 (hμs _ _ q2).2
  · refine (h2 t).mono htr.keeps fun k hk b hb => ?_
    rw [hμ k]
    · exact hb
    · rcases get_mem (e := e) (t := t) with h | ⟨p, p1, p2⟩
      · rw [h] at hk; cases hk
      · have := hc1 p p1
        simp only [List.all_eq_true, decide_eq_true_eq] at this
        exact this k (by rw [p2]; exact hk)
def toExit : Vs.X → Exit
  | .normal => .normal
  | .exit id => .exit id
  | .ret => .ret
theorem codeOK_region {id : Nat} {ops : Array Oper} {draw : Bool} (h : codeOK nt (.region id ops draw) = true) : ∀ o ∈ ops, ∀ t, o.dst = some t → t < nt := by
  intro o ho t ht
  simp only [codeOK] at h
  have := (Array.all_eq_true_iff_forall_mem.1 h) o ho
  rw [ht] at this
  simpa using this
theorem exec_sound {C : Ctx} (hm : C.P.follows .mixedOrders = true) (hcp : CPOK C.P C.cp) (hcr : CROK C.P C.cr) (hb : C.base = base) {k : Nat} : ∀ (c : Code) (b : Nat) {e : Env} {S : Store} {x : Vs.X} {e' : Env} {S' : Store} {a : Act} {w : World} {Q : Exit → Act → World → Prop},
    codeOK nt c = true → exec C k b c e S = some (x, e', S') → Now base nt X w0 A0 μ0 e S a w → (∀ a' w', Now base nt X w0 A0 μ0 e' S' a' w' → Q (toExit x) a' w') → c.wp C.P Q a w := by
  intro c
  induction c with
  | skip =>
    intro b e S x e' S' a w Q hc h hN hQ
    simp only [exec, Option.some.injEq, Prod.mk.injEq] at h
    obtain ⟨rfl, rfl, rfl⟩ := h
    exact wp_skip (hQ a w hN)
  | region id ops draw =>
    intro b e S x e' S' a w Q hc h hN hQ
    simp only [exec] at h
    obtain ⟨⟨e1, S1⟩, h1, h2⟩ := map_some h
    simp only [Prod.mk.injEq] at h2
    obtain ⟨rfl, rfl, rfl⟩ := h2
    exact region_sound hm hcp hcr hb (codeOK_region hc) hN h1 fun a' w' h' => hQ a' w' (h'.trim _)
  | seq p q ihp ihq =>
    intro b e S x e' S' a w Q hc h hN hQ
    simp only [codeOK, Bool.and_eq_true] at hc
    simp only [exec] at h
    obtain ⟨⟨r, e1, S1⟩, h1, h2⟩ := bind_some h
    refine wp_seq (ihp b hc.1 h1 hN fun a' w' h' => ?_)
    cases r with
    | normal => exact ihq b hc.2 h2 h' hQ
    | exit id =>
      simp only [Option.some.injEq, Prod.mk.injEq] at h2
      obtain ⟨rfl, rfl, rfl⟩ := h2
      exact hQ a' w' h'
    | ret =>
      simp only [Option.some.injEq, Prod.mk.injEq] at h2
      obtain ⟨rfl, rfl, rfl⟩ := h2
      exact hQ a' w' h'
  | cond o p q ihp ihq =>
    intro b e S x e' S' a w Q hc h hN hQ
    simp only [codeOK, Bool.and_eq_true] at hc
    simp only [exec] at h
    unfold condV at h
    split at h
    · rename_i t ht
      have hv : a.eval o = .bool t := by
        obtain ⟨μ, _, h2, _⟩ := hN
        have := ev_sound h2 o
        rw [ht] at this
        exact this.bool_inv
      refine wp_cond hv ?_
      cases t
      · exact ihq b hc.2 h hN hQ
      · exact ihp b hc.1 h hN hQ
    · cases h
  | block id body ih =>
    intro b e S x e' S' a w Q hc h hN hQ
    simp only [codeOK] at hc
    simp only [exec] at h
    obtain ⟨⟨r, e1, S1⟩, h1, h2⟩ := map_some h
    simp only [Prod.mk.injEq] at h2
    obtain ⟨rfl, rfl, rfl⟩ := h2
    refine wp_block (ih id hc h1 hN fun a' w' h' => ?_)
    have := hQ a' w' h'
    cases r with
    | normal => simpa [toExit, Exit.inBlock] using this
    | ret => simpa [toExit, Exit.inBlock] using this
    | exit id' =>
      simp only [toExit, Exit.inBlock]
      by_cases hid : id' = id
      · subst hid; simpa [toExit] using this
      · rw [if_neg hid]; simpa [hid, toExit] using this
  | loop body ih =>
    intro b e S x e' S' a w Q hc h hN hQ
    simp only [codeOK] at hc
    simp only [exec] at h
    obtain ⟨hh, _, h⟩ := bind_some h
    obtain ⟨r, h1, h2⟩ := bind_some h
    obtain ⟨q, h3, h4⟩ := map_some h2
    have hN1 : Now base nt X w0 A0 μ0 r.1 r.2 a w := Now.fzSlots _ (Now.ownAll _ (hN.keepOnly _)) h1
    have hbase : base ≤ r.2.length := by obtain ⟨_, _, _, h, _⟩ := hN1; exact h
    generalize hM : r.2.length = m at h3 h4 hbase
    have key : ∀ (n : Nat) {e : Env} {S : Store} {a : Act} {w : World}, loopN (exec C k b body) (normG hh.live hh.fz m) n e S = some q → Now base nt X w0 A0 μ0 e S a w → Code.rounds C.P body Q n a w := by
      intro n
      induction n with
      | zero => intro e S a w h; cases h
      | succ n ihn =>
        intro e S a w h hN
        simp only [loopN] at h
        obtain ⟨⟨y, e1, S1⟩, k1, k2⟩ := bind_some h
        refine ih b hc k1 hN fun a' w' h' => ?_
        have out : ∀ y', y = y' → y' ≠ .normal → some (y, e1, S1) = some q → Q (toExit y) a' w' := fun y' hy hy' hq => by
          simp only [Option.some.injEq] at hq
          subst hq
          unfold afterG at h4
          by_cases hyb : y = .exit b
          · rw [if_pos hyb] at h4
            simp only [Prod.mk.injEq] at h4
            obtain ⟨rfl, rfl, rfl⟩ := h4
            exact hQ a' w' ((h'.keepOnly _).gc hbase)
          · rw [if_neg hyb] at h4
            simp only [Prod.mk.injEq] at h4
            obtain ⟨rfl, rfl, rfl⟩ := h4
            exact hQ a' w' h'
        cases y with
        | normal =>
          obtain ⟨⟨e2, S2⟩, k3, k4⟩ := bind_some k2
          unfold normG at k3
          obtain ⟨r2, k5, k6⟩ := map_some k3
          simp only [Prod.mk.injEq] at k6
          obtain ⟨rfl, rfl⟩ := k6
          exact ihn k4 ((Now.fzSlots _ (h'.keepOnly _) k5).gc hbase)
        | exit id => exact out _ rfl (by simp) k2
        | ret => exact out _ rfl (by simp) k2
    exact wp_loop_rounds k (key k h3 hN1)
  | exit id =>
    intro b e S x e' S' a w Q hc h hN hQ
    simp only [exec, Option.some.injEq, Prod.mk.injEq] at h
    obtain ⟨rfl, rfl, rfl⟩ := h
    exact wp_exit (hQ a w hN)
  | ret =>
    intro b e S x e' S' a w Q hc h hN hQ
    simp only [exec, Option.some.injEq, Prod.mk.injEq] at h
    obtain ⟨rfl, rfl, rfl⟩ := h
    exact wp_ret (hQ a w hN)
  | _ =>
    intro b e S x e' S' a w Q hc h hN hQ
    simp [exec] at h
end
end Go.Vs
end
section
set_option linter.unusedVariables false
set_option linter.unusedSimpArgs false
namespace Go.Vs
open Go
def resOne (tmps : Array Value) : ResultVar → Sem Value
  | .tmp t => pure (tmps.getD t Go.undef)
  | .cell a t => do loadVar t (← asAddr (tmps.getD a Go.undef))
theorem results_eq (fn : Func) (tmps : Array Value) : results fn tmps = (do let vs ← fn.results.mapM (resOne tmps); pure (if h : vs.size = 1 then vs[0] else .tuple vs)) := by
  unfold results
  have : (fun x : ResultVar => match x with
    | .tmp t => (pure (tmps.getD t Go.undef) : Sem Value)
    | .cell a t => do loadVar t (← asAddr (tmps.getD a Go.undef))) = resOne tmps := by funext r; cases r <;> rfl
  rw [← this]
  rfl
section
variable {P : Program} {w : World} {X : Nat → Prop} {μ : Mu} {av : Nat → Prop} {S : Store}
theorem result_sound (hS : SR w X (arrs S) S.length μ) {e : Env} {tmps : Array Value} (hE : ER w (Av X (arrs S) μ) μ e tmps) (r : ResultVar) {pv : PV} (h : evResult P e S r = some pv) :
    ∃ v, (resOne tmps r).run P w = .ok v w ∧ VR w (Av X (arrs S) μ) μ pv v := by
  cases r with
  | tmp t =>
    simp only [evResult, Option.some.injEq] at h
    subst h
    exact ⟨_, by simp [resOne], hE t⟩
  | cell a t =>
    simp only [evResult] at h
    obtain ⟨v, h1, h2⟩ := load_sound hS (Sees.refl S μ) (hE a) h
    refine ⟨v, ?_, h2⟩
    have hp : ∃ ad, tmps.getD a Go.undef = .pointer (some ad) := by
      have := hE a
      generalize hg : get e a = pv' at this h
      generalize tmps.getD a Go.undef = v' at this
      cases pv' <;> simp only [evLoad, reduceCtorEq] at h
      case cp row => cases this with | fr q => cases q; exact ⟨_, rfl⟩
      case mp id i off =>
        cases this with
        | fr q => cases q
        | mp _ _ _ b hb => exact ⟨_, rfl⟩
    obtain ⟨ad, had⟩ := hp
    rw [had] at h1
    simp only [resOne]
    rw [had]
    simp only [Instr.loadAt, Instr.sureAddr, Sem.run_bind, Sem.run_pure, Result.andThen_ok] at h1
    simp only [asAddr, Sem.run_bind, Sem.run_pure, Result.andThen_ok]
    exact h1
theorem results_list (hS : SR w X (arrs S) S.length μ) {e : Env} {tmps : Array Value} (hE : ER w (Av X (arrs S) μ) μ e tmps) : ∀ (rs : List ResultVar) {pvs : List PV}, mapO (evResult P e S) rs = some pvs →
    ∃ vs : List Value, (rs.mapM (resOne tmps)).run P w = .ok vs w ∧ pvs.length = vs.length ∧
      ∀ (j : Nat) (pv : PV) (v : Value), pvs[j]? = some pv → vs[j]? = some v → VR w (Av X (arrs S) μ) μ pv v
  | [], pvs, h => by
    simp only [mapO, Option.some.injEq] at h
    subst h
    exact ⟨[], by simp, rfl, by simp⟩
  | r :: rs, pvs, h => by
    simp only [mapO] at h
    obtain ⟨pv, h1, h⟩ := bind_some h
    obtain ⟨l, h2, rfl⟩ := map_some h
    obtain ⟨v, k1, k2⟩ := result_sound hS hE r h1
    obtain ⟨vs, k3, k4, k5⟩ := results_list hS hE rs h2
    refine ⟨v :: vs, ?_, by simp [k4], fun j pv' v' hp hv => ?_⟩
    · rw [List.mapM_cons]
      simp only [Sem.run_bind, k1, Result.andThen_ok, k3, Sem.run_pure]
    · cases j with
      | zero => simp at hp hv; subst hp; subst hv; exact k2
      | succ j => simp at hp hv; exact k5 j pv' v' hp hv
theorem results_sound (hS : SR w X (arrs S) S.length μ) {e : Env} {tmps : Array Value} (hE : ER w (Av X (arrs S) μ) μ e tmps) {fn : Func} {pv : PV} (h : evResults P fn e S = some pv) :
    ∃ v, (results fn tmps).run P w = .ok v w ∧ VR w (Av X (arrs S) μ) μ pv v := by
  unfold evResults at h
  obtain ⟨pvs, h1, rfl⟩ := map_some h
  obtain ⟨vs, k1, k2, k3⟩ := results_list hS hE _ h1
  have hrun : (results fn tmps).run P w = .ok (if h : vs.toArray.size = 1 then vs.toArray[0] else .tuple vs.toArray) w := by
    rw [results_eq, Array.mapM_eq_mapM_toList]
    simp only [Sem.run_bind, map_eq_pure_bind, k1, Result.andThen_ok, Sem.run_pure]
  refine ⟨_, hrun, ?_⟩
  clear hrun h1 k1
  match pvs, vs, k2, k3 with
  | [], [], _, _ => exact .tup _ _ rfl (by simp)
  | [p], [v], _, k3 => exact k3 0 p v rfl rfl
  | p :: q :: l, v :: u :: m, k2, k3 =>
    rw [dif_neg (by simp)]
    exact .tup _ _ (by simpa using k2) (fun j pv v hp hv => k3 j pv v hp (by simpa using hv))
theorem get_zip (args : List PV) (m t : Nat) : get (((List.range' m args.length).zip args)) t = if m ≤ t then (args[t - m]?).getD .undef else .undef := by
  induction args generalizing m with
  | nil => simp [get]
  | cons x l ih =>
    simp only [List.length_cons, List.range'_succ, List.zip_cons_cons, get]
    by_cases h : m = t
    · subst h; simp
    · rw [if_neg h, ih]
      by_cases hl : m + 1 ≤ t
      · rw [if_pos hl, if_pos (by omega), show t - m = (t - (m + 1)) + 1 by omega, List.getElem?_cons_succ]
      · rw [if_neg hl, if_neg (by omega)]
theorem SR.empty {Y : Nat → Prop} (hY : ∀ b, Y b → b < w.heap.size) : SR w Y (arrs []) 0 noMu :=
  ⟨fun id _ => ⟨rfl, by simp [arrs]⟩, fun id a ha => by simp [arrs] at ha, fun id a ha => by simp [arrs] at ha, fun id a ha => by simp [arrs] at ha, fun id id' a a' b b' h1 => by simp [arrs] at h1, fun id a b h1 => by simp [arrs] at h1, hY⟩
theorem cp_of_cr {cr : CallR} (h : CROK P cr) : CPOK P (fun g as => (cr g as []).bind fun (r, S) => fzPV S r) := by
  intro f args r hr
  obtain ⟨⟨q, S⟩, h1, h2⟩ := bind_some hr
  obtain ⟨fn, c, e1, e2, e3, e4⟩ := h f args [] q S h1
  refine ⟨fn, c, e1, e2, e3, fun w Y vs hY hn hrel => ?_⟩
  have hmut : ∀ b, ¬ Mut (arrs []) noMu b := by rintro b ⟨id, rows, g, k, h1, _⟩; simp [arrs] at h1
  refine Calls.mono (e4 w Y noMu vs (SR.empty hY) hn fun j pv v hp hv => (hrel j pv v hp hv).mono (Keeps.less fun b hb => hb.resolve_right (hmut b)) fun _ _ _ h => h) ?_
  rintro e w' ⟨v, μ', rfl, k1, k2, k3⟩
  refine ⟨v, rfl, ⟨k2.os, k2.tape, k2.output, k2.size, fun b hb => k2.keep b hb (hmut b)⟩, ?_⟩
  exact (fzPV_sound k1 (Sees.refl S μ') h2 k3 (fun _ h => h)).mono (Keeps.less fun b hb => .inl hb) fun _ _ _ h => h
def OrcOK (P : Program) (H : Hints) : Prop := CPOK P fun f args => (H.orc f).bind fun g => g args
theorem OrcOK.none {H : Hints} (h : ∀ f, H.orc f = none) : OrcOK P H := fun f args r hr => by
  simp only [h f, Option.bind_none, reduceCtorEq] at hr
theorem callF_sound {H : Hints} (hm : P.follows .mixedOrders = true) (hO : OrcOK P H) : ∀ k, CROK P (callF P H k) := by
  intro k
  induction k with
  | zero => intro f args S r S' h; cases h
  | succ k ih =>
    intro f args S r S' h
    simp only [callF] at h
    cases ho : H.orc f with
    | some g =>
      rw [ho] at h
      simp only at h
      split at h
      case isFalse => cases h
      rename_i hnr
      obtain ⟨v, h1, h2⟩ := map_some h
      simp only [Prod.mk.injEq] at h2
      obtain ⟨rfl, rfl⟩ := h2
      obtain ⟨fn, c, e1, e2, e3, e4⟩ := hO f args r (by simp only [ho, Option.bind_some, h1])
      refine ⟨fn, c, e1, e2, e3, fun w X μ vs hS hn hrel => ?_⟩
      refine Calls.mono (e4 w (Av X (arrs S') μ) vs (fun b hb => hS.avlt hb) hn fun j pv v hp hv => ?_) ?_
      · refine (hrel j pv v hp hv).mono (Keeps.refl _ _) fun i hi => ?_
        have := List.all_eq_true.1 hnr pv (List.mem_of_getElem? hp)
        rw [List.isEmpty_iff.1 this] at hi
        cases hi
      · rintro e w' ⟨v, rfl, k2, k3⟩
        obtain ⟨q1, q2⟩ := hS.grown k2 S'.length
        exact ⟨v, μ, rfl, q1, q2, k3.mono (Keeps.refl _ _) fun i _ b hb => by cases hb⟩
    | none =>
    rw [ho] at h
    simp only at h
    cases hf : P.funcs[f]? with
    | none => rw [hf] at h; cases h
    | some fn =>
      rw [hf] at h
      simp only at h
      cases hbd : fn.body with
      | none => rw [hbd] at h; cases h
      | some c =>
        rw [hbd] at h
        simp only at h
        split at h
        case isFalse => cases h
        rename_i hc
        obtain ⟨c1, c2, c3⟩ := hc
        obtain ⟨⟨x, e', S1⟩, h1, h2⟩ := bind_some h
        refine ⟨fn, c, rfl, hbd, c2, fun w X μ vs hS hn hrel => ?_⟩
        have hsz : (vs ++ Array.replicate (fn.ntmps - vs.size) Go.undef).size = fn.ntmps := by simp; omega
        have hN : Now S.length fn.ntmps X w (arrs S) μ ((List.range args.length).zip args) S { tmps := vs ++ Array.replicate (fn.ntmps - vs.size) Go.undef, defers := [] } w := by
          refine ⟨μ, hS, fun t => ?_, Nat.le_refl _, rfl, hsz, Tr.refl _ _ _ _⟩
          rw [List.range_eq_range', get_zip, if_pos (Nat.zero_le _), Nat.sub_zero]
          cases hp : args[t]? with
          | none => exact .undef _
          | some pv =>
            have hlt := (List.getElem?_eq_some_iff.1 hp).1
            have hv : vs[t]? = some (vs[t]'(by omega)) := Array.getElem?_eq_getElem _
            have : (vs ++ Array.replicate (fn.ntmps - vs.size) Go.undef).getD t Go.undef = vs[t]'(by omega) := by
              rw [Array.getD_eq_getD_getElem?, Array.getElem?_append_left (by omega), hv]; rfl
            simp only [this, Option.getD_some]
            exact hrel t pv _ hp hv
        refine calls_of_wp hf hbd ?_
        have fin : ∀ (y : Vs.X), x = y → (∀ id, y ≠ .exit id) → ∃ v, evResults P fn e' S1 = some v ∧ r = v ∧ S' = S1 := fun y hy hne => by
          subst hy
          cases x with
          | exit id => exact absurd rfl (hne id)
          | normal =>
            obtain ⟨v, k1, k2⟩ := map_some h2
            simp only [Prod.mk.injEq] at k2
            exact ⟨v, k1, k2.1, k2.2⟩
          | ret =>
            obtain ⟨v, k1, k2⟩ := map_some h2
            simp only [Prod.mk.injEq] at k2
            exact ⟨v, k1, k2.1, k2.2⟩
        refine exec_sound (C := { P, H, cp := fun g as => (callF P H k g as []).bind fun (r, S) => fzPV S r, cr := callF P H k, base := S.length, h := H.of f }) hm (cp_of_cr ih) ih rfl c 0 c3 h1 hN fun a' w' hN' => ?_
        obtain ⟨μ', j1, j2, j3, j4, j5, j6⟩ := hN'
        have post : ∀ y, x = y → (∀ id, y ≠ .exit id) → a'.defers = [] ∧ ∃ v, (results fn a'.tmps).run P w' = .ok v w' ∧ ∃ v' μ', Ending.returned v = .returned v' ∧ SR w' X (arrs S') S'.length μ' ∧ Tr S.length w (arrs S) μ w' (arrs S') μ' ∧ VR w' (Av X (arrs S') μ') μ' r v' := fun y hy hne => by
          obtain ⟨v, k1, rfl, rfl⟩ := fin y hy hne
          obtain ⟨u, q1, q2⟩ := results_sound j1 j2 k1
          exact ⟨j4, u, q1, u, μ', rfl, j1, j6, q2⟩
        cases x with
        | normal => exact post _ rfl (by simp)
        | ret => exact post _ rfl (by simp)
        | exit id => cases h2
theorem callP_sound {H : Hints} (hm : P.follows .mixedOrders = true) (hO : OrcOK P H) (k : Nat) : CPOK P (callP P H k) := cp_of_cr (callF_sound hm hO k)
end
end Go.Vs
end
section
set_option linter.unusedVariables false
set_option linter.unusedSimpArgs false
namespace Go.Vs
open Go Go.RowKit
def tight (P : Program) : Nat → List Field → Bool
  | _, [] => true
  | o, f :: r => (f.offset == o) && tight P (o + P.cellsOf f.type) r
def spanOf (P : Program) : List Field → Nat
  | [] => 0
  | f :: r => P.cellsOf f.type + spanOf P r
def closedB (P : Program) (L : List TypeId) : Bool :=
  L.all fun t => match P.underlying t with
    | some .bool | some (.int _) | some .string => P.cellsOf t == 1
    | some (.slice e) => L.contains e && P.cellsOf t == 1
    | some (.struct fs) => tight P 0 fs.toList && spanOf P fs.toList == P.cellsOf t && fs.toList.all fun f => L.contains f.type
    | _ => false
inductive All2 {α β : Type} (R : α → β → Prop) : List α → List β → Prop
  | nil : All2 R [] []
  | cons {a : α} {b : β} {x : List α} {y : List β} (h : R a b) (t : All2 R x y) : All2 R (a :: x) (b :: y)
def Dt (P : Program) : Nat → TypeId → List PV → Prop
  | 0, _, _ => False
  | k + 1, t, pvs =>
    match P.underlying t with
    | some .bool => ∃ b, pvs = [.bool b]
    | some (.int kd) => ∃ n, (Lit.int kd n).wf = true ∧ pvs = [.int kd n]
    | some .string => ∃ s : ByteArray, s.size ≤ maxLen ∧ pvs = [.str s]
    | some (.slice e) => ∃ rows, pvs = [.sl rows false] ∧ rows.length ≤ maxLen ∧ ∀ r ∈ rows, Dt P k e r
    | some (.struct fs) => ∃ pss : List (List PV), pvs = pss.flatten ∧ All2 (fun (f : Field) ps => Dt P k f.type ps) fs.toList pss
    | _ => False
def NoAv : Nat → Prop := fun _ => False
def Rel (w : World) (pvs : List PV) (cs : List Value) : Prop := pvs.length = cs.length ∧ (∀ (j : Nat) (pv : PV) (v : Value), pvs[j]? = some pv → cs[j]? = some v → FR w NoAv pv v)
theorem Rel.one {w : World} {pv : PV} {v : Value} (h : FR w NoAv pv v) : Rel w [pv] [v] := ⟨rfl, fun j p u hp hu => by
  cases j with
  | zero => simp at hp hu; subst hp; subst hu; exact h
  | succ j => simp at hp⟩
theorem Rel.nil {w : World} : Rel w [] [] := ⟨rfl, by simp⟩
theorem Rel.app {w : World} {a b : List PV} {x y : List Value} (h : Rel w a x) (k : Rel w b y) : Rel w (a ++ b) (x ++ y) := by
  refine ⟨by simp [h.1, k.1], fun j pv v hp hv => ?_⟩
  by_cases hj : j < a.length
  · rw [List.getElem?_append_left hj] at hp
    rw [List.getElem?_append_left (by rw [← h.1]; exact hj)] at hv
    exact h.2 j pv v hp hv
  · rw [List.getElem?_append_right (by omega)] at hp
    rw [List.getElem?_append_right (by rw [← h.1]; omega), ← h.1] at hv
    exact k.2 _ pv v hp hv
theorem mapM_at {α β : Type} {f : α → Option β} : ∀ {l : List α} {r : List β}, l.mapM f = some r → r.length = l.length ∧ ∀ (i : Nat) (a : α), l[i]? = some a → ∃ b, f a = some b ∧ r[i]? = some b
  | [], r, h => by simp at h; subst h; simp
  | a :: l, r, h => by
    rw [List.mapM_cons] at h
    cases hf : f a with
    | none => rw [hf] at h; cases h
    | some b =>
      rw [hf] at h
      cases hl : l.mapM f with
      | none => simp [hl] at h
      | some r' =>
        simp [hl] at h
        subst h
        obtain ⟨h1, h2⟩ := mapM_at hl
        refine ⟨by simp [h1], fun i x hi => ?_⟩
        cases i with
        | zero => simp at hi; subst hi; exact ⟨b, hf, rfl⟩
        | succ i => simp at hi; simpa using h2 i x hi
theorem fields_rel {P : Program} {w : World} {k : Nat} {cs : List Value} : ∀ (fs : List Field) (o : Nat), tight P o fs = true → o + spanOf P fs = cs.length →
    (∀ f ∈ fs, ∃ ps, Dt P k f.type ps ∧ Rel w ps ((cs.drop f.offset).take (P.cellsOf f.type))) → ∃ pss : List (List PV), All2 (fun (f : Field) ps => Dt P k f.type ps) fs pss ∧ Rel w pss.flatten (cs.drop o)
  | [], o, _, hl, _ => ⟨[], .nil, by
    simp only [spanOf] at hl
    rw [List.drop_of_length_le (by omega)]
    exact Rel.nil⟩
  | f :: r, o, ht, hl, h => by
    simp only [tight, Bool.and_eq_true, beq_iff_eq] at ht
    simp only [spanOf] at hl
    obtain ⟨ps, h1, h2⟩ := h f (by simp)
    obtain ⟨pss, h3, h4⟩ := fields_rel r (o + P.cellsOf f.type) ht.2 (by omega) fun g hg => h g (by simp [hg])
    refine ⟨ps :: pss, .cons h1 h3, ?_⟩
    have e : cs.drop o = (cs.drop f.offset).take (P.cellsOf f.type) ++ cs.drop (o + P.cellsOf f.type) := by
      rw [ht.1, ← List.drop_drop, List.take_append_drop]
    rw [e, List.flatten_cons]
    exact h2.app h4
theorem trod_rel {H : Type} {enc : TypeId × Value → H} {P : Program} {w : World} {base : Nat} {sp : Nat → Bool} {held : Bool} {L : List TypeId} (hL : closedB P L = true) : ∀ (fuel : Nat) {t : TypeId} {cs : List Value} {x : DataW H × List MemPlace}, t ∈ L →
    DataW.trod enc P w base sp held fuel t cs = some x → ∃ pvs, Dt P fuel t pvs ∧ Rel w pvs cs := by
  intro fuel
  induction fuel with
  | zero => intro t cs x _ h; cases h
  | succ k ih =>
    intro t cs x ht h
    have hc := (List.all_eq_true.1 hL) t ht
    unfold DataW.trod at h
    simp only [Dt]
    cases hu : P.underlying t with
    | none => rw [hu] at hc; cases hc
    | some d =>
      rw [hu] at hc h
      cases d <;> simp only [reduceCtorEq, Bool.false_eq_true] at hc
      case bool =>
        split at h <;> try (first | (cases h; done) | (rename_i hq; cases hq; done))
        rename_i hq
        cases hq
        cases h
        exact ⟨_, ⟨_, rfl⟩, .one (.bool _)⟩
      case int kd =>
        split at h <;> try (first | (cases h; done) | (rename_i hq; cases hq; done))
        rename_i hq
        cases hq
        split at h
        · rename_i hw
          obtain ⟨rfl, hw⟩ := hw
          exact ⟨_, ⟨_, hw, rfl⟩, .one (.int _ _)⟩
        · cases h
      case string =>
        split at h <;> try (first | (cases h; done) | (rename_i hq; cases hq; done))
        rename_i hq
        cases hq
        split at h
        · rename_i hw
          exact ⟨_, ⟨_, hw, rfl⟩, .one (.str _)⟩
        · cases h
      case slice e =>
        simp only [Bool.and_eq_true, List.contains_iff_mem, beq_iff_eq] at hc
        split at h <;> try (first | (cases h; done) | (rename_i hq; cases hq; done))
        · have key := FR.sl (w := w) (av := NoAv) [] false none 0 default 0 (fun _ _ => Go.undef) (Nat.le_refl _) (by simp) (fun _ => rfl) (fun h => absurd rfl h) (by simp) (by simp) (by simp)
          exact ⟨_, ⟨[], rfl, by simp, by simp⟩, .one key⟩
        · rename_i e0 a len cap hq
          cases hq
          split at h
          case isFalse => cases h
          rename_i hcap
          obtain ⟨elems, h2, _⟩ := bind_some h
          obtain ⟨h3, h4⟩ := mapM_at h2
          rw [List.length_range] at h3
          have each : ∀ i, i < len → ∃ ps, Dt P k e ps ∧ ps.length = P.cellsOf e ∧ ∀ j pv, ps[j]? = some pv → ∃ u, w.cell? (a.add (i * P.cellsOf e + j)) = some u ∧ FR w NoAv pv u := by
            intro i hi
            obtain ⟨b, hb, _⟩ := h4 i i (by simp [hi])
            obtain ⟨cs, hcs, hb⟩ := bind_some hb
            obtain ⟨ps, p1, p2⟩ := ih hc.1 hb
            unfold World.cells? at hcs
            split at hcs
            · obtain ⟨q1, q2⟩ := mapM_at hcs
              rw [List.length_range] at q1
              refine ⟨ps, p1, by rw [p2.1, q1], fun j pv hj => ?_⟩
              have hjl := (List.getElem?_eq_some_iff.1 hj).1
              rw [p2.1, q1] at hjl
              obtain ⟨u, hu1, hu2⟩ := q2 j j (by simp [hjl])
              rw [add_add] at hu1
              exact ⟨u, hu1, p2.2 j pv u hj hu2⟩
            · cases hcs
          have pick : ∀ i : Nat, ∃ ps : List PV, i < len → Dt P k e ps ∧ ps.length = P.cellsOf e ∧ ∀ j pv, ps[j]? = some pv → ∃ u, w.cell? (a.add (i * P.cellsOf e + j)) = some u ∧ FR w NoAv pv u := fun i => by
            by_cases hi : i < len
            · obtain ⟨ps, hps⟩ := each i hi
              exact ⟨ps, fun _ => hps⟩
            · exact ⟨[], fun h => absurd h hi⟩
          obtain ⟨g, hg⟩ := Classical.axiomOfChoice pick
          have hrows : ∀ i row, ((List.range len).map g)[i]? = some row → i < len ∧ row = g i := fun i row hi => by
            rw [List.getElem?_map] at hi
            by_cases hlt : i < len
            · rw [List.getElem?_range hlt] at hi
              simp at hi
              exact ⟨hlt, hi.symm⟩
            · rw [List.getElem?_eq_none (by simpa using hlt)] at hi; cases hi
          have hlen : ((List.range len).map g).length = len := by simp
          refine ⟨_, ⟨(List.range len).map g, rfl, by rw [hlen]; omega, fun row hrow => ?_⟩, ?_⟩
          · obtain ⟨i, hi⟩ := List.getElem?_of_mem hrow
            obtain ⟨hlt, rfl⟩ := hrows i row hi
            exact (hg i hlt).1
          · have key := FR.sl (w := w) (av := NoAv) ((List.range len).map g) false (some a) cap a (P.cellsOf e) (fun i j => (w.cell? (a.add (i * P.cellsOf e + j))).getD Go.undef) (by rw [hlen]; exact hcap.2.1) (by simp) (by simp) (fun _ => rfl)
              (fun row hrow => by
                obtain ⟨i, hi⟩ := List.getElem?_of_mem hrow
                obtain ⟨hlt, rfl⟩ := hrows i row hi
                exact (hg i hlt).2.1)
              (fun i row j pv hi hj => by
                obtain ⟨hlt, rfl⟩ := hrows i row hi
                obtain ⟨u, u1, u2⟩ := (hg i hlt).2.2 j pv hj
                rw [u1]
                exact ⟨rfl, fun h => h⟩)
              (fun i row j pv hi hj => by
                obtain ⟨hlt, rfl⟩ := hrows i row hi
                obtain ⟨u, u1, u2⟩ := (hg i hlt).2.2 j pv hj
                simp only [u1, Option.getD_some]
                exact u2)
            rw [hlen] at key
            exact .one key
      case struct fs =>
        simp only [Bool.and_eq_true, List.all_eq_true, List.contains_iff_mem, beq_iff_eq] at hc
        replace h : (if cs.length = P.cellsOf t then (fs.toList.mapM fun f => DataW.trod enc P w base sp held k f.type ((cs.drop f.offset).take (P.cellsOf f.type))).map fun xs => (.agg (xs.map (·.1)), xs.flatMap (·.2)) else none) = some x := h
        split at h
        case isFalse => cases h
        rename_i hlen
        obtain ⟨xs, h2, _⟩ := map_some h
        obtain ⟨h3, h4⟩ := mapM_at h2
        obtain ⟨pss, q1, q2⟩ := fields_rel (P := P) (w := w) (k := k) (cs := cs) fs.toList 0 hc.1.1 (by rw [Nat.zero_add, hc.1.2, hlen]) (fun f hf => by
          obtain ⟨i, hi⟩ := List.getElem?_of_mem hf
          obtain ⟨b, hb, _⟩ := h4 i f hi
          exact ih (hc.2 f hf) hb)
        exact ⟨_, ⟨pss, rfl, q1⟩, by simpa using q2⟩
def Arg (P : Program) (k : Nat) (t : TypeId) (pv : PV) : Prop :=
  match P.underlying t with
  | some (.struct _) => ∃ cells, pv = .agg cells ∧ Dt P k t cells
  | _ => Dt P k t [pv]
theorem okWide_form {P : Program} {W : World} {base : Nat} {L : List TypeId} (hL : closedB P L = true) {t : TypeId} (ht : t ∈ L) {v : Value} (h : Value.okWide P W .any base t v) :
    (∃ fs cs, P.underlying t = some (.struct fs) ∧ v = .agg cs) ∨ ((∀ fs, P.underlying t ≠ some (.struct fs)) ∧ v.cells.toList = [v]) := by
  have hc := (List.all_eq_true.1 hL) t ht
  cases hu : P.underlying t with
  | none => rw [hu] at hc; cases hc
  | some d =>
    rw [hu] at hc
    cases d <;> simp only [reduceCtorEq, Bool.false_eq_true] at hc
    case bool => obtain ⟨b, rfl⟩ := Go.WideShapes.okWide_bool hu h; exact .inr ⟨by simp, rfl⟩
    case int kd => obtain ⟨b, rfl⟩ := Go.WideShapes.okWide_int hu h; exact .inr ⟨by simp, rfl⟩
    case string => obtain ⟨b, rfl⟩ := Go.WideShapes.okWide_string hu h; exact .inr ⟨by simp, rfl⟩
    case slice e => obtain ⟨a, len, cap, rfl⟩ := Go.WideShapes.okWide_slice hu h; exact .inr ⟨by simp, rfl⟩
    case struct fs => obtain ⟨cs, rfl, _⟩ := Go.WideShapes.okWide_struct hu h; exact .inl ⟨fs, cs, rfl, rfl⟩
def Args (P : Program) (ts : List TypeId) (pvs : List PV) : Prop := All2 (fun t pv => ∃ k, Arg P k t pv) ts pvs
theorem Grown.below {w w' : World} (h : Vs.Grown w w') : Below w.heap.size w w' := ⟨h.os, h.tape, h.output, h.size, h.keep⟩
theorem args_back {H : Type} {enc : TypeId × Value → H} {P : Program} (hl : laidOutB P = true) {W W' : World} (hb : Below W.heap.size W W') : ∀ {ts : List TypeId} {vs : List Value} {ds : List (DataW H)} {p : List MemPlace}, (∀ t ∈ ts, P.readableRec t = true ∧ t < P.types.size) →
    DataW.TrodAll enc P W 0 (fun _ => true) true ts vs ds p → (∀ x ∈ p, x.block < W.heap.size) → DataW.TrodAll enc P W' 0 (fun b => decide (b < W.heap.size)) true ts vs ds p
  | [], [], [], _, _, h, _ => h
  | t :: ts, v :: vs, d :: ds, _, ht, ⟨p, q, h1, h2, rfl⟩, hlt =>
    ⟨p, q, Below.trod hl (ht t (by simp)).1 (ht t (by simp)).2 h1 hb (fun x hx => hlt x (by simp [hx])), args_back hl hb (fun t h => ht t (by simp [h])) h2 (fun x hx => hlt x (by simp [hx])), rfl⟩
  | [], [], _ :: _, _, _, h, _ => h.elim
  | [], _ :: _, _, _, _, h, _ => h.elim
  | _ :: _, [], _, _, _, h, _ => h.elim
  | _ :: _, _ :: _, [], _, _, h, _ => h.elim
theorem trodAll_lt {H : Type} {enc : TypeId × Value → H} {P : Program} {W : World} {base : Nat} {sp : Nat → Bool} {held : Bool} : ∀ {ts : List TypeId} {vs : List Value} {ds : List (DataW H)} {p : List MemPlace},
    DataW.TrodAll enc P W base sp held ts vs ds p → ∀ x ∈ p, x.block < W.heap.size
  | [], [], [], _, h => by
    obtain ⟨_, _, rfl⟩ := Go.ChangeShapes.trodAll_nil h
    simp
  | t :: ts, v :: vs, d :: ds, _, ⟨p, q, h1, h2, rfl⟩ => fun x hx => by
    rcases List.mem_append.1 hx with hx | hx
    · obtain ⟨m, hm⟩ := h1
      exact DataW.trod_lt m _ _ _ hm x hx
    · exact trodAll_lt h2 x hx
  | [], [], _ :: _, _, h => h.elim
  | [], _ :: _, _, _, h => h.elim
  | _ :: _, [], _, _, h => h.elim
  | _ :: _, _ :: _, [], _, h => h.elim
theorem params_at {q : Array TypeId} {l : List TypeId} (e : q = l.toArray) {j : Nat} {t : TypeId} (h : l[j]? = some t) : q[j]? = some t := by
  subst e
  rw [← Array.getElem?_toList]
  exact h
theorem ok_at {q : Array TypeId} {l : List TypeId} (e : q = l.toArray) {args : Array Value} {Q : TypeId → Value → Prop} (h : ∀ (j : Nat) t v, q[j]? = some t → args[j]? = some v → Q t v) : ∀ (j : Nat) (t : TypeId) (v : Value), l[j]? = some t → args[j]? = some v → Q t v := fun j t v h1 h2 => h j t v (params_at e h1) h2
attribute [irreducible] Dt Arg
end Go.Vs
end
