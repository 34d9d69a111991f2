/- Code: what the machine's run comes to. -/
import Derived.Test.YtnddhkcciphhkaaVs22
set_option linter.unusedVariables false
set_option linter.unusedSimpArgs false
namespace Go.Vs
open Go

section
variable {P : Program} {w : World} {X : Nat → Prop} {A : Arrs} {n : Nat} {μ : Mu} {av : Nat → Prop} {S : Store} {base nt : Nat} {w0 : World} {A0 : Arrs} {μ0 : Mu} {e : Env} {a : Act}

theorem Now.keepOnly (h : Now base nt X w0 A0 μ0 e S a w) (live : List Nat) : Now base nt X w0 A0 μ0 (Vs.keepOnly live e) S a w := by
  obtain ⟨μ, h1, h2, h3⟩ := h
  exact ⟨μ, h1, h2.keepOnly live, h3⟩
theorem Now.trim (h : Now base nt X w0 A0 μ0 e S a w) (keep : List Nat) : Now base nt X w0 A0 μ0 (Vs.trim keep e) S a w := by
  obtain ⟨μ, h1, h2, h3⟩ := h
  exact ⟨μ, h1, h2.trim keep, h3⟩
theorem ER.set {tmps : Array Value} (h : ER w av μ e tmps) {t : Nat} {pv : PV} (hv : VR w av μ pv (tmps.getD t Go.undef)) : ER w av μ (Vs.put e t pv) tmps := fun u => by
  rw [get_put]
  split
  · rename_i h; subst h; exact hv
  · exact h u

theorem Now.own1 (h : Now base nt X w0 A0 μ0 e S a w) (t : Nat) : Now base nt X w0 A0 μ0 (Vs.own1 e S t).1 (Vs.own1 e S t).2 a w := by
  unfold Vs.own1
  split
  · rename_i hg
    obtain ⟨μ, h1, h2, h3, h4, h5, h6⟩ := h
    have hlt := h1.lt S.length (Nat.le_refl _)
    obtain ⟨k1, k2⟩ := h1.newNil hlt.2 hlt.1 (Nat.lt_succ_self _) (Nat.le_succ _) (some none) base
    have e1 : arrs (S ++ [.arr [] (some none) false]) = upd (arrs S) S.length ⟨[], some none, false⟩ := arrs_place S (some ([], some none))
    refine ⟨μ, by rw [e1]; simpa using k1, ?_, by simp; omega, h4, h5, by rw [e1]; exact h6.trans k2⟩
    rw [e1]
    refine ER.set (h2.mono k2.keeps fun _ _ h => h) ?_
    have hv := h2 t
    rw [hg] at hv
    generalize a.tmps.getD t Go.undef = v at hv
    cases hv with | fr hv =>
    cases hv with | sl _ _ ad cap _ _ _ hcap hex =>
    have : cap = 0 := by simpa using hex rfl
    subst this
    exact .mslNil _ _ _
  · rename_i id off len hg
    obtain ⟨μ, h1, h2, h3, h4, h5, h6⟩ := h
    refine ⟨μ, h1, ER.set h2 ?_, h3, h4, h5, h6⟩
    have hv := h2 t
    rw [hg] at hv
    generalize a.tmps.getD t Go.undef = v at hv
    cases hv with
    | fr hv => cases hv
    | mslNil => exact .mslNil _ _ _
    | msl _ _ _ _ ad cap b hb hlen htot hex had => exact .msl _ _ _ false ad cap b hb hlen htot (by simp) had
  · exact h
theorem Now.ownAll (ts : List Nat) : ∀ {e : Env} {S : Store}, Now base nt X w0 A0 μ0 e S a w → Now base nt X w0 A0 μ0 (Vs.ownAll ts e S).1 (Vs.ownAll ts e S).2 a w := by
  induction ts with
  | nil => intro e S h; exact h
  | cons t ts ih => intro e S h; exact ih (h.own1 t)
theorem Now.fzSlot (h : Now base nt X w0 A0 μ0 e S a w) {t : Nat} {e' : Env} {S' : Store} (hf : Vs.fzSlot e S t = some (e', S')) : Now base nt X w0 A0 μ0 e' S' a w := by
  unfold Vs.fzSlot at hf
  obtain ⟨v, h1, h2⟩ := map_some hf
  simp only [Prod.mk.injEq] at h2
  obtain ⟨rfl, rfl⟩ := h2
  obtain ⟨μ, k1, k2, k3, k4, k5, k6⟩ := h
  obtain ⟨j1, j2⟩ := k1.frz (reach S 8 (get e t).refs) base
  have hl := length_freezeAll S (reach S 8 (get e t).refs)
  refine ⟨μ, by rw [hl, arrs_freezeAll]; exact j1, ?_, by rw [hl]; exact k3, k4, k5, by rw [arrs_freezeAll]; exact k6.trans j2⟩
  rw [arrs_freezeAll]
  refine ER.set (k2.mono j2.keeps fun _ _ h => h) ?_
  have := fzPV_sound k1 (Sees.refl S μ) h1 (k2 t) (fun _ h => h)
  exact this.mono (Keeps.refl _ _) fun i _ b hb => by cases hb
theorem Now.fzSlots (ts : List Nat) : ∀ {e : Env} {S : Store} {r : Env × Store}, Now base nt X w0 A0 μ0 e S a w → Vs.fzSlots ts e S = some r → Now base nt X w0 A0 μ0 r.1 r.2 a w := by
  induction ts with
  | nil => intro e S r h hf; simp only [Vs.fzSlots, Option.some.injEq] at hf; subst hf; exact h
  | cons t ts ih =>
    intro e S r h hf
    simp only [Vs.fzSlots] at hf
    obtain ⟨⟨e1, S1⟩, h1, h2⟩ := bind_some hf
    exact ih (h.fzSlot h1) h2

theorem get_mem {e : Env} {t : Nat} : get e t = .undef ∨ ∃ p ∈ e, p.2 = get e t := by
  induction e with
  | nil => exact .inl rfl
  | cons p e ih =>
    obtain ⟨k, v⟩ := p
    simp only [Vs.get]
    split
    · exact .inr ⟨(k, v), by simp, rfl⟩
    · rcases ih with h | ⟨q, h1, h2⟩
      · exact .inl h
      · exact .inr ⟨q, by simp [h1], h2⟩
theorem Now.gc (h : Now base nt X w0 A0 μ0 e S a w) {m : Nat} (hm : base ≤ m) : Now base nt X w0 A0 μ0 e (Vs.gc m e S) a w := by
  unfold Vs.gc
  split
  case isFalse => exact h
  rename_i hc
  obtain ⟨hc1, hc2⟩ := hc
  rw [List.all_eq_true] at hc1 hc2
  obtain ⟨μ, h1, h2, h3, h4, h5, h6⟩ := h
  have hA : ∀ id, arrs (S.take m) id = if id < m then arrs S id else none := fun id => by
    unfold arrs
    by_cases hid : id < m
    · rw [if_pos hid, List.getElem?_take_of_lt hid]
    · rw [if_neg hid, List.getElem?_take, if_neg hid]
  have hAs : ∀ id a, arrs (S.take m) id = some a → id < m ∧ arrs S id = some a := fun id a ha => by
    rw [hA] at ha
    split at ha
    · rename_i h; exact ⟨h, ha⟩
    · cases ha
  let μ' : Mu := fun id => if id < m then μ id else none
  have hμs : ∀ id b, μ' id = some b → id < m ∧ μ id = some b := fun id b hb => by
    simp only [μ'] at hb
    split at hb
    · rename_i h; exact ⟨h, hb⟩
    · cases hb
  have hμ : ∀ id, id < m → μ' id = μ id := fun id h => by simp only [μ', if_pos h]
  have hmut : ∀ b, Mut (arrs (S.take m)) μ' b → Mut (arrs S) μ b := by
    rintro b ⟨id, rows, g, k, k1, k2, k3⟩
    exact ⟨id, rows, g, k, (hAs _ _ k1).2, (hμs _ _ k2).2, k3⟩
  have htr : Tr base w (arrs S) μ w (arrs (S.take m)) μ' := ⟨rfl, rfl, rfl, Nat.le_refl _, fun _ _ _ => rfl, fun b _ h => hmut b h, fun id hid => hμ id (by omega)⟩
  refine ⟨μ', ⟨fun id hid => ?_, fun id a ha b hb => ?_, fun id a ha hb => ?_, fun id a ha => ?_, fun id id' a a' b b' q1 q2 q3 q4 q5 => ?_, fun id a b q1 q2 => ?_, h1.xlt⟩, fun t => ?_, by rw [List.length_take]; omega, h4, h5, h6.trans htr⟩
  · rw [List.length_take] at hid
    rw [hA]
    simp only [μ']
    by_cases hid2 : id < m
    · rw [if_pos hid2, if_pos hid2]; exact h1.lt id (by omega)
    · rw [if_neg hid2, if_neg hid2]; exact ⟨rfl, rfl⟩
  · obtain ⟨hid, ha'⟩ := hAs id a ha
    obtain ⟨c, el, k0, k1, k2, k3, k4⟩ := h1.blk id a ha' b (hμs _ _ hb).2
    refine ⟨c, el, k0, k1, k2, k3, fun i row j pv hi hj => ?_⟩
    obtain ⟨v, hv1, hv2, hv3⟩ := k4 i row j pv hi hj
    refine ⟨v, hv1, hv2, hv3.mono htr.keeps fun k hk b hb => ?_⟩
    rw [hμ k]
    · exact hb
    · have hob : ∃ o, S[id]? = some o ∧ (match o with | .arr rows _ _ => (rowsRefs rows).all fun i => decide (i < m) | .gone => true) = true ∧ ∃ g f, o = .arr a.rows g f := by
        unfold arrs at ha'
        cases hq : S[id]? with
        | none => rw [hq] at ha'; cases ha'
        | some o =>
          rw [hq] at ha'
          refine ⟨o, rfl, hc2 o ?_, ?_⟩
          · refine List.mem_of_getElem? (i := id) ?_
            rw [List.getElem?_take_of_lt hid]; exact hq
          · cases o with
            | gone => cases ha'
            | arr rows g f => simp at ha'; subst ha'; exact ⟨g, f, rfl⟩
      obtain ⟨o, _, ho, g, f, rfl⟩ := hob
      simp only [List.all_eq_true, decide_eq_true_eq] at ho
      exact ho k (refs_in_rows hi hj hk)
  · obtain ⟨hid, ha'⟩ := hAs id a ha
    exact h1.nob id a ha' (by rw [← hμ id hid]; exact hb)
  · obtain ⟨hid, ha'⟩ := hAs id a ha
    rw [hμ id hid]
    exact h1.gsz id a ha'
  · exact h1.inj id id' a a' b b' (hAs _ _ q1).2 (hAs _ _ q2).2 (hμs _ _ q3).2 (hμs _ _ q4).2 q5
  · exact h1.out id a b (hAs _ _ q1).2 (hμs _ _ q2).2
  · refine (h2 t).mono htr.keeps fun k hk b hb => ?_
    rw [hμ k]
    · exact hb
    · rcases get_mem (e := e) (t := t) with h | ⟨p, p1, p2⟩
      · rw [h] at hk; cases hk
      · have := hc1 p p1
        simp only [List.all_eq_true, decide_eq_true_eq] at this
        exact this k (by rw [p2]; exact hk)

def toExit : Vs.X → Exit
  | .normal => .normal
  | .exit id => .exit id
  | .ret => .ret

theorem codeOK_region {id : Nat} {ops : Array Oper} {draw : Bool} (h : codeOK nt (.region id ops draw) = true) : ∀ o ∈ ops, ∀ t, o.dst = some t → t < nt := by
  intro o ho t ht
  simp only [codeOK] at h
  have := (Array.all_eq_true_iff_forall_mem.1 h) o ho
  rw [ht] at this
  simpa using this

theorem exec_sound {C : Ctx} (hm : C.P.follows .mixedOrders = true) (hcp : CPOK C.P C.cp) (hcr : CROK C.P C.cr) (hb : C.base = base) {k : Nat} : ∀ (c : Code) (b : Nat) {e : Env} {S : Store} {x : Vs.X} {e' : Env} {S' : Store} {a : Act} {w : World} {Q : Exit → Act → World → Prop},
    codeOK nt c = true → exec C k b c e S = some (x, e', S') → Now base nt X w0 A0 μ0 e S a w → (∀ a' w', Now base nt X w0 A0 μ0 e' S' a' w' → Q (toExit x) a' w') → c.wp C.P Q a w := by
  intro c
  induction c with
  | skip =>
    intro b e S x e' S' a w Q hc h hN hQ
    simp only [exec, Option.some.injEq, Prod.mk.injEq] at h
    obtain ⟨rfl, rfl, rfl⟩ := h
    exact wp_skip (hQ a w hN)
  | region id ops draw =>
    intro b e S x e' S' a w Q hc h hN hQ
    simp only [exec] at h
    obtain ⟨⟨e1, S1⟩, h1, h2⟩ := map_some h
    simp only [Prod.mk.injEq] at h2
    obtain ⟨rfl, rfl, rfl⟩ := h2
    exact region_sound hm hcp hcr hb (codeOK_region hc) hN h1 fun a' w' h' => hQ a' w' (h'.trim _)
  | seq p q ihp ihq =>
    intro b e S x e' S' a w Q hc h hN hQ
    simp only [codeOK, Bool.and_eq_true] at hc
    simp only [exec] at h
    obtain ⟨⟨r, e1, S1⟩, h1, h2⟩ := bind_some h
    refine wp_seq (ihp b hc.1 h1 hN fun a' w' h' => ?_)
    cases r with
    | normal => exact ihq b hc.2 h2 h' hQ
    | exit id =>
      simp only [Option.some.injEq, Prod.mk.injEq] at h2
      obtain ⟨rfl, rfl, rfl⟩ := h2
      exact hQ a' w' h'
    | ret =>
      simp only [Option.some.injEq, Prod.mk.injEq] at h2
      obtain ⟨rfl, rfl, rfl⟩ := h2
      exact hQ a' w' h'
  | cond o p q ihp ihq =>
    intro b e S x e' S' a w Q hc h hN hQ
    simp only [codeOK, Bool.and_eq_true] at hc
    simp only [exec] at h
    unfold condV at h
    split at h
    · rename_i t ht
      have hv : a.eval o = .bool t := by
        obtain ⟨μ, _, h2, _⟩ := hN
        have := ev_sound h2 o
        rw [ht] at this
        exact this.bool_inv
      refine wp_cond hv ?_
      cases t
      · exact ihq b hc.2 h hN hQ
      · exact ihp b hc.1 h hN hQ
    · cases h
  | block id body ih =>
    intro b e S x e' S' a w Q hc h hN hQ
    simp only [codeOK] at hc
    simp only [exec] at h
    obtain ⟨⟨r, e1, S1⟩, h1, h2⟩ := map_some h
    simp only [Prod.mk.injEq] at h2
    obtain ⟨rfl, rfl, rfl⟩ := h2
    refine wp_block (ih id hc h1 hN fun a' w' h' => ?_)
    have := hQ a' w' h'
    cases r with
    | normal => simpa [toExit, Exit.inBlock] using this
    | ret => simpa [toExit, Exit.inBlock] using this
    | exit id' =>
      simp only [toExit, Exit.inBlock]
      by_cases hid : id' = id
      · subst hid; simpa [toExit] using this
      · rw [if_neg hid]; simpa [hid, toExit] using this
  | loop body ih =>
    intro b e S x e' S' a w Q hc h hN hQ
    simp only [codeOK] at hc
    simp only [exec] at h
    obtain ⟨hh, _, h⟩ := bind_some h
    obtain ⟨r, h1, h2⟩ := bind_some h
    obtain ⟨q, h3, h4⟩ := map_some h2
    have hN1 : Now base nt X w0 A0 μ0 r.1 r.2 a w := Now.fzSlots _ (Now.ownAll _ (hN.keepOnly _)) h1
    have hbase : base ≤ r.2.length := by obtain ⟨_, _, _, h, _⟩ := hN1; exact h
    generalize hM : r.2.length = m at h3 h4 hbase
    have key : ∀ (n : Nat) {e : Env} {S : Store} {a : Act} {w : World}, loopN (exec C k b body) (normG hh.live hh.fz m) n e S = some q → Now base nt X w0 A0 μ0 e S a w → Code.rounds C.P body Q n a w := by
      intro n
      induction n with
      | zero => intro e S a w h; cases h
      | succ n ihn =>
        intro e S a w h hN
        simp only [loopN] at h
        obtain ⟨⟨y, e1, S1⟩, k1, k2⟩ := bind_some h
        refine ih b hc k1 hN fun a' w' h' => ?_
        have out : ∀ y', y = y' → y' ≠ .normal → some (y, e1, S1) = some q → Q (toExit y) a' w' := fun y' hy hy' hq => by
          simp only [Option.some.injEq] at hq
          subst hq
          unfold afterG at h4
          by_cases hyb : y = .exit b
          · rw [if_pos hyb] at h4
            simp only [Prod.mk.injEq] at h4
            obtain ⟨rfl, rfl, rfl⟩ := h4
            exact hQ a' w' ((h'.keepOnly _).gc hbase)
          · rw [if_neg hyb] at h4
            simp only [Prod.mk.injEq] at h4
            obtain ⟨rfl, rfl, rfl⟩ := h4
            exact hQ a' w' h'
        cases y with
        | normal =>
          obtain ⟨⟨e2, S2⟩, k3, k4⟩ := bind_some k2
          unfold normG at k3
          obtain ⟨r2, k5, k6⟩ := map_some k3
          simp only [Prod.mk.injEq] at k6
          obtain ⟨rfl, rfl⟩ := k6
          exact ihn k4 ((Now.fzSlots _ (h'.keepOnly _) k5).gc hbase)
        | exit id => exact out _ rfl (by simp) k2
        | ret => exact out _ rfl (by simp) k2
    exact wp_loop_rounds k (key k h3 hN1)
  | exit id =>
    intro b e S x e' S' a w Q hc h hN hQ
    simp only [exec, Option.some.injEq, Prod.mk.injEq] at h
    obtain ⟨rfl, rfl, rfl⟩ := h
    exact wp_exit (hQ a w hN)
  | ret =>
    intro b e S x e' S' a w Q hc h hN hQ
    simp only [exec, Option.some.injEq, Prod.mk.injEq] at h
    obtain ⟨rfl, rfl, rfl⟩ := h
    exact wp_ret (hQ a w hN)
  | _ =>
    intro b e S x e' S' a w Q hc h hN hQ
    simp [exec] at h
end
end Go.Vs
