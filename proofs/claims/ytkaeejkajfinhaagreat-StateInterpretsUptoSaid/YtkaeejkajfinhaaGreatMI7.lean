
import Derived.Test.YtkaeejkajfinhaaGreatMI6
set_option linter.unusedVariables false
set_option linter.unusedSimpArgs false
namespace Go.Vs
open Go
section
variable {C : Ctx} {ops : Array Oper} {e : Nat → Env} {S : Nat → Store} {r : Nat → Ef} {kd : Nat → Nat} {D D' : Nat → Bool} {base nt : Nat} {X : Nat → Prop} {w0 : World} {A0 : Arrs} {μ0 : Mu}
def St (ops : Array Oper) (e : Nat → Env) (S : Nat → Store) (r : Nat → Ef) (base nt : Nat) (X : Nat → Prop) (w0 : World) (A0 : Arrs) (μ0 : Mu) (D : Nat → Bool) (a : Act) (w : World) : Prop :=
  ∃ μ n, SR w X (af S r D ops.size) n μ ∧ (∀ t, VR w (Av X (af S r D ops.size) μ) μ (gf ops e r D ops.size t) (a.tmps.getD t Go.undef)) ∧ Fresh S r ops.size D μ ∧ a.defers = [] ∧ a.tmps.size = nt ∧
    Tr base w0 A0 μ0 w (af S r D ops.size) μ
theorem put_get (a : Act) (d : Option Nat) (v : Value) (t : Nat) : (a.put d v).tmps.getD t Go.undef = if d = some t ∧ t < a.tmps.size then v else a.tmps.getD t Go.undef := by
  cases d with
  | none => simp [Act.put]
  | some d =>
    simp only [Act.put, Option.some.injEq]
    by_cases h : d = t
    · subst h
      by_cases hl : d < a.tmps.size
      · simp [Array.getD_eq_getD_getElem?, hl]
      · simp [Array.getD_eq_getD_getElem?, hl]
    · simp [Array.getD_eq_getD_getElem?, h, Array.getElem?_setIfInBounds_ne h]
theorem St.fin (hr : Run C ops e S r kd) {i : Nat} {oi : Oper} (hoi : ops[i]? = some oi) (hD : D i = false) (hD' : ∀ j, D' j = (D j || j == i)) (hall : (r i).isAll = false)
    (hs : ∀ j oj, i < j → D j = true → ops[j]? = some oj → Sw ops kd e i j oi oj) (hd : ∀ t, oi.dst = some t → t < nt) {a : Act} {w w' : World} {μ μ' : Mu} {n' : Nat} {v : Value}
    (hfr : Fresh S r ops.size D μ) (hE : ∀ t, VR w (Av X (af S r D ops.size) μ) μ (gf ops e r D ops.size t) (a.tmps.getD t Go.undef)) (hdef : a.defers = []) (hsz : a.tmps.size = nt) (htr : Tr base w0 A0 μ0 w (af S r D ops.size) μ)
    (hst : ∀ id a, r i = .st id a → af S r D ops.size id ≠ none) (hmu : ∀ j, j < ops.size → D j = true → ∀ id a, r j = .st id a → i < j → (S i).length ≠ (S (i + 1)).length → id ≠ (S i).length)
    (k1 : SR w' X ((r i).app (af S r D ops.size)) n' μ') (k2 : Tr base w (af S r D ops.size) μ w' ((r i).app (af S r D ops.size)) μ') (hq : ∀ lo B, r i = .call lo B → ∀ id, (S 0).length ≤ id → (∀ j, j < ops.size → D j = true → ¬ ((S j).length ≤ id ∧ id < (S (j + 1)).length)) → (S i).length ≤ id)
    (k3 : ∀ id, μ' id = μ id ∨ ((S i).length ≤ id ∧ id < (S (i + 1)).length))
    (k3' : ∀ id b, μ id = some b → μ' id = some b) (k4 : ∀ t, oi.dst = some t → VR w' (Av X ((r i).app (af S r D ops.size)) μ') μ' (get (e (i + 1)) t) v) :
    St ops e S r base nt X w0 A0 μ0 D' (a.put oi.dst v) w' := by
  have his := (Array.getElem?_eq_some_iff.1 hoi).1
  have hle := af_comm hr hoi hD hD' hs (fun j h1 h2 h3 id a h4 h5 => hmu j h2 h3 id a h4 h1 h5) ops.size his (Nat.le_refl _)
  obtain ⟨m1, m2⟩ := k1.more hle base
  refine ⟨μ', n', m1, fun t => ?_, fun id h0 hno => ?_, by rw [put_defers']; exact hdef, by rw [put_size]; exact hsz, htr.trans (k2.trans m2)⟩
  · rw [gf_step hoi hD hD' hall hr hs t ops.size his (Nat.le_refl _), put_get]
    by_cases ht : oi.dst = some t
    · rw [if_pos ht, if_pos ⟨ht, by rw [hsz]; exact hd t ht⟩]
      exact (k4 t ht).mono m2.keeps fun _ _ _ h => h
    · rw [if_neg ht, if_neg (fun h => ht h.1)]
      exact ((hE t).mono k2.keeps fun i _ b hb => k3' i b hb).mono m2.keeps fun _ _ _ h => h
  · have hno' : ∀ j, j < ops.size → D j = true → ¬ ((S j).length ≤ id ∧ id < (S (j + 1)).length) := fun j h1 h2 => hno j h1 (by rw [hD' j, h2]; rfl)
    obtain ⟨f1, f2⟩ := hfr id h0 hno'
    have hni := hno i his (by rw [hD' i]; simp)
    have hmono := hr.mono (i := i) (j := i + 1) (by omega) (by omega)
    have hne : ¬ (id = (S i).length ∧ (S i).length ≠ (S (i + 1)).length) := fun h => hni ⟨by omega, by omega⟩
    refine ⟨?_, ?_⟩
    · rcases k3 id with h | h
      · rw [h]; exact f1
      · exact absurd h hni
    · refine (hle id).1 ?_
      cases hri : r i with
      | all B => rw [hri] at hall; cases hall
      | call lo B =>
        have hge := hq lo B hri id h0 hno'
        obtain ⟨lo', e1, _⟩ := (hr.ok i _ hoi).calls (by rw [hri]; rfl)
        rw [hri] at e1
        cases e1
        simp only [Ef.app, over]
        rw [if_neg fun h => hni ⟨hge, h.2⟩]
        exact f2
      | st id0 a0 =>
        simp only [Ef.app]
        have : id ≠ id0 := by rintro rfl; exact hst _ _ hri f2
        rw [upd_ne _ _ _ this]; exact f2
      | new fz nid nw =>
        obtain ⟨n1, n2, n3, n4, n5⟩ := (hr.ok i _ hoi).new hri
        have hf : frz (af S r D ops.size) fz id = none := by rw [frz_at, f2]; rfl
        cases nw with
        | none => exact hf
        | some p =>
          obtain ⟨rows, g⟩ := p
          simp only [Ef.app, placeA]
          have := n4 (by simp)
          rw [upd_ne _ _ _ (fun h => hne ⟨by omega, by omega⟩)]
          exact hf
theorem get_trim_eq (keep : List Nat) (e : Env) (t : Nat) : get (trim keep e) t = if t ∈ keep then get e t else .undef := by
  unfold trim
  induction keep with
  | nil => rfl
  | cons k l ih =>
    simp only [List.map_cons, Vs.get, List.mem_cons]
    by_cases h : k = t
    · subst h; simp
    · rw [if_neg h, ih]
      have : t ≠ k := fun h' => h h'.symm
      simp [this]
theorem get_putD {e : Env} {d : Option Nat} {t : Nat} (h : d = some t) (v : PV) : get (putD e d v) t = v := by
  subst h
  simp only [putD]
  rw [get_put, if_pos rfl]
theorem looks_guard {o : Oper} {j t : Nat} {want : Bool} (h1 : o.guard = some (j, want)) (h2 : (ops[j]?).bind (·.dst) = some t) : t ∈ o.looksAt ops := by
  unfold Oper.looksAt
  rw [h1]
  simp only [h2]
  simp
theorem looks_op {o : Oper} {t : Nat} (h : Operand.tmp t ∈ o.op.operands) : t ∈ o.looksAt ops := by
  unfold Oper.looksAt
  refine List.mem_append_left _ (List.mem_filterMap.2 ⟨.tmp t, by simpa using h, rfl⟩)
theorem sees_one {S : Store} {A : Arrs} {μ : Mu} {id : Nat} (h : ∀ a b, arrs S id = some a → μ id = some b → ∃ f, A id = some ⟨a.rows, a.g, f⟩) : Sees (List.replicate id .gone ++ [S.getD id .gone]) A μ := by
  intro id' a b ha hb
  have e : arrs (List.replicate id Obj.gone ++ [S.getD id .gone]) id' = if id' = id then arrs S id else none := by
    unfold arrs
    by_cases h1 : id' < id
    · rw [List.getElem?_append_left (by simpa using h1), List.getElem?_replicate, if_pos h1, if_neg (by omega)]
    · by_cases h2 : id' = id
      · subst h2
        rw [List.getElem?_append_right (by simp), if_pos rfl]
        simp only [List.length_replicate, Nat.sub_self, List.getElem?_cons_zero]
        cases hq : S[id']? with
        | none => simp [List.getD_eq_getElem?_getD, hq]
        | some o => simp [List.getD_eq_getElem?_getD, hq]
      · rw [List.getElem?_append_right (by simp; omega), if_neg h2]
        rw [List.getElem?_eq_none (by simp; omega)]
  rw [e] at ha
  split at ha
  · rename_i h2
    subst h2
    exact h a b ha hb
  · cases ha
theorem rowsAt_one (S : Store) (id : Nat) : rowsAt (List.replicate id .gone ++ [S.getD id .gone]) id = rowsAt S id := by
  unfold rowsAt
  rw [List.getElem?_append_right (by simp)]
  simp only [List.length_replicate, Nat.sub_self, List.getElem?_cons_zero]
  cases hq : S[id]? with
  | none => simp [List.getD_eq_getElem?_getD, hq]
  | some o => simp [List.getD_eq_getElem?_getD, hq]
theorem St.step (hr : Run C ops e S r kd) (hok : DrawS ops (Sw ops kd e)) (hcl : Closed ops D) (hcp : CPOK C.P C.cp) (hcr : CROK C.P C.cr) {i : Nat} {oi : Oper} (hoi : ops[i]? = some oi) (hD : D i = false)
    (he : ∀ ed ∈ oi.after, Region.binds .any ed = true → D ed.on = true) (hD' : ∀ j, D' j = (D j || j == i)) (hd : ∀ t, oi.dst = some t → t < nt) (hb : C.base = base) (hb0 : base ≤ (S 0).length) {a : Act} {w : World}
    (hSt : St ops e S r base nt X w0 A0 μ0 D a w) {K : Act → World → Prop} {Q : Exit → Act → World → Prop} (hK : ∀ a' w', St ops e S r base nt X w0 A0 μ0 D' a' w' → K a' w') : wpOp C.P ops Q i K a w := by
  obtain ⟨lo, hi⟩ := free_of hok hcl hoi hD he
  obtain ⟨μ, n, hS, hE, hfr, hdef, hsz, htr⟩ := hSt
  have his := (Array.getElem?_eq_some_iff.1 hoi).1
  have hbi : base ≤ (S i).length := Nat.le_trans hb0 (hr.mono (Nat.zero_le _) (by omega))
  have hna : ∀ j oj, ops[j]? = some oj → kd j ≠ 4 → (r j).isAll = false := fun j oj ho hk => by
    cases hq : (r j).isAll with
    | false => rfl
    | true => exact absurd ((hr.ok j oj ho).kindAll hq) hk
  have und : ∀ j, j < ops.size → D j = false → (S j).length ≠ (S (j + 1)).length → μ (S j).length = none ∧ af S r D ops.size (S j).length = none := fun j hj hDj hne => hfr.undone hr hj hDj hne
  have all4 : kd i = 4 → (∀ j, j < i → D j = true) ∧ (∀ j, i ≤ j → j < ops.size → D j = false) := fun h4 => by
    refine ⟨fun j hj => ?_, fun j hj hjs => ?_⟩
    · cases hDj : D j with
      | true => rfl
      | false => exact absurd h4 (lo j _ hj hDj (Array.getElem?_eq_getElem (by omega))).basic.2.2
    · by_cases hji : j = i
      · subst hji; exact hD
      · cases hDj : D j with
        | false => rfl
        | true => exact absurd h4 (hi j _ (by omega) hDj (Array.getElem?_eq_getElem (by omega))).basic.2.1
  have hg : ∀ t, (t ∈ oi.looksAt ops ∨ kd i = 4) → gf ops e r D ops.size t = get (e i) t := fun t ht => by
    rw [gf_hi (i := i) (fun j oj hj hDj ho => ?_) ops.size (by omega) (Nat.le_refl _)]
    · refine gf_lo hr (by omega) (fun j oj hj ho => ?_) i (Nat.le_refl _)
      rcases ht with ht | ht
      · cases hDj : D j with
        | true => exact .inl rfl
        | false =>
          obtain ⟨hap, k1, k2⟩ := (lo j oj hj hDj ho).basic
          exact .inr ⟨hna j oj ho k1, fun hdt => (Oper.apart_spec hap).1 t hdt ht⟩
      · exact .inl ((all4 ht).1 j hj)
    · rcases ht with ht | ht
      · have hji : i < j := by
          rcases Nat.lt_or_eq_of_le hj with h | h
          · exact h
          · subst h; rw [hD] at hDj; cases hDj
        obtain ⟨hap, k1, k2⟩ := (hi j oj hji hDj ho).basic
        exact ⟨hna j oj ho k2, fun hdt => (Oper.apart_spec hap).2.2 t hdt ht⟩
      · have := (all4 ht).2 j hj (Array.getElem?_eq_some_iff.1 ho).1
        rw [this] at hDj; cases hDj
  have hE' : ∀ t, (t ∈ oi.looksAt ops ∨ kd i = 4) → VR w (Av X (af S r D ops.size) μ) μ (get (e i) t) (a.tmps.getD t Go.undef) := fun t ht => by rw [← hg t ht]; exact hE t
  have hwant : ∀ b, wantedV ops (e i) oi = some b → Region.wanted oi (yielded ops a.tmps) = b := fun b hw => wantedV_sound (fun j want t h1 h2 => hE' t (.inl (looks_guard h1 h2))) hw
  have hE2 : ER w (Av X (af S r D ops.size) μ) μ (trim (oi.looksAt ops) (e i)) a.tmps := fun t => by
    rw [get_trim_eq]
    split
    · rename_i ht; exact hE' t (.inl ht)
    · exact .undef _
  have hcong : ∀ x ∈ oi.op.operands, ev (e i) x = ev (trim (oi.looksAt ops) (e i)) x := fun x hx => by
    cases x with
    | tmp t => simp only [ev]; rw [get_trim_eq, if_pos (looks_op hx)]
    | _ => rfl
  have hmu : ∀ j, j < ops.size → D j = true → ∀ id a, r j = .st id a → i < j → (S i).length ≠ (S (i + 1)).length → id ≠ (S i).length := fun j hj hDj id a hrj hij hne hid => by
    obtain ⟨a', ha⟩ := st_there hr (i := i) (fun k hk hks hDk => by
      have hki : i < k := by
        rcases Nat.lt_or_eq_of_le hk with h | h
        · exact h
        · subst h; rw [hD] at hDk; cases hDk
      have hsw := hi k _ hki hDk (Array.getElem?_eq_getElem hks)
      refine ⟨hna k _ (Array.getElem?_eq_getElem hks) hsw.basic.2.2, ?_⟩
      cases hc : (r k).isCall with
      | false => rfl
      | true =>
        exfalso
        obtain ⟨_, _, hk⟩ := (hr.ok k _ (Array.getElem?_eq_getElem hks)).calls hc
        obtain ⟨_, k1, k2, k3, k4, k5, k6, k7⟩ := swapOK_spec (hsw.near (.inr (.inl (by omega))))
        have h0 : kd i = 0 ∨ (kd i = 1 ∧ isLoad oi = true) := by
          rcases hk with hk | hk
          · exact .inl (k6 hk.1)
          · exact k7 hk.1
        rcases h0 with h0 | ⟨_, h0⟩
        · exact hne ((hr.ok i _ hoi).len0 h0).symm
        · obtain ⟨_, _, _, h1⟩ := (hr.ok i _ hoi).load h0
          exact hne h1.symm) ops.size (by omega) (Nat.le_refl _) j id a (by omega) hj hDj hrj
    rw [hid, (und i his hD hne).2] at ha
    cases ha
  unfold wpOp
  rw [hoi]
  simp only
  have ok := hr.ok i oi hoi
  have okg := ok
  generalize hE1 : e (i + 1) = e1 at ok
  generalize hS1 : S (i + 1) = S1 at ok
  generalize hR1 : r i = r1 at ok
  generalize hK1 : kd i = k1 at ok
  cases ok with
  | skip hw _ =>
    rw [hwant _ hw]
    simp only [Bool.false_eq_true, if_false]
    have happ : (r i).app (af S r D ops.size) = af S r D ops.size := by rw [hR1]; simp [Ef.app, placeA, frz_nil]
    refine hK _ _ (St.fin (n' := n) hr hoi hD hD' (by rw [hR1]; rfl) hi hd hfr hE hdef hsz htr (fun id a h => by rw [hR1] at h; cases h) hmu (by rw [happ]; exact hS) (by rw [happ]; exact Tr.refl _ _ _ _) (fun lo B h => by rw [hR1] at h; cases h) (fun _ => .inl rfl) (fun _ _ h => h) (fun t ht => ?_))
    rw [hE1, get_putD ht]
    exact .skip
  | one out hw hef h =>
    rw [hwant _ hw]
    simp only [if_true]
    refine .inl ?_
    obtain ⟨f1, f2, f3, f4⟩ := ev1_facts hef h
    rw [← hK1] at f2 f3 f4
    have hk34 : kd i ≠ 4 := by omega
    obtain ⟨S', hsees, hev⟩ : ∃ S', Sees S' (af S r D ops.size) μ ∧ ev1 C.P C.cp oi (e i) S' (S i).length = some out := by
      by_cases hkt : kd i = 1 ∧ touch oi (e i) ≠ 0
      · obtain ⟨hk, ht1⟩ := hkt
        obtain ⟨id, t, x, ix, off, len, ex, hop, hx, htc⟩ : ∃ id t x ix off len ex, oi.op = .indexAddr t x ix ∧ ev (e i) x = .msl id off len ex ∧ touch oi (e i) = id + 1 := by
          obtain ⟨dst, op, type, pos, after, guard⟩ := oi
          cases op <;> simp only [touch, ne_eq, not_true] at ht1
          case indexAddr t x ix =>
            simp only [touch]
            cases hx : ev (e i) x with
            | msl id off len ex => exact ⟨id, t, x, ix, off, len, ex, rfl, hx, rfl⟩
            | _ => simp only [hx] at ht1; exact absurd trivial ht1
          case store t a x => simp [isEff] at hef
        refine ⟨List.replicate id .gone ++ [(S i).getD id .gone], sees_one fun a b ha hbb => ?_, ?_⟩
        · have hid : id < (S i).length := by
            unfold Vs.arrs at ha
            split at ha
            · rename_i hq; exact (List.getElem?_eq_some_iff.1 hq).1
            · cases ha
          refine sees_hi hr (i := i) (fun j oj hj hDj ho => ?_) hid ops.size (by omega) (Nat.le_refl _) (sees_lo hr (by omega) (fun j h1 h2 h3 => (und j h1 h2 h3).1) (fun j oj hj hDj ho => ?_) i (Nat.le_refl _) a b ha hbb)
          · have hji : i < j := by
              rcases Nat.lt_or_eq_of_le hj with h | h
              · exact h
              · subst h; rw [hD] at hDj; cases hDj
            rcases hi j oj hji hDj ho with hsw | ⟨_, _, q2, _, q4, q5⟩
            · obtain ⟨_, k1, k2, k3, k4, k5, k6, k7⟩ := swapOK_spec hsw
              exact .inl ⟨fun h3 => (k4 h3).1 hk, k2, fun h => by have := k6 h; omega⟩
            · exact .inr ⟨q4, q2, by omega⟩
          · rcases lo j oj hj hDj ho with hsw | ⟨_, q1, _, q3, _, q5⟩
            · obtain ⟨_, k1, k2, k3, k4, k5, k6, k7⟩ := swapOK_spec hsw
              exact .inl ⟨fun h3 => (k3 h3).1 hk, k1, fun h => by have := k5 (.inl h); omega, fun h => by have := k5 (.inr h); omega⟩
            · exact .inr ⟨q3, q1, by omega⟩
        · rw [← h]
          obtain ⟨dst, op, type, pos, after, guard⟩ := oi
          simp only at hop
          subst hop
          simp only [ev1, hx, evIndexAddr]
          cases ev (e i) ix <;> simp only [rowsAt_one]
      by_cases hk : kd i = 1
      · have ht0 : touch oi (e i) = 0 := by
          by_cases h0 : touch oi (e i) = 0
          · exact h0
          · exact absurd ⟨hk, h0⟩ hkt
        refine ⟨S i, fun id a b ha hbb => ?_, h⟩
        have hid : id < (S i).length := by
          unfold Vs.arrs at ha
          split at ha
          · rename_i hq; exact (List.getElem?_eq_some_iff.1 hq).1
          · cases ha
        refine sees_hi hr (i := i) (fun j oj hj hDj ho => .inl ?_) hid ops.size (by omega) (Nat.le_refl _) (sees_lo hr (by omega) (fun j h1 h2 h3 => (und j h1 h2 h3).1) (fun j oj hj hDj ho => .inl ?_) i (Nat.le_refl _) a b ha hbb)
        · have hji : i < j := by
            rcases Nat.lt_or_eq_of_le hj with h | h
            · exact h
            · subst h; rw [hD] at hDj; cases hDj
          obtain ⟨_, k1, k2, k3, k4, k5, k6, k7⟩ := swapOK_spec ((hi j oj hji hDj ho).near (.inr (.inr (.inl ht0))))
          exact ⟨fun h3 => (k4 h3).1 hk, k2, fun h => by have := k6 h; omega⟩
        · obtain ⟨_, k1, k2, k3, k4, k5, k6, k7⟩ := swapOK_spec ((lo j oj hj hDj ho).near (.inr (.inr (.inr ht0))))
          exact ⟨fun h3 => (k3 h3).1 hk, k1, fun h => by have := k5 (.inl h); omega, fun h => by have := k5 (.inr h); omega⟩
      · refine ⟨[], fun id a b ha hbb => by simp [Vs.arrs] at ha, ?_⟩
        rw [← h]
        exact ev1_noS hef (by rw [← hK1]; exact hk)
    rw [ev1_congr hcong] at hev
    have hlen : (place (freezeAll (S i) out.fz) out.new).length = (S (i + 1)).length := by rw [hS1]
    by_cases hnew : out.new = none
    · obtain ⟨nid, hnid⟩ : ∃ nid, nid = max n base := ⟨_, rfl⟩
      have hn0 := hS.lt nid (by omega)
      have happ : (r i).app (af S r D ops.size) = placeA (frz (af S r D ops.size) out.fz) nid out.new := by rw [hR1, hnew]; rfl
      refine ev1_sound (n' := nid + 1) (base := base) hS hsees hn0.2 hn0.1 (Nat.lt_succ_self _) (by omega) (by omega) hcp hE2 (ev1_nid hev hnew) K Q fun v w' μ' k1 k2 k3 k4 => hK _ _ ?_
      refine St.fin (n' := nid + 1) hr hoi hD hD' (by rw [hR1]; rfl) hi hd hfr hE hdef hsz htr (fun id a h => by rw [hR1] at h; cases h) hmu (by rw [happ]; exact k1) (by rw [happ]; exact k2) (fun lo B h => by rw [hR1] at h; cases h) (fun id => .inl (k3 id (.inr hnew))) (fun id b h => by rw [k3 id (.inr hnew)]; exact h) (fun t ht => ?_)
      rw [hE1, get_putD ht, happ]
      exact k4
    · have hle2 := (length_place (freezeAll (S i) out.fz) out.new).2.2
      have hl1 : (S (i + 1)).length = (S i).length + 1 := by
        cases hq : out.new with
        | none => exact absurd hq hnew
        | some p => rw [← hlen, hle2 p hq, length_freezeAll]
      have hu := und i his hD (by omega)
      have happ : (r i).app (af S r D ops.size) = placeA (frz (af S r D ops.size) out.fz) (S i).length out.new := by rw [hR1]; rfl
      refine ev1_sound (n' := max n ((S i).length + 1)) (base := base) hS hsees hu.2 hu.1 (by omega) (by omega) hbi hcp hE2 hev K Q fun v w' μ' k1 k2 k3 k4 => hK _ _ ?_
      have hne : ∀ id b, μ id = some b → id ≠ (S i).length := fun id b h h' => by rw [h', hu.1] at h; cases h
      refine St.fin (n' := max n ((S i).length + 1)) hr hoi hD hD' (by rw [hR1]; rfl) hi hd hfr hE hdef hsz htr (fun id a h => by rw [hR1] at h; cases h) hmu (by rw [happ]; exact k1) (by rw [happ]; exact k2) (fun lo B h => by rw [hR1] at h; cases h) (fun id => ?_) (fun id b h => by rw [k3 id (.inl (hne id b h))]; exact h) (fun t ht => ?_)
      · by_cases hid : id = (S i).length
        · exact .inr ⟨by omega, by omega⟩
        · exact .inl (k3 id (.inl hid))
      · rw [hE1, get_putD ht, happ]
        exact k4
  | st t x y hop hw hkn id j off rows g hx hSid c1 c2 c3 c4 =>
    rw [hwant _ hw]
    simp only [if_true]
    refine .inl ?_
    have opx : x ∈ oi.op.operands := by rw [hop]; simp [Op.operands]
    have opy : y ∈ oi.op.operands := by rw [hop]; simp [Op.operands]
    have hvx : VR w (Av X (af S r D ops.size) μ) μ (ev (e i) x) (a.eval x) := by rw [hcong x opx]; exact ev_sound hE2 x
    have hvy : VR w (Av X (af S r D ops.size) μ) μ (ev (e i) y) (a.eval y) := by rw [hcong y opy]; exact ev_sound hE2 y
    rw [hx] at hvx
    have hmub : ∃ b, μ id = some b := by
      generalize a.eval x = vx at hvx
      cases hvx with
      | fr h => cases h
      | mp _ _ _ b hb => exact ⟨b, hb⟩
    obtain ⟨b, hmub⟩ := hmub
    have htch : touch oi (e i) = id + 1 := by simp only [touch, hop, hx]
    have hAid : af S r D ops.size id = some ⟨rows, g, false⟩ := by
      rw [same_hi hr (i := i) (fun k ok hk hDk ho => ?_) (List.getElem?_eq_some_iff.1 hSid).1 ops.size (by omega) (Nat.le_refl _), same_lo hr (by omega) (fun j h1 h2 h3 => (und j h1 h2 h3).1) (fun k ok hk hDk ho => ?_) i (Nat.le_refl _) b hmub]
      · exact arrs_get hSid
      · rcases lo k ok hk hDk ho with hsw | ⟨_, q1, _, q3, _, q5⟩
        · obtain ⟨_, k1, k2, k3, k4, k5, k6, k7⟩ := swapOK_spec hsw
          exact .inl ⟨(k4 hK1).1, (k4 hK1).2, k1, fun h => by have := k5 (.inl h); omega, fun h => by have := k5 (.inr h); omega⟩
        · exact .inr ⟨q3, q1, by rw [htch] at q5; exact q5⟩
      · have hji : i < k := by
          rcases Nat.lt_or_eq_of_le hk with h | h
          · exact h
          · subst h; rw [hD] at hDk; cases hDk
        rcases hi k ok hji hDk ho with hsw | ⟨_, _, q2, _, q4, q5⟩
        · obtain ⟨_, k1, k2, k3, k4, k5, k6, k7⟩ := swapOK_spec hsw
          exact .inl ⟨(k3 hK1).1, (k3 hK1).2, k2, fun h => by have := k6 h; omega, fun h => by have := k7 h; omega⟩
        · exact .inr ⟨q4, q2, by rw [htch] at q5; exact Ne.symm q5⟩
    obtain ⟨w', k1, k2, k3⟩ := storeA_sound hS hkn hvx hvy hAid c1 c2 c3 c4 base
    unfold Oper.wp
    rw [show (execOp a.eval oi).run C.P w = .ok .skip w' by simp [execOp, hop, k1]]
    rw [Oper.upon_skip]
    refine hK _ _ (St.fin (n' := n) hr hoi hD hD' (by rw [hR1]; rfl) hi hd hfr hE hdef hsz htr (fun id' a h => ?_) hmu (by rw [hR1]; exact k2) (by rw [hR1]; exact k3) (fun lo B h => by rw [hR1] at h; cases h) (fun _ => .inl rfl) (fun _ _ h => h) (fun t ht => ?_))
    · rw [hR1] at h; cases h; rw [hAid]; simp
    · rw [hE1, get_putD ht]; exact .skip
  | call c f g first caps v B1 hop hce hf hw hrf hc hl hcl hbl _ lo0 hk =>
    rw [hwant _ hw]
    simp only [if_true]
    refine .inl ?_
    have hki : kd i = 5 ∨ kd i = 6 := by omega
    have quiet : ∀ j, j < i → D j = false → ∃ nid, r j = .new [] nid none ∧ (S (j + 1)).length = (S j).length := by
      intro j hj hDj
      have ho : ops[j]? = some ops[j] := Array.getElem?_eq_getElem (by omega)
      obtain ⟨_, k1, k2, k3, k4, k5, k6, k7⟩ := swapOK_spec ((lo j _ hj hDj ho).near (.inr (.inl (by omega))))
      have h0 : kd j = 0 ∨ (kd j = 1 ∧ isLoad ops[j] = true) := by
        rcases hki with h | h
        · exact .inl (k6 h)
        · exact k7 h
      rcases h0 with h0 | ⟨_, h0⟩
      · have hl0 := (hr.ok j _ ho).len0 h0
        cases hj : r j with
        | all B => exact absurd ((hr.ok j _ ho).kindAll (by rw [hj]; rfl)) k1
        | st id a => have := ((hr.ok j _ ho).store hj).1; omega
        | call lo B =>
          obtain ⟨_, _, hk⟩ := (hr.ok j _ ho).calls (by rw [hj]; rfl)
          omega
        | new fz nid nw =>
          obtain ⟨m1, m2, m3, m4, m5⟩ := (hr.ok j _ ho).new hj
          have e1 := m3 (by omega)
          have e2 := m5 (.inr (.inr h0))
          subst e1 e2
          exact ⟨nid, rfl, hl0⟩
      · obtain ⟨nid, e1, _, e2⟩ := (hr.ok j _ ho).load h0
        exact ⟨nid, e1, e2⟩
    have alo : ∀ j, j ≤ i → af S r D j = arrs (S j) := by
      intro j
      induction j with
      | zero => intro _; rfl
      | succ j ih =>
        intro hj
        have ho : ops[j]? = some ops[j] := Array.getElem?_eq_getElem (by omega)
        rw [af_succ, ih (by omega), (hr.ok j _ ho).arrs]
        by_cases hDj : D j = true
        · rw [if_pos hDj]
        · rw [if_neg hDj]
          obtain ⟨nid, e1, _⟩ := quiet j (by omega) (by simpa using hDj)
          rw [e1]
          simp only [Ef.app, frz_nil, placeA]
    have hS1l : S1.length = (S (i + 1)).length := by rw [hS1]
    have ahi : ∀ j, i + 1 ≤ j → j ≤ ops.size → (∀ id, id < (S i).length → af S r D j id = arrs (S i) id) ∧ (∀ id a, (S i).length ≤ id → af S r D j id = some a → (S (i + 1)).length ≤ id ∧ a.f = false) := by
      intro j hij
      induction hij with
      | refl =>
        intro _
        rw [af_succ, hD]
        simp only [Bool.false_eq_true, if_false]
        rw [alo i (Nat.le_refl _)]
        refine ⟨fun _ _ => rfl, fun id a hid ha => ?_⟩
        have := arrs_lt ha
        omega
      | step hij ih =>
        rename_i m
        intro hm
        obtain ⟨q1, q2⟩ := ih (by omega)
        have ho : ops[m]? = some ops[m] := Array.getElem?_eq_getElem (by omega)
        rw [af_succ]
        by_cases hDm : D m = true
        · rw [if_pos hDm]
          obtain ⟨_, k1, k2, k3, k4, k5, k6, k7⟩ := swapOK_spec ((hi m _ hij hDm ho).near (.inl (by omega)))
          have h2 : kd m = 2 := k5 hki
          cases hj : r m with
          | all B => exact absurd ((hr.ok m _ ho).kindAll (by rw [hj]; rfl)) k2
          | st id a => have := ((hr.ok m _ ho).store hj).1; omega
          | call lo B =>
            obtain ⟨_, _, hk⟩ := (hr.ok m _ ho).calls (by rw [hj]; rfl)
            omega
          | new fz nid nw =>
            obtain ⟨m1, m2, m3, m4, m5⟩ := (hr.ok m _ ho).new hj
            have e1 := m3 (by omega)
            subst e1
            simp only [Ef.app, frz_nil]
            cases nw with
            | none => exact ⟨q1, q2⟩
            | some p =>
              obtain ⟨rows, g'⟩ := p
              simp only [placeA]
              have hmm := hr.mono (i := i + 1) (j := m) hij (by omega)
              have hmi := hr.mono (i := i) (j := i + 1) (by omega) (by omega)
              refine ⟨fun id hid => ?_, fun id a hid ha => ?_⟩
              · rw [upd_ne _ _ _ (by omega)]; exact q1 id hid
              · by_cases h3 : id = nid
                · subst h3
                  rw [upd_same] at ha
                  cases ha
                  exact ⟨by omega, rfl⟩
                · rw [upd_ne _ _ _ h3] at ha
                  exact q2 id a hid ha
        · rw [if_neg hDm]
          exact ⟨q1, q2⟩
    obtain ⟨h1, hrest⟩ := ahi ops.size his (Nat.le_refl _)
    have h3 : ∀ id a, S1.length ≤ id → af S r D ops.size id = some a → a.f = false := fun id a hid ha => (hrest id a (by omega) ha).2
    have nomake : ∀ id, (S i).length ≤ id → id < S1.length → ∀ j, j < ops.size → D j = true → ¬ ((S j).length ≤ id ∧ id < (S (j + 1)).length) := by
      intro id h4 h5 j hj hDj hc
      rcases Nat.lt_trichotomy j i with h | rfl | h
      · have := hr.mono (i := j + 1) (j := i) h (by omega); omega
      · rw [hD] at hDj; cases hDj
      · have := hr.mono (i := i + 1) (j := j) h (by omega); omega
    have h2 : ∀ id, (S i).length ≤ id → id < S1.length → af S r D ops.size id = none ∧ μ id = none := fun id h4 h5 => by
      obtain ⟨f1, f2⟩ := hfr id (Nat.le_trans (hr.mono (Nat.zero_le _) (by omega)) h4) (nomake id h4 h5)
      exact ⟨f2, f1⟩
    have opf : f ∈ oi.op.operands := by rw [hop]; simp [Op.operands, Call.operands, hce]
    have opa : ∀ x ∈ c.args.toList, x ∈ oi.op.operands := fun x hx => by rw [hop]; simp [Op.operands, Call.operands, hce]; exact .inr (by simpa using hx)
    have hfv : VR w (Av X (af S r D ops.size) μ) μ (ev (e i) f) (a.eval f) := by rw [hcong f opf]; exact ev_sound hE2 f
    rw [hf] at hfv
    obtain ⟨us, vs, hv, hx, hy, rx, ry⟩ := hfv.fn_inv
    obtain ⟨fn, cd, e1', e2', e3', e4'⟩ := hcr _ _ _ _ _ hc
    have hrun : (execOp a.eval oi).run C.P w = .ok (.enter g ((us ++ c.args.map a.eval) ++ vs)) w := by
      simp [execOp, hop, resolve, hce, hv, Deferred.ofValue, invoke, callFunc, e1', e2', e3']
    have hargs : c.args.toList.map (ev (e i)) = c.args.toList.map (ev (trim (oi.looksAt ops) (e i))) := List.map_congr_left fun x hx => hcong x (opa x hx)
    have hrel := rel_app (R := VR w (Av X (af S r D ops.size) μ) μ) (x := first ++ c.args.toList.map (ev (e i))) (us := us ++ c.args.map a.eval) (y := caps) (vs := vs) (by simp [hx]) (rel_app hx rx (by rw [hargs]; exact rel_map hE2 c.args)) ry
    unfold Oper.wp
    rw [hrun]
    rw [Oper.upon_enter]
    refine Calls.mono (e4' w (loX X (af S r D ops.size) μ (S i).length) (loMu (S i).length μ) _ (hS.lo h1 (closedS_spec hcl)) (by simp [hx, hy]) (fun j pv u hp hu => ?_)) ?_
    · refine (hrel j pv u hp hu).mono (Keeps.less fun b hb => loAv h1 hb) fun x hx b hb => ?_
      have hlt : x < (S i).length := of_decide_eq_true (List.all_eq_true.1 hbl x (mem_refsL hp hx))
      simp only [loMu, if_pos hlt]
      exact hb
    · rintro e' w' ⟨z, μ', rfl, j1, j2, j4⟩
      obtain ⟨q1, q2, q3, q4⟩ := hS.hi h1 hl h2 h3 j1 j2 hbi
      have happ : (r i).app (af S r D ops.size) = over 0 S1 (af S r D ops.size) := by
        rw [hR1]
        simp only [Ef.app]
        funext id
        unfold over
        by_cases hlt : id < S1.length
        · by_cases hlo : lo0 ≤ id
          · rw [if_pos ⟨hlo, hlt⟩, if_pos ⟨Nat.zero_le _, hlt⟩]
          · rw [if_neg fun h => hlo h.1, if_pos ⟨Nat.zero_le _, hlt⟩]
            rcases hk with hk | ⟨_, h5, h6⟩
            · omega
            · rw [h1 id (by omega)]
              have : (S i)[id]? = S1[id]? := by
                rw [← h6, List.getElem?_take_of_lt (by omega)]
              unfold Vs.arrs
              rw [this]
        · rw [if_neg fun h => hlt h.2, if_neg fun h => hlt h.2]
      have hmu3 : ∀ id, overMu S1.length μ' μ id = μ id ∨ ((S i).length ≤ id ∧ id < (S (i + 1)).length) := fun id => by
        by_cases hlt : id < S1.length
        · by_cases hlt2 : id < (S i).length
          · left
            simp only [overMu, if_pos hlt]
            rw [j2.mu id hlt2]
            simp only [loMu, if_pos hlt2]
          · right; omega
        · left; simp only [overMu, if_neg hlt]
      refine hK _ _ (St.fin (n' := max n S1.length) hr hoi hD hD' (by rw [hR1]; rfl) hi hd hfr hE hdef hsz htr (fun id a h => by rw [hR1] at h; cases h) hmu (by rw [happ]; exact q1) (by rw [happ]; exact q2) (fun lo' B' hri id h4 h5 => ?_) hmu3 (fun id b h => ?_) (fun t ht => ?_))
      · rcases Nat.lt_or_ge id (S i).length with h6 | h6
        · exfalso
          obtain ⟨j, j1, j2, j3⟩ := maker hr h4 i (by omega) h6
          by_cases hDj : D j = true
          · exact h5 j (by omega) hDj ⟨j2, j3⟩
          · obtain ⟨_, _, hq⟩ := quiet j j1 (by simpa using hDj)
            omega
        · exact h6
      · rcases hmu3 id with h4 | h4
        · rw [h4]; exact h
        · rw [(h2 id h4.1 (by omega)).2] at h; cases h
      · rw [hE1, get_putD ht, happ]
        exact q4 _ _ j4
  | all q hw h =>
    have hkd := hK1
    rw [hwant _ hw]
    simp only [if_true]
    refine .inl ?_
    obtain ⟨q1, q2⟩ := all4 hkd
    have hA : af S r D ops.size = arrs (S i) := by
      rw [af_hi (i := i) (m := ops.size) (fun j h1 h2 => q2 j h1 h2) ops.size (by omega) (Nat.le_refl _), af_lo hr (by omega) q1 i (Nat.le_refl _)]
    rw [hA] at hS hE' htr
    have hfr' : ∀ id, (S i).length ≤ id → μ id = none ∧ arrs (S i) id = none := fun id hid => by
      have h0 : (S 0).length ≤ id := Nat.le_trans (hr.mono (Nat.zero_le _) (by omega)) hid
      rw [← hA]
      refine hfr id h0 fun k hk hDk hc => ?_
      have hki : k < i := by
        rcases Nat.lt_or_ge k i with h | h
        · exact h
        · rw [q2 k h hk] at hDk; cases hDk
      have := hr.mono (i := k + 1) (j := i) hki (by omega)
      omega
    subst hb
    refine ev2_sound (hS.relt hfr') hcp hcr rfl hbi (fun t => hE' t (.inr hkd)) h K Q fun v w' μ' k1 k2 k3 k4 k5 => hK _ _ ?_
    have hA' : af S r D' ops.size = arrs q.S := by
      rw [af_hi (i := i + 1) (m := ops.size) (fun j h1 h2 => by rw [hD' j, q2 j (by omega) h2, beq_eq_false_iff_ne.2 (by omega)]; rfl) ops.size his (Nat.le_refl _), af_lo hr his (fun j hj => ?_) (i + 1) (Nat.le_refl _), hS1]
      rw [hD' j]
      by_cases hji : j = i
      · subst hji; simp
      · rw [q1 j (by omega)]; rfl
    refine ⟨μ', q.S.length, by rw [hA']; exact k1, fun t => ?_, fun id h0 hno => ?_, by rw [put_defers']; exact hdef, by rw [put_size]; exact hsz, by rw [hA']; exact htr.trans k2⟩
    · rw [hA']
      have hgt : gf ops e r D' ops.size t = get (e (i + 1)) t := by
        rw [gf_hi (i := i + 1) (fun j oj hj hDj ho => ?_) ops.size his (Nat.le_refl _)]
        · refine gf_lo hr his (fun j oj hj ho => .inl ?_) (i + 1) (Nat.le_refl _)
          rw [hD' j]
          by_cases hji : j = i
          · subst hji; simp
          · rw [q1 j (by omega)]; rfl
        · exfalso
          rw [hD' j, q2 j (by omega) (Array.getElem?_eq_some_iff.1 ho).1, beq_eq_false_iff_ne.2 (by omega)] at hDj
          cases hDj
      rw [hgt, hE1]
      refine ER.putD (a := a) (fun t => ?_) (fun t ht => by rw [hsz]; exact hd t ht) k5 t
      rw [get_killE]
      exact k4 _ _ (hE' t (.inr hkd))
    · rw [hA']
      refine k1.lt id ?_
      rcases Nat.lt_or_ge id q.S.length with hlt | hge
      · rw [← hS1] at hlt
        obtain ⟨j, j1, j2, j3⟩ := maker hr h0 (i + 1) his hlt
        refine absurd ⟨j2, j3⟩ (hno j (by omega) ?_)
        rw [hD' j]
        by_cases hji : j = i
        · subst hji; simp
        · rw [q1 j (by omega)]; rfl
      · exact hge
theorem count_set {l : Array Bool} {i : Nat} (hi : i < l.size) (h : l.getD i true = false) : (l.setIfInBounds i true).toList.count false + 1 = l.toList.count false := by
  have hli : l.toList[i]'(by simpa using hi) = false := by simpa [Array.getD_eq_getD_getElem?, hi] using h
  rw [Array.toList_setIfInBounds, List.count_set (by simpa using hi), hli]
  have : 0 < l.toList.count false := List.count_pos_iff.2 (by rw [← hli]; exact List.getElem_mem _)
  show List.count false l.toList - 1 + 0 + 1 = List.count false l.toList
  omega
theorem draw_any (hr : Run C ops e S r kd) (hok : DrawS ops (Sw ops kd e)) (hcp : CPOK C.P C.cp) (hcr : CROK C.P C.cr) (hd : ∀ (i : Nat) (o : Oper), ops[i]? = some o → ∀ t, o.dst = some t → t < nt) (hb : C.base = base) (hb0 : base ≤ (S 0).length)
    {Q : Exit → Act → World → Prop} (hQ : ∀ D a w, (∀ j, j < ops.size → D j = true) → St ops e S r base nt X w0 A0 μ0 D a w → Q .normal a w) :
    ∀ (fuel : Nat) (l : Array Bool) (a : Act) (w : World), l.size = ops.size → l.toList.count false = fuel → Closed ops (fun j => l.getD j false) → St ops e S r base nt X w0 A0 μ0 (fun j => l.getD j false) a w → wpAny C.P .any ops Q fuel l a w := by
  intro fuel
  have same : ∀ (l : Array Bool) (j : Nat), l.size = ops.size → j < ops.size → l.getD j true = l.getD j false := fun l j h1 h2 => by
    simp [Array.getD_eq_getD_getElem?, h1, h2]
  have done : ∀ (l : Array Bool) (a : Act) (w : World), l.size = ops.size → St ops e S r base nt X w0 A0 μ0 (fun j => l.getD j false) a w → Region.ready .any ops l = [] → Q .normal a w := fun l a w hl hSt hre => by
    refine hQ _ a w (fun j hj => ?_) hSt
    induction j using Nat.strongRecOn with
    | _ j ih =>
      show l.getD j false = true
      cases hq : l.getD j false with
      | true => rfl
      | false =>
        have hm : j ∈ Region.ready .any ops l := mem_ready.2 ⟨by rw [same l j hl hj]; exact hq, ops[j], Array.getElem?_eq_getElem hj, fun ed he hbd => by
          have hlt := (hok j _ (Array.getElem?_eq_getElem hj)).1 ed he hbd
          exact ih ed.on hlt (by omega)⟩
        rw [hre] at hm
        cases hm
  induction fuel with
  | zero =>
    intro l a w hl hc hcl hSt
    have hre : Region.ready .any ops l = [] := by
      cases hq : Region.ready .any ops l with
      | nil => rfl
      | cons j rest =>
        have hm : j ∈ Region.ready .any ops l := by rw [hq]; simp
        obtain ⟨h1, o, h2, _⟩ := mem_ready.1 hm
        have hj := (Array.getElem?_eq_some_iff.1 h2).1
        have := count_set (l := l) (i := j) (by omega) h1
        omega
    exact ⟨hre, done l a w hl hSt hre⟩
  | succ fuel ih =>
    intro l a w hl hc hcl hSt
    refine ⟨fun hre => done l a w hl hSt hre, fun i hi => ?_⟩
    obtain ⟨h1, o, h2, h3⟩ := mem_ready.1 hi
    have his := (Array.getElem?_eq_some_iff.1 h2).1
    have hD' : ∀ j, (l.setIfInBounds i true).getD j false = (l.getD j false || j == i) := fun j => by
      by_cases hji : j = i
      · subst hji
        simp [Array.getD_eq_getD_getElem?, hl, his]
      · rw [getD_set_ne false (fun h => hji h.symm), beq_eq_false_iff_ne.2 hji, Bool.or_false]
    refine St.step (D' := fun j => (l.setIfInBounds i true).getD j false) hr hok hcl hcp hcr h2 (by rw [← same l i hl his]; exact h1) h3 hD' (hd i o h2) hb hb0 hSt fun a' w' hSt' => ?_
    refine ih (l.setIfInBounds i true) a' w' (by simp [hl]) (by have := count_set (l := l) (i := i) (by omega) h1; omega) (fun j oj hj hoj ed he hbd => ?_) hSt'
    simp only [hD'] at hj ⊢
    rcases Bool.or_eq_true_iff.1 hj with hj | hj
    · have hx : l.getD ed.on false = true := hcl j oj hj hoj ed he hbd
      rw [hx]; rfl
    · have hji : j = i := by simpa using hj
      subst hji
      rw [h2] at hoj; cases hoj
      have hx : l.getD ed.on false = true := h3 ed he hbd
      rw [hx]; rfl
theorem runOps_run {ops : Array Oper} : ∀ (l : List Oper) {e0 e' : Env} {S0 S' : Store}, runOps C ops l e0 S0 = some (e', S') → ∃ (e : Nat → Env) (S : Nat → Store) (r : Nat → Ef), e 0 = e0 ∧ S 0 = S0 ∧ e l.length = e' ∧ S l.length = S' ∧
    ∀ j o, l[j]? = some o → EfOK C ops o (e j) (S j) (e (j + 1)) (S (j + 1)) (r j) (kind C.H o (e j)) ∧ (kindsOf C ops l e0 S0)[j]? = some (kind C.H o (e j) + 8 * touch o (e j)) ∧ stepOp C ops o (e j) (S j) = some (e (j + 1), S (j + 1))
  | [], e0, e', S0, S', h => by
    simp only [runOps, Option.some.injEq, Prod.mk.injEq] at h
    obtain ⟨rfl, rfl⟩ := h
    exact ⟨fun _ => e0, fun _ => S0, fun _ => .all (arrs S0), rfl, rfl, rfl, rfl, by simp⟩
  | o :: l, e0, e', S0, S', h => by
    simp only [runOps] at h
    obtain ⟨⟨e1, S1⟩, h1, h2⟩ := bind_some h
    obtain ⟨e, S, r, k1, k2, k3, k4, k5⟩ := runOps_run l h2
    obtain ⟨ef, hef⟩ := efOK h1
    refine ⟨fun j => match j with | 0 => e0 | j + 1 => e j, fun j => match j with | 0 => S0 | j + 1 => S j, fun j => match j with | 0 => ef | j + 1 => r j, rfl, rfl, k3, k4, fun j o' ho => ?_⟩
    cases j with
    | zero => simp at ho; subst ho; simp only [k1, k2]; exact ⟨hef, by simp [kindsOf], h1⟩
    | succ j =>
      simp at ho
      refine ⟨(k5 j o' ho).1, ?_⟩
      simp only [kindsOf, h1, List.getElem?_cons_succ]
      exact (k5 j o' ho).2
theorem get_putD_ne {e : Env} {d : Option Nat} {v : PV} {t : Nat} (h : d ≠ some t) : get (putD e d v) t = get e t := by
  cases d with
  | none => rfl
  | some u =>
    simp only [putD, get_put]
    rw [if_neg (fun h2 => h (by rw [h2]))]
theorem exact_slice_mx {ti : TI} {n : Nat} {S : Store} {x m v : PV} {lo hi : Option PV} (h : evSlice ti n S x lo hi (some m) = some v) : exact v = true := by
  unfold evSlice at h
  split at h
  · cases h
  · obtain ⟨_, _, h⟩ := bind_some h
    obtain ⟨_, _, h⟩ := bind_some h
    obtain ⟨_, _, h⟩ := bind_some h
    split at h
    · cases h; rfl
    · cases h
  · obtain ⟨_, _, h⟩ := bind_some h
    obtain ⟨_, _, h⟩ := bind_some h
    obtain ⟨_, _, h⟩ := bind_some h
    obtain ⟨_, _, h⟩ := bind_some h
    split at h
    · cases h; rfl
    · cases h
  · cases h
theorem freshAt_exact {ops : Array Oper} {e : Nat → Env} {S : Nat → Store} (hs : ∀ j o, ops[j]? = some o → stepOp C ops o (e j) (S j) = some (e (j + 1), S (j + 1))) {t : Nat} : ∀ j, freshAt ops t j = true → exact (get (e j) t) = true
  | 0, h => by cases h
  | j + 1, h => by
    simp only [freshAt] at h
    cases hp : ops[j]? with
    | none => rw [hp] at h; cases h
    | some p =>
      rw [hp] at h
      simp only at h
      have hst := hs j p hp
      unfold stepOp at hst
      obtain ⟨w, h1, h2⟩ := bind_some hst
      by_cases hd : p.dst = some t
      · rw [if_pos hd] at h
        simp only [Bool.and_eq_true] at h
        obtain ⟨hg, hop⟩ := h
        have hw : w = true := by
          unfold wantedV at h1
          cases hgd : p.guard with
          | none => rw [hgd] at h1; simpa using h1.symm
          | some _ => rw [hgd] at hg; cases hg
        subst hw
        simp only [if_true] at h2
        cases ho : p.op <;> rw [ho] at hop <;> simp only [Bool.false_eq_true] at hop
        case buildSlice ty len parts =>
          rw [if_neg (by simp [isEff, ho])] at h2
          obtain ⟨r, h3, h4⟩ := map_some h2
          simp only [Prod.mk.injEq] at h4
          rw [h4.1, hd]
          simp only [putD, get_put, if_true]
          simp only [ev1, ho] at h3
          split at h3
          · split at h3
            · cases h3; rfl
            · cases h3
          · cases h3
        case slice ty x lo hi mx =>
          rw [if_neg (by simp [isEff, ho])] at h2
          obtain ⟨r, h3, h4⟩ := map_some h2
          simp only [Prod.mk.injEq] at h4
          rw [h4.1, hd]
          simp only [putD, get_put, if_true]
          simp only [ev1, ho] at h3
          split at h3
          · cases h3
          · obtain ⟨v, h5, rfl⟩ := map_some h3
            cases mx with
            | none => cases hop
            | some m => exact exact_slice_mx (by simpa using h5)
      · rw [if_neg hd] at h
        simp only [Bool.and_eq_true] at h
        have ih := freshAt_exact hs j h.2
        have key : get (e (j + 1)) t = get (e j) t := by
          cases w with
          | false =>
            simp only [Bool.false_eq_true, if_false, Option.some.injEq, Prod.mk.injEq] at h2
            rw [← h2.1, get_putD_ne hd]
          | true =>
            simp only [if_true] at h2
            by_cases he : isEff C.H p (e j) = true
            · rw [if_pos he] at h2
              obtain ⟨r, h3, h4⟩ := map_some h2
              simp only [Prod.mk.injEq] at h4
              have hk : r.kill = [] := by
                cases ho : p.op <;> simp only [isEff, ho, Bool.false_eq_true] at he
                case store ty a v =>
                  simp only [ev2, ho] at h3
                  split at h3
                  · obtain ⟨_, _, rfl⟩ := map_some h3; rfl
                  · cases h3
                case call c =>
                  have ht := h.1
                  simp only [tame, ho] at ht
                  cases hc : c.callee with
                  | invoke _ _ => rw [hc] at ht; cases ht
                  | value _ => rw [hc] at ht; cases ht
                  | builtin b => rw [hc] at ht he; cases b <;> simp only [Bool.false_eq_true] at ht he
              rw [h4.1, hk, get_putD_ne hd]
              rfl
            · rw [if_neg he] at h2
              obtain ⟨r, h3, h4⟩ := map_some h2
              simp only [Prod.mk.injEq] at h4
              rw [h4.1, get_putD_ne hd]
        rw [key]; exact ih
theorem kindS_spec {H : Hints} {ops : Array Oper} {j : Nat} {o : Oper} (ho : ops[j]? = some o) (e : Env) (hf : ∀ t, freshAt ops t j = true → exact (get e t) = true) : kindS H ops j = 4 ∨ kindS H ops j = kind H o e := by
  unfold kindS
  rw [ho]
  simp only
  cases hop : o.op
  case call c =>
    simp only
    cases hc : c.callee with
    | invoke x m => right; simp [kind, isEff, hop, hc]
    | value f =>
      cases f with
      | func g => right; simp [kind, isEff, hop, hc, ev]
      | tmp t => left; simp [kind, isEff, hop, hc, ev, Vs.get]
      | const t =>
        simp only [kind, isEff, hop, hc, ev, if_true]
        right; trivial
      | global t => left; simp [kind, isEff, hop, hc, ev]
    | builtin b =>
      cases b <;> simp only <;> try (right; simp [kind, isEff, hop, hc]; done)
      cases ha : c.args[0]? with
      | none => left; rfl
      | some x =>
        cases x with
        | tmp t =>
          simp only
          split
          · rename_i hfr
            right
            have := hf t hfr
            simp [kind, isEff, hop, hc, ha, ev, this]
          · left; rfl
        | _ => simp only [true_or] <;> (right; simp [kind, isEff, hop, hc, ha, ev])
  all_goals (right; simp [kind, isEff, hop])
theorem kind_lt (H : Hints) (o : Oper) (e : Env) : kind H o e < 8 := by
  unfold kind
  repeat' split
  all_goals omega
theorem region_sound (hm : C.P.follows .mixedOrders = true) (hcp : CPOK C.P C.cp) (hcr : CROK C.P C.cr) (hb : C.base = base) {id : Nat} {draw : Bool} (hd : ∀ o ∈ ops, ∀ t, o.dst = some t → t < nt) {e0 e' : Env} {S0 S' : Store} {a : Act} {w : World}
    (hN : Now base nt X w0 A0 μ0 e0 S0 a w) (h : runRegion C ops draw e0 S0 = some (e', S')) {Q : Exit → Act → World → Prop} (hQ : ∀ a' w', Now base nt X w0 A0 μ0 e' S' a' w' → Q .normal a' w') : (Code.region id ops draw).wp C.P Q a w := by
  cases draw with
  | false =>
    simp only [runRegion, Bool.false_eq_true, if_false] at h
    exact wp_region_list (runOps_sound hcp hcr hb ops.toList (fun o ho => hd o (by simpa using ho)) hN h hQ)
  | true =>
    simp only [runRegion, if_true] at h
    split at h
    case isFalse => cases h
    rename_i hok
    obtain ⟨e, S, r, k1, k2, k3, k4, k5⟩ := runOps_run ops.toList h
    have hr0 : ∀ j o, ops[j]? = some o → EfOK C ops o (e j) (S j) (e (j + 1)) (S (j + 1)) (r j) (kind C.H o (e j)) ∧ (kindsOf C ops ops.toList e0 S0)[j]? = some (kind C.H o (e j) + 8 * touch o (e j)) := fun j o ho => ⟨(k5 j o (by rw [Array.getElem?_toList]; exact ho)).1, (k5 j o (by rw [Array.getElem?_toList]; exact ho)).2.1⟩
    obtain ⟨kd, hkd⟩ : ∃ kd : Nat → Nat, ∀ j, kd j = (kindsOf C ops ops.toList e0 S0).getD j 0 % 8 := ⟨_, fun _ => rfl⟩
    have hcd : ∀ j o, ops[j]? = some o → (kindsOf C ops ops.toList e0 S0).getD j 0 = kind C.H o (e j) + 8 * touch o (e j) := fun j o ho => by rw [List.getD_eq_getElem?_getD, (hr0 j o ho).2]; rfl
    have hkd' : ∀ j o, ops[j]? = some o → kd j = kind C.H o (e j) := fun j o ho => by rw [hkd, hcd j o ho]; have := kind_lt C.H o (e j); omega
    have hr : Run C ops e S r kd := ⟨fun j o ho => by rw [hkd' j o ho]; exact (hr0 j o ho).1⟩
    replace hok : DrawS ops (Sw ops kd e) := by
      rcases Bool.or_eq_true_iff.1 hok with hok | hok
      · refine (drawOK_spec hok).mono fun i j p o hp ho hs => ?_
        have ks : ∀ j o, ops[j]? = some o → kindS C.H ops j = 4 ∨ kindS C.H ops j = kd j := fun j o ho => by
          rw [hkd' j o ho]
          exact kindS_spec ho (e j) fun t => freshAt_exact (C := C) (e := e) (S := S) (fun j o ho => (k5 j o (by rw [Array.getElem?_toList]; exact ho)).2.2) j
        have lt : ∀ j o, ops[j]? = some o → kindS C.H ops j < 8 := fun j o ho => by
          have := kind_lt C.H o (e j)
          rcases ks j o ho with h | h
          · omega
          · rw [h, hkd' j o ho]; exact this
        have l1 := lt i p hp
        have l2 := lt j o ho
        rw [Nat.mod_eq_of_lt l1, Nat.mod_eq_of_lt l2, Nat.div_eq_of_lt l1] at hs
        rcases hs with hs | ⟨_, hs⟩
        · obtain ⟨_, n1, n2, _⟩ := swapOK_spec hs
          rw [(ks i p hp).resolve_left n1, (ks j o ho).resolve_left n2] at hs
          exact .inl hs
        · simp [farK] at hs
      · refine (drawOK_spec hok).mono fun i j p o hp ho hs => ?_
        have c1 := hcd i p hp
        have c2 := hcd j o ho
        have l1 := kind_lt C.H p (e i)
        have l2 := kind_lt C.H o (e j)
        simp only [c1, c2] at hs
        have m1 : (kind C.H p (e i) + 8 * touch p (e i)) % 8 = kd i := by rw [hkd' i p hp]; omega
        have m2 : (kind C.H o (e j) + 8 * touch o (e j)) % 8 = kd j := by rw [hkd' j o ho]; omega
        have d1 : (kind C.H p (e i) + 8 * touch p (e i)) / 8 = touch p (e i) := by omega
        have d2 : (kind C.H o (e j) + 8 * touch o (e j)) / 8 = touch o (e j) := by omega
        rw [m1, m2, d1, d2] at hs
        rcases hs with hs | ⟨ha, hs⟩
        · exact .inl hs
        · simp only [farK, Bool.and_eq_true, Bool.or_eq_true, beq_iff_eq, Bool.not_eq_true', beq_eq_false_iff_ne] at hs
          exact .inr ⟨ha, hs.1.1.1.1, hs.1.1.1.2, hs.1.1.2, hs.1.2, hs.2⟩
    have hlen : ops.toList.length = ops.size := Array.length_toList
    rw [hlen] at k3 k4
    obtain ⟨μ, hS, hE, hbase, hdef, hsz, htr⟩ := hN
    refine wp_region_any hm (draw_any (nt := nt) (X := X) (w0 := w0) (A0 := A0) (μ0 := μ0) (base := base) hr hok hcp hcr (fun i o ho => hd o (Array.mem_of_getElem? ho)) hb (by rw [k2]; exact hbase) (fun D a w hall hSt => ?_) ops.size _ a _ (by simp) (by simp) (fun j o hj => ?_) ?_)
    · obtain ⟨μ, n, s1, s2, s3, s4, s5, s6⟩ := hSt
      have hA : af S r D ops.size = arrs (S ops.size) := af_lo hr (Nat.le_refl _) (fun j hj => hall j hj) ops.size (Nat.le_refl _)
      refine hQ a w ⟨μ, ?_, fun t => ?_, ?_, s4, s5, ?_⟩
      · rw [← k4, ← hA]
        refine s1.relt fun id hid => s3 id (Nat.le_trans (hr.mono (Nat.zero_le _) (Nat.le_refl _)) hid) fun j hj _ hc => ?_
        have := hr.mono (i := j + 1) (j := ops.size) hj (Nat.le_refl _)
        omega
      · rw [← k4, ← hA, ← k3, ← gf_full hr hall t]
        exact s2 t
      · rw [← k4]
        exact Nat.le_trans (by rw [← k2] at hbase; exact hbase) (hr.mono (Nat.zero_le _) (Nat.le_refl _))
      · rw [← k4, ← hA]; exact s6
    · simp [Array.getD_eq_getD_getElem?, Array.getElem?_replicate] at hj
      split at hj <;> simp at hj
    · have hnone : ∀ j, (Array.replicate ops.size false).getD j false = false := fun j => by
        simp only [Array.getD_eq_getD_getElem?, Array.getElem?_replicate]
        split <;> rfl
      obtain ⟨t1, t2⟩ := hS.same (w' := { w with drawn := w.drawn + 1 }) rfl rfl rfl rfl base
      have hA : af S r (fun j => (Array.replicate ops.size false).getD j false) ops.size = arrs S0 := by
        rw [af_hi (i := 0) (m := ops.size) (fun j _ _ => hnone j) ops.size (Nat.zero_le _) (Nat.le_refl _)]
        show arrs (S 0) = _
        rw [k2]
      have hg : ∀ t, gf ops e r (fun j => (Array.replicate ops.size false).getD j false) ops.size t = get e0 t := fun t => by
        rw [gf_hi (i := 0) (fun j oj _ hj _ => by rw [hnone j] at hj; cases hj) ops.size (Nat.zero_le _) (Nat.le_refl _)]
        show get (e 0) t = _
        rw [k1]
      refine ⟨μ, S0.length, by rw [hA]; exact t1, fun t => by rw [hA, hg]; exact (hE t).mono t2.keeps fun _ _ _ h => h, fun id h0 _ => ?_, hdef, hsz, by rw [hA]; exact htr.trans t2⟩
      rw [hA]
      rw [k2] at h0
      exact hS.lt id h0
end
end Go.Vs
