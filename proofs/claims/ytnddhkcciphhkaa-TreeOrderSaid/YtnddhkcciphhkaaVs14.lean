/- Operations that write: what the machine's run comes to (4): copies. -/
import Derived.Test.YtnddhkcciphhkaaVs13
set_option linter.unusedVariables false
set_option linter.unusedSimpArgs false
namespace Go.Vs
open Go

section
variable {P : Program} {w : World} {X : Nat → Prop} {A : Arrs} {n : Nat} {μ : Mu} {av : Nat → Prop} {S : Store}
/-- What a copy reads, cell by cell. -/
theorem src_cells (hS : SR w X A n μ) (hSA : Sees S A μ) {y : PV} {v : Value} (hv : VR w (Av X (A) μ) μ y v) {new : List (List PV)} (hy : rowsIn S y = some new) {sz : Nat} (hok : rowsOK sz new = true) :
    ∃ (news : List Value) (a : Option Addr) (cap : Nat), v = .slice a new.length cap ∧ news.length = new.length * sz ∧ (a = none → new = []) ∧ (∀ ad, a = some ad → ∀ j u, news[j]? = some u → w.cell? (ad.add j) = some u) ∧ (∀ u ∈ news, u.oneCell' = true) ∧ (∀ i row j pv, new[i]? = some row → row[j]? = some pv → ∃ u, news[i * sz + j]? = some u ∧ flat u = true ∧ VR w (Av X (A) μ) μ pv u) := by
  have key : ∀ (a : Option Addr) (ad : Addr) (cap : Nat), (new ≠ [] → a = some ad) → (a = none → new = []) → (∀ i row j pv, new[i]? = some row → row[j]? = some pv → ∃ u, w.cell? (ad.add (i * sz + j)) = some u ∧ flat u = true ∧ VR w (Av X (A) μ) μ pv u) →
      ∃ (news : List Value) (a' : Option Addr) (cap' : Nat), Value.slice a new.length cap = .slice a' new.length cap' ∧ news.length = new.length * sz ∧ (a' = none → new = []) ∧ (∀ ad, a' = some ad → ∀ j u, news[j]? = some u → w.cell? (ad.add j) = some u) ∧ (∀ u ∈ news, u.oneCell' = true) ∧ (∀ i row j pv, new[i]? = some row → row[j]? = some pv → ∃ u, news[i * sz + j]? = some u ∧ flat u = true ∧ VR w (Av X (A) μ) μ pv u) := by
    intro a ad cap h1 h2 h3
    cases a with
    | none =>
      have := h2 rfl
      subst this
      exact ⟨[], none, cap, rfl, by simp, fun _ => rfl, by simp, by simp, by simp⟩
    | some a =>
      have hcell : ∀ k, k < new.length * sz → ∃ u, w.cell? (a.add k) = some u ∧ flat u = true := by
        intro k hk
        have hsz : 0 < sz := by rcases Nat.eq_zero_or_pos sz with h | h; · subst h; simp at hk
                                · exact h
        have hq : k / sz < new.length := by rw [Nat.div_lt_iff_lt_mul hsz]; exact hk
        have hne : new ≠ [] := by intro h0; subst h0; simp at hk
        have had : a = ad := by simpa using h1 hne
        have hrow : new[k / sz]? = some (new[k / sz]'hq) := List.getElem?_eq_getElem hq
        have hrl := rowsOK_spec hok _ (List.mem_of_getElem? hrow)
        have hj : k % sz < (new[k / sz]'hq).length := by rw [hrl]; exact Nat.mod_lt _ hsz
        obtain ⟨u, hu, hf, _⟩ := h3 (k / sz) _ (k % sz) _ hrow (List.getElem?_eq_getElem hj)
        rw [had]
        have e : k / sz * sz + k % sz = k := by rw [Nat.mul_comm]; exact Nat.div_add_mod k sz
        rw [e] at hu
        exact ⟨u, hu, hf⟩
      refine ⟨(List.range (new.length * sz)).map fun k => (w.cell? (a.add k)).getD undef, some a, cap, rfl, by simp, by simp, (fun ad he j u hu => ?_), (fun u hu => ?_), fun i row j pv hi hj => ?_⟩
      · cases he
        rw [List.getElem?_map] at hu
        by_cases hjl : j < new.length * sz
        · rw [List.getElem?_range hjl] at hu
          obtain ⟨q, hq, _⟩ := hcell j hjl
          simp [hq] at hu; subst hu; exact hq
        · rw [List.getElem?_eq_none (by simpa using hjl)] at hu; cases hu
      · obtain ⟨k, hk, rfl⟩ := List.mem_map.1 hu
        obtain ⟨q, hq, hf⟩ := hcell k (List.mem_range.1 hk)
        rw [hq]; exact flat_oneCell hf
      · obtain ⟨u, hu, hf, hr⟩ := h3 i row j pv hi hj
        have hne : new ≠ [] := by intro h0; subst h0; simp at hi
        have had : a = ad := by simpa using h1 hne
        have hil := (List.getElem?_eq_some_iff.1 hi).1
        have hjl := (List.getElem?_eq_some_iff.1 hj).1
        rw [rowsOK_spec hok _ (List.mem_of_getElem? hi)] at hjl
        have hlt : i * sz + j < new.length * sz := by
          have : (i + 1) * sz ≤ new.length * sz := Nat.mul_le_mul_right _ (by omega)
          rw [Nat.add_mul] at this; omega
        refine ⟨u, ?_, hf, hr⟩
        rw [List.getElem?_map, List.getElem?_range hlt]
        simp [had, hu]
  cases y <;> simp only [rowsIn, reduceCtorEq, Option.some.injEq] at hy
  case sl rows ex =>
    subst hy
    cases hv with | fr hv =>
    cases hv with | sl _ _ a cap ad s c hcap hex ha had hsz hc hr =>
    refine key a ad cap had (fun h => List.eq_nil_of_length_eq_zero (by have := ha h; omega)) (fun i row j pv hi hj => ?_)
    have e : s = sz := by rw [← hsz _ (List.mem_of_getElem? hi)]; exact rowsOK_spec hok _ (List.mem_of_getElem? hi)
    have := hc i row j pv hi hj
    rw [e] at this
    exact ⟨_, this.1, FR.flat _ _ (hr i row j pv hi hj), .fr (hr i row j pv hi hj)⟩
  case msl id off len ex =>
    cases hr : rowsAt S id with
    | none => rw [hr] at hy; cases hy
    | some rows =>
      rw [hr] at hy
      simp only [Option.bind_some] at hy
      split at hy
      · rename_i hle
        simp at hy
        have hlen : new.length = len := by rw [← hy]; simp; omega
        cases hv with
        | fr hv => cases hv
        | mslNil _ _ a =>
          have hnew : new = [] := List.eq_nil_of_length_eq_zero hlen
          subst hnew
          exact key a default 0 (fun h => absurd rfl h) (fun _ => rfl) (by simp)
        | msl _ _ _ _ ad cap b hb hlenc htot hex had =>
          obtain ⟨g, f, ha⟩ := rowsAt_some hSA hr hb
          have k := key (some ad) ad cap (fun _ => rfl) (by simp) (fun i row j pv hi hj => by
            rw [← hy, List.getElem?_take] at hi
            split at hi
            · rename_i hil
              rw [List.getElem?_drop] at hi
              obtain ⟨h1, h2⟩ := hS.row ha hb hi
              obtain ⟨u, hu1, hu2, hu3⟩ := h2 j pv hj
              have hbs : b.sz = sz := by
                rw [← h1]
                refine rowsOK_spec hok _ ?_
                rw [← hy]
                refine List.mem_of_getElem? (i := i) ?_
                rw [List.getElem?_take_of_lt hil, List.getElem?_drop]; exact hi
              refine ⟨u, ?_, hu2, hu3⟩
              rw [had (by omega), add_plain, ← hbs, ← Nat.add_assoc, ← Nat.add_mul]; exact hu1
            · cases hi)
          rw [hlen] at k ⊢
          exact k
      · cases hy

theorem copy_sound (hS : SR w X (arrs S) n μ) {base : Nat} {t tx el e' ty : TypeId} (hd : (tyi P t).d = .slice el) (hk : (tyi P el).known = true) {x y : PV} {u v : Value} (hx : VR w (Av X (arrs S) μ) μ x u) (hy : VR w (Av X (arrs S) μ) μ y v) {out : Eff} (h : evCopy (tyi P el).size S x y = some out) :
    ∃ r w', (Builtin.copy_ #[t, tx] ty #[u, v]).run P w = .ok r w' ∧ SR w' X (arrs out.S) n μ ∧ Tr base w (arrs S) μ w' (arrs out.S) μ ∧ VR w' (Av X (arrs out.S) μ) μ out.v r ∧ out.S.length = S.length ∧ out.kill = [] := by
  obtain ⟨d0, i0, hd0, hi0, hs0, _⟩ := tyi_known hk
  have ht := tyi_slice hd
  cases x <;> simp only [evCopy, reduceCtorEq] at h
  case msl id off len ex =>
  cases hid : S[id]? with
  | none => rw [hid] at h; cases h
  | some o =>
  rw [hid] at h
  cases o with
  | gone => cases h
  | arr rows g f =>
  cases f with
  | true => cases h
  | false =>
  simp only at h
  cases hnew : rowsIn S y with
  | none => rw [hnew] at h; cases h
  | some src =>
  rw [hnew] at h
  simp only [Option.bind_some] at h
  split at h
  case isFalse => cases h
  rename_i hc
  obtain ⟨c1, c2, c3⟩ := hc
  cases h
  have hA := arrs_get hid
  obtain ⟨news, a, cap, hv, hnl, hnn, hcs, hone, hnw⟩ := src_cells hS (Sees.refl S μ) hy hnew c3
  subst hv
  -- the cells read
  have hfc : ∀ m, m ≤ src.length → (Builtin.firstCells i0.size m (.slice a src.length cap)).run P w = .ok (news.take (m * i0.size)).toArray w := by
    intro m hm
    cases a with
    | none =>
      have := hnn rfl; subst this
      have : news = [] := List.eq_nil_of_length_eq_zero (by rw [hnl]; simp)
      subst this
      simp [Builtin.firstCells]
    | some ad =>
      have hl := run_loadCells_list (P := P) w ad (news.take (m * i0.size)) (fun j u hj => by
        rw [List.getElem?_take] at hj
        split at hj
        · exact hcs ad rfl j u hj
        · cases hj)
      have e : (news.take (m * i0.size)).length = m * i0.size := by
        rw [List.length_take, hnl, hs0]
        have := Nat.mul_le_mul_right (tyi P el).size hm
        omega
      rw [e] at hl
      exact hl
  have hmin : Nat.min src.length len = min src.length len := rfl
  have hrun0 : ∀ (base : Option Addr) (c : Nat) (w' : World), (∀ b, base = some b → (storeCells b (news.take (min src.length len * i0.size))).run P w = .ok () w') → (base = none → w' = w) →
      (Builtin.copy_ #[t, tx] ty #[.slice base len c, .slice a src.length cap]).run P w = .ok (goInt ((min src.length len : Nat) : Int)) w' := by
    intro base c w' h1 h2
    have := hfc (min src.length len) (Nat.min_le_left _ _)
    cases base with
    | none =>
      have h2 := h2 rfl
      subst h2
      simp [Builtin.copy_, run_underlying ht, Builtin.lenOf, sizeOf, typeInfo, hi0, hmin, this]
      try (congr 1; omega)
    | some b =>
      have h1 := h1 b rfl
      simp [Builtin.copy_, run_underlying ht, Builtin.lenOf, sizeOf, typeInfo, hi0, hmin, this, h1]
      try (congr 1; omega)
  have hlS := (List.getElem?_eq_some_iff.1 hid).1
  -- nothing is copied
  have none' : min src.length len = 0 → ∀ b c, u = .slice b len c → ∃ r w', (Builtin.copy_ #[t, tx] ty #[u, .slice a src.length cap]).run P w = .ok r w' ∧ SR w' X (arrs (S.set id (.arr (rows.take off ++ src.take len ++ rows.drop (off + min src.length len)) g false))) n μ ∧ Tr base w (arrs S) μ w' (arrs (S.set id (.arr (rows.take off ++ src.take len ++ rows.drop (off + min src.length len)) g false))) μ ∧ VR w' (Av X (arrs (S.set id (.arr (rows.take off ++ src.take len ++ rows.drop (off + min src.length len)) g false))) μ) μ (.int .i64 (min src.length len : Nat)) r ∧ (S.set id (.arr (rows.take off ++ src.take len ++ rows.drop (off + min src.length len)) g false)).length = S.length ∧ ([] : List Nat) = [] := fun h0 b c hu => by
    have e1 : rows.take off ++ src.take len ++ rows.drop (off + min src.length len) = rows := by
      have : src.take len = [] := List.eq_nil_of_length_eq_zero (by rw [List.length_take]; omega)
      rw [this, h0]; simp
    have e2 : S.set id (.arr rows g false) = S := by
      apply List.ext_getElem?
      intro k
      rw [List.getElem?_set]
      split
      · rename_i hk; subst hk; first | rw [if_pos hlS, hid] | rw [hid]
      · rfl
    subst hu
    have := hrun0 b c w (fun b _ => by rw [h0]; simp [storeCells]) (fun _ => rfl)
    rw [e1, e2]
    exact ⟨_, _, this, hS, Tr.refl _ _ _ _, .fr (.int .i64 _), rfl, rfl⟩
  cases hx with
  | fr hx => cases hx
  | mslNil _ _ b => exact none' (by omega) b 0 rfl
  | msl _ _ _ _ ad cp b hb hlen htot hex had =>
  by_cases h0 : min src.length len = 0
  · exact none' h0 (some ad) cp rfl
  · have had' := had (by omega)
    subst had'
    obtain ⟨c, el0, hh, htt, hrt, hsz, hcell⟩ := hS.blk id _ hA b hb
    replace hrt : rows.length * b.sz ≤ b.tot := hrt
    replace hsz : ∀ r ∈ rows, r.length = b.sz := hsz
    have hbsz : b.sz = i0.size := by
      have hr0 : rows[off]? = some (rows[off]'(by omega)) := List.getElem?_eq_getElem (by omega)
      rw [← hsz _ (List.mem_of_getElem? hr0), hs0]
      exact rowsOK_spec c2 _ (List.mem_of_getElem? hr0)
    obtain ⟨m, hm⟩ : ∃ m, m = min src.length len := ⟨_, rfl⟩
    rw [← hm] at h0 hrun0
    have hms : m ≤ src.length := by omega
    have hml : m ≤ len := by omega
    have hvl : (news.take (m * i0.size)).length = m * b.sz := by
      rw [List.length_take, hnl, hbsz, ← hs0]
      have := Nat.mul_le_mul_right i0.size hms
      omega
    have hfit : off * b.sz + (news.take (m * i0.size)).length ≤ c.toList.length := by
      rw [hvl, ← Nat.add_mul, show c.toList.length = c.size from Array.length_toList, htt]
      exact Nat.le_trans (Nat.mul_le_mul_right _ (by omega)) hrt
    have hst := run_storeCells_at P b.b (off * b.sz) el0 (news.take (m * i0.size)) 0 c w hh (by rw [Nat.add_zero]; simpa using hfit) (fun u hu => hone u (List.mem_of_mem_take hu))
    simp only [Nat.add_zero] at hst
    have hrun := hrun0 (some ⟨b.b, off * b.sz, none⟩) cp _ (fun b' hb' => by cases hb'; exact hst) (by simp)
    have est : src.take len = src.take m := by
      rw [hm]
      by_cases hle : src.length ≤ len
      · rw [Nat.min_eq_left hle, List.take_of_length_le hle, List.take_of_length_le (Nat.le_refl _)]
      · rw [Nat.min_eq_right (by omega)]
    have etl : (src.take m).length = m := by rw [List.length_take]; omega
    have erow : rows.take off ++ src.take len ++ rows.drop (off + min src.length len) = rows.take off ++ src.take m ++ rows.drop (off + (src.take m).length) := by rw [est, etl, hm]
    have hA' := arrs_set (S := S) hlS (o := Obj.arr (rows.take off ++ src.take len ++ rows.drop (off + min src.length len)) g false) rfl
    have erl : (rows.take off ++ src.take m ++ rows.drop (off + (src.take m).length)).length = rows.length := takedrop_len _ _ _ (by rw [etl]; omega)
    obtain ⟨k1, k2, k3⟩ := hS.rewrite hA rfl (bk := b) (.inl hb) (base := base) (.inl hb) (w' := w.setRow b.b (c.toList.take (off * b.sz) ++ news.take (m * i0.size) ++ c.toList.drop (off * b.sz + (news.take (m * i0.size)).length)).toArray)
      rfl rfl rfl (by rw [size_setRow]; exact Nat.le_refl _) (fun k _ hk => heap_setRow hk)
      (A' := arrs (S.set id (.arr (rows.take off ++ src.take len ++ rows.drop (off + min src.length len)) g false))) (a' := ⟨rows.take off ++ src.take len ++ rows.drop (off + min src.length len), g, false⟩) (by rw [hA', upd_same]) rfl (fun k hg => by
        have hg' : g = some k := hg
        obtain ⟨q1, q2⟩ := hS.gsz id _ hA
        cases k with
        | none => rw [q1 hg'] at hb; cases hb
        | some k => rw [q2 k hg' b hb])
      (fun j hj b' hb' => by
        rw [hA', upd_ne _ _ _ hj] at hb'
        exact ⟨b', hb', ⟨rfl, rfl⟩, rfl, fun a row' ha => ⟨row', ha, rfl, fun k pv' hk => ⟨pv', hk, .inr ⟨rfl, .inl hb⟩⟩⟩⟩)
      (setRow_heap w b.b c _ el0 (0, 0) hh) (by rw [List.size_toArray, takedrop_len _ _ _ hfit, Array.length_toList]; exact htt) (by simp only []; rw [erow, erl]; exact hrt)
      (fun r hr => by
        simp only [] at hr
        rw [erow] at hr
        rcases List.mem_append.1 hr with hr | hr
        · rcases List.mem_append.1 hr with hr | hr
          · exact hsz r (List.mem_of_mem_take hr)
          · rw [hbsz, hs0]; exact rowsOK_spec c3 r (List.mem_of_mem_take hr)
        · exact hsz r (List.mem_of_mem_drop hr))
      (fun i row j pv hi hj => by
        simp only [] at hi
        rw [erow, takedrop_get _ _ _ (by rw [etl]; omega), etl] at hi
        rw [List.getElem?_toArray, takedrop_get _ _ _ hfit, hvl]
        by_cases hil : off ≤ i ∧ i < off + m
        · rw [if_pos hil, List.getElem?_take_of_lt (by omega)] at hi
          have hjl := (List.getElem?_eq_some_iff.1 hj).1
          rw [rowsOK_spec c3 row (List.mem_of_getElem? hi), ← hs0, ← hbsz] at hjl
          have h1 : off * b.sz ≤ i * b.sz := Nat.mul_le_mul_right _ hil.1
          have h2 : (i - off + 1) * b.sz ≤ m * b.sz := Nat.mul_le_mul_right _ (by omega)
          have h3 : (i - off) * b.sz = i * b.sz - off * b.sz := Nat.sub_mul ..
          rw [Nat.add_mul, Nat.one_mul] at h2
          rw [if_pos (by omega), show i * b.sz + j - off * b.sz = (i - off) * i0.size + j by rw [← hbsz, h3]; omega, List.getElem?_take_of_lt (by rw [← hbsz]; omega)]
          obtain ⟨q, q1, q2, q3⟩ := hnw _ row j pv hi hj
          rw [← hs0] at q1
          exact ⟨q, q1, q2, q3, .inl hb⟩
        · rw [if_neg hil] at hi
          have hjl := (List.getElem?_eq_some_iff.1 hj).1
          rw [hsz row (List.mem_of_getElem? hi)] at hjl
          have hout : ¬ (off * b.sz ≤ i * b.sz + j ∧ i * b.sz + j < off * b.sz + m * b.sz) := by
            rcases Nat.lt_or_ge i off with hlt | hge
            · have : (i + 1) * b.sz ≤ off * b.sz := Nat.mul_le_mul_right _ hlt
              rw [Nat.add_mul] at this; omega
            · have : (off + m) * b.sz ≤ i * b.sz := Nat.mul_le_mul_right _ (by omega)
              rw [Nat.add_mul] at this; omega
          rw [if_neg hout, Array.getElem?_toList]
          obtain ⟨q, q1, q2, q3⟩ := hcell i row j pv hi hj
          exact ⟨q, q1, q2, q3, .inl hb⟩)
    have hup : upd μ id b = μ := by
      funext j
      by_cases hj : j = id
      · subst hj; rw [upd_same, hb]
      · exact upd_ne _ _ _ hj
    rw [hup] at k1 k2
    refine ⟨_, _, hrun, k1, k2, ?_, by simp, rfl⟩
    have : (m : Int) = ((min src.length len : Nat) : Int) := by rw [hm]
    rw [this]
    exact .fr (.int .i64 _)
end
end Go.Vs
