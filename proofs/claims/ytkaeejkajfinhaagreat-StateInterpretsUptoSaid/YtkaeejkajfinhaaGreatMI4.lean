
import Derived.Test.YtkaeejkajfinhaaGreatMI3
section
set_option linter.unusedVariables false
set_option linter.unusedSimpArgs false
namespace Go.Vs
open Go
section
variable {P : Program} {w : World} {X : Nat → Prop} {A : Arrs} {n : Nat} {μ : Mu} {av : Nat → Prop} {S : Store}
theorem src_cells (hS : SR w X A n μ) (hSA : Sees S A μ) {y : PV} {v : Value} (hv : VR w (Av X (A) μ) μ y v) {new : List (List PV)} (hy : rowsIn S y = some new) {sz : Nat} (hok : rowsOK sz new = true) :
    ∃ (news : List Value) (a : Option Addr) (cap : Nat), v = .slice a new.length cap ∧ news.length = new.length * sz ∧ (a = none → new = []) ∧ (∀ ad, a = some ad → ∀ j u, news[j]? = some u → w.cell? (ad.add j) = some u) ∧ (∀ u ∈ news, u.oneCell' = true) ∧ (∀ i row j pv, new[i]? = some row → row[j]? = some pv → ∃ u, news[i * sz + j]? = some u ∧ flat u = true ∧ VR w (Av X (A) μ) μ pv u) := by
  have key : ∀ (a : Option Addr) (ad : Addr) (cap : Nat), (new ≠ [] → a = some ad) → (a = none → new = []) → (∀ i row j pv, new[i]? = some row → row[j]? = some pv → ∃ u, w.cell? (ad.add (i * sz + j)) = some u ∧ flat u = true ∧ VR w (Av X (A) μ) μ pv u) →
      ∃ (news : List Value) (a' : Option Addr) (cap' : Nat), Value.slice a new.length cap = .slice a' new.length cap' ∧ news.length = new.length * sz ∧ (a' = none → new = []) ∧ (∀ ad, a' = some ad → ∀ j u, news[j]? = some u → w.cell? (ad.add j) = some u) ∧ (∀ u ∈ news, u.oneCell' = true) ∧ (∀ i row j pv, new[i]? = some row → row[j]? = some pv → ∃ u, news[i * sz + j]? = some u ∧ flat u = true ∧ VR w (Av X (A) μ) μ pv u) := by
    intro a ad cap h1 h2 h3
    cases a with
    | none =>
      have := h2 rfl
      subst this
      exact ⟨[], none, cap, rfl, by simp, fun _ => rfl, by simp, by simp, by simp⟩
    | some a =>
      have hcell : ∀ k, k < new.length * sz → ∃ u, w.cell? (a.add k) = some u ∧ flat u = true := by
        intro k hk
        have hsz : 0 < sz := by rcases Nat.eq_zero_or_pos sz with h | h; · subst h; simp at hk
                                · exact h
        have hq : k / sz < new.length := by rw [Nat.div_lt_iff_lt_mul hsz]; exact hk
        have hne : new ≠ [] := by intro h0; subst h0; simp at hk
        have had : a = ad := by simpa using h1 hne
        have hrow : new[k / sz]? = some (new[k / sz]'hq) := List.getElem?_eq_getElem hq
        have hrl := rowsOK_spec hok _ (List.mem_of_getElem? hrow)
        have hj : k % sz < (new[k / sz]'hq).length := by rw [hrl]; exact Nat.mod_lt _ hsz
        obtain ⟨u, hu, hf, _⟩ := h3 (k / sz) _ (k % sz) _ hrow (List.getElem?_eq_getElem hj)
        rw [had]
        have e : k / sz * sz + k % sz = k := by rw [Nat.mul_comm]; exact Nat.div_add_mod k sz
        rw [e] at hu
        exact ⟨u, hu, hf⟩
      refine ⟨(List.range (new.length * sz)).map fun k => (w.cell? (a.add k)).getD undef, some a, cap, rfl, by simp, by simp, (fun ad he j u hu => ?_), (fun u hu => ?_), fun i row j pv hi hj => ?_⟩
      · cases he
        rw [List.getElem?_map] at hu
        by_cases hjl : j < new.length * sz
        · rw [List.getElem?_range hjl] at hu
          obtain ⟨q, hq, _⟩ := hcell j hjl
          simp [hq] at hu; subst hu; exact hq
        · rw [List.getElem?_eq_none (by simpa using hjl)] at hu; cases hu
      · obtain ⟨k, hk, rfl⟩ := List.mem_map.1 hu
        obtain ⟨q, hq, hf⟩ := hcell k (List.mem_range.1 hk)
        rw [hq]; exact flat_oneCell hf
      · obtain ⟨u, hu, hf, hr⟩ := h3 i row j pv hi hj
        have hne : new ≠ [] := by intro h0; subst h0; simp at hi
        have had : a = ad := by simpa using h1 hne
        have hil := (List.getElem?_eq_some_iff.1 hi).1
        have hjl := (List.getElem?_eq_some_iff.1 hj).1
        rw [rowsOK_spec hok _ (List.mem_of_getElem? hi)] at hjl
        have hlt : i * sz + j < new.length * sz := by
          have : (i + 1) * sz ≤ new.length * sz := Nat.mul_le_mul_right _ (by omega)
          rw [Nat.add_mul] at this; omega
        refine ⟨u, ?_, hf, hr⟩
        rw [List.getElem?_map, List.getElem?_range hlt]
        simp [had, hu]
  cases y <;> simp only [rowsIn, reduceCtorEq, Option.some.injEq] at hy
  case sl rows ex =>
    subst hy
    cases hv with | fr hv =>
    cases hv with | sl _ _ a cap ad s c hcap hex ha had hsz hc hr =>
    refine key a ad cap had (fun h => List.eq_nil_of_length_eq_zero (by have := ha h; omega)) (fun i row j pv hi hj => ?_)
    have e : s = sz := by rw [← hsz _ (List.mem_of_getElem? hi)]; exact rowsOK_spec hok _ (List.mem_of_getElem? hi)
    have := hc i row j pv hi hj
    rw [e] at this
    exact ⟨_, this.1, FR.flat _ _ (hr i row j pv hi hj), .fr (hr i row j pv hi hj)⟩
  case msl id off len ex =>
    cases hr : rowsAt S id with
    | none => rw [hr] at hy; cases hy
    | some rows =>
      rw [hr] at hy
      simp only [Option.bind_some] at hy
      split at hy
      · rename_i hle
        simp at hy
        have hlen : new.length = len := by rw [← hy]; simp; omega
        cases hv with
        | fr hv => cases hv
        | mslNil _ _ a =>
          have hnew : new = [] := List.eq_nil_of_length_eq_zero hlen
          subst hnew
          exact key a default 0 (fun h => absurd rfl h) (fun _ => rfl) (by simp)
        | msl _ _ _ _ ad cap b hb hlenc htot hex had =>
          obtain ⟨g, f, ha⟩ := rowsAt_some hSA hr hb
          have k := key (some ad) ad cap (fun _ => rfl) (by simp) (fun i row j pv hi hj => by
            rw [← hy, List.getElem?_take] at hi
            split at hi
            · rename_i hil
              rw [List.getElem?_drop] at hi
              obtain ⟨h1, h2⟩ := hS.row ha hb hi
              obtain ⟨u, hu1, hu2, hu3⟩ := h2 j pv hj
              have hbs : b.sz = sz := by
                rw [← h1]
                refine rowsOK_spec hok _ ?_
                rw [← hy]
                refine List.mem_of_getElem? (i := i) ?_
                rw [List.getElem?_take_of_lt hil, List.getElem?_drop]; exact hi
              refine ⟨u, ?_, hu2, hu3⟩
              rw [had (by omega), add_plain, ← hbs, ← Nat.add_assoc, ← Nat.add_mul]; exact hu1
            · cases hi)
          rw [hlen] at k ⊢
          exact k
      · cases hy
theorem copy_sound (hS : SR w X (arrs S) n μ) {base : Nat} {t tx el e' ty : TypeId} (hd : (tyi P t).d = .slice el) (hk : (tyi P el).known = true) {x y : PV} {u v : Value} (hx : VR w (Av X (arrs S) μ) μ x u) (hy : VR w (Av X (arrs S) μ) μ y v) {out : Eff} (h : evCopy (tyi P el).size S x y = some out) :
    ∃ r w', (Builtin.copy_ #[t, tx] ty #[u, v]).run P w = .ok r w' ∧ SR w' X (arrs out.S) n μ ∧ Tr base w (arrs S) μ w' (arrs out.S) μ ∧ VR w' (Av X (arrs out.S) μ) μ out.v r ∧ out.S.length = S.length ∧ out.kill = [] := by
  obtain ⟨d0, i0, hd0, hi0, hs0, _⟩ := tyi_known hk
  have ht := tyi_slice hd
  cases x <;> simp only [evCopy, reduceCtorEq] at h
  case msl id off len ex =>
  cases hid : S[id]? with
  | none => rw [hid] at h; cases h
  | some o =>
  rw [hid] at h
  cases o with
  | gone => cases h
  | arr rows g f =>
  cases f with
  | true => cases h
  | false =>
  simp only at h
  cases hnew : rowsIn S y with
  | none => rw [hnew] at h; cases h
  | some src =>
  rw [hnew] at h
  simp only [Option.bind_some] at h
  split at h
  case isFalse => cases h
  rename_i hc
  obtain ⟨c1, c2, c3⟩ := hc
  cases h
  have hA := arrs_get hid
  obtain ⟨news, a, cap, hv, hnl, hnn, hcs, hone, hnw⟩ := src_cells hS (Sees.refl S μ) hy hnew c3
  subst hv
  have hfc : ∀ m, m ≤ src.length → (Builtin.firstCells i0.size m (.slice a src.length cap)).run P w = .ok (news.take (m * i0.size)).toArray w := by
    intro m hm
    cases a with
    | none =>
      have := hnn rfl; subst this
      have : news = [] := List.eq_nil_of_length_eq_zero (by rw [hnl]; simp)
      subst this
      simp [Builtin.firstCells]
    | some ad =>
      have hl := run_loadCells_list (P := P) w ad (news.take (m * i0.size)) (fun j u hj => by
        rw [List.getElem?_take] at hj
        split at hj
        · exact hcs ad rfl j u hj
        · cases hj)
      have e : (news.take (m * i0.size)).length = m * i0.size := by
        rw [List.length_take, hnl, hs0]
        have := Nat.mul_le_mul_right (tyi P el).size hm
        omega
      rw [e] at hl
      exact hl
  have hmin : Nat.min src.length len = min src.length len := rfl
  have hrun0 : ∀ (base : Option Addr) (c : Nat) (w' : World), (∀ b, base = some b → (storeCells b (news.take (min src.length len * i0.size))).run P w = .ok () w') → (base = none → w' = w) →
      (Builtin.copy_ #[t, tx] ty #[.slice base len c, .slice a src.length cap]).run P w = .ok (goInt ((min src.length len : Nat) : Int)) w' := by
    intro base c w' h1 h2
    have := hfc (min src.length len) (Nat.min_le_left _ _)
    cases base with
    | none =>
      have h2 := h2 rfl
      subst h2
      simp [Builtin.copy_, run_underlying ht, Builtin.lenOf, sizeOf, typeInfo, hi0, hmin, this]
      try (congr 1; omega)
    | some b =>
      have h1 := h1 b rfl
      simp [Builtin.copy_, run_underlying ht, Builtin.lenOf, sizeOf, typeInfo, hi0, hmin, this, h1]
      try (congr 1; omega)
  have hlS := (List.getElem?_eq_some_iff.1 hid).1
  have none' : min src.length len = 0 → ∀ b c, u = .slice b len c → ∃ r w', (Builtin.copy_ #[t, tx] ty #[u, .slice a src.length cap]).run P w = .ok r w' ∧ SR w' X (arrs (S.set id (.arr (rows.take off ++ src.take len ++ rows.drop (off + min src.length len)) g false))) n μ ∧ Tr base w (arrs S) μ w' (arrs (S.set id (.arr (rows.take off ++ src.take len ++ rows.drop (off + min src.length len)) g false))) μ ∧ VR w' (Av X (arrs (S.set id (.arr (rows.take off ++ src.take len ++ rows.drop (off + min src.length len)) g false))) μ) μ (.int .i64 (min src.length len : Nat)) r ∧ (S.set id (.arr (rows.take off ++ src.take len ++ rows.drop (off + min src.length len)) g false)).length = S.length ∧ ([] : List Nat) = [] := fun h0 b c hu => by
    have e1 : rows.take off ++ src.take len ++ rows.drop (off + min src.length len) = rows := by
      have : src.take len = [] := List.eq_nil_of_length_eq_zero (by rw [List.length_take]; omega)
      rw [this, h0]; simp
    have e2 : S.set id (.arr rows g false) = S := by
      apply List.ext_getElem?
      intro k
      rw [List.getElem?_set]
      split
      · rename_i hk; subst hk; first | rw [if_pos hlS, hid] | rw [hid]
      · rfl
    subst hu
    have := hrun0 b c w (fun b _ => by rw [h0]; simp [storeCells]) (fun _ => rfl)
    rw [e1, e2]
    exact ⟨_, _, this, hS, Tr.refl _ _ _ _, .fr (.int .i64 _), rfl, rfl⟩
  cases hx with
  | fr hx => cases hx
  | mslNil _ _ b => exact none' (by omega) b 0 rfl
  | msl _ _ _ _ ad cp b hb hlen htot hex had =>
  by_cases h0 : min src.length len = 0
  · exact none' h0 (some ad) cp rfl
  · have had' := had (by omega)
    subst had'
    obtain ⟨c, el0, hh, htt, hrt, hsz, hcell⟩ := hS.blk id _ hA b hb
    replace hrt : rows.length * b.sz ≤ b.tot := hrt
    replace hsz : ∀ r ∈ rows, r.length = b.sz := hsz
    have hbsz : b.sz = i0.size := by
      have hr0 : rows[off]? = some (rows[off]'(by omega)) := List.getElem?_eq_getElem (by omega)
      rw [← hsz _ (List.mem_of_getElem? hr0), hs0]
      exact rowsOK_spec c2 _ (List.mem_of_getElem? hr0)
    obtain ⟨m, hm⟩ : ∃ m, m = min src.length len := ⟨_, rfl⟩
    rw [← hm] at h0 hrun0
    have hms : m ≤ src.length := by omega
    have hml : m ≤ len := by omega
    have hvl : (news.take (m * i0.size)).length = m * b.sz := by
      rw [List.length_take, hnl, hbsz, ← hs0]
      have := Nat.mul_le_mul_right i0.size hms
      omega
    have hfit : off * b.sz + (news.take (m * i0.size)).length ≤ c.toList.length := by
      rw [hvl, ← Nat.add_mul, show c.toList.length = c.size from Array.length_toList, htt]
      exact Nat.le_trans (Nat.mul_le_mul_right _ (by omega)) hrt
    have hst := run_storeCells_at P b.b (off * b.sz) el0 (news.take (m * i0.size)) 0 c w hh (by rw [Nat.add_zero]; simpa using hfit) (fun u hu => hone u (List.mem_of_mem_take hu))
    simp only [Nat.add_zero] at hst
    have hrun := hrun0 (some ⟨b.b, off * b.sz, none⟩) cp _ (fun b' hb' => by cases hb'; exact hst) (by simp)
    have est : src.take len = src.take m := by
      rw [hm]
      by_cases hle : src.length ≤ len
      · rw [Nat.min_eq_left hle, List.take_of_length_le hle, List.take_of_length_le (Nat.le_refl _)]
      · rw [Nat.min_eq_right (by omega)]
    have etl : (src.take m).length = m := by rw [List.length_take]; omega
    have erow : rows.take off ++ src.take len ++ rows.drop (off + min src.length len) = rows.take off ++ src.take m ++ rows.drop (off + (src.take m).length) := by rw [est, etl, hm]
    have hA' := arrs_set (S := S) hlS (o := Obj.arr (rows.take off ++ src.take len ++ rows.drop (off + min src.length len)) g false) rfl
    have erl : (rows.take off ++ src.take m ++ rows.drop (off + (src.take m).length)).length = rows.length := takedrop_len _ _ _ (by rw [etl]; omega)
    obtain ⟨k1, k2, k3⟩ := hS.rewrite hA rfl (bk := b) (.inl hb) (base := base) (.inl hb) (w' := w.setRow b.b (c.toList.take (off * b.sz) ++ news.take (m * i0.size) ++ c.toList.drop (off * b.sz + (news.take (m * i0.size)).length)).toArray)
      rfl rfl rfl (by rw [size_setRow]; exact Nat.le_refl _) (fun k _ hk => heap_setRow hk)
      (A' := arrs (S.set id (.arr (rows.take off ++ src.take len ++ rows.drop (off + min src.length len)) g false))) (a' := ⟨rows.take off ++ src.take len ++ rows.drop (off + min src.length len), g, false⟩) (by rw [hA', upd_same]) rfl (fun k hg => by
        have hg' : g = some k := hg
        obtain ⟨q1, q2⟩ := hS.gsz id _ hA
        cases k with
        | none => rw [q1 hg'] at hb; cases hb
        | some k => rw [q2 k hg' b hb])
      (fun j hj b' hb' => by
        rw [hA', upd_ne _ _ _ hj] at hb'
        exact ⟨b', hb', ⟨rfl, rfl⟩, rfl, fun a row' ha => ⟨row', ha, rfl, fun k pv' hk => ⟨pv', hk, .inr ⟨rfl, .inl hb⟩⟩⟩⟩)
      (setRow_heap w b.b c _ el0 (0, 0) hh) (by rw [List.size_toArray, takedrop_len _ _ _ hfit, Array.length_toList]; exact htt) (by simp only []; rw [erow, erl]; exact hrt)
      (fun r hr => by
        simp only [] at hr
        rw [erow] at hr
        rcases List.mem_append.1 hr with hr | hr
        · rcases List.mem_append.1 hr with hr | hr
          · exact hsz r (List.mem_of_mem_take hr)
          · rw [hbsz, hs0]; exact rowsOK_spec c3 r (List.mem_of_mem_take hr)
        · exact hsz r (List.mem_of_mem_drop hr))
      (fun i row j pv hi hj => by
        simp only [] at hi
        rw [erow, takedrop_get _ _ _ (by rw [etl]; omega), etl] at hi
        rw [List.getElem?_toArray, takedrop_get _ _ _ hfit, hvl]
        by_cases hil : off ≤ i ∧ i < off + m
        · rw [if_pos hil, List.getElem?_take_of_lt (by omega)] at hi
          have hjl := (List.getElem?_eq_some_iff.1 hj).1
          rw [rowsOK_spec c3 row (List.mem_of_getElem? hi), ← hs0, ← hbsz] at hjl
          have h1 : off * b.sz ≤ i * b.sz := Nat.mul_le_mul_right _ hil.1
          have h2 : (i - off + 1) * b.sz ≤ m * b.sz := Nat.mul_le_mul_right _ (by omega)
          have h3 : (i - off) * b.sz = i * b.sz - off * b.sz := Nat.sub_mul ..
          rw [Nat.add_mul, Nat.one_mul] at h2
          rw [if_pos (by omega), show i * b.sz + j - off * b.sz = (i - off) * i0.size + j by rw [← hbsz, h3]; omega, List.getElem?_take_of_lt (by rw [← hbsz]; omega)]
          obtain ⟨q, q1, q2, q3⟩ := hnw _ row j pv hi hj
          rw [← hs0] at q1
          exact ⟨q, q1, q2, q3, .inl hb⟩
        · rw [if_neg hil] at hi
          have hjl := (List.getElem?_eq_some_iff.1 hj).1
          rw [hsz row (List.mem_of_getElem? hi)] at hjl
          have hout : ¬ (off * b.sz ≤ i * b.sz + j ∧ i * b.sz + j < off * b.sz + m * b.sz) := by
            rcases Nat.lt_or_ge i off with hlt | hge
            · have : (i + 1) * b.sz ≤ off * b.sz := Nat.mul_le_mul_right _ hlt
              rw [Nat.add_mul] at this; omega
            · have : (off + m) * b.sz ≤ i * b.sz := Nat.mul_le_mul_right _ (by omega)
              rw [Nat.add_mul] at this; omega
          rw [if_neg hout, Array.getElem?_toList]
          obtain ⟨q, q1, q2, q3⟩ := hcell i row j pv hi hj
          exact ⟨q, q1, q2, q3, .inl hb⟩)
    have hup : upd μ id b = μ := by
      funext j
      by_cases hj : j = id
      · subst hj; rw [upd_same, hb]
      · exact upd_ne _ _ _ hj
    rw [hup] at k1 k2
    refine ⟨_, _, hrun, k1, k2, ?_, by simp, rfl⟩
    have : (m : Int) = ((min src.length len : Nat) : Int) := by rw [hm]
    rw [this]
    exact .fr (.int .i64 _)
theorem bytesOf_ok : ∀ {rows : List (List PV)} {l : List UInt8}, bytesOf rows = some l → rowsOK 1 rows = true
  | [], _, _ => rfl
  | r :: rows, l, h => by
    unfold bytesOf at h
    split at h
    · rename_i heq; cases heq
    · rename_i n r' heq
      cases heq
      obtain ⟨l', h1, _⟩ := map_some' h
      have := bytesOf_ok h1
      simp only [rowsOK, List.all_cons, List.length_singleton, beq_self_eq_true, Bool.true_and] at this ⊢
      exact this
    · cases h
theorem bytesOf_list : ∀ {rows : List (List PV)} {l : List UInt8} (news : List Value), bytesOf rows = some l → news.length = rows.length → (∀ i row j pv, rows[i]? = some row → row[j]? = some pv → ∃ u, news[i * 1 + j]? = some u ∧ flat u = true ∧ VR w av μ pv u) →
    ∃ ns : List Int, news = ns.map (fun n => Value.int .u8 n) ∧ l = ns.map (fun n => UInt8.ofNat n.toNat)
  | [], l, news, h, hl, hr => by
    cases h
    exact ⟨[], List.eq_nil_of_length_eq_zero hl, rfl⟩
  | r :: rows, l, news, h, hl, hr => by
    unfold bytesOf at h
    split at h
    · rename_i heq; cases heq
    · rename_i n r' heq
      cases heq
      obtain ⟨l', h1, rfl⟩ := map_some' h
      cases news with
      | nil => cases hl
      | cons u news =>
        obtain ⟨u', k1, _, k3⟩ := hr 0 [.int .u8 n] 0 (.int .u8 n) rfl rfl
        have e : u' = u := by simpa using k1.symm
        subst e
        have e2 := k3.int_inv
        subst e2
        obtain ⟨ns, q1, q2⟩ := bytesOf_list news h1 (by simpa using hl) (fun i row j pv hi hj => by
          obtain ⟨u, p1, p2⟩ := hr (i + 1) row j pv (by simpa using hi) hj
          refine ⟨u, ?_, p2⟩
          rw [show (i + 1) * 1 + j = (i * 1 + j) + 1 by omega, List.getElem?_cons_succ] at p1
          exact p1)
        exact ⟨n :: ns, by rw [q1]; rfl, by rw [q2]; rfl⟩
    · cases h
theorem push_all : ∀ (ns : List Int) (s : ByteArray), (ns.foldl (fun (s : ByteArray) n => s.push (UInt8.ofNat n.toNat)) s) = ⟨s.data ++ (ns.map fun n => UInt8.ofNat n.toNat).toArray⟩
  | [], s => by simp
  | n :: ns, s => by
    rw [List.foldl_cons, push_all ns]
    simp [ByteArray.push]
theorem run_bytes_loop (f : Value → ByteArray → Sem (ForInStep ByteArray)) (hf : ∀ n s, f (.int .u8 n) s = pure (ForInStep.yield (s.push (UInt8.ofNat n.toNat)))) (ns : List Int) : ∀ (s : ByteArray), (forIn (m := Sem) (ns.map fun n => Value.int .u8 n) s f).run P w = .ok (ns.foldl (fun (s : ByteArray) n => s.push (UInt8.ofNat n.toNat)) s) w := by
  induction ns with
  | nil => intro s; simp
  | cons n ns ih =>
    intro s
    simp only [List.map_cons, List.forIn_cons, hf, Sem.run_bind, Sem.run_pure, Result.andThen_ok, List.foldl_cons]
    exact ih _
theorem run_bytesToString (a : Addr) (n c : Nat) (ns : List Int) (h : (loadCells a n).run P w = .ok (ns.map fun n => Value.int .u8 n).toArray w) : (Conv.bytesToString (.slice (some a) n c)).run P w = .ok (.string ⟨(ns.map fun n => UInt8.ofNat n.toNat).toArray⟩) w := by
  simp only [Conv.bytesToString, Sem.run_bind, h, Result.andThen_ok, List.forIn_toArray]
  rw [run_bytes_loop _ (fun _ _ => rfl) ns ByteArray.empty, push_all, show (ByteArray.empty : ByteArray).data = #[] from rfl, Array.empty_append]
  rfl
theorem evConvert_sound (hS : SR w X A n μ) (hSA : Sees S A μ) {s t : TypeId} (hs : (tyi P s).known = true) {x pv : PV} {v : Value} (hv : VR w (Av X A μ) μ x v) (h : evConvert (tyi P s) (tyi P t) (isU8 (tyi P (elemTy (tyi P s)))) S x = some pv) :
    ∃ z, (convert s t v).run P w = .ok z w ∧ VR w (Av X A μ) μ pv z := by
  obtain ⟨d, i, hd, hi, _⟩ := tyi_known hs
  have mem : (match (tyi P s).d, (tyi P t).d, isU8 (tyi P (elemTy (tyi P s))) with
    | .slice _, .str, true => (rowsIn S x).bind fun rows => (bytesOf rows).map fun l => PV.str ⟨l.toArray⟩
    | _, _, _ => none) = some pv → ∃ z, (convert s t v).run P w = .ok z w ∧ VR w (Av X A μ) μ pv z := by
    intro h
    split at h
    · rename_i el hq ht hu
      have he : elemTy (tyi P s) = el := by simp [elemTy, hq]
      rw [he] at hu
      have hu8 : (tyi P el).d = .int .u8 := by
        unfold isU8 at hu
        split at hu
        · rename_i hh; exact hh
        · cases hu
      obtain ⟨rows, h1, h2⟩ := bind_some' h
      obtain ⟨l, h3, rfl⟩ := map_some' h2
      obtain ⟨news, a, cap, rfl, k1, k2, k3, k4, k5⟩ := src_cells (w := w) hS hSA hv h1 (bytesOf_ok h3)
      rw [Nat.mul_one] at k1
      obtain ⟨ns, q1, q2⟩ := bytesOf_list news h3 k1 k5
      subst q1
      cases a with
      | none =>
        have := k2 rfl
        subst this
        cases h3
        refine ⟨.string .empty, ?_, .s⟩
        simp [convert, run_underlying (tyi_slice hq), run_underlying (tyi_str ht), run_underlying (tyi_int hu8), Conv.bytesToString]
      | some a =>
        have hfc := run_firstCells_some (P := P) w 1 rows.length a rows.length cap _ (by rw [Nat.mul_one]; exact k1) (k3 a rfl)
        have hlc : (loadCells a rows.length).run P w = .ok (ns.map fun n => Value.int .u8 n).toArray w := by
          have e : Builtin.firstCells 1 rows.length (.slice (some a) rows.length cap) = loadCells a (rows.length * 1) := rfl
          rw [e, Nat.mul_one] at hfc
          exact hfc
        have hb := run_bytesToString a rows.length cap ns hlc
        refine ⟨.string ⟨(ns.map fun n => UInt8.ofNat n.toNat).toArray⟩, ?_, ?_⟩
        · simp [convert, run_underlying (tyi_slice hq), run_underlying (tyi_str ht), run_underlying (tyi_int hu8), hb]
        · rw [q2]; exact .s
    · cases h
  cases x
  case int k a =>
    simp only [evConvert] at h
    obtain rfl := hv.int_inv
    cases hq : (tyi P t).d <;> simp only [hq, reduceCtorEq, Option.some.injEq] at h
    subst h
    exact ⟨_, by simp [convert, run_underlying hd, run_underlying (tyi_int hq), Conv.intToInt], .i⟩
  case str a =>
    simp only [evConvert] at h
    obtain rfl := hv.str_inv
    cases hq : (tyi P t).d <;> simp only [hq, reduceCtorEq, Option.some.injEq] at h
    subst h
    exact ⟨.string a, by simp [convert, run_underlying hd, run_underlying (tyi_str hq)], .s⟩
  all_goals exact mem h
end
end Go.Vs
end
section
set_option linter.unusedVariables false
set_option linter.unusedSimpArgs false
namespace Go.Vs
open Go
def placeA (A : Arrs) (nid : Nat) : Option (List (List PV) × Option (Option Nat)) → Arrs
  | some (rows, g) => upd A nid ⟨rows, g, false⟩
  | none => A
structure Grown (w w' : World) : Prop where
  os : w'.os = w.os
  tape : w'.tape = w.tape
  output : w'.output = w.output
  size : w.heap.size ≤ w'.heap.size
  keep : ∀ b, b < w.heap.size → w'.heap[b]? = w.heap[b]?
theorem Grown.refl (w : World) : Grown w w := ⟨rfl, rfl, rfl, Nat.le_refl _, fun _ _ => rfl⟩
def CPOK (P : Program) (cp : CallP) : Prop := ∀ f args r, cp f args = some r → ∃ fn c, P.funcs[f]? = some fn ∧ fn.body = some c ∧ fn.name ≠ "runtime.NumGoroutine" ∧
  ∀ (w : World) (Y : Nat → Prop) (vs : Array Value), (∀ b, Y b → b < w.heap.size) → args.length = vs.size → (∀ (j : Nat) (pv : PV) (v : Value), args[j]? = some pv → vs[j]? = some v → VR w Y noMu pv v) →
    Calls P f vs w fun e w' => ∃ v, e = .returned v ∧ Grown w w' ∧ VR w' Y noMu r v
section
variable {P : Program} {w : World} {X : Nat → Prop} {A : Arrs} {n : Nat} {μ : Mu} {av : Nat → Prop} {S : Store}
theorem SR.up (hS : SR w X A n μ) {n' : Nat} (h : n ≤ n') : SR w X A n' μ := ⟨fun id hid => hS.lt id (Nat.le_trans h hid), hS.blk, hS.nob, hS.gsz, hS.inj, hS.out, hS.xlt⟩
theorem SR.grown (hS : SR w X A n μ) {w' : World} (h : Grown w w') (base : Nat) : SR w' X A n μ ∧ Tr base w A μ w' A μ := by
  have hlt : ∀ id a b, A id = some a → μ id = some b → b.b < w.heap.size := fun id a b h1 h2 => by
    obtain ⟨c, el, hh, _⟩ := hS.blk id a h1 b h2
    exact (Array.getElem?_eq_some_iff.1 hh).1
  have htr : Tr base w A μ w' A μ := ⟨h.os, h.tape, h.output, h.size, fun b hb _ => h.keep b hb, fun _ _ h => h, fun _ _ => rfl⟩
  refine ⟨⟨hS.lt, fun id a ha b hb => ?_, hS.nob, hS.gsz, hS.inj, hS.out, fun b hb => Nat.lt_of_lt_of_le (hS.xlt b hb) h.size⟩, htr⟩
  obtain ⟨c, el, k0, k1, k2, k3, k4⟩ := hS.blk id a ha b hb
  refine ⟨c, el, by rw [h.keep _ (hlt id a b ha hb)]; exact k0, k1, k2, k3, fun i row j pv hi hj => ?_⟩
  obtain ⟨v, hv1, hv2, hv3⟩ := k4 i row j pv hi hj
  exact ⟨v, hv1, hv2, hv3.mono htr.keeps fun _ _ _ h => h⟩
theorem SR.avlt (hS : SR w X A n μ) {b : Nat} (h : Av X A μ b) : b < w.heap.size := by
  rcases h with h | ⟨id, rows, g, k, h1, h2, rfl⟩
  · exact hS.xlt b h
  · obtain ⟨c, el, hh, _⟩ := hS.blk id _ h1 k h2
    exact (Array.getElem?_eq_some_iff.1 hh).1
def Done (P : Program) (o : Oper) (a : Act) (w : World) (X : Nat → Prop) (A : Arrs) (μ : Mu) (n' base nid : Nat) (out : Out) : Prop :=
  ∀ (K : Act → World → Prop) (Q : Exit → Act → World → Prop),
    (∀ v w' μ', SR w' X (placeA (frz A out.fz) nid out.new) n' μ' → Tr base w A μ w' (placeA (frz A out.fz) nid out.new) μ' → (∀ i, i ≠ nid ∨ out.new = none → μ' i = μ i) →
      VR w' (Av X (placeA (frz A out.fz) nid out.new) μ') μ' out.v v → K (a.put o.dst v) w') → o.wp P a w K Q
theorem Done.val {o : Oper} {a : Act} {n' base nid : Nat} {pv : PV} (hS : SR w X A n μ) (hnn : n ≤ n') (h : ∃ z, (execOp a.eval o).run P w = .ok (.value z) w ∧ VR w (Av X A μ) μ pv z) : Done P o a w X A μ n' base nid { v := pv } := by
  intro K Q hK
  obtain ⟨z, h1, h2⟩ := h
  unfold Oper.wp
  rw [h1]
  refine hK z w μ ?_ ?_ (fun _ _ => rfl) ?_ <;> simp only [placeA, frz_nil]
  · exact hS.up hnn
  · exact Tr.refl _ _ _ _
  · exact h2
theorem Done.new {o : Oper} {a : Act} {n' base nid : Nat} {pv : PV} {rows : List (List PV)} {g : Option (Option Nat)}
    (h : ∃ z w' μ', (execOp a.eval o).run P w = .ok (.value z) w' ∧ SR w' X (upd A nid ⟨rows, g, false⟩) n' μ' ∧ Tr base w A μ w' (upd A nid ⟨rows, g, false⟩) μ' ∧ (∀ i, i ≠ nid → μ' i = μ i) ∧
      VR w' (Av X (upd A nid ⟨rows, g, false⟩) μ') μ' pv z) : Done P o a w X A μ n' base nid { v := pv, new := some (rows, g) } := by
  intro K Q hK
  obtain ⟨z, w', μ', h1, h2, h3, h4, h5⟩ := h
  unfold Oper.wp
  rw [h1]
  refine hK z w' μ' ?_ ?_ (fun i hi => h4 i (hi.resolve_right (by simp))) ?_ <;> simp only [placeA, frz_nil] <;> assumption
theorem val_of {s : Sem Value} {f : Sem Next} (hf : f = (do pure (Next.value (← s)))) {pv : PV} (h : ∃ z, s.run P w = .ok z w ∧ VR w av μ pv z) : ∃ z, f.run P w = .ok (.value z) w ∧ VR w av μ pv z := by
  obtain ⟨z, h1, h2⟩ := h
  subst hf
  exact ⟨z, by simp [h1], h2⟩
theorem map_some {α β : Type} {f : α → β} {x : Option α} {b : β} (h : x.map f = some b) : ∃ a, x = some a ∧ b = f a := by
  cases x with
  | none => cases h
  | some a => exact ⟨a, rfl, by simpa using h.symm⟩
theorem bind_some {α β : Type} {f : α → Option β} {x : Option α} {b : β} (h : x.bind f = some b) : ∃ a, x = some a ∧ f a = some b := by
  cases x with
  | none => cases h
  | some a => exact ⟨a, rfl, h⟩
theorem VR.tup_inv {vs : List PV} {v : Value} (h : VR w av μ (.tup vs) v) : ∃ us : Array Value, v = .tuple us ∧ vs.length = us.size ∧ ∀ (j : Nat) (pv : PV) (v : Value), vs[j]? = some pv → us[j]? = some v → VR w av μ pv v := by
  cases h with
  | fr h => cases h
  | tup _ us hn hr => exact ⟨us, rfl, hn, hr⟩
theorem VR.fn_inv {f : FuncId} {x y : List PV} {v : Value} (h : VR w av μ (.fn f x y) v) : ∃ us vs : Array Value, v = .func (.func f) us vs ∧ x.length = us.size ∧ y.length = vs.size ∧
    (∀ (j : Nat) (pv : PV) (v : Value), x[j]? = some pv → us[j]? = some v → VR w av μ pv v) ∧ (∀ (j : Nat) (pv : PV) (v : Value), y[j]? = some pv → vs[j]? = some v → VR w av μ pv v) := by
  cases h with
  | fr h => cases h; exact ⟨#[], #[], rfl, rfl, rfl, by simp, by simp⟩
  | fn _ _ _ u v hx hy rx ry => exact ⟨u, v, rfl, hx, hy, rx, ry⟩
theorem rel_app {x y : List PV} {us vs : Array Value} {R : PV → Value → Prop} (hx : x.length = us.size) (h1 : ∀ (j : Nat) (pv : PV) (v : Value), x[j]? = some pv → us[j]? = some v → R pv v)
    (h2 : ∀ (j : Nat) (pv : PV) (v : Value), y[j]? = some pv → vs[j]? = some v → R pv v) : ∀ (j : Nat) (pv : PV) (v : Value), (x ++ y)[j]? = some pv → (us ++ vs)[j]? = some v → R pv v := by
  intro j pv v hp hv
  by_cases hj : j < x.length
  · rw [List.getElem?_append_left hj] at hp
    rw [Array.getElem?_append_left (by omega)] at hv
    exact h1 j pv v hp hv
  · rw [List.getElem?_append_right (by omega)] at hp
    rw [Array.getElem?_append_right (by omega)] at hv
    rw [hx] at hp
    exact h2 _ pv v hp hv
theorem rel_map {e : Env} {a : Act} (hE : ER w av μ e a.tmps) (xs : Array Operand) : ∀ (j : Nat) (pv : PV) (v : Value), (xs.toList.map (ev e))[j]? = some pv → (xs.map a.eval)[j]? = some v → VR w av μ pv v := by
  intro j pv v hp hv
  rw [List.getElem?_map, Array.getElem?_toList] at hp
  rw [Array.getElem?_map] at hv
  cases hx : xs[j]? with
  | none => rw [hx] at hp; cases hp
  | some x =>
    rw [hx] at hp hv
    simp at hp hv
    subst hp; subst hv
    exact ev_sound hE x
theorem callP_op (hS : SR w X A n μ) (hSA : Sees S A μ) {n' base nid : Nat} (hnn : n ≤ n') {cp : CallP} (hcp : CPOK P cp) {o : Oper} {a : Act} {c : Call} {f : Operand} {e : Env} (hE : ER w (Av X A μ) μ e a.tmps)
    (ho : o.op = .call c) (hc : c.callee = .value f) {g : FuncId} {first caps : List PV} (hf : ev e f = .fn g first caps) {args : List PV} (hargs : mapO (fzPV S) (first ++ c.args.toList.map (ev e) ++ caps) = some args)
    {r : PV} (hr : cp g args = some r) : Done P o a w X A μ n' base nid { v := r, fz := reach S 8 ((first ++ c.args.toList.map (ev e) ++ caps).flatMap PV.refs) } := by
  intro K Q hK
  have hfv := ev_sound hE f
  rw [hf] at hfv
  obtain ⟨us, vs, hv, hx, hy, rx, ry⟩ := hfv.fn_inv
  obtain ⟨fn, cd, e1, e2, e3, e4⟩ := hcp g args r hr
  have hrun : (execOp a.eval o).run P w = .ok (.enter g ((us ++ c.args.map a.eval) ++ vs)) w := by
    simp [execOp, ho, resolve, hc, hv, Deferred.ofValue, invoke, callFunc, e1, e2, e3]
  unfold Oper.wp
  rw [hrun]
  rw [Oper.upon_enter]
  obtain ⟨k1, k2⟩ := hS.frz (reach S 8 ((first ++ c.args.toList.map (ev e) ++ caps).flatMap PV.refs)) base
  obtain ⟨m1, m2⟩ := mapO_spec hargs
  have hrel := rel_app (R := VR w (Av X A μ) μ) (x := first ++ c.args.toList.map (ev e)) (us := us ++ c.args.map a.eval) (y := caps) (vs := vs) (by simp [hx]) (rel_app hx rx (rel_map hE c.args)) ry
  refine Calls.mono (e4 w (Av X (frz A (reach S 8 ((first ++ c.args.toList.map (ev e) ++ caps).flatMap PV.refs))) μ) ((us ++ c.args.map a.eval) ++ vs) (fun b hb => k1.avlt hb) (by rw [m1]; simp [hx, hy]) (fun j pv v hp hv => ?_)) ?_
  · obtain ⟨pv0, q1, q2⟩ := m2 j pv hp
    refine fzPV_sound hS hSA q2 (hrel j pv0 v q1 hv) (fun id hid => reach_sub 8 _ _ (fun m hm => ?_) id hid)
    exact List.mem_flatMap.2 ⟨pv0, List.mem_of_getElem? q1, hm⟩
  · rintro e w' ⟨v, rfl, hg, hvr⟩
    obtain ⟨j1, j2⟩ := k1.grown hg base
    refine hK v w' μ ?_ ?_ (fun _ _ => rfl) ?_ <;> simp only [placeA]
    · exact j1.up hnn
    · exact k2.trans j2
    · exact hvr.mono (Keeps.refl _ _) fun i _ b hb => by cases hb
theorem ev1_sound (hS : SR w X A n μ) (hSA : Sees S A μ) {nid n' : Nat} (hA : A nid = none) (hμ : μ nid = none) (hn : nid < n') (hnn : n ≤ n') {base : Nat} (hb : base ≤ nid) {cp : CallP} (hcp : CPOK P cp) {o : Oper} {a : Act} {e : Env}
    (hE : ER w (Av X A μ) μ e a.tmps) {out : Out} (h : ev1 P cp o e S nid = some out) : Done P o a w X A μ n' base nid out := by
  have hev := ev_sound hE
  obtain ⟨dst, op, type, pos, after, guard⟩ := o
  cases op <;> simp only [ev1, reduceCtorEq, Option.some.injEq] at h
  case move x =>
    subst h
    exact .val hS hnn ⟨_, by simp [execOp], hev x⟩
  case assign x =>
    subst h
    exact .val hS hnn ⟨_, by simp [execOp], hev x⟩
  case pick c x y =>
    split at h
    · rename_i t hc
      cases h
      have := hev c
      rw [hc] at this
      refine .val hS hnn ⟨_, by simp [execOp, this.bool_inv, asBool]; rfl, ?_⟩
      cases t
      · exact hev y
      · exact hev x
    · cases h
  case alloc t =>
    obtain ⟨z, hz, h⟩ := bind_some h
    split at h
    · rename_i hc
      cases h
      obtain ⟨w', μ', k1, k2, k3, k4, k5⟩ := alloc_sound (P := P) hS hA hμ hn hnn hb (.tuple #[]) hz hc
      exact .new ⟨_, w', μ', by simp [execOp, k1], k2, k3, k4, k5⟩
    · cases h
  case box t x =>
    unfold boxed at h
    split at h
    · rename_i hc
      cases h
      obtain ⟨w', μ', k1, k2, k3, k4, k5⟩ := box_sound (P := P) hS hA hμ hn hnn hb (el := t) (hev x) hc.2
      exact .new ⟨_, w', μ', by simp [execOp, k1], k2, k3, k4, k5⟩
    · cases h
  case build t parts =>
    split at h
    · rename_i fs hd
      obtain ⟨z, hz, h⟩ := bind_some h
      split at h
      · rename_i hc
        obtain ⟨cs, h1, rfl⟩ := map_some h
        exact .val hS hnn (val_of (by simp [execOp]) (build_sound hd hz hc.1 (by simpa using hc.2) hev h1))
      · cases h
    · cases h
  case buildSlice t len parts =>
    split at h
    · rename_i el hd
      split at h
      · rename_i hc
        cases h
        obtain ⟨z, w', μ', k1, k2, k3, k4, k5⟩ := buildSlice_sound (P := P) hS hA hμ hn hnn hb hev hd hc
        exact .new ⟨_, w', μ', by simp [execOp, k1], k2, k3, k4, k5⟩
      · cases h
    · cases h
  case load t x =>
    obtain ⟨v, h1, rfl⟩ := map_some h
    exact .val hS hnn (val_of (by simp [execOp]) (load_sound hS hSA (hev x) h1))
  case nilCheck x =>
    split at h <;> first | cases h | skip
    · rename_i i j k hx
      have := hev x
      rw [hx] at this
      refine .val hS hnn ⟨_, ?_, this⟩
      simp only [execOp]
      generalize a.eval x = v at this ⊢
      cases this with
      | fr q => cases q
      | mp _ _ _ b hb => rfl
    · rename_i r hx
      have := hev x
      rw [hx] at this
      refine .val hS hnn ⟨_, ?_, this⟩
      simp only [execOp]
      generalize a.eval x = v at this ⊢
      cases this with
      | fr q => cases q; rfl
    · rename_i f p q hx
      have := hev x
      rw [hx] at this
      obtain ⟨us, vs, hv, _⟩ := this.fn_inv
      refine .val hS hnn ⟨_, ?_, this⟩
      rw [hv]
      simp [execOp, hv]
  case binOp op t x y c =>
    obtain ⟨v, h1, rfl⟩ := map_some h
    exact .val hS hnn (val_of (by simp [execOp]) (evBinO_sound x y (hev x) (hev y) (fun c hc => by subst hc; rfl) h1))
  case unOp op t x =>
    obtain ⟨v, h1, rfl⟩ := map_some h
    exact .val hS hnn (val_of (by simp [execOp]) (evUn_sound (hev x) h1))
  case convert s d x =>
    split at h
    · rename_i hk
      obtain ⟨v, h1, rfl⟩ := map_some h
      exact .val hS hnn (val_of (by simp [execOp]) (evConvert_sound hS hSA hk (hev x) h1))
    · cases h
  case makeFunc fn first caps =>
    cases fn <;> simp only [reduceCtorEq, Option.some.injEq] at h
    rename_i f
    subst h
    refine .val hS hnn ⟨_, by simp [execOp, Instr.makeFunc]; rfl, ?_⟩
    exact .fn f _ _ _ _ (by simp) (by simp) (rel_map hE first) (rel_map hE caps)
  case makeSlice t l c =>
    split at h
    · rename_i el kn n0 km m0 hd hl hc
      obtain ⟨z, hz, h⟩ := bind_some h
      split at h
      · rename_i hcc
        cases h
        have e1 := hev l
        rw [hl] at e1
        have e2 := hev c
        rw [hc] at e2
        obtain ⟨v, w', μ', k1, k2, k3, k4, k5⟩ := makeSlice_sound (P := P) hS hA hμ hn hnn hb hd (kl := kn) (km := km) hz hcc
        exact .new ⟨_, w', μ', by simp [execOp, e1.int_inv, e2.int_inv, k1], k2, k3, k4, k5⟩
      · cases h
    · cases h
  case slice t x lo hi mx =>
    split at h
    · cases h
    · rename_i hk
      obtain ⟨v, h1, rfl⟩ := map_some h
      have opt : ∀ (q : Option Operand) (p : PV) (u : Value), q.map (ev e) = some p → q.map a.eval = some u → VR w (Av X A μ) μ p u := fun q p u h1 h2 => by
        cases q with
        | none => cases h1
        | some q => simp at h1 h2; subst h1; subst h2; exact hev q
      exact .val hS hnn (val_of (by simp [execOp]) (slice_sound hS hSA (fun hs => by
        by_cases hq : (tyi P (elemTy (tyi P t))).known = true
        · exact hq
        · exact absurd ⟨hs, by simpa using hq⟩ hk) (hev x) (by simp) (opt lo) (by simp) (opt hi) (by simp) (opt mx) h1))
  case fieldAddr t x f =>
    obtain ⟨v, h1, rfl⟩ := map_some h
    exact .val hS hnn (val_of (by simp [execOp]) (fieldAddr_sound (hev x) h1))
  case field t x f =>
    obtain ⟨v, h1, rfl⟩ := map_some h
    exact .val hS hnn (val_of (by simp [execOp]) (field_sound (hev x) h1))
  case indexAddr t x i =>
    split at h
    · rename_i hk
      obtain ⟨v, h1, rfl⟩ := map_some h
      have hd : (tyi P t).d = .slice (elemTy (tyi P t)) := by
        have := hk.1
        unfold isSlice at this
        unfold elemTy
        split at this
        · rename_i el hd; rw [hd]
        · cases this
      exact .val hS hnn (val_of (by simp [execOp]) (indexAddr_sound hS hSA (tyi_slice hd) hk.2 (hev x) (hev i) h1))
    · cases h
  case index t x i =>
    split at h
    · rename_i m el hd
      split at h
      · rename_i hk
        obtain ⟨v, h1, rfl⟩ := map_some h
        have h2 : evIndex (tyi P t) (tyi P el).size (tyi P el).isAgg (ev e x) (ev e i) = some v := by
          rw [← h1]; unfold evIndex; simp only [hd]
        exact .val hS hnn (val_of (by simp [execOp]) (index_sound (hev x) (hev i) (fun len el' hd' => by rw [hd] at hd'; cases hd'; exact ⟨hk, rfl, rfl⟩) h2))
      · cases h
    · rename_i hd
      obtain ⟨v, h1, rfl⟩ := map_some h
      have h2 : evIndex (tyi P t) 0 false (ev e x) (ev e i) = some v := by
        rw [← h1]; unfold evIndex; simp only [hd]
      exact .val hS hnn (val_of (by simp [execOp]) (index_sound (hev x) (hev i) (fun len el' hd' => by rw [hd] at hd'; cases hd') h2))
    · cases h
  case extract x i =>
    split at h
    · rename_i vs hx
      obtain ⟨v, h1, rfl⟩ := map_some h
      have := hev x
      rw [hx] at this
      obtain ⟨us, hv, hn', hr⟩ := this.tup_inv
      have hlt := (List.getElem?_eq_some_iff.1 h1).1
      have hu : us[i]? = some (us[i]'(by omega)) := Array.getElem?_eq_getElem _
      refine .val hS hnn ⟨_, ?_, hr i _ _ h1 hu⟩
      simp [execOp, hv, Instr.extract, hu]
    · cases h
  case call c =>
    cases hc : c.callee with
    | invoke r m => rw [hc] at h; cases h
    | value f =>
      rw [hc] at h
      simp only at h
      split at h
      · rename_i g first caps hf
        split at h
        · obtain ⟨args, h1, h⟩ := bind_some h
          obtain ⟨r, h2, rfl⟩ := map_some h
          exact callP_op hS hSA hnn hcp hE rfl hc hf h1 h2
        · cases h
      · cases h
    | builtin b =>
      rw [hc] at h
      cases b <;> simp only [reduceCtorEq] at h
      case len =>
        split at h
        · rename_i t x ht hx
          obtain ⟨v, h1, rfl⟩ := map_some h
          refine .val hS hnn (val_of (s := Builtin.len_ c.argTypes type (c.args.map a.eval)) (by simp [execOp, resolve, hc, invoke, builtin]) ?_)
          have : Builtin.len_ c.argTypes type (c.args.map a.eval) = Builtin.len_ #[t] type #[a.eval x] := by
            simp [Builtin.len_, ht, hx]
          rw [this]
          exact evLen_sound type (hev x) h1
        · cases h
      case max =>
        split at h
        · rename_i k x k' y hx
          cases h
          obtain ⟨p, q, hpq⟩ : ∃ p q, c.args.toList = [p, q] := by
            have := congrArg List.length hx
            rw [List.length_map] at this
            generalize c.args.toList = l at this
            cases l with
            | nil => cases this
            | cons p l =>
              cases l with
              | nil => simp at this
              | cons q l =>
                cases l with
                | nil => exact ⟨p, q, rfl⟩
                | cons _ _ => simp at this
          rw [hpq] at hx
          simp only [List.map_cons, List.map_nil, List.cons.injEq, and_true] at hx
          have e1 := hev p
          have e2 := hev q
          rw [hx.1] at e1
          rw [hx.2] at e2
          refine .val hS hnn (val_of (s := Builtin.max_ c.argTypes type (c.args.map a.eval)) (by simp [execOp, resolve, hc, invoke, builtin]) ⟨_, ?_, .i⟩)
          simp [Builtin.max_, hpq, e1.int_inv, e2.int_inv, Builtin.max2]
        · cases h
      case min =>
        split at h
        · rename_i k x k' y hx
          cases h
          obtain ⟨p, q, hpq⟩ : ∃ p q, c.args.toList = [p, q] := by
            have := congrArg List.length hx
            rw [List.length_map] at this
            generalize c.args.toList = l at this
            cases l with
            | nil => cases this
            | cons p l =>
              cases l with
              | nil => simp at this
              | cons q l =>
                cases l with
                | nil => exact ⟨p, q, rfl⟩
                | cons _ _ => simp at this
          rw [hpq] at hx
          simp only [List.map_cons, List.map_nil, List.cons.injEq, and_true] at hx
          have e1 := hev p
          have e2 := hev q
          rw [hx.1] at e1
          rw [hx.2] at e2
          refine .val hS hnn (val_of (s := Builtin.min_ c.argTypes type (c.args.map a.eval)) (by simp [execOp, resolve, hc, invoke, builtin]) ⟨_, ?_, .i⟩)
          simp [Builtin.min_, hpq, e1.int_inv, e2.int_inv, Builtin.min2]
        · cases h
      case append =>
        split at h
        · rename_i t u x y ht hu hargs
          split at h
          · rename_i el hd
            split at h
            · rename_i hz
              obtain ⟨hd', hz⟩ := hz
              have hx := hev x
              have hap : Builtin.append_ c.argTypes type (c.args.map a.eval) = Builtin.append_ #[t, u] type #[a.eval x, a.eval y] := by
                have : c.args = #[x, y] := by rw [← Array.toArray_toList (xs := c.args), hargs]
                simp [Builtin.append_, ht, hu, this]
              rcases appendNew_sound (P := P) hS hSA hA hμ hn hnn hb type hd hd' hz hx (hev y) h with ⟨rfl, hrun⟩ | ⟨rows, g, o1, o2, r, w', μ', k1, k2, k3, k4, k5⟩
              · refine .val hS hnn ⟨_, ?_, hx⟩
                simp [execOp, resolve, hc, invoke, builtin, hap, hrun]
              · obtain ⟨v, nw, fz⟩ := out
                simp only at o1 o2
                subst o1; subst o2
                refine .new ⟨r, w', μ', ?_, k2, k3, k4, k5⟩
                simp [execOp, resolve, hc, invoke, builtin, hap, k1]
            · cases h
          · cases h
        · cases h
end
end Go.Vs
end
section
set_option linter.unusedVariables false
set_option linter.unusedSimpArgs false
namespace Go.Vs
open Go
def CROK (P : Program) (cr : CallR) : Prop := ∀ f args S r S', cr f args S = some (r, S') → ∃ fn c, P.funcs[f]? = some fn ∧ fn.body = some c ∧ fn.name ≠ "runtime.NumGoroutine" ∧
  ∀ (w : World) (X : Nat → Prop) (μ : Mu) (vs : Array Value), SR w X (arrs S) S.length μ → args.length = vs.size → (∀ (j : Nat) (pv : PV) (v : Value), args[j]? = some pv → vs[j]? = some v → VR w (Av X (arrs S) μ) μ pv v) →
    Calls P f vs w fun e w' => ∃ v μ', e = .returned v ∧ SR w' X (arrs S') S'.length μ' ∧ Tr S.length w (arrs S) μ w' (arrs S') μ' ∧ VR w' (Av X (arrs S') μ') μ' r v
theorem get_killE (ids : List Nat) (e : Env) (t : Nat) : get (killE ids e) t = kill1 ids (get e t) := by
  have h0 : ∀ v : PV, kill1 [] v = v := fun v => by
    unfold kill1
    rw [if_neg (by simp)]
  unfold killE
  split
  · rename_i h; subst h; rw [h0]
  · induction e with
    | nil => simp [Vs.get, kill1, PV.refs]
    | cons p e ih =>
      obtain ⟨k, v⟩ := p
      simp only [List.map_cons, Vs.get]
      split
      · rfl
      · exact ih
section
variable {P : Program} {w : World} {X : Nat → Prop} {A : Arrs} {n : Nat} {μ : Mu} {av : Nat → Prop} {S : Store}
theorem SR.mulen (hS : SR w X (arrs S) S.length μ) {i : Nat} {b : Blk} (h : μ i = some b) : i < S.length := by
  by_cases hi : i < S.length
  · exact hi
  · rw [(hS.lt i (by omega)).1] at h; cases h
theorem ER.putD {e : Env} {a : Act} (h : ER w av μ e a.tmps) {d : Option Nat} (hd : ∀ t, d = some t → t < a.tmps.size) {pv : PV} {v : Value} (hv : VR w av μ pv v) : ER w av μ (Vs.putD e d pv) (a.put d v).tmps := by
  cases d with
  | none => exact h
  | some t => exact h.put (hd t rfl) hv
def Done2 (P : Program) (o : Oper) (a : Act) (w : World) (X : Nat → Prop) (S : Store) (μ : Mu) (base : Nat) (r : Eff) : Prop :=
  ∀ (K : Act → World → Prop) (Q : Exit → Act → World → Prop),
    (∀ v w' μ', SR w' X (arrs r.S) r.S.length μ' → Tr base w (arrs S) μ w' (arrs r.S) μ' → S.length ≤ r.S.length → (∀ pv v, VR w (Av X (arrs S) μ) μ pv v → VR w' (Av X (arrs r.S) μ') μ' (kill1 r.kill pv) v) →
      VR w' (Av X (arrs r.S) μ') μ' r.v v → K (a.put o.dst v) w') → o.wp P a w K Q
theorem kill1_nil (v : PV) : kill1 [] v = v := by
  unfold kill1
  rw [if_neg (by simp)]
theorem arrs_place (S : Store) (nw : Option (List (List PV) × Option (Option Nat))) : arrs (place S nw) = placeA (arrs S) S.length nw := by
  cases nw with
  | none => rfl
  | some p =>
    obtain ⟨rows, g⟩ := p
    funext id
    simp only [place, placeA]
    by_cases hid : id = S.length
    · subst hid; rw [upd_same]; unfold arrs; simp
    · rw [upd_ne _ _ _ hid]
      unfold arrs
      by_cases hlt : id < S.length
      · rw [List.getElem?_append_left hlt]
      · rw [List.getElem?_eq_none (by simp; omega), List.getElem?_eq_none (by omega)]
theorem ev2_sound (hS : SR w X (arrs S) S.length μ) {C : Ctx} (hcp : CPOK P C.cp) (hcr : CROK P C.cr) (hP : C.P = P) (hbase : C.base ≤ S.length) {o : Oper} {a : Act} {e : Env}
    (hE : ER w (Av X (arrs S) μ) μ e a.tmps) {r : Eff} (h : ev2 C o e S = some r) : Done2 P o a w X S μ C.base r := by
  have hev := ev_sound hE
  subst hP
  obtain ⟨dst, op, type, pos, after, guard⟩ := o
  cases op <;> simp only [ev2, reduceCtorEq] at h
  case store t x y =>
    split at h
    · rename_i hk
      obtain ⟨S', h1, rfl⟩ := map_some h
      obtain ⟨w', k1, k2, k3, k4⟩ := store_sound hS hk (hev x) (hev y) h1 C.base
      intro K Q hK
      unfold Oper.wp
      have : (execOp a.eval ⟨dst, .store t x y, type, pos, after, guard⟩).run C.P w = .ok .skip w' := by simp [execOp, k1]
      rw [this]
      refine hK Go.undef w' μ (by rw [k4]; exact k2) k3 (by rw [k4]; exact Nat.le_refl _) (fun pv v hv => ?_) .skip
      rw [kill1_nil]
      exact hv.mono k3.keeps fun _ _ _ h => h
    · cases h
  case call c =>
    cases hc : c.callee with
    | invoke x m => rw [hc] at h; cases h
    | builtin b =>
      rw [hc] at h
      cases b <;> simp only [reduceCtorEq] at h
      case append =>
        split at h
        · rename_i t u x y ht hu hargs
          split at h
          · rename_i el hd
            split at h
            · rename_i hz
              obtain ⟨hd', hz⟩ := hz
              have hap : Builtin.append_ c.argTypes type (c.args.map a.eval) = Builtin.append_ #[t, u] type #[a.eval x, a.eval y] := by
                have : c.args = #[x, y] := by rw [← Array.toArray_toList (xs := c.args), hargs]
                simp [Builtin.append_, ht, hu, this]
              obtain ⟨z, w', μ', k1, k2, k3, k4, k5, k6⟩ := append_sound (P := C.P) hS hbase (ty := type) hd hd' hz (hev x) (hev y) h
              intro K Q hK
              unfold Oper.wp
              rw [show (execOp a.eval ⟨dst, .call c, type, pos, after, guard⟩).run C.P w = .ok (.value z) w' by simp [execOp, resolve, hc, invoke, builtin, hap, k1]]
              exact hK z w' μ' k2 k3 k6 k4 k5
            · cases h
          · cases h
        · cases h
      case copy =>
        split at h
        · rename_i t u x y ht hu hargs
          split at h
          · rename_i el el' hd hd'
            split at h
            · rename_i hz
              obtain ⟨z, w', k1, k2, k3, k4, k5, k6⟩ := copy_sound (P := C.P) hS (base := C.base) (tx := u) (e' := el) (ty := type) hd hz (hev x) (hev y) h
              intro K Q hK
              have : Builtin.copy_ c.argTypes type (c.args.map a.eval) = Builtin.copy_ #[t, u] type #[a.eval x, a.eval y] := by
                have : c.args = #[x, y] := by rw [← Array.toArray_toList (xs := c.args), hargs]
                simp [Builtin.copy_, ht, this]
              unfold Oper.wp
              rw [show (execOp a.eval ⟨dst, .call c, type, pos, after, guard⟩).run C.P w = .ok (.value z) w' by simp [execOp, resolve, hc, invoke, builtin, this, k1]]
              refine hK z w' μ (by rw [k5]; exact k2) k3 (by rw [k5]; exact Nat.le_refl _) (fun pv v hv => ?_) k4
              rw [k6, kill1_nil]
              exact hv.mono k3.keeps fun _ _ _ h => h
            · cases h
          · cases h
        · cases h
    | value f =>
      rw [hc] at h
      simp only at h
      split at h
      · rename_i g first caps hf
        split at h
        · obtain ⟨⟨v, S'⟩, h1, h⟩ := bind_some h
          simp only at h
          split at h
          case isFalse => cases h
          rename_i hle
          replace hle := hle.1
          cases h
          obtain ⟨fn, cd, e1, e2, e3, e4⟩ := hcr _ _ _ _ _ h1
          intro K Q hK
          have hfv := hev f
          rw [hf] at hfv
          obtain ⟨us, vs, hv, hx, hy, rx, ry⟩ := hfv.fn_inv
          have hrun : (execOp a.eval ⟨dst, .call c, type, pos, after, guard⟩).run C.P w = .ok (.enter g ((us ++ c.args.map a.eval) ++ vs)) w := by
            simp [execOp, resolve, hc, hv, Deferred.ofValue, invoke, callFunc, e1, e2, e3]
          unfold Oper.wp
          rw [hrun]
          rw [Oper.upon_enter]
          have hrel := rel_app (R := VR w (Av X (arrs S) μ) μ) (x := first ++ c.args.toList.map (ev e)) (us := us ++ c.args.map a.eval) (y := caps) (vs := vs) (by simp [hx]) (rel_app hx rx (rel_map hE c.args)) ry
          refine Calls.mono (e4 w X μ _ hS (by simp [hx, hy]) hrel) ?_
          rintro e' w' ⟨z, μ', rfl, j1, j2, j4⟩
          refine hK z w' μ' j1 ?_ hle (fun pv u hu => ?_) j4
          · exact ⟨j2.os, j2.tape, j2.output, j2.size, j2.keep, j2.less, fun id hid => j2.mu id (by omega)⟩
          · rw [kill1_nil]
            exact hu.mono j2.keeps fun i _ b hb => by rw [j2.mu i (hS.mulen hb)]; exact hb
        · obtain ⟨args, h1, h⟩ := bind_some h
          obtain ⟨v, h2, rfl⟩ := map_some h
          have hd := callP_op (n' := S.length) (base := C.base) (nid := S.length) hS (Sees.refl S μ) (Nat.le_refl _) hcp (o := ⟨dst, .call c, type, pos, after, guard⟩) hE rfl hc hf h1 h2
          intro K Q hK
          refine hd K Q (fun z w' μ' j1 j2 j3 j4 => ?_)
          simp only [placeA, ← arrs_freezeAll] at j1 j2 j4
          have hlen : (freezeAll S (reach S 8 ((first ++ c.args.toList.map (ev e) ++ caps).flatMap PV.refs))).length = S.length := length_freezeAll ..
          refine hK z w' μ' ?_ j2 (by rw [hlen]; exact Nat.le_refl _) (fun pv u hu => ?_) j4
          · rw [hlen]; exact j1
          · rw [kill1_nil]
            exact hu.mono j2.keeps fun i _ b hb => by rw [j3 i (.inl (by have := hS.mulen hb; omega))]; exact hb
      · cases h
end
end Go.Vs
end
section
set_option linter.unusedVariables false
set_option linter.unusedSimpArgs false
namespace Go.Vs
open Go
def Now (base nt : Nat) (X : Nat → Prop) (w0 : World) (A0 : Arrs) (μ0 : Mu) (e : Env) (S : Store) (a : Act) (w : World) : Prop :=
  ∃ μ, SR w X (arrs S) S.length μ ∧ ER w (Av X (arrs S) μ) μ e a.tmps ∧ base ≤ S.length ∧ a.defers = [] ∧ a.tmps.size = nt ∧ Tr base w0 A0 μ0 w (arrs S) μ
theorem length_place (S : Store) (nw : Option (List (List PV) × Option (Option Nat))) : S.length ≤ (place S nw).length ∧ (nw = none → (place S nw).length = S.length) ∧ (∀ p, nw = some p → (place S nw).length = S.length + 1) := by
  cases nw with
  | none => simp [place]
  | some p => obtain ⟨rows, g⟩ := p; simp [place]
theorem yielded_of {ops : Array Oper} {tmps : Array Value} {j t : Nat} (ht : (ops[j]?).bind (·.dst) = some t) : yielded ops tmps j = match tmps[t]? with | some (.bool b) => some b | _ => none := by
  unfold yielded
  rw [ht]
  rfl
section
variable {P : Program} {w : World} {X : Nat → Prop} {A : Arrs} {n : Nat} {μ : Mu} {av : Nat → Prop} {S : Store}
theorem put_size (a : Act) (d : Option Tmp) (v : Value) : (a.put d v).tmps.size = a.tmps.size := by cases d <;> simp [Act.put]
theorem put_defers' (a : Act) (d : Option Tmp) (v : Value) : (a.put d v).defers = a.defers := by cases d <;> rfl
theorem wantedV_sound {ops : Array Oper} {e : Env} {o : Oper} {a : Act} {b : Bool} (hE : ∀ j want t, o.guard = some (j, want) → (ops[j]?).bind (·.dst) = some t → VR w av μ (get e t) (a.tmps.getD t Go.undef)) (h : wantedV ops e o = some b) :
    Region.wanted o (yielded ops a.tmps) = b := by
  unfold wantedV at h
  unfold Region.wanted
  cases hg : o.guard with
  | none => rw [hg] at h; simpa using h
  | some p =>
    obtain ⟨j, want⟩ := p
    rw [hg] at h
    simp only at h ⊢
    cases ht : (ops[j]?).bind (·.dst) with
    | none => rw [ht] at h; simp at h; subst h; unfold yielded; rw [ht]; rfl
    | some t =>
      rw [ht] at h
      simp only at h
      rw [yielded_of ht]
      have hv := hE j want t hg ht
      split at h
      · rename_i c hc
        rw [hc] at hv
        have hb := hv.bool_inv
        have hs : a.tmps[t]? = some (.bool c) := by
          by_cases hlt : t < a.tmps.size
          · simp [Array.getD, hlt] at hb
            rw [Array.getElem?_eq_getElem hlt, hb]
          · simp [Array.getD, hlt, Go.undef] at hb
        rw [hs]
        simp at h; subst h
        cases c <;> cases want <;> rfl
      · rename_i hc
        simp at h; subst h
        rw [hc] at hv
        have hs : a.tmps.getD t Go.undef = Go.undef := by
          generalize a.tmps.getD t Go.undef = v at hv
          cases hv with
          | fr h => cases h
          | skip => rfl
        have hs2 : ∀ c, a.tmps[t]? ≠ some (.bool c) := fun c hc => by
          simp [Array.getD_eq_getD_getElem?, hc, Go.undef] at hs
        split
        · rename_i c hc'; exact absurd hc' (hs2 c)
        · rfl
      · cases h
variable {base nt : Nat} {w0 : World} {A0 : Arrs} {μ0 : Mu} {e : Env} {a : Act}
theorem stepOp_sound {C : Ctx} (hcp : CPOK C.P C.cp) (hcr : CROK C.P C.cr) {ops : Array Oper} {o : Oper} (hd : ∀ t, o.dst = some t → t < nt) {e' : Env} {S' : Store} (hb : C.base = base)
    (hN : Now base nt X w0 A0 μ0 e S a w) (h : stepOp C ops o e S = some (e', S')) {K : Act → World → Prop} {Q : Exit → Act → World → Prop} (hK : ∀ a' w', Now base nt X w0 A0 μ0 e' S' a' w' → K a' w') :
    if Region.wanted o (yielded ops a.tmps) then o.wp C.P a w K Q else K (a.put o.dst Go.undef) w := by
  subst hb
  obtain ⟨μ, hS, hE, hbase, hdef, hsz, htr⟩ := hN
  subst hsz
  unfold stepOp at h
  obtain ⟨b, hw, h⟩ := bind_some h
  rw [wantedV_sound (fun _ _ t _ _ => hE t) hw]
  cases b with
  | false =>
    simp only [Bool.false_eq_true, if_false, Option.some.injEq, Prod.mk.injEq] at h ⊢
    obtain ⟨rfl, rfl⟩ := h
    exact hK _ _ ⟨μ, hS, hE.putD hd .skip, hbase, by rw [put_defers']; exact hdef, by rw [put_size], htr⟩
  | true =>
    simp only [if_true] at h ⊢
    split at h
    · obtain ⟨r, h1, h2⟩ := map_some h
      simp only [Prod.mk.injEq] at h2
      obtain ⟨rfl, rfl⟩ := h2
      refine ev2_sound hS hcp hcr rfl hbase hE h1 K Q fun v w' μ' k1 k2 k3 k4 k5 => hK _ _ ⟨μ', k1, ?_, Nat.le_trans hbase k3, by rw [put_defers']; exact hdef, by rw [put_size], htr.trans k2⟩
      refine ER.putD (fun t => ?_) hd k5
      rw [get_killE]
      exact k4 _ _ (hE t)
    · obtain ⟨out, h1, h2⟩ := map_some h
      simp only [Prod.mk.injEq] at h2
      obtain ⟨rfl, rfl⟩ := h2
      have hA : arrs S S.length = none := (hS.lt _ (Nat.le_refl _)).2
      have hμ : μ S.length = none := (hS.lt _ (Nat.le_refl _)).1
      have hlen : S.length ≤ (place (freezeAll S out.fz) out.new).length := by have := (length_place (freezeAll S out.fz) out.new).1; rwa [length_freezeAll] at this
      refine ev1_sound (n' := S.length + 1) (base := C.base) hS (Sees.refl S μ) hA hμ (Nat.lt_succ_self _) (Nat.le_succ _) hbase hcp hE h1 K Q fun v w' μ' k1 k2 k3 k4 => hK _ _ ⟨μ', ?_, ?_, Nat.le_trans hbase hlen, by rw [put_defers']; exact hdef, by rw [put_size], ?_⟩
      · have e1 : arrs (place (freezeAll S out.fz) out.new) = placeA (frz (arrs S) out.fz) S.length out.new := by rw [arrs_place, arrs_freezeAll, length_freezeAll]
        rw [e1]
        refine ⟨fun id hid => ?_, k1.blk, k1.nob, k1.gsz, k1.inj, k1.out, k1.xlt⟩
        have hl := length_place (freezeAll S out.fz) out.new
        rw [length_freezeAll] at hl
        cases hn : out.new with
        | some p => rw [hl.2.2 p hn] at hid; rw [← hn]; exact k1.lt id hid
        | none =>
          rw [hl.2.1 hn] at hid
          by_cases he : id = S.length
          · subst he
            have h2 : placeA (frz (arrs S) out.fz) S.length out.new S.length = none := by
              rw [hn]
              simp only [placeA, frz, hA]
              rfl
            rw [hn] at h2
            exact ⟨by rw [k3 _ (.inr hn)]; exact hμ, h2⟩
          · have := k1.lt id (by omega)
            rw [hn] at this
            exact this
      · have e1 : arrs (place (freezeAll S out.fz) out.new) = placeA (frz (arrs S) out.fz) S.length out.new := by rw [arrs_place, arrs_freezeAll, length_freezeAll]
        rw [e1]
        refine ER.putD ?_ hd k4
        exact hE.mono k2.keeps fun i b hb => by rw [k3 i (.inl (by have := hS.mulen hb; omega))]; exact hb
      · have e1 : arrs (place (freezeAll S out.fz) out.new) = placeA (frz (arrs S) out.fz) S.length out.new := by rw [arrs_place, arrs_freezeAll, length_freezeAll]
        rw [e1]
        exact htr.trans k2
theorem runOps_sound {C : Ctx} (hcp : CPOK C.P C.cp) (hcr : CROK C.P C.cr) (hb : C.base = base) {ops : Array Oper} : ∀ (l : List Oper), (∀ o ∈ l, ∀ t, o.dst = some t → t < nt) → ∀ {e e' : Env} {S S' : Store} {a : Act} {w : World},
    Now base nt X w0 A0 μ0 e S a w → runOps C ops l e S = some (e', S') → ∀ {Q : Exit → Act → World → Prop}, (∀ a' w', Now base nt X w0 A0 μ0 e' S' a' w' → Q .normal a' w') → wpList C.P ops Q l a w
  | [], _, e, e', S, S', a, w, hN, h, Q, hQ => by
    simp only [runOps, Option.some.injEq, Prod.mk.injEq] at h
    obtain ⟨rfl, rfl⟩ := h
    exact hQ a w hN
  | o :: l, hd, e, e', S, S', a, w, hN, h, Q, hQ => by
    simp only [runOps] at h
    obtain ⟨⟨e1, S1⟩, h1, h2⟩ := bind_some h
    exact wpList_step fun K hK => stepOp_sound hcp hcr (hd o (by simp)) hb hN h1 fun a' w' hN' => hK a' w' (runOps_sound hcp hcr hb l (fun o ho => hd o (by simp [ho])) hN' h2 hQ)
end
end Go.Vs
end
