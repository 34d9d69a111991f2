/- game.ranks: the loop over the levels. -/

import Derived.Test.YtnddhkcciphhkaaMX10
import Derived.Test.YtnddhkcciphhkaaMX18
section
set_option linter.unusedVariables false
set_option linter.unusedSimpArgs false
namespace Go.Vs
open Go Go.Proofs
@[go_sem] theorem callV_fn83 (C : Ctx) (S : Store) (a b : PV) (l : List PV) : callV C S (.fn 83 [] [a, b]) l = callE C S 83 ([] ++ l ++ [a, b]) := nr rfl
theorem nodup_le : ∀ (n : Nat) (l : List Int), l.Nodup → (∀ x ∈ l, ∃ j : Nat, j < n ∧ x = j) → l.length ≤ n
  | 0, l, _, h => by
    cases l with
    | nil => exact Nat.le_refl _
    | cons a l => obtain ⟨j, hj, _⟩ := h a (by simp); omega
  | n + 1, l, hl, h => by
    have := nodup_le n (l.erase (n : Int)) (hl.erase _) fun x hx => by
      obtain ⟨h1, h2⟩ := hl.mem_erase_iff.1 hx
      obtain ⟨j, hj, e⟩ := h x h2
      exact ⟨j, by omega, e⟩
    rw [List.length_erase] at this
    split at this <;> omega
theorem RS.toLev {g : Game} {S : Store} {v : PV} {R O Q : List Int} {F : List (List Int)} (h : RS g S v R O F Q) : LevS S.length 3 1 5 S v R Q := by
  have hl := h.len
  have hv := h.hv
  exact ⟨Nat.le_refl _, h.p3, h.p1, h.p5, h.q, by omega, by omega, fun hx => by have := hv _ hx; omega, fun hx => by have := hv _ hx; omega, fun hx => by have := hv _ hx; omega⟩
theorem RS.lev {g : Game} {S S' : Store} {v v' : PV} {R R' O Q Q' : List Int} {F : List (List Int)} (h : RS g S v R O F Q) (hL : LevS S.length 3 1 5 S' v' R' Q') (k : Keep S.length (1 :: 5 :: v.refs) v.refs S S') (hv' : ∀ r ∈ v'.refs, r ∈ v.refs ∨ S.length ≤ r) (hR : R'.length = R.length) : RS g S' v' R' O F Q' := by
  have hl := h.len
  have hv := h.hv
  have no : ∀ j, j < 6 + g.owner.length → j ∉ v.refs := fun j hj hx => by have := hv _ hx; omega
  have nX : ∀ j, j < 6 + g.owner.length → j ≠ 1 → j ≠ 5 → j ∉ 1 :: 5 :: v.refs := fun j hj h1 h5 => by simp only [List.mem_cons, not_or]; exact ⟨h1, h5, no j hj⟩
  refine ⟨by rw [hR]; exact h.lR, h.lO, h.lF, by have := hL.len; omega, ?_, hL.rank, ?_, hL.box, ?_, hL.qbox, fun i hi => ?_, hL.q, fun r hr => ?_⟩
  · exact k.keeps 0 (by omega) (nX 0 (by omega) (by omega) (by omega)) _ _ _ h.p0 fun r hr => by
      simp only [rowsRefs_cons, rowsRefs_nil, Game.refs, List.append_nil] at hr
      cases hr
  · exact k.keeps 2 (by omega) (nX 2 (by omega) (by omega) (by omega)) _ _ _ h.p2 fun r hr => by rw [intRows_refs] at hr; cases hr
  · exact k.keeps 4 (by omega) (nX 4 (by omega) (by omega) (by omega)) _ _ _ h.p4 fun r hr => by
      have h1 := fromRows_refs F r hr
      have h2 := h.lF
      exact ⟨by omega, no r (by omega)⟩
  · obtain ⟨gr, a, b⟩ := h.p6 i hi
    exact ⟨gr, a, k.keeps (6 + i) (by omega) (nX _ (by omega) (by omega) (by omega)) _ _ _ b fun r hr => by rw [intRows_refs] at hr; cases hr⟩
  · rcases hv' r hr with h1 | h1
    · exact hv r h1
    · omega
theorem evsOf_pred {g : Rk.G} {F : List (List Int)} (hF : ∀ q, q < g.n → F.getD q [] = Rk.predL g q) : ∀ Q : List Int, (∀ x ∈ Q, ∃ j : Nat, j < g.n ∧ x = j) → evsOf F Q = Q.flatMap (Rk.predL g)
  | [], _ => rfl
  | x :: Q, h => by
    obtain ⟨j, hj, rfl⟩ := h x (by simp)
    have := evsOf_pred hF Q fun x hx => h x (by simp [hx])
    simp only [evsOf, List.flatMap_cons, Int.toNat_natCast] at this ⊢
    rw [this, hF j hj]
theorem evs_pos (g : Rk.G) (R : List Int) : ∀ (E : List Int), (∀ x ∈ E, ∃ j : Nat, j < g.n ∧ x = j) → ∀ s : List Int × List Int, (∀ x ∈ s.2, ∃ j : Nat, j < g.n ∧ x = j) → ∀ x ∈ (E.foldl (Rk.ev g R) s).2, ∃ j : Nat, j < g.n ∧ x = j
  | [], _, s, hs => hs
  | e :: E, hE, s, hs => by
    rw [List.foldl_cons]
    refine evs_pos g R E (fun x hx => hE x (by simp [hx])) _ fun x hx => ?_
    unfold Rk.ev at hx
    split at hx
    · exact hs x hx
    · simp only at hx
      split at hx
      · rcases List.mem_append.1 hx with hx | hx
        · exact hs x hx
        · rw [List.mem_singleton.1 hx]; exact hE e (by simp)
      · exact hs x hx
theorem loop57_7 (g : Game) (hg : g.good) (c : Nat) (hc : 6 + g.owner.length ≤ c) (One : List Int) (hone : ∀ x, x ∈ One ↔ ∃ j : Nat, j < g.toG.n ∧ x = j ∧ g.toG.goal j = false ∧ g.toG.owner j = 1 ∧ g.toG.moves j = []) (hol : One.length ≤ 400) (F : List (List Int)) (hF : ∀ q : Nat, q < g.toG.n → F.getD q [] = Rk.predL g.toG q) (n7 : Nat) (hn7 : c + 1 ≤ n7) : ∀ (m r : Nat), r + m = g.owner.length + 2 → ∀ (S : Store) (v : PV) (O QP Q : List Int) (lo : Int), RS g S v (Rk.lvl g.toG r) O F (QP ++ Q) → At S c One → c ∉ v.refs → n7 ≤ S.length → Rk.St g.toG r O Q → QP.length + Q.length ≤ (r + 1) * 400 → (∀ x ∈ QP, ∃ j : Nat, j < g.owner.length ∧ x = j) → Bnd lo O → -1000000000 ≤ lo - m * 160000 → r + Rk.unr g.toG r ≤ g.owner.length + 2 → (Q ≠ [] ∨ r = 0 → r + Rk.unr g.toG r ≤ g.owner.length + 1) →
    ∃ S', F57.L7 0 n7 (.mp 0 0 0) (.mp 3 0 0) (.msl 2 0 g.owner.length true) (.msl 4 0 g.owner.length true) (.mp 5 0 0) (.fn 83 [] [.mp 3 0 0, .mp 5 0 0]) (.msl c 0 One.length false) (.int .i64 QP.length) (.int .i64 r) S = some (.msl 1 0 g.owner.length true, S') ∧ S'[1]? = some (.arr (intRows (Rk.lvl g.toG (g.owner.length + 1))) (some (some 1)) false) := by
  have hN := hg.n
  have hm4 : (1000000 : Nat) ≤ maxLen := by decide
  have hgn : g.toG.n = g.owner.length := rfl
  -- the end
  have fin : ∀ (r : Nat), r ≠ 0 → ∀ (S : Store) (v : PV) (O QP : List Int), RS g S v (Rk.lvl g.toG r) O F (QP ++ []) → n7 ≤ S.length → Rk.St g.toG r O [] → r ≤ g.owner.length + 2 →
      ∃ S', F57.L7 0 n7 (.mp 0 0 0) (.mp 3 0 0) (.msl 2 0 g.owner.length true) (.msl 4 0 g.owner.length true) (.mp 5 0 0) (.fn 83 [] [.mp 3 0 0, .mp 5 0 0]) (.msl c 0 One.length false) (.int .i64 QP.length) (.int .i64 r) S = some (.msl 1 0 g.owner.length true, S') ∧ S'[1]? = some (.arr (intRows (Rk.lvl g.toG (g.owner.length + 1))) (some (some 1)) false) := by
    intro r hr S v O QP h hS hst hb
    have el := Rk.lvl_end hg.ok hst hr rfl hb fun e => by
      subst e
      exact Rk.lvl_same hst rfl
    have c1 : ¬ (QP.length : Int) < (QP.length : Int) := Int.lt_irrefl _
    rw [List.append_nil] at h
    have c2 : ¬ (r : Int) = 0 := by omega
    have r5 := rowsAt_of h.p5
    have hlen := h.q.ints.len
    let eA : Env := F57.ee28 .undef (.mp 3 0 0) .undef .undef .undef .undef .undef .undef .undef .undef
    have hA := h.gc (n := n7) eA (by omega) hS
    have r3 := rowsAt_of hA.p3
    rw [hA.lR] at r3
    refine ⟨Vs.gc n7 eA S, F57.L7_step ?_, by rw [← hgn, ← el]; exact hA.p1⟩
    have s1 : ∀ K : KT, execL (F57.C 0) 7 F57.c140 K (F57.ee19 (.mp 0 0 0) (.mp 3 0 0) (.msl 2 0 g.owner.length true) (.msl 4 0 g.owner.length true) (.mp 5 0 0) (.fn 83 [] [.mp 3 0 0, .mp 5 0 0]) (.msl c 0 One.length false) (.int .i64 QP.length) (.int .i64 r)) S = K .normal (F57.ee28 (.mp 0 0 0) (.mp 3 0 0) (.msl 2 0 g.owner.length true) (.msl 4 0 g.owner.length true) (.mp 5 0 0) (.fn 83 [] [.mp 3 0 0, .mp 5 0 0]) (.msl c 0 One.length false) (.int .i64 QP.length) (.int .i64 r) (.bool false)) S := fun K => by
      simp only [go_sem, ↓reduceIte, Nat.reduceEqDiff, Nat.reduceBEq, Nat.reduceAdd, Nat.reduceMul, Nat.reduceSub, Nat.reduceLT, Nat.reduceLeDiff, reduceCtorEq, Int.reduceToNat, Int.reduceLE, Int.reduceLT, Int.reduceEq, withV_any, r5, hlen, c1, c2]
    have s2 : ∀ K : KT, execL (F57.C 0) 0 F57.c23 K eA (Vs.gc n7 eA S) = K .normal (F57.ee29 (.msl 1 0 g.owner.length true)) (Vs.gc n7 eA S) := fun K => by
      have e : ∀ T : Store, rowsAt T 3 = some [[PV.msl 1 0 g.owner.length true]] → execL (F57.C 0) 0 F57.c23 K eA T = K .normal (F57.ee29 (.msl 1 0 g.owner.length true)) T := fun T hT => by
        simp only [eA, go_sem, ↓reduceIte, Nat.reduceEqDiff, Nat.reduceBEq, Nat.reduceAdd, Nat.reduceMul, Nat.reduceSub, Nat.reduceLT, Nat.reduceLeDiff, reduceCtorEq, Int.reduceToNat, Int.reduceLE, Int.reduceLT, Int.reduceEq, withV_any, hT]
      exact e _ r3
    simp only [F57.B7_eq, s1, F57.k142_n, condC_false, F57.k43_exit, F57.k36_x1, F57.k33_exit, if_true, F57.k26_n]
    rw [s2]
    simp only [F57.k25_n, F57.k0_ret29]
  intro m
  induction m with
  | zero =>
    intro r hrm S v O QP Q lo h ho hcv hS hst hql hqp hB hlo hu1 hu2
    have hQ : Q = [] := by
      by_cases hq : Q = []
      · exact hq
      · have := hu2 (.inl hq); omega
    subst hQ
    exact fin r (by omega) S v O QP h hS hst (by omega)
  | succ m hm =>
    intro r hrm S v O QP Q lo h ho hcv hS hst hql hqp hB hlo hu1 hu2
    by_cases hex : Q = [] ∧ r ≠ 0
    · obtain ⟨rfl, hr⟩ := hex
      exact fin r hr S v O QP h hS hst (by omega)
    have hqr : Q ≠ [] ∨ r = 0 := by
      by_cases hq : Q = []
      · right
        by_cases hr : r = 0
        · exact hr
        · exact absurd ⟨hq, hr⟩ hex
      · exact .inl hq
    have hu := hu2 hqr
    have hQpos : ∀ x ∈ Q, ∃ j : Nat, j < g.owner.length ∧ x = j := fun x hx => by
      obtain ⟨j, hj, e, _⟩ := (hst.mem x).1 hx
      exact ⟨j, hj, e⟩
    have hQlen : Q.length ≤ 400 := Nat.le_trans (nodup_le _ Q hst.nodup hQpos) hN
    have hr402 : r ≤ 401 := by omega
    have hall : ∀ x ∈ QP ++ Q, ∃ j : Nat, j < g.owner.length ∧ x = j := fun x hx => by
      rcases List.mem_append.1 hx with hx | hx
      · exact hqp x hx
      · exact hQpos x hx
    have hFok : FromOK g.owner.length F := fun q hq => by
      rw [hF q hq]
      refine ⟨?_, fun x hx => ?_⟩
      · have := List.length_filter_le (fun i => decide ((q : Int) ∈ g.toG.moves i)) (List.range g.toG.n)
        simp only [List.length_range] at this
        simp only [Rk.predL, List.length_map]
        omega
      · obtain ⟨j, hj, e, _⟩ := (Rk.mem_predL g.toG q x).1 hx
        exact ⟨j, hj, e⟩
    have hlQ : (QP ++ Q).length = QP.length + Q.length := by simp
    have hdrop : (QP ++ Q).drop QP.length = Q := by simp
    have hvS := h.q.lt
    have hcS := ho.lt
    -- the events
    obtain ⟨S1, b1, b2, b3, b4, b5, b6, b7⟩ := loop57_9 g hg n7 S.length c r hc (by omega) v (fun t ht => ⟨hvS t ht, fun e => hcv (e ▸ ht)⟩) (Rk.lvl g.toG r) (QP ++ Q) One F hFok hall (by omega) Q.length QP.length (by omega) (S ++ [.arr [] (some none) false]) O [] lo (h.ext _) (by
      obtain ⟨gr, a, b⟩ := ho
      exact ⟨gr, a, by rw [List.getElem?_append_left hcS]; exact b⟩) ⟨none, .inl rfl, by simp [intRows]⟩ (by simp) (by simp only [List.length_nil]; omega) hB (by omega)
    rw [hdrop, evsOf_pred hF Q hQpos] at b1 b3 b5 b6 b7
    obtain ⟨Qn, st1, st2⟩ := Rk.step hg.ok hone hst (QP ++ Q)
    have hE : ∀ x ∈ Q.flatMap (Rk.predL g.toG), ∃ j : Nat, j < g.toG.n ∧ x = j := fun x hx => by
      obtain ⟨q, _, hq⟩ := List.mem_flatMap.1 hx
      obtain ⟨j, hj, e, _⟩ := (Rk.mem_predL g.toG q x).1 hq
      exact ⟨j, hj, e⟩
    have hpos1 := evs_pos g.toG (Rk.lvl g.toG r) _ hE (O, []) (by intro x hx; cases hx)
    generalize hs : (Q.flatMap (Rk.predL g.toG)).foldl (Rk.ev g.toG (Rk.lvl g.toG r)) (O, []) = s at *
    obtain ⟨O1, L1⟩ := s
    simp only at b1 b3 b5 b6 b7 st1 st2 hpos1
    generalize ed : S.length = d at *
    -- the positions without moves
    have key : ∃ S2 x, RS g S2 v (Rk.lvl g.toG r) O1 F (QP ++ Q) ∧ At S2 c One ∧ At S2 d (if r = 0 then L1 ++ One else L1) ∧ d + 1 ≤ S2.length ∧
        F57.k56 0 n7 .normal (F57.ee24 (.mp 0 0 0) (.mp 3 0 0) (.msl 2 0 g.owner.length true) (.msl 4 0 g.owner.length true) (.mp 5 0 0) (.fn 83 [] [.mp 3 0 0, .mp 5 0 0]) (.msl c 0 One.length false) (.int .i64 (QP ++ Q).length) (.int .i64 r) .undef (.msl d 0 L1.length false) .undef) S1 = execL (F57.C 0) 8 F57.c53 (F57.k45 0 n7) (F57.ee27 (.mp 0 0 0) (.mp 3 0 0) (.msl 2 0 g.owner.length true) (.msl 4 0 g.owner.length true) (.mp 5 0 0) (.fn 83 [] [.mp 3 0 0, .mp 5 0 0]) (.msl c 0 One.length false) (.int .i64 (QP ++ Q).length) (.int .i64 r) (.msl d 0 (if r = 0 then L1 ++ One else L1).length false) x) S2 := by
      by_cases hr : r = 0
      · subst hr
        rw [if_pos rfl]
        obtain ⟨gr, a1, a2⟩ := b3
        have hdv : d ∉ v.refs := fun hx => by have := hvS d hx; omega
        have ap := appendHere a2 a1 (b2.ints (ex := false)) (by simp only [List.length_nil] at b6; omega)
        have h2 := b1.here (id := d) (by omega) hdv (.arr (intRows (L1 ++ One)) (some (some 1)) false)
        have o2 : At ((S1.map (killObj [d])).set d (.arr (intRows (L1 ++ One)) (some (some 1)) false)) c One := by
          obtain ⟨gr, a, b⟩ := b2
          exact ⟨gr, a, here_at b (by omega) (by rw [intRows_refs]; intro r hr; cases hr)⟩
        have d2 : At ((S1.map (killObj [d])).set d (.arr (intRows (L1 ++ One)) (some (some 1)) false)) d (L1 ++ One) := ⟨some 1, .inr rfl, by rw [List.getElem?_set_self (by simp; omega)]⟩
        have l2 : d + 1 ≤ ((S1.map (killObj [d])).set d (.arr (intRows (L1 ++ One)) (some (some 1)) false)).length := by simp; omega
        generalize (S1.map (killObj [d])).set d (.arr (intRows (L1 ++ One)) (some (some 1)) false) = S2 at *
        refine ⟨S2, .bool true, h2, o2, d2, l2, ?_⟩
        have kb : ∀ (t : Nat), t < 6 → (t == d) = false := fun t ht => by simp only [beq_eq_false_iff_ne]; omega
        have kb1 : (c == d) = false := by simp only [beq_eq_false_iff_ne]; omega
        have s1 : ∀ K : KT, execL (F57.C 0) 8 F57.c57 K (F57.ee24 (.mp 0 0 0) (.mp 3 0 0) (.msl 2 0 g.owner.length true) (.msl 4 0 g.owner.length true) (.mp 5 0 0) (.fn 83 [] [.mp 3 0 0, .mp 5 0 0]) (.msl c 0 One.length false) (.int .i64 (QP ++ Q).length) (.int .i64 (0 : Nat)) .undef (.msl d 0 L1.length false) .undef) S1 = K .normal (F57.ee27 (.mp 0 0 0) (.mp 3 0 0) (.msl 2 0 g.owner.length true) (.msl 4 0 g.owner.length true) (.mp 5 0 0) (.fn 83 [] [.mp 3 0 0, .mp 5 0 0]) (.msl c 0 One.length false) (.int .i64 (QP ++ Q).length) (.int .i64 (0 : Nat)) (.msl d 0 L1.length false) (.bool true)) S1 := fun K => by
          simp only [go_sem, ↓reduceIte, Nat.reduceEqDiff, Nat.reduceBEq, Nat.reduceAdd, Nat.reduceMul, Nat.reduceSub, Nat.reduceLT, Nat.reduceLeDiff, reduceCtorEq, Int.reduceToNat, Int.reduceLE, Int.reduceLT, Int.reduceEq, withV_any, Int.natCast_zero]
        have s2 : ∀ K : KT, execL (F57.C 0) 8 F57.c60 K (F57.ee27 (.mp 0 0 0) (.mp 3 0 0) (.msl 2 0 g.owner.length true) (.msl 4 0 g.owner.length true) (.mp 5 0 0) (.fn 83 [] [.mp 3 0 0, .mp 5 0 0]) (.msl c 0 One.length false) (.int .i64 (QP ++ Q).length) (.int .i64 (0 : Nat)) (.msl d 0 L1.length false) (.bool true)) S1 = K .normal (F57.ee27 (.mp 0 0 0) (.mp 3 0 0) (.msl 2 0 g.owner.length true) (.msl 4 0 g.owner.length true) (.mp 5 0 0) (.fn 83 [] [.mp 3 0 0, .mp 5 0 0]) (.msl c 0 One.length false) (.int .i64 (QP ++ Q).length) (.int .i64 (0 : Nat)) (.msl d 0 (L1 ++ One).length false) (.bool true)) S2 := fun K => by
          simp only [F57.g63, withV_any, ap]
          simp only [go_sem, ↓reduceIte, Nat.reduceEqDiff, Nat.reduceBEq, Nat.reduceAdd, Nat.reduceMul, Nat.reduceSub, Nat.reduceLT, Nat.reduceLeDiff, reduceCtorEq, Int.reduceToNat, Int.reduceLE, Int.reduceLT, Int.reduceEq, withV_any, get_put, get_killE, kb 0 (by omega), kb 2 (by omega), kb 3 (by omega), kb 4 (by omega), kb 5 (by omega), kb1]
        simp only [F57.k56_n, s1, F57.k59_n, condC_true, s2, F57.k54_n]
      · rw [if_neg hr]
        have c2 : ¬ (r : Int) = 0 := by omega
        refine ⟨S1, .bool false, b1, b2, b3, b4, ?_⟩
        have s1 : ∀ K : KT, execL (F57.C 0) 8 F57.c57 K (F57.ee24 (.mp 0 0 0) (.mp 3 0 0) (.msl 2 0 g.owner.length true) (.msl 4 0 g.owner.length true) (.mp 5 0 0) (.fn 83 [] [.mp 3 0 0, .mp 5 0 0]) (.msl c 0 One.length false) (.int .i64 (QP ++ Q).length) (.int .i64 r) .undef (.msl d 0 L1.length false) .undef) S1 = K .normal (F57.ee27 (.mp 0 0 0) (.mp 3 0 0) (.msl 2 0 g.owner.length true) (.msl 4 0 g.owner.length true) (.mp 5 0 0) (.fn 83 [] [.mp 3 0 0, .mp 5 0 0]) (.msl c 0 One.length false) (.int .i64 (QP ++ Q).length) (.int .i64 r) (.msl d 0 L1.length false) (.bool false)) S1 := fun K => by
          simp only [go_sem, ↓reduceIte, Nat.reduceEqDiff, Nat.reduceBEq, Nat.reduceAdd, Nat.reduceMul, Nat.reduceSub, Nat.reduceLT, Nat.reduceLeDiff, reduceCtorEq, Int.reduceToNat, Int.reduceLE, Int.reduceLT, Int.reduceEq, withV_any, c2]
        simp only [F57.k56_n, s1, F57.k59_n, condC_false, F57.k54_n]
    obtain ⟨S2, x, k1, k2, k3, k4, k5⟩ := key
    have hnx : ∀ x ∈ (if r = 0 then L1 ++ One else L1), ∃ j : Nat, j < (Rk.lvl g.toG r).length ∧ x = j := fun x hx => by
      rw [Rk.lvl_length]
      split at hx
      · rcases List.mem_append.1 hx with hx | hx
        · exact hpos1 x hx
        · obtain ⟨j, hj, e, _⟩ := (hone x).1 hx; exact ⟨j, hj, e⟩
      · exact hpos1 x hx
    have hL2 : (if r = 0 then L1 ++ One else L1).length ≤ 200000 := by
      simp only [List.length_nil] at b6
      split
      · simp only [List.length_append]; omega
      · omega
    generalize (if r = 0 then L1 ++ One else L1) = L2 at *
    obtain ⟨v', S3, e1, e2, e3, e4⟩ := call83 (k := ((r : Int) + 1)) k1.toLev (k3.ints (ex := false)) (by
      intro t ht
      simp only [PV.refs, List.mem_singleton] at ht
      subst ht
      exact ⟨by omega, by omega, fun hx => by have := hvS _ hx; omega⟩) hnx (by omega)
    rw [st1] at e2
    simp only at e2
    have h3 := k1.lev e2 e3 e4 (by rw [Rk.lvl_length, Rk.lvl_length])
    have hcall := (show callE (F57.C 0) S2 83 _ = _ from callE_eq (b := 0) (h := F57.hint) (by rfl) e1 e3.len)
    have l3 := e3.len
    have o3 := k2.keep e3 (by omega) (by simp only [List.mem_cons, not_or]; exact ⟨by omega, by omega, hcv⟩)
    have hcv' : c ∉ v'.refs := fun hx => by
      rcases e4 c hx with hx | hx
      · exact hcv hx
      · omega
    let eA : Env := F57.ee19 (.mp 0 0 0) (.mp 3 0 0) (.msl 2 0 g.owner.length true) (.msl 4 0 g.owner.length true) (.mp 5 0 0) (.fn 83 [] [.mp 3 0 0, .mp 5 0 0]) (.msl c 0 One.length false) (.int .i64 (QP ++ Q).length) (.int .i64 (r + 1 : Nat))
    have w1 := wrap_succ (i := r) (n := r + 1) (by omega) (by omega)
    have hQnpos : ∀ x ∈ Qn, ∃ j : Nat, j < g.owner.length ∧ x = j := fun x hx => by
      obtain ⟨j, hj, e, _⟩ := (st2.mem x).1 hx
      exact ⟨j, hj, e⟩
    have hQnlen : Qn.length ≤ 400 := Nat.le_trans (nodup_le _ Qn st2.nodup hQnpos) hN
    have hunr : r + 1 + Rk.unr g.toG (r + 1) ≤ g.owner.length + 2 ∧ (Qn ≠ [] ∨ r + 1 = 0 → r + 1 + Rk.unr g.toG (r + 1) ≤ g.owner.length + 1) := by
      by_cases hq : Qn = []
      · have := Rk.lvl_same st2 hq
        have e : Rk.unr g.toG (r + 1) = Rk.unr g.toG r := by unfold Rk.unr; rw [this]
        rw [e]
        exact ⟨by omega, fun h => by
          rcases h with h | h
          · exact absurd hq h
          · omega⟩
      · have := Rk.unr_lt st2 hq
        exact ⟨by omega, fun _ => by omega⟩
    obtain ⟨S', f1, f2⟩ := hm (r + 1) (by omega) (Vs.gc n7 eA S3) v' O1 (QP ++ Q) Qn (lo - 160000) (h3.gc (n := n7) eA (by omega) (by omega)) (o3.gc eA (by omega) (by omega)) hcv' (gc_at (by omega)).1 st2 (by omega) hall (fun t => by have := b5 t; omega) (by omega) hunr.1 hunr.2
    refine ⟨S', F57.L7_step ?_, f2⟩
    have r5 := rowsAt_of h.p5
    have hlen := h.q.ints.len
    have s1 : ∀ K : KT, execL (F57.C 0) 7 F57.c140 K (F57.ee19 (.mp 0 0 0) (.mp 3 0 0) (.msl 2 0 g.owner.length true) (.msl 4 0 g.owner.length true) (.mp 5 0 0) (.fn 83 [] [.mp 3 0 0, .mp 5 0 0]) (.msl c 0 One.length false) (.int .i64 QP.length) (.int .i64 r)) S = K .normal (F57.ee28 (.mp 0 0 0) (.mp 3 0 0) (.msl 2 0 g.owner.length true) (.msl 4 0 g.owner.length true) (.mp 5 0 0) (.fn 83 [] [.mp 3 0 0, .mp 5 0 0]) (.msl c 0 One.length false) (.int .i64 QP.length) (.int .i64 r) (.bool true)) S := fun K => by
      by_cases hq : (QP.length : Int) < ((QP.length + Q.length : Nat) : Int)
      · simp only [go_sem, ↓reduceIte, Nat.reduceEqDiff, Nat.reduceBEq, Nat.reduceAdd, Nat.reduceMul, Nat.reduceSub, Nat.reduceLT, Nat.reduceLeDiff, reduceCtorEq, Int.reduceToNat, Int.reduceLE, Int.reduceLT, Int.reduceEq, withV_any, r5, hlen, hlQ, hq]
      · have hq0 : Q = [] := by
          exact List.eq_nil_of_length_eq_zero (by omega)
        have hr0 : (r : Int) = 0 := by
          rcases hqr with h | h
          · exact absurd hq0 h
          · omega
        simp only [go_sem, ↓reduceIte, Nat.reduceEqDiff, Nat.reduceBEq, Nat.reduceAdd, Nat.reduceMul, Nat.reduceSub, Nat.reduceLT, Nat.reduceLeDiff, reduceCtorEq, Int.reduceToNat, Int.reduceLE, Int.reduceLT, Int.reduceEq, withV_any, r5, hlen, hlQ, hq, hr0]
    have s2 : ∀ K : KT, execL (F57.C 0) 8 F57.c46 K (F57.ee28 (.mp 0 0 0) (.mp 3 0 0) (.msl 2 0 g.owner.length true) (.msl 4 0 g.owner.length true) (.mp 5 0 0) (.fn 83 [] [.mp 3 0 0, .mp 5 0 0]) (.msl c 0 One.length false) (.int .i64 QP.length) (.int .i64 r) (.bool true)) S = K .normal (F57.ee20 (.mp 0 0 0) (.mp 3 0 0) (.msl 2 0 g.owner.length true) (.msl 4 0 g.owner.length true) (.mp 5 0 0) (.fn 83 [] [.mp 3 0 0, .mp 5 0 0]) (.msl c 0 One.length false) (.int .i64 QP.length) (.int .i64 r) (.int .i64 (QP ++ Q).length)) S := fun K => by
      simp only [go_sem, ↓reduceIte, Nat.reduceEqDiff, Nat.reduceBEq, Nat.reduceAdd, Nat.reduceMul, Nat.reduceSub, Nat.reduceLT, Nat.reduceLeDiff, reduceCtorEq, Int.reduceToNat, Int.reduceLE, Int.reduceLT, Int.reduceEq, withV_any, r5, hlen]
    have s3 : ∀ K : KT, execL (F57.C 0) 8 F57.c48 K (F57.ee20 (.mp 0 0 0) (.mp 3 0 0) (.msl 2 0 g.owner.length true) (.msl 4 0 g.owner.length true) (.mp 5 0 0) (.fn 83 [] [.mp 3 0 0, .mp 5 0 0]) (.msl c 0 One.length false) (.int .i64 QP.length) (.int .i64 r) (.int .i64 (QP ++ Q).length)) S = K .normal (F57.ee21 (.mp 0 0 0) (.mp 3 0 0) (.msl 2 0 g.owner.length true) (.msl 4 0 g.owner.length true) (.mp 5 0 0) (.fn 83 [] [.mp 3 0 0, .mp 5 0 0]) (.msl c 0 One.length false) (.int .i64 QP.length) (.int .i64 r) (.int .i64 (QP ++ Q).length) (.sl [] true)) S := fun K => by
      simp only [F57.g138, withV_any]
    have s4 : ∀ K : KT, execL (F57.C 0) 8 F57.c53 K (F57.ee27 (.mp 0 0 0) (.mp 3 0 0) (.msl 2 0 g.owner.length true) (.msl 4 0 g.owner.length true) (.mp 5 0 0) (.fn 83 [] [.mp 3 0 0, .mp 5 0 0]) (.msl c 0 One.length false) (.int .i64 (QP ++ Q).length) (.int .i64 r) (.msl d 0 L2.length false) x) S2 = K .normal (F57.ee19 (.mp 0 0 0) (.mp 3 0 0) (.msl 2 0 g.owner.length true) (.msl 4 0 g.owner.length true) (.mp 5 0 0) (.fn 83 [] [.mp 3 0 0, .mp 5 0 0]) (.msl c 0 One.length false) (.int .i64 (QP ++ Q).length) (.int .i64 r)) S3 := fun K => by
      have w1' : IntKind.i64.wrap ((r : Int) + 1) = (r : Int) + 1 := by rw [w1]; omega
      simp only [F57.g55, withV_any, evBin_add, w1', callV_fn83, List.nil_append, List.cons_append, hcall, withS, Option.bind_some]
    have s5 : ∀ (K : KT) (S : Store), execL (F57.C 0) 7 F57.c40 K (F57.ee19 (.mp 0 0 0) (.mp 3 0 0) (.msl 2 0 g.owner.length true) (.msl 4 0 g.owner.length true) (.mp 5 0 0) (.fn 83 [] [.mp 3 0 0, .mp 5 0 0]) (.msl c 0 One.length false) (.int .i64 (QP ++ Q).length) (.int .i64 r)) S = K .normal (F57.ee19 (.mp 0 0 0) (.mp 3 0 0) (.msl 2 0 g.owner.length true) (.msl 4 0 g.owner.length true) (.mp 5 0 0) (.fn 83 [] [.mp 3 0 0, .mp 5 0 0]) (.msl c 0 One.length false) (.int .i64 (QP ++ Q).length) (.int .i64 (r + 1 : Nat))) S := fun K S => by
      simp only [go_sem, ↓reduceIte, Nat.reduceEqDiff, Nat.reduceBEq, Nat.reduceAdd, Nat.reduceMul, Nat.reduceSub, Nat.reduceLT, Nat.reduceLeDiff, reduceCtorEq, Int.reduceToNat, Int.reduceLE, Int.reduceLT, Int.reduceEq, withV_any, w1]
    simp only [F57.B7_eq, s1, F57.k142_n, condC_true, F57.k43_n, s2, F57.k137_n, s3, F57.k65_n, withO_nil, ed]
    have eL : (S ++ [Obj.arr [] (some none) false]).length = d + 1 := by simp [ed]
    rw [eL]
    simp only [List.length_nil] at b7
    have b8 := b7 (.msl 1 0 g.owner.length true, S') (by
      rw [k5, s4, F57.k45_n, F57.k41_n, s5, F57.k36_n]
      exact f1)
    exact b8
end Go.Vs
end
/- game.ranks: what its first loops fill in, plain. -/
section
set_option linter.unusedVariables false
set_option linter.unusedSimpArgs false
namespace Go.Vs
open Go Go.Proofs
theorem pushes_get (i q : Nat) : ∀ (l : List Int) (F : List (List Int)), l.Pairwise (· < ·) → (∀ m ∈ l, 0 ≤ m ∧ m < F.length) → q < F.length → (pushes i l F).getD q [] = F.getD q [] ++ (if (q : Int) ∈ l then [(i : Int)] else [])
  | [], F, _, _, _ => by simp [pushes]
  | m :: l, F, hp, hm, hq => by
    obtain ⟨h1, h2⟩ := List.pairwise_cons.1 hp
    rw [pushes, List.foldl_cons, ← pushes]
    have hm0 := hm m (by simp)
    rw [pushes_get i q l (F.set m.toNat (F.getD m.toNat [] ++ [(i : Int)])) h2 (fun x hx => by rw [List.length_set]; exact hm x (by simp [hx])) (by rw [List.length_set]; exact hq)]
    by_cases e : m.toNat = q
    · have em : m = (q : Int) := by omega
      have hn : (q : Int) ∉ l := fun hx => by have := h1 _ hx; omega
      have e1 : (F.set m.toNat (F.getD m.toNat [] ++ [(i : Int)])).getD q [] = F.getD q [] ++ [(i : Int)] := by
        rw [e]; simp [List.getD_eq_getElem?_getD, hq]
      rw [e1, if_neg hn, List.append_nil, if_pos (by rw [em]; simp)]
    · have em : ¬ (q : Int) = m := by omega
      have : (F.set m.toNat (F.getD m.toNat [] ++ [(i : Int)])).getD q [] = F.getD q [] := by simp [List.getD_eq_getElem?_getD, List.getElem?_set_ne e]
      rw [this]
      simp only [List.mem_cons, em, false_or]
theorem fill_len (g : Game) : ∀ (m i : Nat) (R O : List Int) (F : List (List Int)), (fill g m i R O F).1.length = R.length ∧ (fill g m i R O F).2.1.length = O.length ∧ (fill g m i R O F).2.2.length = F.length
  | 0, i, R, O, F => ⟨rfl, rfl, rfl⟩
  | m + 1, i, R, O, F => by
    obtain ⟨h1, h2, h3⟩ := fill_len g m (i + 1) (R.set i (-1)) (O.set i ((g.moves.getD i []).length : Int)) (pushes i (g.moves.getD i []) F)
    rw [fill]
    refine ⟨by rw [h1, List.length_set], by rw [h2, List.length_set], by rw [h3, pushes_length]⟩
theorem getD_set' {l : List Int} {i j : Nat} {v : Int} (h : j < l.length) : (l.set i v).getD j 0 = if i = j then v else l.getD j 0 := Rk.getD_set h
theorem fill_get (g : Game) (hg : g.good) : ∀ (m i : Nat) (R O : List Int) (F : List (List Int)), i + m = g.owner.length → R.length = g.owner.length → O.length = g.owner.length → F.length = g.owner.length → ∀ j, j < g.owner.length →
    (fill g m i R O F).1.getD j 0 = (if i ≤ j then -1 else R.getD j 0) ∧ (fill g m i R O F).2.1.getD j 0 = (if i ≤ j then ((g.moves.getD j []).length : Int) else O.getD j 0) ∧
    (fill g m i R O F).2.2.getD j [] = F.getD j [] ++ ((List.range' i m).filter fun t => decide ((j : Int) ∈ g.moves.getD t [])).map fun t : Nat => (t : Int)
  | 0, i, R, O, F, hi, hR, hO, hF, j, hj => by
    have : ¬ i ≤ j := by omega
    simp only [fill, this, if_false]
    exact ⟨trivial, trivial, by simp⟩
  | m + 1, i, R, O, F, hi, hR, hO, hF, j, hj => by
    rw [fill]
    obtain ⟨h1, h2, h3⟩ := fill_get g hg m (i + 1) (R.set i (-1)) (O.set i ((g.moves.getD i []).length : Int)) (pushes i (g.moves.getD i []) F) (by omega) (by rw [List.length_set]; exact hR) (by rw [List.length_set]; exact hO) (by rw [pushes_length]; exact hF) j hj
    have hmv := hg.ok.mv i (by simp only [Game.toG]; omega)
    have hin : (g.moves.getD i []).Pairwise (· < ·) := hg.ok.inc i (by simp only [Game.toG]; omega)
    refine ⟨?_, ?_, ?_⟩
    · rw [h1, getD_set' (by omega)]
      by_cases e : i = j
      · subst e; simp
      · by_cases e2 : i ≤ j
        · rw [if_pos (by omega : i + 1 ≤ j), if_pos e2]
        · rw [if_neg (by omega : ¬ i + 1 ≤ j), if_neg e, if_neg e2]
    · rw [h2, getD_set' (by omega)]
      by_cases e : i = j
      · subst e; simp
      · by_cases e2 : i ≤ j
        · rw [if_pos (by omega : i + 1 ≤ j), if_pos e2]
        · rw [if_neg (by omega : ¬ i + 1 ≤ j), if_neg e, if_neg e2]
    · rw [h3, pushes_get i j _ F hin (fun x hx => by rw [hF]; exact hmv x hx) (by omega), List.range'_succ, List.append_assoc]
      congr 1
      by_cases e : (j : Int) ∈ g.moves.getD i []
      · rw [if_pos e, List.filter_cons_of_pos (by simpa using e)]; rfl
      · rw [if_neg e, List.filter_cons_of_neg (by simpa using e)]; rfl
theorem fill_all (g : Game) (hg : g.good) : (fill g g.owner.length 0 (List.replicate g.owner.length 0) (List.replicate g.owner.length 0) (List.replicate g.owner.length [])).1 = List.replicate g.toG.n (-1) ∧
    (fill g g.owner.length 0 (List.replicate g.owner.length 0) (List.replicate g.owner.length 0) (List.replicate g.owner.length [])).2.1 = Rk.openL g.toG ∧
    ∀ q : Nat, q < g.toG.n → (fill g g.owner.length 0 (List.replicate g.owner.length 0) (List.replicate g.owner.length 0) (List.replicate g.owner.length [])).2.2.getD q [] = Rk.predL g.toG q := by
  have hl := fill_len g g.owner.length 0 (List.replicate g.owner.length 0) (List.replicate g.owner.length 0) (List.replicate g.owner.length [])
  have hh := fill_get g hg g.owner.length 0 (List.replicate g.owner.length 0) (List.replicate g.owner.length 0) (List.replicate g.owner.length []) (by omega) (by simp) (by simp) (by simp)
  generalize fill g g.owner.length 0 (List.replicate g.owner.length 0) (List.replicate g.owner.length 0) (List.replicate g.owner.length []) = f at *
  obtain ⟨l1, l2, l3⟩ := hl
  rw [List.length_replicate] at l1 l2 l3
  refine ⟨?_, ?_, fun q hq => ?_⟩
  · apply List.ext_getElem (by rw [l1, List.length_replicate]; rfl)
    intro j h1 h2
    have := (hh j (by omega)).1
    rw [if_pos (Nat.zero_le _)] at this
    simpa [List.getD_eq_getElem?_getD, h1] using this
  · apply List.ext_getElem (by rw [l2]; simp [Rk.openL, Game.toG])
    intro j h1 h2
    have := (hh j (by omega)).2.1
    rw [if_pos (Nat.zero_le _)] at this
    simp only [List.getD_eq_getElem?_getD, h1, List.getElem?_eq_getElem, Option.getD_some] at this
    rw [this]
    simp [Rk.openL, Game.toG, List.getD_eq_getElem?_getD]
  · have := (hh q hq).2.2
    rw [this]
    have e : (List.replicate g.owner.length ([] : List Int)).getD q [] = [] := by
      simp only [List.getD_eq_getElem?_getD, List.getElem?_replicate]
      split <;> rfl
    rw [e, List.nil_append, ← List.range_eq_range']
    rfl
theorem parts_get (g : Game) (O : List Int) : ∀ (m i : Nat) (s : List Int × List Int), parts g O m i s = (s.1 ++ ((List.range' i m).filter fun t => g.goal.getD t false).map fun t : Nat => (t : Int), s.2 ++ ((List.range' i m).filter fun t => !g.goal.getD t false && (decide (g.owner.getD t 0 = 1) && decide (O.getD t 0 = 0))).map fun t : Nat => (t : Int))
  | 0, i, s => by simp [parts]
  | m + 1, i, s => by
    rw [parts, parts_get g O m (i + 1), List.range'_succ]
    cases hgo : g.goal.getD i false with
    | true =>
      rw [if_pos rfl, List.filter_cons_of_pos (by simpa using hgo), List.filter_cons_of_neg (by rw [hgo]; simp)]
      simp
    | false =>
      rw [if_neg (by simp)]
      by_cases ho : g.owner.getD i 0 = 1 ∧ O.getD i 0 = 0
      · rw [if_pos ho, List.filter_cons_of_neg (by rw [hgo]; simp), List.filter_cons_of_pos (by rw [hgo, ho.1, ho.2]; rfl)]
        simp
      · rw [if_neg ho, List.filter_cons_of_neg (by rw [hgo]; simp), List.filter_cons_of_neg (by rw [hgo]; simpa using ho)]
theorem parts_all (g : Game) : parts g (Rk.openL g.toG) g.owner.length 0 ([], []) = (Rk.zeroL g.toG, Rk.oneL g.toG) := by
  rw [parts_get]
  simp only [List.nil_append, ← List.range_eq_range']
  refine Prod.ext rfl ?_
  simp only [Rk.oneL]
  have e : (List.range g.owner.length).filter (fun t => !g.goal.getD t false && (decide (g.owner.getD t 0 = 1) && decide ((Rk.openL g.toG).getD t 0 = 0))) = (List.range g.toG.n).filter (fun i => !g.toG.goal i && (decide (g.toG.owner i = 1) && decide (g.toG.moves i = []))) := by
    apply List.filter_congr
    intro t ht
    have ht' : t < g.toG.n := by
      have := List.mem_range.1 ht
      exact this
    have e1 : (Rk.openL g.toG).getD t 0 = ((g.toG.moves t).length : Int) := by simp [Rk.openL, List.getD_eq_getElem?_getD, ht']
    rw [e1]
    have e2 : decide (((g.toG.moves t).length : Int) = 0) = decide (g.toG.moves t = []) := by
      cases g.toG.moves t with
      | nil => rfl
      | cons a l => simp; omega
    rw [e2]
    rfl
  rw [e]
end Go.Vs
end
/- game.ranks: it gives the ranks round by round. -/
section
set_option linter.unusedVariables false
set_option linter.unusedSimpArgs false
namespace Go.Vs
open Go Go.Proofs
theorem makeSlice23 (id n : Nat) (h : n ≤ 2000000) : makeSliceO Try.prog 23 id (.int .i64 n) (.int .i64 n) = some { v := .msl id 0 n true, new := some (List.replicate n [.sl [] true], some (some 1)) } := by
  have e2 : (tyi Try.prog 22).bytes = 24 := by kernel_rfl
  have e3 : (tyi Try.prog 22).zero = some [.sl [] true] := by kernel_rfl
  simp only [makeSliceO, d23, e3, Option.bind_some, e2, size22]
  rw [if_pos ⟨by omega, by omega, by omega, by omega, rfl, rfl⟩]
  simp
@[go_sem] theorem alloc22 (id : Nat) : allocO (tyi Try.prog 22) id = some { v := .mp id 0 0, new := some ([[.sl [] true]], none) } := by
  have e : (tyi Try.prog 22).zero = some [.sl [] true] := by kernel_rfl
  simp [allocO, e, PV.cell]
def zint (n : Nat) : List Int := List.replicate n 0
theorem zint_rows (n : Nat) : List.replicate n [PV.int .i64 0] = intRows (zint n) := by simp [zint, intRows]
/-- The lists of predecessors, the first k of them with an array. -/
def ownRows (n k : Nat) : List (List PV) := (List.range n).map fun i => if i < k then [.msl (6 + i) 0 0 false] else [.sl [] true]
theorem ownRows_zero (n : Nat) : ownRows n 0 = List.replicate n [.sl [] true] := by
  simp [ownRows, List.map_const']
theorem ownRows_set (n k : Nat) (h : k < n) : (ownRows n k).set k [.msl (6 + k) 0 0 false] = ownRows n (k + 1) := by
  apply List.ext_getElem
  · simp [ownRows]
  · intro j h1 h2
    simp only [ownRows, List.length_map, List.length_range] at h2
    rw [List.getElem_set]
    simp only [ownRows, List.getElem_map, List.getElem_range]
    by_cases e : k = j
    · subst e
      rw [if_pos rfl, if_pos (by omega)]
    · rw [if_neg e]
      by_cases e2 : j < k
      · rw [if_pos e2, if_pos (by omega)]
      · rw [if_neg e2, if_neg (by omega)]
noncomputable def base57 (g : Game) (k : Nat) : Store := [.arr [g.cells] none false, .arr (intRows (zint g.owner.length)) (some (some 1)) false, .arr (intRows (zint g.owner.length)) (some (some 1)) false, .arr [[.msl 1 0 g.owner.length true]] none false, .arr (ownRows g.owner.length k) (some (some 1)) false, .arr [[.sl [] true]] none false] ++ List.replicate k (.arr [] (some none) false)
theorem own57 (g : Game) : ∀ k : Nat, k ≤ g.owner.length → (List.range k).foldl (fun S t => ownCell S 4 (0 + t) 0) (base57 g 0) = base57 g k
  | 0, _ => rfl
  | k + 1, h => by
    rw [List.range_succ, List.foldl_append, own57 g k (by omega), List.foldl_cons, List.foldl_nil, Nat.zero_add]
    have e1 : (base57 g k)[4]? = some (.arr (ownRows g.owner.length k) (some (some 1)) false) := rfl
    have e2 : (ownRows g.owner.length k).getD k [] = [.sl [] true] := by
      simp [ownRows, List.getD_eq_getElem?_getD, show k < g.owner.length by omega]
    have e3 : (base57 g k).length = 6 + k := by simp [base57]; omega
    have e4 : (base57 g k).set 4 (.arr (ownRows g.owner.length (k + 1)) (some (some 1)) false) ++ [.arr [] (some none) false] = base57 g (k + 1) := by
      simp only [base57, List.cons_append, List.nil_append, List.set_cons_succ, List.set_cons_zero, List.replicate_succ']
    have e5 : ([PV.sl [] true] : List PV)[0]? = some (.sl [] true) := rfl
    simp only [ownCell, e1, e2, e5, e3]
    rw [← e4, ← ownRows_set _ _ (by omega)]
    rfl
theorem base57_RS (g : Game) : RS g (base57 g g.owner.length) (.sl [] true) (zint g.owner.length) (zint g.owner.length) (List.replicate g.owner.length []) [] := by
  have hz : (zint g.owner.length).length = g.owner.length := by simp [zint]
  refine ⟨hz, hz, by simp, by simp [base57]; omega, rfl, rfl, rfl, by rw [hz]; rfl, ?_, rfl, fun i hi => ⟨none, .inl rfl, ?_⟩, .nil, by intro r hr; cases hr⟩
  · have : fromRows (List.replicate g.owner.length []) = ownRows g.owner.length g.owner.length := by
      apply List.ext_getElem
      · simp [fromRows, ownRows]
      · intro j h1 h2
        simp only [ownRows, List.length_map, List.length_range] at h2
        simp [fromRows, ownRows, h2]
    rw [this]; rfl
  · have e : (List.replicate g.owner.length ([] : List Int)).getD i [] = [] := by
      simp [List.getD_eq_getElem?_getD, hi]
    rw [e]
    simp only [base57]
    rw [List.getElem?_append_right (by simp)]
    simp [intRows, hi]
theorem call57 (g : Game) (hg : g.good) : callL Try.prog hints 57 [.agg g.cells] = some (.sl (intRows (Rk.lvl g.toG (g.owner.length + 1))) false) := by
  have hN := hg.n
  have hgn : g.toG.n = g.owner.length := rfl
  obtain ⟨f1, f2, f3⟩ := fill_all g hg
  -- the first loop
  obtain ⟨S1, a1, a2⟩ := loop57_0 g hg g.owner.length 0 (by omega) _ _ _ _ 0 (base57_RS g) (by
    intro q
    simp only [List.getD_eq_getElem?_getD, List.getElem?_replicate]
    split <;> simp) (by omega)
  rw [show fill g g.owner.length 0 (zint g.owner.length) (zint g.owner.length) (List.replicate g.owner.length []) = fill g g.owner.length 0 (List.replicate g.owner.length 0) (List.replicate g.owner.length 0) (List.replicate g.owner.length []) from rfl] at a1
  rw [f1, f2] at a1
  generalize (fill g g.owner.length 0 (List.replicate g.owner.length 0) (List.replicate g.owner.length 0) (List.replicate g.owner.length [])).2.2 = F at *
  -- goals and positions without moves
  obtain ⟨S2, b1, b2, b3, b4⟩ := loop57_4 g hg S1.length a1.len (List.replicate g.toG.n (-1)) (Rk.openL g.toG) F g.owner.length 0 (by omega) (S1 ++ [.arr [] (some none) false, .arr [] (some none) false]) [] [] (a1.ext _) ⟨none, .inl rfl, by simp [intRows]⟩ ⟨none, .inl rfl, by rw [List.getElem?_append_right (by omega)]; simp [intRows]⟩ (Nat.zero_le _) (Nat.zero_le _)
  rw [parts_all g] at b2 b3 b4
  simp only at b2 b3 b4
  have hS1 := a1.len
  have hS2 := b3.lt
  -- the goals' level
  obtain ⟨Qn, st1, st2⟩ := Rk.start g.toG
  have hzpos : ∀ x ∈ Rk.zeroL g.toG, ∃ j : Nat, j < (List.replicate g.toG.n (-1 : Int)).length ∧ x = j := fun x hx => by
    obtain ⟨j, hj, e, _⟩ := (Rk.mem_zeroL g.toG x).1 hx
    exact ⟨j, by rw [List.length_replicate]; exact hj, e⟩
  have hzl : (Rk.zeroL g.toG).length ≤ 400 := by
    have := List.length_filter_le (fun i => g.toG.goal i) (List.range g.toG.n)
    simp only [List.length_range] at this
    simp only [Rk.zeroL, List.length_map]
    omega
  have hol : (Rk.oneL g.toG).length ≤ 400 := by
    have := List.length_filter_le (fun i => !g.toG.goal i && (decide (g.toG.owner i = 1) && decide (g.toG.moves i = []))) (List.range g.toG.n)
    simp only [List.length_range] at this
    simp only [Rk.oneL, List.length_map]
    omega
  obtain ⟨v', S3, e1, e2, e3, e4⟩ := call83 (k := 0) b1.toLev (b2.ints (ex := false)) (by
    intro t ht
    simp only [PV.refs, List.mem_singleton] at ht
    subst ht
    exact ⟨by omega, by omega, fun hx => by cases hx⟩) hzpos (by simp only [List.length_nil]; omega)
  rw [st1] at e2
  simp only at e2
  have h3 := b1.lev e2 e3 e4 (by rw [Rk.lvl_length, List.length_replicate])
  have hcall := (show callE (F57.C 0) S2 83 _ = _ from callE_eq (b := 0) (h := F57.hint) (by rfl) e1 e3.len)
  have l3 := e3.len
  have o3 := b3.keep e3 (by omega) (by simp only [List.mem_cons, not_or]; exact ⟨by omega, by omega, by intro hx; cases hx⟩)
  have hcv : S1.length + 1 ∉ v'.refs := fun hx => by
    rcases e4 _ hx with hx | hx
    · cases hx
    · omega
  have hQnl : Qn.length ≤ 400 := Nat.le_trans (nodup_le _ Qn st2.nodup (fun x hx => by
    obtain ⟨j, hj, e, _⟩ := (st2.mem x).1 hx
    exact ⟨j, hj, e⟩)) hN
  have hunr := Rk.unr_le g.toG 0
  obtain ⟨S4, z1, z2⟩ := loop57_7 g hg (S1.length + 1) (by omega) (Rk.oneL g.toG) (Rk.mem_oneL g.toG) hol F f3 S3.length (by omega) (g.owner.length + 2) 0 (by omega) S3 v' (Rk.openL g.toG) [] Qn 0 (by rw [List.nil_append]; exact h3) o3 hcv (Nat.le_refl _) st2 (by simp only [List.length_nil]; omega) (by intro x hx; cases hx) (fun j => by
    by_cases hj : j < g.toG.n
    · have e : (Rk.openL g.toG).getD j 0 = ((g.toG.moves j).length : Int) := by
        simp only [Rk.openL, List.getD_eq_getElem?_getD, List.getElem?_map, List.getElem?_range hj, Option.map_some, Option.getD_some]
      have := hg.s j
      rw [e]
      simp only [Game.toG]
      omega
    · have e : (Rk.openL g.toG).getD j 0 = 0 := by
        simp only [Rk.openL, List.getD_eq_getElem?_getD, List.getElem?_map]
        rw [List.getElem?_eq_none (by simp; omega)]; rfl
      omega) (by omega) (by omega) (fun _ => by omega)
  -- the whole
  have hfz : fzPV S4 (.msl 1 0 g.owner.length true) = some (.sl (intRows (Rk.lvl g.toG (g.owner.length + 1))) false) := by
    have hl : (Rk.lvl g.toG (g.owner.length + 1)).length = g.owner.length := by rw [Rk.lvl_length]; rfl
    have := (Ints.msl 1 (Rk.lvl g.toG (g.owner.length + 1)) true (some (some 1)) false z2).fz 6
    rw [hl] at this
    exact this
  refine F57.call (r := (.msl 1 0 g.owner.length true, S4)) ?_ hfz
  have m2 := fun id => makeSlice22 id g.owner.length (by omega)
  have m3 := fun id => makeSlice23 id g.owner.length (by omega)
  have s0 : ∀ K : KT, execL (F57.C 0) 0 F57.c1 K [(0, .agg g.cells)] [] = K .normal (F57.ee0 (.mp 0 0 0)) [.arr [g.cells] none false] := fun K => by
    simp only [go_sem, ↓reduceIte, Nat.reduceEqDiff, Nat.reduceBEq, Nat.reduceAdd, Nat.reduceMul, Nat.reduceSub, Nat.reduceLT, Nat.reduceLeDiff, reduceCtorEq, Int.reduceToNat, Int.reduceLE, Int.reduceLT, Int.reduceEq, withV_any]
  have s1 : ∀ K : KT, execL (F57.C 0) 0 F57.c3 K (F57.ee0 (.mp 0 0 0)) [.arr [g.cells] none false] = K .normal (F57.ee1 (.mp 0 0 0) (.int .i64 g.owner.length)) [.arr [g.cells] none false] := fun K => by
    simp only [go_sem, ↓reduceIte, Nat.reduceEqDiff, Nat.reduceBEq, Nat.reduceAdd, Nat.reduceMul, Nat.reduceSub, Nat.reduceLT, Nat.reduceLeDiff, reduceCtorEq, Int.reduceToNat, Int.reduceLE, Int.reduceLT, Int.reduceEq, withV_any]
  have s2 : ∀ K : KT, execL (F57.C 0) 0 F57.c5 K (F57.ee1 (.mp 0 0 0) (.int .i64 g.owner.length)) [.arr [g.cells] none false] = K .normal (F57.ee2 (.mp 0 0 0) (.int .i64 g.owner.length) (.mp 3 0 0) (.msl 2 0 g.owner.length true)) [.arr [g.cells] none false, .arr (intRows (zint g.owner.length)) (some (some 1)) false, .arr (intRows (zint g.owner.length)) (some (some 1)) false, .arr [[.msl 1 0 g.owner.length true]] none false] := fun K => by
    rw [← zint_rows]
    simp only [go_sem, ↓reduceIte, Nat.reduceEqDiff, Nat.reduceBEq, Nat.reduceAdd, Nat.reduceMul, Nat.reduceSub, Nat.reduceLT, Nat.reduceLeDiff, reduceCtorEq, Int.reduceToNat, Int.reduceLE, Int.reduceLT, Int.reduceEq, withV_any, m2]
  have s3 : ∀ K : KT, execL (F57.C 0) 0 F57.c7 K (F57.ee2 (.mp 0 0 0) (.int .i64 g.owner.length) (.mp 3 0 0) (.msl 2 0 g.owner.length true)) [.arr [g.cells] none false, .arr (intRows (zint g.owner.length)) (some (some 1)) false, .arr (intRows (zint g.owner.length)) (some (some 1)) false, .arr [[.msl 1 0 g.owner.length true]] none false] = K .normal (F57.ee3 (.mp 0 0 0) (.int .i64 g.owner.length) (.mp 3 0 0) (.msl 2 0 g.owner.length true) (.msl 4 0 g.owner.length true)) [.arr [g.cells] none false, .arr (intRows (zint g.owner.length)) (some (some 1)) false, .arr (intRows (zint g.owner.length)) (some (some 1)) false, .arr [[.msl 1 0 g.owner.length true]] none false, .arr (ownRows g.owner.length 0) (some (some 1)) false] := fun K => by
    rw [ownRows_zero]
    simp only [go_sem, ↓reduceIte, Nat.reduceEqDiff, Nat.reduceBEq, Nat.reduceAdd, Nat.reduceMul, Nat.reduceSub, Nat.reduceLT, Nat.reduceLeDiff, reduceCtorEq, Int.reduceToNat, Int.reduceLE, Int.reduceLT, Int.reduceEq, withV_any, m3]
  have s4 : ∀ K : KT, execL (F57.C 0) 0 F57.c9 K (F57.ee3 (.mp 0 0 0) (.int .i64 g.owner.length) (.mp 3 0 0) (.msl 2 0 g.owner.length true) (.msl 4 0 g.owner.length true)) [.arr [g.cells] none false, .arr (intRows (zint g.owner.length)) (some (some 1)) false, .arr (intRows (zint g.owner.length)) (some (some 1)) false, .arr [[.msl 1 0 g.owner.length true]] none false, .arr (ownRows g.owner.length 0) (some (some 1)) false] = K .normal (F57.ee4 (.mp 0 0 0) (.int .i64 g.owner.length) (.mp 3 0 0) (.msl 2 0 g.owner.length true) (.msl 4 0 g.owner.length true) (.mp 5 0 0)) (base57 g 0) := fun K => by
    simp only [base57, List.replicate_zero, List.append_nil]
    simp only [go_sem, ↓reduceIte, Nat.reduceEqDiff, Nat.reduceBEq, Nat.reduceAdd, Nat.reduceMul, Nat.reduceSub, Nat.reduceLT, Nat.reduceLeDiff, reduceCtorEq, Int.reduceToNat, Int.reduceLE, Int.reduceLT, Int.reduceEq, withV_any]
  have s5 : withM (base57 g 0) (.msl 4 0 g.owner.length true) 0 (fun S => F57.L0 0 (List.length S) (.mp 0 0 0) (.int .i64 g.owner.length) (.mp 3 0 0) (.msl 2 0 g.owner.length true) (.msl 4 0 g.owner.length true) (.mp 5 0 0) (.int .i64 g.owner.length) (.int .i64 (0 : Int)) S) = F57.L0 0 (6 + g.owner.length) (.mp 0 0 0) (.int .i64 g.owner.length) (.mp 3 0 0) (.msl 2 0 g.owner.length true) (.msl 4 0 g.owner.length true) (.mp 5 0 0) (.int .i64 g.owner.length) (.int .i64 (0 : Int)) (base57 g g.owner.length) := by
    have e : ownMem (base57 g 0) (.msl 4 0 g.owner.length true) 0 = base57 g g.owner.length := own57 g g.owner.length (Nat.le_refl _)
    have e3 : (base57 g g.owner.length).length = 6 + g.owner.length := by simp [base57]; omega
    unfold withM
    rw [e]
    show F57.L0 0 (base57 g g.owner.length).length _ _ _ _ _ _ _ _ _ = _
    rw [e3]
  have s6 : ∀ K : KT, execL (F57.C 0) 0 F57.c19 K (F57.ee17 (.mp 0 0 0) (.mp 3 0 0) (.msl 2 0 g.owner.length true) (.msl 4 0 g.owner.length true) (.mp 5 0 0) (.fn 83 [] [.mp 3 0 0, .mp 5 0 0]) (.msl S1.length 0 (Rk.zeroL g.toG).length false) (.msl (S1.length + 1) 0 (Rk.oneL g.toG).length false) .undef .undef .undef) S2 = K .normal (F57.ee18 (.mp 0 0 0) (.mp 3 0 0) (.msl 2 0 g.owner.length true) (.msl 4 0 g.owner.length true) (.mp 5 0 0) (.fn 83 [] [.mp 3 0 0, .mp 5 0 0]) (.msl (S1.length + 1) 0 (Rk.oneL g.toG).length false)) S3 := fun K => by
    simp only [F57.g149, withV_any, callV_fn83, List.nil_append, List.cons_append, hcall, withS, Option.bind_some]
  have key := a2 (.msl 1 0 g.owner.length true, S4) (b4 _ (by
    simp only [F57.k148_n, s6, F57.k28_n, F57.g147, withV_any, F57.k31_n]
    exact z1))
  simp only [F57.E_eq, s0, F57.k277_n, s1, F57.k275_n, s2, F57.k273_n, s3, F57.k271_n, s4, F57.k203_n, F57.g270, withV_any, F57.k206_n, s5]
  exact key
end Go.Vs
end
/- Printed by a program of mine (stage1.py): the functions 58, piece by piece. -/
section
set_option linter.unusedVariables false
set_option linter.unusedSimpArgs false
namespace Go.Vs
open Go Go.Proofs
noncomputable section

/-! ### isochroneref23.ranks -/
namespace F58
section
variable (b i n n0 n2 n4 n6 : Nat) (K : KT) (x0 x1 x2 x3 x4 x5 x6 x7 x8 x9 x10 x11 x19 x29 x36 x46 x53 x61 x75 x95 : PV) (e : Env) (S : Store)
end
end F58
end
end Go.Vs
end
/- The reference's ranks: they are the ranks round by round. -/
section
set_option linter.unusedVariables false
set_option linter.unusedSimpArgs false
namespace Go.Vs
open Go Go.Proofs
theorem gc_full (e : Env) (S : Store) : Vs.gc S.length e S = S := by
  unfold Vs.gc
  split
  · exact List.take_length
  · rfl
theorem gc_no {n : Nat} {e : Env} {S : Store} {t : Nat} {v : PV} (h : (t, v) ∈ e) {r : Nat} (hr : r ∈ v.refs) (hn : n ≤ r) : Vs.gc n e S = S := by
  unfold Vs.gc
  rw [if_neg]
  rintro ⟨h1, _⟩
  rw [List.all_eq_true] at h1
  have := h1 _ h
  simp only [List.all_eq_true, decide_eq_true_eq] at this
  have := this r hr
  omega
end Go.Vs
end
/- The reference's ranks: what they are. -/
section
set_option linter.unusedVariables false
set_option linter.unusedSimpArgs false
namespace Go.Vs
open Go Go.Proofs
end Go.Vs
end
