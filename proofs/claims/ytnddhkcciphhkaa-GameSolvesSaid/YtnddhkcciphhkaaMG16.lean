/- game.ranks: the loop over the predecessors of a position. -/

import Derived.Test.YtnddhkcciphhkaaMG15
section
set_option linter.unusedVariables false
set_option linter.unusedSimpArgs false
namespace Go.Vs
open Go Go.Proofs
theorem RS.at6 {g : Game} {S : Store} {v : PV} {R O Q : List Int} {F : List (List Int)} (h : RS g S v R O F Q) {i : Nat} (hi : i < g.owner.length) : At S (6 + i) (F.getD i []) := h.p6 i hi
theorem At.set {S : Store} {id : Nat} {L : List Int} (h : At S id L) {j : Nat} (hj : j ≠ id) (o : Obj) : At (S.set j o) id L := by
  obtain ⟨gr, a, b⟩ := h
  exact ⟨gr, a, by rw [List.getElem?_set_ne hj]; exact b⟩
/-- Counts in bounds. -/
def Bnd (lo : Int) (O : List Int) : Prop := ∀ j, lo ≤ O.getD j 0 ∧ O.getD j 0 ≤ 4000
theorem Bnd.set {lo : Int} {O : List Int} (h : Bnd lo O) (j : Nat) : Bnd (lo - 1) (O.set j (O.getD j 0 - 1)) := fun q => by
  have h1 := h j
  have h2 := h q
  simp only [List.getD_eq_getElem?_getD, List.getElem?_set] at h1 h2 ⊢
  split
  · split
    · simp only [Option.getD_some]; omega
    · simp only [Option.getD_none]
      have := h O.length
      simp only [List.getD_eq_getElem?_getD, List.getElem?_eq_none (Nat.le_refl _), Option.getD_none] at this
      omega
  · omega
theorem wrap_dec {x : Int} (h1 : -1000000000 ≤ x) (h2 : x ≤ 1000000000) : IntKind.i64.wrap (x - 1) = x - 1 := by
  rw [IntKind.wrap_i64]; omega
theorem loop57_11 (g : Game) (hg : g.good) (n7 d c at0 q rr en : Nat) (hat : at0 < 1000000) (hq : q < g.owner.length) (hc : 6 + g.owner.length ≤ c) (hd : c < d) (v : PV) (hvd : ∀ r ∈ v.refs, r < d ∧ r ≠ c) (R Q One : List Int) (F : List (List Int)) (l : List Int) (el : F.getD q [] = l) (hl : l.length ≤ 400) (hx : ∀ x ∈ l, ∃ j : Nat, j < g.owner.length ∧ x = j) (n11 : Nat) (h11 : d + 1 ≤ n11) : ∀ (m k : Nat), k + m = l.length → ∀ (S : Store) (O L : List Int) (lo : Int), RS g S v R O F Q → At S c One → At S d L → n11 ≤ S.length → L.length + m ≤ 2000000 → Bnd lo O → -1000000000 ≤ lo - m →
    ∃ S', RS g S' v R ((l.drop k).foldl (Rk.ev g.toG R) (O, L)).1 F Q ∧ At S' c One ∧ At S' d ((l.drop k).foldl (Rk.ev g.toG R) (O, L)).2 ∧ d + 1 ≤ S'.length ∧ Bnd (lo - m) ((l.drop k).foldl (Rk.ev g.toG R) (O, L)).1 ∧ ((l.drop k).foldl (Rk.ev g.toG R) (O, L)).2.length ≤ L.length + m ∧ ∀ z, F57.L9 0 n7 (d + 1) (.mp 0 0 0) (.mp 3 0 0) (.msl 2 0 g.owner.length true) (.msl 4 0 g.owner.length true) (.mp 5 0 0) (.fn 83 [] [.mp 3 0 0, .mp 5 0 0]) (.msl c 0 One.length false) (.int .i64 (at0 + 1 : Nat)) (.int .i64 rr) (.int .i64 en) (.msl d 0 ((l.drop k).foldl (Rk.ev g.toG R) (O, L)).2.length false) S' = some z →
      F57.L11 0 n7 (d + 1) n11 (.mp 0 0 0) (.mp 3 0 0) (.msl 2 0 g.owner.length true) (.msl 4 0 g.owner.length true) (.mp 5 0 0) (.fn 83 [] [.mp 3 0 0, .mp 5 0 0]) (.msl c 0 One.length false) (.int .i64 at0) (.int .i64 rr) (.int .i64 en) (.msl d 0 L.length false) (.msl (6 + q) 0 l.length false) (.int .i64 l.length) (.int .i64 k) S = some z := by
  have hN := hg.n
  have hm4 : (1000000 : Nat) ≤ maxLen := by decide
  intro m
  induction m with
  | zero =>
    intro k hk S O L lo h ho hdl hS hL hB hlo
    have c1 : ¬ (k : Int) < (l.length : Int) := by omega
    have w1 := wrap_succ (i := at0) (n := at0 + 1) (by omega) (by omega)
    rw [List.drop_of_length_le (by omega), List.foldl_nil]
    let eA : Env := F57.ee26 (.mp 0 0 0) (.mp 3 0 0) (.msl 2 0 g.owner.length true) (.msl 4 0 g.owner.length true) (.mp 5 0 0) (.fn 83 [] [.mp 3 0 0, .mp 5 0 0]) (.msl c 0 One.length false) (.int .i64 at0) (.int .i64 rr) (.int .i64 en) (.msl d 0 L.length false) .undef .undef .undef .undef
    let eB : Env := F57.ee21 (.mp 0 0 0) (.mp 3 0 0) (.msl 2 0 g.owner.length true) (.msl 4 0 g.owner.length true) (.mp 5 0 0) (.fn 83 [] [.mp 3 0 0, .mp 5 0 0]) (.msl c 0 One.length false) (.int .i64 (at0 + 1 : Nat)) (.int .i64 rr) (.int .i64 en) (.msl d 0 L.length false)
    have hA := h.gc (n := n11) eA (by omega) hS
    have oA := ho.gc (n := n11) eA (by omega) hS
    have dA := hdl.gc (n := n11) eA (by omega) hS
    have lA := (gc_at (e := eA) hS).1
    have hB' := hA.gc (n := d + 1) eB (by omega) (by omega)
    have oB := oA.gc (n := d + 1) eB (by omega) (by omega)
    have dB := dA.gc (n := d + 1) eB (by omega) (by omega)
    have lB := (gc_at (n := d + 1) (e := eB) (S := Vs.gc n11 eA S) (by omega)).1
    refine ⟨_, hB', oB, dB, lB, by simpa using hB, by simp, fun z hz => F57.L11_step ?_⟩
    have s1 : ∀ K : KT, execL (F57.C 0) 11 F57.c88 K (F57.ee25 (.mp 0 0 0) (.mp 3 0 0) (.msl 2 0 g.owner.length true) (.msl 4 0 g.owner.length true) (.mp 5 0 0) (.fn 83 [] [.mp 3 0 0, .mp 5 0 0]) (.msl c 0 One.length false) (.int .i64 at0) (.int .i64 rr) (.int .i64 en) (.msl d 0 L.length false) (.msl (6 + q) 0 l.length false) (.int .i64 l.length) (.int .i64 k)) S = K .normal (F57.ee26 (.mp 0 0 0) (.mp 3 0 0) (.msl 2 0 g.owner.length true) (.msl 4 0 g.owner.length true) (.mp 5 0 0) (.fn 83 [] [.mp 3 0 0, .mp 5 0 0]) (.msl c 0 One.length false) (.int .i64 at0) (.int .i64 rr) (.int .i64 en) (.msl d 0 L.length false) (.msl (6 + q) 0 l.length false) (.int .i64 l.length) (.int .i64 k) (.bool false)) S := fun K => by
      simp only [go_sem, ↓reduceIte, Nat.reduceEqDiff, Nat.reduceBEq, Nat.reduceAdd, Nat.reduceMul, Nat.reduceSub, Nat.reduceLT, Nat.reduceLeDiff, reduceCtorEq, Int.reduceToNat, Int.reduceLE, Int.reduceLT, Int.reduceEq, c1]
    have s2 : ∀ (K : KT) (S : Store), execL (F57.C 0) 9 F57.c74 K eA S = K .normal (F57.ee21 (.mp 0 0 0) (.mp 3 0 0) (.msl 2 0 g.owner.length true) (.msl 4 0 g.owner.length true) (.mp 5 0 0) (.fn 83 [] [.mp 3 0 0, .mp 5 0 0]) (.msl c 0 One.length false) (.int .i64 (at0 + 1 : Nat)) (.int .i64 rr) (.int .i64 en) (.msl d 0 L.length false)) S := fun K S => by
      simp only [eA, go_sem, ↓reduceIte, Nat.reduceEqDiff, Nat.reduceBEq, Nat.reduceAdd, Nat.reduceMul, Nat.reduceSub, Nat.reduceLT, Nat.reduceLeDiff, reduceCtorEq, Int.reduceToNat, Int.reduceLE, Int.reduceLT, Int.reduceEq, withV_any, w1]
    simp only [F57.B11_eq, s1, F57.k124_n, condC_false, F57.k96_exit, F57.k87_x1, F57.k84_exit, if_true, F57.k79_n, F57.k75_n]
    rw [s2, F57.k70_n]
    exact hz
  | succ m hm =>
    intro k hk S O L lo h ho hdl hS hL hB hlo
    have c1 : (k : Int) < (l.length : Int) := by omega
    have hkl : k < l.length := by omega
    have w1 := wrap_succ (i := k) (n := l.length) hkl (by omega)
    obtain ⟨j, hj, ej⟩ := hx (l.getD k 0) (by simp [List.getD_eq_getElem?_getD, hkl])
    have ed : l.drop k = (j : Int) :: l.drop (k + 1) := by
      rw [List.drop_eq_getElem_cons hkl]
      simp only [List.getD_eq_getElem?_getD, List.getElem?_eq_getElem hkl, Option.getD_some] at ej
      rw [ej]
    have hat6 := h.at6 hq
    rw [el] at hat6
    obtain ⟨ad, a1, a2⟩ := (hat6.ints (ex := false)).load hkl
    rw [ej] at a2
    have hlR := h.lR
    have hlO := h.lO
    have hjR : j < R.length := by omega
    have hjO : j < O.length := by omega
    have r0 := rowsAt_of h.p0
    have r1 := rowsAt_of h.p1
    have r2 := rowsAt_of h.p2
    have r3 := rowsAt_of h.p3
    rw [hlR] at r3
    have x1 := idx22m (ex := true) j r1 (by rw [intRows_length, hlR]) (intRows_ok R) (by omega : j < g.owner.length)
    have x2 := idx22m (ex := true) j r2 (by rw [intRows_length, hlO]) (intRows_ok O) (by omega : j < g.owner.length)
    have hbj := hB j
    have w2 := wrap_dec (x := O.getD j 0) (by omega) (by omega)
    have h5 : 0 ≤ (j : Int) ∧ (j : Int) < (g.owner.length : Int) := ⟨by omega, by omega⟩
    have s1 : ∀ K : KT, execL (F57.C 0) 11 F57.c88 K (F57.ee25 (.mp 0 0 0) (.mp 3 0 0) (.msl 2 0 g.owner.length true) (.msl 4 0 g.owner.length true) (.mp 5 0 0) (.fn 83 [] [.mp 3 0 0, .mp 5 0 0]) (.msl c 0 One.length false) (.int .i64 at0) (.int .i64 rr) (.int .i64 en) (.msl d 0 L.length false) (.msl (6 + q) 0 l.length false) (.int .i64 l.length) (.int .i64 k)) S = K .normal (F57.ee26 (.mp 0 0 0) (.mp 3 0 0) (.msl 2 0 g.owner.length true) (.msl 4 0 g.owner.length true) (.mp 5 0 0) (.fn 83 [] [.mp 3 0 0, .mp 5 0 0]) (.msl c 0 One.length false) (.int .i64 at0) (.int .i64 rr) (.int .i64 en) (.msl d 0 L.length false) (.msl (6 + q) 0 l.length false) (.int .i64 l.length) (.int .i64 k) (.bool true)) S := fun K => by
      simp only [go_sem, ↓reduceIte, Nat.reduceEqDiff, Nat.reduceBEq, Nat.reduceAdd, Nat.reduceMul, Nat.reduceSub, Nat.reduceLT, Nat.reduceLeDiff, reduceCtorEq, Int.reduceToNat, Int.reduceLE, Int.reduceLT, Int.reduceEq, c1]
    have s2 : ∀ K : KT, execL (F57.C 0) 12 F57.c99 K (F57.ee26 (.mp 0 0 0) (.mp 3 0 0) (.msl 2 0 g.owner.length true) (.msl 4 0 g.owner.length true) (.mp 5 0 0) (.fn 83 [] [.mp 3 0 0, .mp 5 0 0]) (.msl c 0 One.length false) (.int .i64 at0) (.int .i64 rr) (.int .i64 en) (.msl d 0 L.length false) (.msl (6 + q) 0 l.length false) (.int .i64 l.length) (.int .i64 k) (.bool true)) S = K .normal (F57.ee22 (.mp 0 0 0) (.mp 3 0 0) (.msl 2 0 g.owner.length true) (.msl 4 0 g.owner.length true) (.mp 5 0 0) (.fn 83 [] [.mp 3 0 0, .mp 5 0 0]) (.msl c 0 One.length false) (.int .i64 at0) (.int .i64 rr) (.int .i64 en) (.msl d 0 L.length false) (.int .i64 j) (.msl (6 + q) 0 l.length false) (.int .i64 l.length) (.int .i64 k)) S := fun K => by
      simp only [go_sem, ↓reduceIte, Nat.reduceEqDiff, Nat.reduceBEq, Nat.reduceAdd, Nat.reduceMul, Nat.reduceSub, Nat.reduceLT, Nat.reduceLeDiff, reduceCtorEq, Int.reduceToNat, Int.reduceLE, Int.reduceLT, Int.reduceEq, withV_any, a1, a2]
    have s3 : ∀ K : KT, execL (F57.C 0) 12 F57.c117 K (F57.ee22 (.mp 0 0 0) (.mp 3 0 0) (.msl 2 0 g.owner.length true) (.msl 4 0 g.owner.length true) (.mp 5 0 0) (.fn 83 [] [.mp 3 0 0, .mp 5 0 0]) (.msl c 0 One.length false) (.int .i64 at0) (.int .i64 rr) (.int .i64 en) (.msl d 0 L.length false) (.int .i64 j) (.msl (6 + q) 0 l.length false) (.int .i64 l.length) (.int .i64 k)) S = K .normal (F57.ee23 (.mp 0 0 0) (.mp 3 0 0) (.msl 2 0 g.owner.length true) (.msl 4 0 g.owner.length true) (.mp 5 0 0) (.fn 83 [] [.mp 3 0 0, .mp 5 0 0]) (.msl c 0 One.length false) (.int .i64 at0) (.int .i64 rr) (.int .i64 en) (.msl d 0 L.length false) (.int .i64 j) (.msl (6 + q) 0 l.length false) (.int .i64 l.length) (.int .i64 k) (.bool (decide (0 ≤ Rk.rk R j))) .undef) S := fun K => by
      by_cases hh : 0 ≤ Rk.rk R j
      · simp only [go_sem, ↓reduceIte, Nat.reduceEqDiff, Nat.reduceBEq, Nat.reduceAdd, Nat.reduceMul, Nat.reduceSub, Nat.reduceLT, Nat.reduceLeDiff, reduceCtorEq, Int.reduceToNat, Int.reduceLE, Int.reduceLT, Int.reduceEq, withV_any, r1, r3, x1, intRows_get R j hjR, hjR, getD_rk hjR, hh, decide_true]
      · simp only [go_sem, ↓reduceIte, Nat.reduceEqDiff, Nat.reduceBEq, Nat.reduceAdd, Nat.reduceMul, Nat.reduceSub, Nat.reduceLT, Nat.reduceLeDiff, reduceCtorEq, Int.reduceToNat, Int.reduceLE, Int.reduceLT, Int.reduceEq, withV_any, r1, r3, x1, intRows_get R j hjR, hjR, getD_rk hjR, hh, decide_false]
    have s9 : ∀ (K : KT) (S : Store) (y1 y2 : PV) (ll : Nat), execL (F57.C 0) 11 F57.c93 K (F57.ee23 (.mp 0 0 0) (.mp 3 0 0) (.msl 2 0 g.owner.length true) (.msl 4 0 g.owner.length true) (.mp 5 0 0) (.fn 83 [] [.mp 3 0 0, .mp 5 0 0]) (.msl c 0 One.length false) (.int .i64 at0) (.int .i64 rr) (.int .i64 en) (.msl d 0 ll false) (.int .i64 j) (.msl (6 + q) 0 l.length false) (.int .i64 l.length) (.int .i64 k) y1 y2) S = K .normal (F57.ee25 (.mp 0 0 0) (.mp 3 0 0) (.msl 2 0 g.owner.length true) (.msl 4 0 g.owner.length true) (.mp 5 0 0) (.fn 83 [] [.mp 3 0 0, .mp 5 0 0]) (.msl c 0 One.length false) (.int .i64 at0) (.int .i64 rr) (.int .i64 en) (.msl d 0 ll false) (.msl (6 + q) 0 l.length false) (.int .i64 l.length) (.int .i64 (k + 1 : Nat))) S := fun K S y1 y2 ll => by
      simp only [go_sem, ↓reduceIte, Nat.reduceEqDiff, Nat.reduceBEq, Nat.reduceAdd, Nat.reduceMul, Nat.reduceSub, Nat.reduceLT, Nat.reduceLeDiff, reduceCtorEq, Int.reduceToNat, Int.reduceLE, Int.reduceLT, Int.reduceEq, withV_any, w1]
    have w3 : IntKind.i64.wrap (O.getD j 0 - 1) = O.getD j 0 - 1 := w2
    rw [ed, List.foldl_cons]
    by_cases hr : 0 ≤ Rk.rk R j
    · have ee : Rk.ev g.toG R (O, L) (j : Int) = (O, L) := by unfold Rk.ev; rw [if_pos hr]
      rw [ee]
      let eA : Env := F57.ee25 (.mp 0 0 0) (.mp 3 0 0) (.msl 2 0 g.owner.length true) (.msl 4 0 g.owner.length true) (.mp 5 0 0) (.fn 83 [] [.mp 3 0 0, .mp 5 0 0]) (.msl c 0 One.length false) (.int .i64 at0) (.int .i64 rr) (.int .i64 en) (.msl d 0 L.length false) (.msl (6 + q) 0 l.length false) (.int .i64 l.length) (.int .i64 (k + 1 : Nat))
      obtain ⟨S', b1, b2, b3, b4, b5, b6, b7⟩ := hm (k + 1) (by omega) _ O L (lo - 1) (h.gc (n := n11) eA (by omega) hS) (ho.gc eA (by omega) hS) (hdl.gc eA (by omega) hS) (gc_at hS).1 (by omega) (fun t => by have := hB t; omega) (by omega)
      refine ⟨S', b1, b2, b3, b4, fun t => by have := b5 t; omega, by omega, fun z hz => F57.L11_step ?_⟩
      simp only [F57.B11_eq, s1, F57.k124_n, condC_true, F57.k96_n, s2, F57.k116_n, s3, hr, decide_true, F57.k119_n, F57.k114_exit, F57.k98_exit, if_true, F57.k94_n, s9, F57.k87_n]
      exact b7 z hz
    · have hO2 := h.setO j (O.getD j 0 - 1)
      have st := storeInt (j := j) (O.getD j 0 - 1) h.p2 hjO
      have oc2 := ho.set (j := 2) (by omega) (.arr (intRows (O.set j (O.getD j 0 - 1))) (some (some 1)) false)
      have dc2 := hdl.set (j := 2) (by omega) (.arr (intRows (O.set j (O.getD j 0 - 1))) (some (some 1)) false)
      have hB2 := hB.set j
      have lS2 : (S.set 2 (.arr (intRows (O.set j (O.getD j 0 - 1))) (some (some 1)) false)).length = S.length := by rw [List.length_set]
      generalize eS2 : S.set 2 (.arr (intRows (O.set j (O.getD j 0 - 1))) (some (some 1)) false) = S2 at *
      have r0' := rowsAt_of hO2.p0
      have r2' := rowsAt_of hO2.p2
      have hjO' : j < (O.set j (O.getD j 0 - 1)).length := by rw [List.length_set]; exact hjO
      have x2' := idx22m (ex := true) j r2' (by rw [intRows_length, List.length_set, hlO]) (intRows_ok _) (by omega : j < g.owner.length)
      have gO : (O.set j (O.getD j 0 - 1)).getD j 0 = O.getD j 0 - 1 := by simp [List.getD_eq_getElem?_getD, hjO]
      have s4 : ∀ K : KT, execL (F57.C 0) 12 F57.c103 K (F57.ee23 (.mp 0 0 0) (.mp 3 0 0) (.msl 2 0 g.owner.length true) (.msl 4 0 g.owner.length true) (.mp 5 0 0) (.fn 83 [] [.mp 3 0 0, .mp 5 0 0]) (.msl c 0 One.length false) (.int .i64 at0) (.int .i64 rr) (.int .i64 en) (.msl d 0 L.length false) (.int .i64 j) (.msl (6 + q) 0 l.length false) (.int .i64 l.length) (.int .i64 k) (.bool false) .undef) S = K .normal (F57.ee22 (.mp 0 0 0) (.mp 3 0 0) (.msl 2 0 g.owner.length true) (.msl 4 0 g.owner.length true) (.mp 5 0 0) (.fn 83 [] [.mp 3 0 0, .mp 5 0 0]) (.msl c 0 One.length false) (.int .i64 at0) (.int .i64 rr) (.int .i64 en) (.msl d 0 L.length false) (.int .i64 j) (.msl (6 + q) 0 l.length false) (.int .i64 l.length) (.int .i64 k)) S2 := fun K => by
        simp only [storeE_eq, known3, if_true, size3] at st
        simp only [go_sem, ↓reduceIte, Nat.reduceEqDiff, Nat.reduceBEq, Nat.reduceAdd, Nat.reduceMul, Nat.reduceSub, Nat.reduceLT, Nat.reduceLeDiff, reduceCtorEq, Int.reduceToNat, Int.reduceLE, Int.reduceLT, Int.reduceEq, withV_any, x2, r2, intRows_get O j hjO, hjO, w3, st]
      have s5 : ∀ K : KT, execL (F57.C 0) 12 F57.c105 K (F57.ee22 (.mp 0 0 0) (.mp 3 0 0) (.msl 2 0 g.owner.length true) (.msl 4 0 g.owner.length true) (.mp 5 0 0) (.fn 83 [] [.mp 3 0 0, .mp 5 0 0]) (.msl c 0 One.length false) (.int .i64 at0) (.int .i64 rr) (.int .i64 en) (.msl d 0 L.length false) (.int .i64 j) (.msl (6 + q) 0 l.length false) (.int .i64 l.length) (.int .i64 k)) S2 = K .normal (F57.ee23 (.mp 0 0 0) (.mp 3 0 0) (.msl 2 0 g.owner.length true) (.msl 4 0 g.owner.length true) (.mp 5 0 0) (.fn 83 [] [.mp 3 0 0, .mp 5 0 0]) (.msl c 0 One.length false) (.int .i64 at0) (.int .i64 rr) (.int .i64 en) (.msl d 0 L.length false) (.int .i64 j) (.msl (6 + q) 0 l.length false) (.int .i64 l.length) (.int .i64 k) .undef (.bool (decide (g.owner.getD j 0 = 0 ∨ O.getD j 0 - 1 = 0)))) S2 := fun K => by
        by_cases h1 : g.owner.getD j 0 = 0
        · simp only [go_sem, ↓reduceIte, Nat.reduceEqDiff, Nat.reduceBEq, Nat.reduceAdd, Nat.reduceMul, Nat.reduceSub, Nat.reduceLT, Nat.reduceLeDiff, reduceCtorEq, Int.reduceToNat, Int.reduceLE, Int.reduceLT, Int.reduceEq, withV_any, r0', h5, Int.toNat_natCast, h1, true_or, decide_true]
        · by_cases h2 : O.getD j 0 - 1 = 0
          · have gO' : (O.set j (O.getD j 0 - 1)).getD j 0 = 0 := by rw [gO, h2]
            have e1 : (decide (g.owner.getD j 0 = 0 ∨ O.getD j 0 - 1 = 0)) = true := by simp only [h2, or_true, decide_true]
            rw [e1]
            simp only [go_sem, ↓reduceIte, Nat.reduceEqDiff, Nat.reduceBEq, Nat.reduceAdd, Nat.reduceMul, Nat.reduceSub, Nat.reduceLT, Nat.reduceLeDiff, reduceCtorEq, Int.reduceToNat, Int.reduceLE, Int.reduceLT, Int.reduceEq, withV_any, r0', h5, Int.toNat_natCast, h1, x2', r2', intRows_get _ j hjO', hjO', gO']
          · simp only [go_sem, ↓reduceIte, Nat.reduceEqDiff, Nat.reduceBEq, Nat.reduceAdd, Nat.reduceMul, Nat.reduceSub, Nat.reduceLT, Nat.reduceLeDiff, reduceCtorEq, Int.reduceToNat, Int.reduceLE, Int.reduceLT, Int.reduceEq, withV_any, r0', h5, Int.toNat_natCast, h1, x2', r2', intRows_get _ j hjO', hjO', gO, h2, or_self, decide_false]
      by_cases hp : g.owner.getD j 0 = 0 ∨ O.getD j 0 - 1 = 0
      · have ee : Rk.ev g.toG R (O, L) (j : Int) = (O.set j (O.getD j 0 - 1), L ++ [(j : Int)]) := by
          unfold Rk.ev; rw [if_neg hr]
          have hp' : g.toG.owner (j : Int).toNat = 0 ∨ (O, L).1.getD (j : Int).toNat 0 - 1 = 0 := hp
          rw [if_pos hp']; rfl
        rw [ee]
        obtain ⟨p1, p2⟩ := dc2.push (j : Int) (by omega)
        have hdv : d ∉ v.refs := fun hx => by have := (hvd d hx).1; omega
        have h3 := hO2.pushed (id := d) (by omega) hdv L (j : Int)
        have o3 := oc2.pushed (id' := d) (by omega) L (j : Int)
        have hl3 := pushed_length S2 d L (j : Int)
        generalize Vs.pushed S2 d L (j : Int) = S3 at *
        have kb : ∀ (t : Nat), t < 6 → (t == d) = false := fun t ht => by simp only [beq_eq_false_iff_ne]; omega
        have kb1 : (c == d) = false := by simp only [beq_eq_false_iff_ne]; omega
        have kb2 : (6 + q == d) = false := by simp only [beq_eq_false_iff_ne]; omega
        have s6 : ∀ K : KT, execL (F57.C 0) 12 F57.c108 K (F57.ee23 (.mp 0 0 0) (.mp 3 0 0) (.msl 2 0 g.owner.length true) (.msl 4 0 g.owner.length true) (.mp 5 0 0) (.fn 83 [] [.mp 3 0 0, .mp 5 0 0]) (.msl c 0 One.length false) (.int .i64 at0) (.int .i64 rr) (.int .i64 en) (.msl d 0 L.length false) (.int .i64 j) (.msl (6 + q) 0 l.length false) (.int .i64 l.length) (.int .i64 k) .undef (.bool true)) S2 = K .normal (F57.ee23 (.mp 0 0 0) (.mp 3 0 0) (.msl 2 0 g.owner.length true) (.msl 4 0 g.owner.length true) (.mp 5 0 0) (.fn 83 [] [.mp 3 0 0, .mp 5 0 0]) (.msl c 0 One.length false) (.int .i64 at0) (.int .i64 rr) (.int .i64 en) (.msl d 0 (L ++ [(j : Int)]).length false) (.int .i64 j) (.msl (6 + q) 0 l.length false) (.int .i64 l.length) (.int .i64 k) .undef (.bool true)) S3 := fun K => by
          simp only [go_sem, ↓reduceIte, Nat.reduceEqDiff, Nat.reduceBEq, Nat.reduceAdd, Nat.reduceMul, Nat.reduceSub, Nat.reduceLT, Nat.reduceLeDiff, reduceCtorEq, Int.reduceToNat, Int.reduceLE, Int.reduceLT, Int.reduceEq, withV_any, p1, get_put, get_killE, kb 0 (by omega), kb 2 (by omega), kb 3 (by omega), kb 4 (by omega), kb 5 (by omega), kb1, kb2]
        let eA : Env := F57.ee25 (.mp 0 0 0) (.mp 3 0 0) (.msl 2 0 g.owner.length true) (.msl 4 0 g.owner.length true) (.mp 5 0 0) (.fn 83 [] [.mp 3 0 0, .mp 5 0 0]) (.msl c 0 One.length false) (.int .i64 at0) (.int .i64 rr) (.int .i64 en) (.msl d 0 (L ++ [(j : Int)]).length false) (.msl (6 + q) 0 l.length false) (.int .i64 l.length) (.int .i64 (k + 1 : Nat))
        have l3 : n11 ≤ S3.length := by omega
        have lll : (L ++ [(j : Int)]).length = L.length + 1 := by simp
        obtain ⟨S', b1, b2, b3, b4, b5, b6, b7⟩ := hm (k + 1) (by omega) _ _ (L ++ [(j : Int)]) (lo - 1) (h3.gc (n := n11) eA (by omega) l3) (o3.gc eA (by omega) l3) (p2.gc eA (by omega) l3) (gc_at l3).1 (by omega) hB2 (by omega)
        refine ⟨S', b1, b2, b3, b4, fun t => by have := b5 t; omega, by omega, fun z hz => F57.L11_step ?_⟩
        simp only [F57.B11_eq, s1, F57.k124_n, condC_true, F57.k96_n, s2, F57.k116_n, s3, hr, decide_false, F57.k119_n, condC_false, F57.k114_n, s4, F57.k112_n, s5, hp, decide_true, F57.k107_n, s6, F57.k98_n, F57.k94_n, s9, F57.k87_n]
        exact b7 z hz
      · have ee : Rk.ev g.toG R (O, L) (j : Int) = (O.set j (O.getD j 0 - 1), L) := by
          unfold Rk.ev; rw [if_neg hr]
          have hp' : ¬ (g.toG.owner (j : Int).toNat = 0 ∨ (O, L).1.getD (j : Int).toNat 0 - 1 = 0) := hp
          rw [if_neg hp']; rfl
        rw [ee]
        let eA : Env := F57.ee25 (.mp 0 0 0) (.mp 3 0 0) (.msl 2 0 g.owner.length true) (.msl 4 0 g.owner.length true) (.mp 5 0 0) (.fn 83 [] [.mp 3 0 0, .mp 5 0 0]) (.msl c 0 One.length false) (.int .i64 at0) (.int .i64 rr) (.int .i64 en) (.msl d 0 L.length false) (.msl (6 + q) 0 l.length false) (.int .i64 l.length) (.int .i64 (k + 1 : Nat))
        have l3 : n11 ≤ S2.length := by omega
        obtain ⟨S', b1, b2, b3, b4, b5, b6, b7⟩ := hm (k + 1) (by omega) _ _ L (lo - 1) (hO2.gc (n := n11) eA (by omega) l3) (oc2.gc eA (by omega) l3) (dc2.gc eA (by omega) l3) (gc_at l3).1 (by omega) hB2 (by omega)
        refine ⟨S', b1, b2, b3, b4, fun t => by have := b5 t; omega, by omega, fun z hz => F57.L11_step ?_⟩
        simp only [F57.B11_eq, s1, F57.k124_n, condC_true, F57.k96_n, s2, F57.k116_n, s3, hr, decide_false, F57.k119_n, condC_false, F57.k114_n, s4, F57.k112_n, s5, hp, F57.k107_n, F57.k98_n, F57.k94_n, s9, F57.k87_n]
        exact b7 z hz
end Go.Vs
end
/- game.ranks: the loop over a level's positions. -/
section
set_option linter.unusedVariables false
set_option linter.unusedSimpArgs false
namespace Go.Vs
open Go Go.Proofs
/-- The lists of predecessors hold positions. -/
def FromOK (n : Nat) (F : List (List Int)) : Prop := ∀ q, q < n → (F.getD q []).length ≤ 400 ∧ ∀ x ∈ F.getD q [], ∃ j : Nat, j < n ∧ x = j
/-- The events of positions. -/
def evsOf (F : List (List Int)) (Q : List Int) : List Int := Q.flatMap fun q => F.getD q.toNat []
theorem loop57_9 (g : Game) (hg : g.good) (n7 d c rr : Nat) (hc : 6 + g.owner.length ≤ c) (hd : c < d) (v : PV) (hvd : ∀ r ∈ v.refs, r < d ∧ r ≠ c) (R Q One : List Int) (F : List (List Int)) (hF : FromOK g.owner.length F) (hQ : ∀ x ∈ Q, ∃ j : Nat, j < g.owner.length ∧ x = j) (hQl : Q.length ≤ 900000) : ∀ (m at0 : Nat), at0 + m = Q.length → ∀ (S : Store) (O L : List Int) (lo : Int), RS g S v R O F Q → At S c One → At S d L → d + 1 ≤ S.length → L.length + m * 400 ≤ 2000000 → Bnd lo O → -1000000000 ≤ lo - m * 400 →
    ∃ S', RS g S' v R ((evsOf F (Q.drop at0)).foldl (Rk.ev g.toG R) (O, L)).1 F Q ∧ At S' c One ∧ At S' d ((evsOf F (Q.drop at0)).foldl (Rk.ev g.toG R) (O, L)).2 ∧ d + 1 ≤ S'.length ∧ Bnd (lo - m * 400) ((evsOf F (Q.drop at0)).foldl (Rk.ev g.toG R) (O, L)).1 ∧ ((evsOf F (Q.drop at0)).foldl (Rk.ev g.toG R) (O, L)).2.length ≤ L.length + m * 400 ∧ ∀ z, F57.k56 0 n7 .normal (F57.ee24 (.mp 0 0 0) (.mp 3 0 0) (.msl 2 0 g.owner.length true) (.msl 4 0 g.owner.length true) (.mp 5 0 0) (.fn 83 [] [.mp 3 0 0, .mp 5 0 0]) (.msl c 0 One.length false) (.int .i64 Q.length) (.int .i64 rr) .undef (.msl d 0 ((evsOf F (Q.drop at0)).foldl (Rk.ev g.toG R) (O, L)).2.length false) .undef) S' = some z →
      F57.L9 0 n7 (d + 1) (.mp 0 0 0) (.mp 3 0 0) (.msl 2 0 g.owner.length true) (.msl 4 0 g.owner.length true) (.mp 5 0 0) (.fn 83 [] [.mp 3 0 0, .mp 5 0 0]) (.msl c 0 One.length false) (.int .i64 at0) (.int .i64 rr) (.int .i64 Q.length) (.msl d 0 L.length false) S = some z := by
  have hN := hg.n
  have hm4 : (1000000 : Nat) ≤ maxLen := by decide
  intro m
  induction m with
  | zero =>
    intro at0 hk S O L lo h ho hdl hS hL hB hlo
    have c1 : ¬ (at0 : Int) < (Q.length : Int) := by omega
    obtain rfl : at0 = Q.length := by omega
    have e0 : Q.drop Q.length = [] := List.drop_of_length_le (by omega)
    rw [e0]
    simp only [evsOf, List.flatMap_nil, List.foldl_nil]
    let eA : Env := F57.ee24 (.mp 0 0 0) (.mp 3 0 0) (.msl 2 0 g.owner.length true) (.msl 4 0 g.owner.length true) (.mp 5 0 0) (.fn 83 [] [.mp 3 0 0, .mp 5 0 0]) (.msl c 0 One.length false) (.int .i64 Q.length) (.int .i64 rr) .undef (.msl d 0 L.length false) .undef
    refine ⟨_, h.gc (n := d + 1) eA (by omega) hS, ho.gc eA (by omega) hS, hdl.gc eA (by omega) hS, (gc_at hS).1, by simpa using hB, by simp, fun z hz => F57.L9_step ?_⟩
    have s1 : ∀ K : KT, execL (F57.C 0) 9 F57.c130 K (F57.ee21 (.mp 0 0 0) (.mp 3 0 0) (.msl 2 0 g.owner.length true) (.msl 4 0 g.owner.length true) (.mp 5 0 0) (.fn 83 [] [.mp 3 0 0, .mp 5 0 0]) (.msl c 0 One.length false) (.int .i64 Q.length) (.int .i64 rr) (.int .i64 Q.length) (.msl d 0 L.length false)) S = K .normal (F57.ee24 (.mp 0 0 0) (.mp 3 0 0) (.msl 2 0 g.owner.length true) (.msl 4 0 g.owner.length true) (.mp 5 0 0) (.fn 83 [] [.mp 3 0 0, .mp 5 0 0]) (.msl c 0 One.length false) (.int .i64 Q.length) (.int .i64 rr) (.int .i64 Q.length) (.msl d 0 L.length false) (.bool false)) S := fun K => by
      simp only [go_sem, ↓reduceIte, Nat.reduceEqDiff, Nat.reduceBEq, Nat.reduceAdd, Nat.reduceMul, Nat.reduceSub, Nat.reduceLT, Nat.reduceLeDiff, reduceCtorEq, Int.reduceToNat, Int.reduceLE, Int.reduceLT, Int.reduceEq, withV_any, c1]
    simp only [F57.B9_eq, s1, F57.k132_n, condC_false, F57.k77_exit, F57.k70_x1, F57.k67_exit, if_true]
    exact hz
  | succ m hm =>
    intro at0 hk S O L lo h ho hdl hS hL hB hlo
    have c1 : (at0 : Int) < (Q.length : Int) := by omega
    have hkl : at0 < Q.length := by omega
    obtain ⟨q, hq, eq⟩ := hQ (Q.getD at0 0) (by simp [List.getD_eq_getElem?_getD, hkl])
    have ed : Q.drop at0 = (q : Int) :: Q.drop (at0 + 1) := by
      rw [List.drop_eq_getElem_cons hkl]
      simp only [List.getD_eq_getElem?_getD, List.getElem?_eq_getElem hkl, Option.getD_some] at eq
      rw [eq]
    have ev1 : evsOf F (Q.drop at0) = F.getD q [] ++ evsOf F (Q.drop (at0 + 1)) := by
      rw [ed]
      simp only [evsOf, List.flatMap_cons, Int.toNat_natCast]
    obtain ⟨f1, f2⟩ := hF q hq
    have hlF := h.lF
    obtain ⟨ad, a1, a2⟩ := h.q.ints.load hkl
    rw [eq] at a2
    have r4 := rowsAt_of h.p4
    have r5 := rowsAt_of h.p5
    have x4 := idx23m (ex := true) q r4 (by rw [fromRows_length]; exact hlF) (fromRows_ok F) hq
    have hqF : q < F.length := by omega
    have fg := fromRows_get F q hqF
    have hlen := ((h.at6 hq).ints (ex := false)).len
    obtain ⟨S1, b1, b2, b3, b4, b5, b6, b7⟩ := loop57_11 g hg n7 d c at0 q rr Q.length (by omega) hq hc hd v hvd R Q One F _ rfl f1 f2 S.length (by omega) (F.getD q []).length 0 (by omega) S O L lo h ho hdl (Nat.le_refl _) (by omega) hB (by omega)
    rw [List.drop_zero] at b1 b3 b5 b6 b7
    rw [ev1, List.foldl_append]
    generalize es : (F.getD q []).foldl (Rk.ev g.toG R) (O, L) = s1 at *
    obtain ⟨O1, L1⟩ := s1
    simp only at b1 b3 b5 b6 b7
    obtain ⟨S', d1, d2, d3, d4, d5, d6, d7⟩ := hm (at0 + 1) (by omega) S1 O1 L1 (lo - 400) b1 b2 b3 b4 (by omega) (fun t => by have := b5 t; omega) (by omega)
    refine ⟨S', d1, d2, d3, d4, fun t => by have := d5 t; omega, by omega, fun z hz => F57.L9_step ?_⟩
    have s1' : ∀ K : KT, execL (F57.C 0) 9 F57.c130 K (F57.ee21 (.mp 0 0 0) (.mp 3 0 0) (.msl 2 0 g.owner.length true) (.msl 4 0 g.owner.length true) (.mp 5 0 0) (.fn 83 [] [.mp 3 0 0, .mp 5 0 0]) (.msl c 0 One.length false) (.int .i64 at0) (.int .i64 rr) (.int .i64 Q.length) (.msl d 0 L.length false)) S = K .normal (F57.ee24 (.mp 0 0 0) (.mp 3 0 0) (.msl 2 0 g.owner.length true) (.msl 4 0 g.owner.length true) (.mp 5 0 0) (.fn 83 [] [.mp 3 0 0, .mp 5 0 0]) (.msl c 0 One.length false) (.int .i64 at0) (.int .i64 rr) (.int .i64 Q.length) (.msl d 0 L.length false) (.bool true)) S := fun K => by
      simp only [go_sem, ↓reduceIte, Nat.reduceEqDiff, Nat.reduceBEq, Nat.reduceAdd, Nat.reduceMul, Nat.reduceSub, Nat.reduceLT, Nat.reduceLeDiff, reduceCtorEq, Int.reduceToNat, Int.reduceLE, Int.reduceLT, Int.reduceEq, withV_any, c1]
    have s2 : ∀ K : KT, execL (F57.C 0) 10 F57.c80 K (F57.ee24 (.mp 0 0 0) (.mp 3 0 0) (.msl 2 0 g.owner.length true) (.msl 4 0 g.owner.length true) (.mp 5 0 0) (.fn 83 [] [.mp 3 0 0, .mp 5 0 0]) (.msl c 0 One.length false) (.int .i64 at0) (.int .i64 rr) (.int .i64 Q.length) (.msl d 0 L.length false) (.bool true)) S = K .normal (F57.ee25 (.mp 0 0 0) (.mp 3 0 0) (.msl 2 0 g.owner.length true) (.msl 4 0 g.owner.length true) (.mp 5 0 0) (.fn 83 [] [.mp 3 0 0, .mp 5 0 0]) (.msl c 0 One.length false) (.int .i64 at0) (.int .i64 rr) (.int .i64 Q.length) (.msl d 0 L.length false) (.msl (6 + q) 0 (F.getD q []).length false) (.int .i64 (F.getD q []).length) (.int .i64 (0 : Nat))) S := fun K => by
      simp only [go_sem, ↓reduceIte, Nat.reduceEqDiff, Nat.reduceBEq, Nat.reduceAdd, Nat.reduceMul, Nat.reduceSub, Nat.reduceLT, Nat.reduceLeDiff, reduceCtorEq, Int.reduceToNat, Int.reduceLE, Int.reduceLT, Int.reduceEq, withV_any, r5, a1, a2, x4, r4, fromRows_length, hqF, fg, hlen, Int.natCast_zero]
    simp only [F57.B9_eq, s1', F57.k132_n, condC_true, F57.k77_n, s2, F57.k82_n]
    exact b7 z (d7 z hz)
end Go.Vs
end
/- game.ranks: the loop over the levels. -/
section
set_option linter.unusedVariables false
set_option linter.unusedSimpArgs false
namespace Go.Vs
open Go Go.Proofs
@[go_sem] theorem callV_fn83 (C : Ctx) (S : Store) (a b : PV) (l : List PV) : callV C S (.fn 83 [] [a, b]) l = callE C S 83 ([] ++ l ++ [a, b]) := nr rfl
theorem nodup_le : ∀ (n : Nat) (l : List Int), l.Nodup → (∀ x ∈ l, ∃ j : Nat, j < n ∧ x = j) → l.length ≤ n
  | 0, l, _, h => by
    cases l with
    | nil => exact Nat.le_refl _
    | cons a l => obtain ⟨j, hj, _⟩ := h a (by simp); omega
  | n + 1, l, hl, h => by
    have := nodup_le n (l.erase (n : Int)) (hl.erase _) fun x hx => by
      obtain ⟨h1, h2⟩ := hl.mem_erase_iff.1 hx
      obtain ⟨j, hj, e⟩ := h x h2
      exact ⟨j, by omega, e⟩
    rw [List.length_erase] at this
    split at this <;> omega
theorem RS.toLev {g : Game} {S : Store} {v : PV} {R O Q : List Int} {F : List (List Int)} (h : RS g S v R O F Q) : LevS S.length 3 1 5 S v R Q := by
  have hl := h.len
  have hv := h.hv
  exact ⟨Nat.le_refl _, h.p3, h.p1, h.p5, h.q, by omega, by omega, fun hx => by have := hv _ hx; omega, fun hx => by have := hv _ hx; omega, fun hx => by have := hv _ hx; omega⟩
theorem RS.lev {g : Game} {S S' : Store} {v v' : PV} {R R' O Q Q' : List Int} {F : List (List Int)} (h : RS g S v R O F Q) (hL : LevS S.length 3 1 5 S' v' R' Q') (k : Keep S.length (1 :: 5 :: v.refs) v.refs S S') (hv' : ∀ r ∈ v'.refs, r ∈ v.refs ∨ S.length ≤ r) (hR : R'.length = R.length) : RS g S' v' R' O F Q' := by
  have hl := h.len
  have hv := h.hv
  have no : ∀ j, j < 6 + g.owner.length → j ∉ v.refs := fun j hj hx => by have := hv _ hx; omega
  have nX : ∀ j, j < 6 + g.owner.length → j ≠ 1 → j ≠ 5 → j ∉ 1 :: 5 :: v.refs := fun j hj h1 h5 => by simp only [List.mem_cons, not_or]; exact ⟨h1, h5, no j hj⟩
  refine ⟨by rw [hR]; exact h.lR, h.lO, h.lF, by have := hL.len; omega, ?_, hL.rank, ?_, hL.box, ?_, hL.qbox, fun i hi => ?_, hL.q, fun r hr => ?_⟩
  · exact k.keeps 0 (by omega) (nX 0 (by omega) (by omega) (by omega)) _ _ _ h.p0 fun r hr => by
      simp only [rowsRefs_cons, rowsRefs_nil, Game.refs, List.append_nil] at hr
      cases hr
  · exact k.keeps 2 (by omega) (nX 2 (by omega) (by omega) (by omega)) _ _ _ h.p2 fun r hr => by rw [intRows_refs] at hr; cases hr
  · exact k.keeps 4 (by omega) (nX 4 (by omega) (by omega) (by omega)) _ _ _ h.p4 fun r hr => by
      have h1 := fromRows_refs F r hr
      have h2 := h.lF
      exact ⟨by omega, no r (by omega)⟩
  · obtain ⟨gr, a, b⟩ := h.p6 i hi
    exact ⟨gr, a, k.keeps (6 + i) (by omega) (nX _ (by omega) (by omega) (by omega)) _ _ _ b fun r hr => by rw [intRows_refs] at hr; cases hr⟩
  · rcases hv' r hr with h1 | h1
    · exact hv r h1
    · omega
theorem evsOf_pred {g : Rk.G} {F : List (List Int)} (hF : ∀ q, q < g.n → F.getD q [] = Rk.predL g q) : ∀ Q : List Int, (∀ x ∈ Q, ∃ j : Nat, j < g.n ∧ x = j) → evsOf F Q = Q.flatMap (Rk.predL g)
  | [], _ => rfl
  | x :: Q, h => by
    obtain ⟨j, hj, rfl⟩ := h x (by simp)
    have := evsOf_pred hF Q fun x hx => h x (by simp [hx])
    simp only [evsOf, List.flatMap_cons, Int.toNat_natCast] at this ⊢
    rw [this, hF j hj]
theorem evs_pos (g : Rk.G) (R : List Int) : ∀ (E : List Int), (∀ x ∈ E, ∃ j : Nat, j < g.n ∧ x = j) → ∀ s : List Int × List Int, (∀ x ∈ s.2, ∃ j : Nat, j < g.n ∧ x = j) → ∀ x ∈ (E.foldl (Rk.ev g R) s).2, ∃ j : Nat, j < g.n ∧ x = j
  | [], _, s, hs => hs
  | e :: E, hE, s, hs => by
    rw [List.foldl_cons]
    refine evs_pos g R E (fun x hx => hE x (by simp [hx])) _ fun x hx => ?_
    unfold Rk.ev at hx
    split at hx
    · exact hs x hx
    · simp only at hx
      split at hx
      · rcases List.mem_append.1 hx with hx | hx
        · exact hs x hx
        · rw [List.mem_singleton.1 hx]; exact hE e (by simp)
      · exact hs x hx
theorem loop57_7 (g : Game) (hg : g.good) (c : Nat) (hc : 6 + g.owner.length ≤ c) (One : List Int) (hone : ∀ x, x ∈ One ↔ ∃ j : Nat, j < g.toG.n ∧ x = j ∧ g.toG.goal j = false ∧ g.toG.owner j = 1 ∧ g.toG.moves j = []) (hol : One.length ≤ 400) (F : List (List Int)) (hF : ∀ q : Nat, q < g.toG.n → F.getD q [] = Rk.predL g.toG q) (n7 : Nat) (hn7 : c + 1 ≤ n7) : ∀ (m r : Nat), r + m = g.owner.length + 2 → ∀ (S : Store) (v : PV) (O QP Q : List Int) (lo : Int), RS g S v (Rk.lvl g.toG r) O F (QP ++ Q) → At S c One → c ∉ v.refs → n7 ≤ S.length → Rk.St g.toG r O Q → QP.length + Q.length ≤ (r + 1) * 400 → (∀ x ∈ QP, ∃ j : Nat, j < g.owner.length ∧ x = j) → Bnd lo O → -1000000000 ≤ lo - m * 160000 → r + Rk.unr g.toG r ≤ g.owner.length + 2 → (Q ≠ [] ∨ r = 0 → r + Rk.unr g.toG r ≤ g.owner.length + 1) →
    ∃ S', F57.L7 0 n7 (.mp 0 0 0) (.mp 3 0 0) (.msl 2 0 g.owner.length true) (.msl 4 0 g.owner.length true) (.mp 5 0 0) (.fn 83 [] [.mp 3 0 0, .mp 5 0 0]) (.msl c 0 One.length false) (.int .i64 QP.length) (.int .i64 r) S = some (.msl 1 0 g.owner.length true, S') ∧ S'[1]? = some (.arr (intRows (Rk.lvl g.toG (g.owner.length + 1))) (some (some 1)) false) := by
  have hN := hg.n
  have hm4 : (1000000 : Nat) ≤ maxLen := by decide
  have hgn : g.toG.n = g.owner.length := rfl
  -- the end
  have fin : ∀ (r : Nat), r ≠ 0 → ∀ (S : Store) (v : PV) (O QP : List Int), RS g S v (Rk.lvl g.toG r) O F (QP ++ []) → n7 ≤ S.length → Rk.St g.toG r O [] → r ≤ g.owner.length + 2 →
      ∃ S', F57.L7 0 n7 (.mp 0 0 0) (.mp 3 0 0) (.msl 2 0 g.owner.length true) (.msl 4 0 g.owner.length true) (.mp 5 0 0) (.fn 83 [] [.mp 3 0 0, .mp 5 0 0]) (.msl c 0 One.length false) (.int .i64 QP.length) (.int .i64 r) S = some (.msl 1 0 g.owner.length true, S') ∧ S'[1]? = some (.arr (intRows (Rk.lvl g.toG (g.owner.length + 1))) (some (some 1)) false) := by
    intro r hr S v O QP h hS hst hb
    have el := Rk.lvl_end hg.ok hst hr rfl hb fun e => by
      subst e
      exact Rk.lvl_same hst rfl
    have c1 : ¬ (QP.length : Int) < (QP.length : Int) := Int.lt_irrefl _
    rw [List.append_nil] at h
    have c2 : ¬ (r : Int) = 0 := by omega
    have r5 := rowsAt_of h.p5
    have hlen := h.q.ints.len
    let eA : Env := F57.ee28 .undef (.mp 3 0 0) .undef .undef .undef .undef .undef .undef .undef .undef
    have hA := h.gc (n := n7) eA (by omega) hS
    have r3 := rowsAt_of hA.p3
    rw [hA.lR] at r3
    refine ⟨Vs.gc n7 eA S, F57.L7_step ?_, by rw [← hgn, ← el]; exact hA.p1⟩
    have s1 : ∀ K : KT, execL (F57.C 0) 7 F57.c140 K (F57.ee19 (.mp 0 0 0) (.mp 3 0 0) (.msl 2 0 g.owner.length true) (.msl 4 0 g.owner.length true) (.mp 5 0 0) (.fn 83 [] [.mp 3 0 0, .mp 5 0 0]) (.msl c 0 One.length false) (.int .i64 QP.length) (.int .i64 r)) S = K .normal (F57.ee28 (.mp 0 0 0) (.mp 3 0 0) (.msl 2 0 g.owner.length true) (.msl 4 0 g.owner.length true) (.mp 5 0 0) (.fn 83 [] [.mp 3 0 0, .mp 5 0 0]) (.msl c 0 One.length false) (.int .i64 QP.length) (.int .i64 r) (.bool false)) S := fun K => by
      simp only [go_sem, ↓reduceIte, Nat.reduceEqDiff, Nat.reduceBEq, Nat.reduceAdd, Nat.reduceMul, Nat.reduceSub, Nat.reduceLT, Nat.reduceLeDiff, reduceCtorEq, Int.reduceToNat, Int.reduceLE, Int.reduceLT, Int.reduceEq, withV_any, r5, hlen, c1, c2]
    have s2 : ∀ K : KT, execL (F57.C 0) 0 F57.c23 K eA (Vs.gc n7 eA S) = K .normal (F57.ee29 (.msl 1 0 g.owner.length true)) (Vs.gc n7 eA S) := fun K => by
      have e : ∀ T : Store, rowsAt T 3 = some [[PV.msl 1 0 g.owner.length true]] → execL (F57.C 0) 0 F57.c23 K eA T = K .normal (F57.ee29 (.msl 1 0 g.owner.length true)) T := fun T hT => by
        simp only [eA, go_sem, ↓reduceIte, Nat.reduceEqDiff, Nat.reduceBEq, Nat.reduceAdd, Nat.reduceMul, Nat.reduceSub, Nat.reduceLT, Nat.reduceLeDiff, reduceCtorEq, Int.reduceToNat, Int.reduceLE, Int.reduceLT, Int.reduceEq, withV_any, hT]
      exact e _ r3
    simp only [F57.B7_eq, s1, F57.k142_n, condC_false, F57.k43_exit, F57.k36_x1, F57.k33_exit, if_true, F57.k26_n]
    rw [s2]
    simp only [F57.k25_n, F57.k0_ret29]
  intro m
  induction m with
  | zero =>
    intro r hrm S v O QP Q lo h ho hcv hS hst hql hqp hB hlo hu1 hu2
    have hQ : Q = [] := by
      by_cases hq : Q = []
      · exact hq
      · have := hu2 (.inl hq); omega
    subst hQ
    exact fin r (by omega) S v O QP h hS hst (by omega)
  | succ m hm =>
    intro r hrm S v O QP Q lo h ho hcv hS hst hql hqp hB hlo hu1 hu2
    by_cases hex : Q = [] ∧ r ≠ 0
    · obtain ⟨rfl, hr⟩ := hex
      exact fin r hr S v O QP h hS hst (by omega)
    have hqr : Q ≠ [] ∨ r = 0 := by
      by_cases hq : Q = []
      · right
        by_cases hr : r = 0
        · exact hr
        · exact absurd ⟨hq, hr⟩ hex
      · exact .inl hq
    have hu := hu2 hqr
    have hQpos : ∀ x ∈ Q, ∃ j : Nat, j < g.owner.length ∧ x = j := fun x hx => by
      obtain ⟨j, hj, e, _⟩ := (hst.mem x).1 hx
      exact ⟨j, hj, e⟩
    have hQlen : Q.length ≤ 400 := Nat.le_trans (nodup_le _ Q hst.nodup hQpos) hN
    have hr402 : r ≤ 401 := by omega
    have hall : ∀ x ∈ QP ++ Q, ∃ j : Nat, j < g.owner.length ∧ x = j := fun x hx => by
      rcases List.mem_append.1 hx with hx | hx
      · exact hqp x hx
      · exact hQpos x hx
    have hFok : FromOK g.owner.length F := fun q hq => by
      rw [hF q hq]
      refine ⟨?_, fun x hx => ?_⟩
      · have := List.length_filter_le (fun i => decide ((q : Int) ∈ g.toG.moves i)) (List.range g.toG.n)
        simp only [List.length_range] at this
        simp only [Rk.predL, List.length_map]
        omega
      · obtain ⟨j, hj, e, _⟩ := (Rk.mem_predL g.toG q x).1 hx
        exact ⟨j, hj, e⟩
    have hlQ : (QP ++ Q).length = QP.length + Q.length := by simp
    have hdrop : (QP ++ Q).drop QP.length = Q := by simp
    have hvS := h.q.lt
    have hcS := ho.lt
    -- the events
    obtain ⟨S1, b1, b2, b3, b4, b5, b6, b7⟩ := loop57_9 g hg n7 S.length c r hc (by omega) v (fun t ht => ⟨hvS t ht, fun e => hcv (e ▸ ht)⟩) (Rk.lvl g.toG r) (QP ++ Q) One F hFok hall (by omega) Q.length QP.length (by omega) (S ++ [.arr [] (some none) false]) O [] lo (h.ext _) (by
      obtain ⟨gr, a, b⟩ := ho
      exact ⟨gr, a, by rw [List.getElem?_append_left hcS]; exact b⟩) ⟨none, .inl rfl, by simp [intRows]⟩ (by simp) (by simp only [List.length_nil]; omega) hB (by omega)
    rw [hdrop, evsOf_pred hF Q hQpos] at b1 b3 b5 b6 b7
    obtain ⟨Qn, st1, st2⟩ := Rk.step hg.ok hone hst (QP ++ Q)
    have hE : ∀ x ∈ Q.flatMap (Rk.predL g.toG), ∃ j : Nat, j < g.toG.n ∧ x = j := fun x hx => by
      obtain ⟨q, _, hq⟩ := List.mem_flatMap.1 hx
      obtain ⟨j, hj, e, _⟩ := (Rk.mem_predL g.toG q x).1 hq
      exact ⟨j, hj, e⟩
    have hpos1 := evs_pos g.toG (Rk.lvl g.toG r) _ hE (O, []) (by intro x hx; cases hx)
    generalize hs : (Q.flatMap (Rk.predL g.toG)).foldl (Rk.ev g.toG (Rk.lvl g.toG r)) (O, []) = s at *
    obtain ⟨O1, L1⟩ := s
    simp only at b1 b3 b5 b6 b7 st1 st2 hpos1
    generalize ed : S.length = d at *
    -- the positions without moves
    have key : ∃ S2 x, RS g S2 v (Rk.lvl g.toG r) O1 F (QP ++ Q) ∧ At S2 c One ∧ At S2 d (if r = 0 then L1 ++ One else L1) ∧ d + 1 ≤ S2.length ∧
        F57.k56 0 n7 .normal (F57.ee24 (.mp 0 0 0) (.mp 3 0 0) (.msl 2 0 g.owner.length true) (.msl 4 0 g.owner.length true) (.mp 5 0 0) (.fn 83 [] [.mp 3 0 0, .mp 5 0 0]) (.msl c 0 One.length false) (.int .i64 (QP ++ Q).length) (.int .i64 r) .undef (.msl d 0 L1.length false) .undef) S1 = execL (F57.C 0) 8 F57.c53 (F57.k45 0 n7) (F57.ee27 (.mp 0 0 0) (.mp 3 0 0) (.msl 2 0 g.owner.length true) (.msl 4 0 g.owner.length true) (.mp 5 0 0) (.fn 83 [] [.mp 3 0 0, .mp 5 0 0]) (.msl c 0 One.length false) (.int .i64 (QP ++ Q).length) (.int .i64 r) (.msl d 0 (if r = 0 then L1 ++ One else L1).length false) x) S2 := by
      by_cases hr : r = 0
      · subst hr
        rw [if_pos rfl]
        obtain ⟨gr, a1, a2⟩ := b3
        have hdv : d ∉ v.refs := fun hx => by have := hvS d hx; omega
        have ap := appendHere a2 a1 (b2.ints (ex := false)) (by simp only [List.length_nil] at b6; omega)
        have h2 := b1.here (id := d) (by omega) hdv (.arr (intRows (L1 ++ One)) (some (some 1)) false)
        have o2 : At ((S1.map (killObj [d])).set d (.arr (intRows (L1 ++ One)) (some (some 1)) false)) c One := by
          obtain ⟨gr, a, b⟩ := b2
          exact ⟨gr, a, here_at b (by omega) (by rw [intRows_refs]; intro r hr; cases hr)⟩
        have d2 : At ((S1.map (killObj [d])).set d (.arr (intRows (L1 ++ One)) (some (some 1)) false)) d (L1 ++ One) := ⟨some 1, .inr rfl, by rw [List.getElem?_set_self (by simp; omega)]⟩
        have l2 : d + 1 ≤ ((S1.map (killObj [d])).set d (.arr (intRows (L1 ++ One)) (some (some 1)) false)).length := by simp; omega
        generalize (S1.map (killObj [d])).set d (.arr (intRows (L1 ++ One)) (some (some 1)) false) = S2 at *
        refine ⟨S2, .bool true, h2, o2, d2, l2, ?_⟩
        have kb : ∀ (t : Nat), t < 6 → (t == d) = false := fun t ht => by simp only [beq_eq_false_iff_ne]; omega
        have kb1 : (c == d) = false := by simp only [beq_eq_false_iff_ne]; omega
        have s1 : ∀ K : KT, execL (F57.C 0) 8 F57.c57 K (F57.ee24 (.mp 0 0 0) (.mp 3 0 0) (.msl 2 0 g.owner.length true) (.msl 4 0 g.owner.length true) (.mp 5 0 0) (.fn 83 [] [.mp 3 0 0, .mp 5 0 0]) (.msl c 0 One.length false) (.int .i64 (QP ++ Q).length) (.int .i64 (0 : Nat)) .undef (.msl d 0 L1.length false) .undef) S1 = K .normal (F57.ee27 (.mp 0 0 0) (.mp 3 0 0) (.msl 2 0 g.owner.length true) (.msl 4 0 g.owner.length true) (.mp 5 0 0) (.fn 83 [] [.mp 3 0 0, .mp 5 0 0]) (.msl c 0 One.length false) (.int .i64 (QP ++ Q).length) (.int .i64 (0 : Nat)) (.msl d 0 L1.length false) (.bool true)) S1 := fun K => by
          simp only [go_sem, ↓reduceIte, Nat.reduceEqDiff, Nat.reduceBEq, Nat.reduceAdd, Nat.reduceMul, Nat.reduceSub, Nat.reduceLT, Nat.reduceLeDiff, reduceCtorEq, Int.reduceToNat, Int.reduceLE, Int.reduceLT, Int.reduceEq, withV_any, Int.natCast_zero]
        have s2 : ∀ K : KT, execL (F57.C 0) 8 F57.c60 K (F57.ee27 (.mp 0 0 0) (.mp 3 0 0) (.msl 2 0 g.owner.length true) (.msl 4 0 g.owner.length true) (.mp 5 0 0) (.fn 83 [] [.mp 3 0 0, .mp 5 0 0]) (.msl c 0 One.length false) (.int .i64 (QP ++ Q).length) (.int .i64 (0 : Nat)) (.msl d 0 L1.length false) (.bool true)) S1 = K .normal (F57.ee27 (.mp 0 0 0) (.mp 3 0 0) (.msl 2 0 g.owner.length true) (.msl 4 0 g.owner.length true) (.mp 5 0 0) (.fn 83 [] [.mp 3 0 0, .mp 5 0 0]) (.msl c 0 One.length false) (.int .i64 (QP ++ Q).length) (.int .i64 (0 : Nat)) (.msl d 0 (L1 ++ One).length false) (.bool true)) S2 := fun K => by
          simp only [F57.g63, withV_any, ap]
          simp only [go_sem, ↓reduceIte, Nat.reduceEqDiff, Nat.reduceBEq, Nat.reduceAdd, Nat.reduceMul, Nat.reduceSub, Nat.reduceLT, Nat.reduceLeDiff, reduceCtorEq, Int.reduceToNat, Int.reduceLE, Int.reduceLT, Int.reduceEq, withV_any, get_put, get_killE, kb 0 (by omega), kb 2 (by omega), kb 3 (by omega), kb 4 (by omega), kb 5 (by omega), kb1]
        simp only [F57.k56_n, s1, F57.k59_n, condC_true, s2, F57.k54_n]
      · rw [if_neg hr]
        have c2 : ¬ (r : Int) = 0 := by omega
        refine ⟨S1, .bool false, b1, b2, b3, b4, ?_⟩
        have s1 : ∀ K : KT, execL (F57.C 0) 8 F57.c57 K (F57.ee24 (.mp 0 0 0) (.mp 3 0 0) (.msl 2 0 g.owner.length true) (.msl 4 0 g.owner.length true) (.mp 5 0 0) (.fn 83 [] [.mp 3 0 0, .mp 5 0 0]) (.msl c 0 One.length false) (.int .i64 (QP ++ Q).length) (.int .i64 r) .undef (.msl d 0 L1.length false) .undef) S1 = K .normal (F57.ee27 (.mp 0 0 0) (.mp 3 0 0) (.msl 2 0 g.owner.length true) (.msl 4 0 g.owner.length true) (.mp 5 0 0) (.fn 83 [] [.mp 3 0 0, .mp 5 0 0]) (.msl c 0 One.length false) (.int .i64 (QP ++ Q).length) (.int .i64 r) (.msl d 0 L1.length false) (.bool false)) S1 := fun K => by
          simp only [go_sem, ↓reduceIte, Nat.reduceEqDiff, Nat.reduceBEq, Nat.reduceAdd, Nat.reduceMul, Nat.reduceSub, Nat.reduceLT, Nat.reduceLeDiff, reduceCtorEq, Int.reduceToNat, Int.reduceLE, Int.reduceLT, Int.reduceEq, withV_any, c2]
        simp only [F57.k56_n, s1, F57.k59_n, condC_false, F57.k54_n]
    obtain ⟨S2, x, k1, k2, k3, k4, k5⟩ := key
    have hnx : ∀ x ∈ (if r = 0 then L1 ++ One else L1), ∃ j : Nat, j < (Rk.lvl g.toG r).length ∧ x = j := fun x hx => by
      rw [Rk.lvl_length]
      split at hx
      · rcases List.mem_append.1 hx with hx | hx
        · exact hpos1 x hx
        · obtain ⟨j, hj, e, _⟩ := (hone x).1 hx; exact ⟨j, hj, e⟩
      · exact hpos1 x hx
    have hL2 : (if r = 0 then L1 ++ One else L1).length ≤ 200000 := by
      simp only [List.length_nil] at b6
      split
      · simp only [List.length_append]; omega
      · omega
    generalize (if r = 0 then L1 ++ One else L1) = L2 at *
    obtain ⟨v', S3, e1, e2, e3, e4⟩ := call83 (k := ((r : Int) + 1)) k1.toLev (k3.ints (ex := false)) (by
      intro t ht
      simp only [PV.refs, List.mem_singleton] at ht
      subst ht
      exact ⟨by omega, by omega, fun hx => by have := hvS _ hx; omega⟩) hnx (by omega)
    rw [st1] at e2
    simp only at e2
    have h3 := k1.lev e2 e3 e4 (by rw [Rk.lvl_length, Rk.lvl_length])
    have hcall := (show callE (F57.C 0) S2 83 _ = _ from callE_eq (b := 0) (h := F57.hint) (by rfl) e1 e3.len)
    have l3 := e3.len
    have o3 := k2.keep e3 (by omega) (by simp only [List.mem_cons, not_or]; exact ⟨by omega, by omega, hcv⟩)
    have hcv' : c ∉ v'.refs := fun hx => by
      rcases e4 c hx with hx | hx
      · exact hcv hx
      · omega
    let eA : Env := F57.ee19 (.mp 0 0 0) (.mp 3 0 0) (.msl 2 0 g.owner.length true) (.msl 4 0 g.owner.length true) (.mp 5 0 0) (.fn 83 [] [.mp 3 0 0, .mp 5 0 0]) (.msl c 0 One.length false) (.int .i64 (QP ++ Q).length) (.int .i64 (r + 1 : Nat))
    have w1 := wrap_succ (i := r) (n := r + 1) (by omega) (by omega)
    have hQnpos : ∀ x ∈ Qn, ∃ j : Nat, j < g.owner.length ∧ x = j := fun x hx => by
      obtain ⟨j, hj, e, _⟩ := (st2.mem x).1 hx
      exact ⟨j, hj, e⟩
    have hQnlen : Qn.length ≤ 400 := Nat.le_trans (nodup_le _ Qn st2.nodup hQnpos) hN
    have hunr : r + 1 + Rk.unr g.toG (r + 1) ≤ g.owner.length + 2 ∧ (Qn ≠ [] ∨ r + 1 = 0 → r + 1 + Rk.unr g.toG (r + 1) ≤ g.owner.length + 1) := by
      by_cases hq : Qn = []
      · have := Rk.lvl_same st2 hq
        have e : Rk.unr g.toG (r + 1) = Rk.unr g.toG r := by unfold Rk.unr; rw [this]
        rw [e]
        exact ⟨by omega, fun h => by
          rcases h with h | h
          · exact absurd hq h
          · omega⟩
      · have := Rk.unr_lt st2 hq
        exact ⟨by omega, fun _ => by omega⟩
    obtain ⟨S', f1, f2⟩ := hm (r + 1) (by omega) (Vs.gc n7 eA S3) v' O1 (QP ++ Q) Qn (lo - 160000) (h3.gc (n := n7) eA (by omega) (by omega)) (o3.gc eA (by omega) (by omega)) hcv' (gc_at (by omega)).1 st2 (by omega) hall (fun t => by have := b5 t; omega) (by omega) hunr.1 hunr.2
    refine ⟨S', F57.L7_step ?_, f2⟩
    have r5 := rowsAt_of h.p5
    have hlen := h.q.ints.len
    have s1 : ∀ K : KT, execL (F57.C 0) 7 F57.c140 K (F57.ee19 (.mp 0 0 0) (.mp 3 0 0) (.msl 2 0 g.owner.length true) (.msl 4 0 g.owner.length true) (.mp 5 0 0) (.fn 83 [] [.mp 3 0 0, .mp 5 0 0]) (.msl c 0 One.length false) (.int .i64 QP.length) (.int .i64 r)) S = K .normal (F57.ee28 (.mp 0 0 0) (.mp 3 0 0) (.msl 2 0 g.owner.length true) (.msl 4 0 g.owner.length true) (.mp 5 0 0) (.fn 83 [] [.mp 3 0 0, .mp 5 0 0]) (.msl c 0 One.length false) (.int .i64 QP.length) (.int .i64 r) (.bool true)) S := fun K => by
      by_cases hq : (QP.length : Int) < ((QP.length + Q.length : Nat) : Int)
      · simp only [go_sem, ↓reduceIte, Nat.reduceEqDiff, Nat.reduceBEq, Nat.reduceAdd, Nat.reduceMul, Nat.reduceSub, Nat.reduceLT, Nat.reduceLeDiff, reduceCtorEq, Int.reduceToNat, Int.reduceLE, Int.reduceLT, Int.reduceEq, withV_any, r5, hlen, hlQ, hq]
      · have hq0 : Q = [] := by
          exact List.eq_nil_of_length_eq_zero (by omega)
        have hr0 : (r : Int) = 0 := by
          rcases hqr with h | h
          · exact absurd hq0 h
          · omega
        simp only [go_sem, ↓reduceIte, Nat.reduceEqDiff, Nat.reduceBEq, Nat.reduceAdd, Nat.reduceMul, Nat.reduceSub, Nat.reduceLT, Nat.reduceLeDiff, reduceCtorEq, Int.reduceToNat, Int.reduceLE, Int.reduceLT, Int.reduceEq, withV_any, r5, hlen, hlQ, hq, hr0]
    have s2 : ∀ K : KT, execL (F57.C 0) 8 F57.c46 K (F57.ee28 (.mp 0 0 0) (.mp 3 0 0) (.msl 2 0 g.owner.length true) (.msl 4 0 g.owner.length true) (.mp 5 0 0) (.fn 83 [] [.mp 3 0 0, .mp 5 0 0]) (.msl c 0 One.length false) (.int .i64 QP.length) (.int .i64 r) (.bool true)) S = K .normal (F57.ee20 (.mp 0 0 0) (.mp 3 0 0) (.msl 2 0 g.owner.length true) (.msl 4 0 g.owner.length true) (.mp 5 0 0) (.fn 83 [] [.mp 3 0 0, .mp 5 0 0]) (.msl c 0 One.length false) (.int .i64 QP.length) (.int .i64 r) (.int .i64 (QP ++ Q).length)) S := fun K => by
      simp only [go_sem, ↓reduceIte, Nat.reduceEqDiff, Nat.reduceBEq, Nat.reduceAdd, Nat.reduceMul, Nat.reduceSub, Nat.reduceLT, Nat.reduceLeDiff, reduceCtorEq, Int.reduceToNat, Int.reduceLE, Int.reduceLT, Int.reduceEq, withV_any, r5, hlen]
    have s3 : ∀ K : KT, execL (F57.C 0) 8 F57.c48 K (F57.ee20 (.mp 0 0 0) (.mp 3 0 0) (.msl 2 0 g.owner.length true) (.msl 4 0 g.owner.length true) (.mp 5 0 0) (.fn 83 [] [.mp 3 0 0, .mp 5 0 0]) (.msl c 0 One.length false) (.int .i64 QP.length) (.int .i64 r) (.int .i64 (QP ++ Q).length)) S = K .normal (F57.ee21 (.mp 0 0 0) (.mp 3 0 0) (.msl 2 0 g.owner.length true) (.msl 4 0 g.owner.length true) (.mp 5 0 0) (.fn 83 [] [.mp 3 0 0, .mp 5 0 0]) (.msl c 0 One.length false) (.int .i64 QP.length) (.int .i64 r) (.int .i64 (QP ++ Q).length) (.sl [] true)) S := fun K => by
      simp only [F57.g138, withV_any]
    have s4 : ∀ K : KT, execL (F57.C 0) 8 F57.c53 K (F57.ee27 (.mp 0 0 0) (.mp 3 0 0) (.msl 2 0 g.owner.length true) (.msl 4 0 g.owner.length true) (.mp 5 0 0) (.fn 83 [] [.mp 3 0 0, .mp 5 0 0]) (.msl c 0 One.length false) (.int .i64 (QP ++ Q).length) (.int .i64 r) (.msl d 0 L2.length false) x) S2 = K .normal (F57.ee19 (.mp 0 0 0) (.mp 3 0 0) (.msl 2 0 g.owner.length true) (.msl 4 0 g.owner.length true) (.mp 5 0 0) (.fn 83 [] [.mp 3 0 0, .mp 5 0 0]) (.msl c 0 One.length false) (.int .i64 (QP ++ Q).length) (.int .i64 r)) S3 := fun K => by
      have w1' : IntKind.i64.wrap ((r : Int) + 1) = (r : Int) + 1 := by rw [w1]; omega
      simp only [F57.g55, withV_any, evBin_add, w1', callV_fn83, List.nil_append, List.cons_append, hcall, withS, Option.bind_some]
    have s5 : ∀ (K : KT) (S : Store), execL (F57.C 0) 7 F57.c40 K (F57.ee19 (.mp 0 0 0) (.mp 3 0 0) (.msl 2 0 g.owner.length true) (.msl 4 0 g.owner.length true) (.mp 5 0 0) (.fn 83 [] [.mp 3 0 0, .mp 5 0 0]) (.msl c 0 One.length false) (.int .i64 (QP ++ Q).length) (.int .i64 r)) S = K .normal (F57.ee19 (.mp 0 0 0) (.mp 3 0 0) (.msl 2 0 g.owner.length true) (.msl 4 0 g.owner.length true) (.mp 5 0 0) (.fn 83 [] [.mp 3 0 0, .mp 5 0 0]) (.msl c 0 One.length false) (.int .i64 (QP ++ Q).length) (.int .i64 (r + 1 : Nat))) S := fun K S => by
      simp only [go_sem, ↓reduceIte, Nat.reduceEqDiff, Nat.reduceBEq, Nat.reduceAdd, Nat.reduceMul, Nat.reduceSub, Nat.reduceLT, Nat.reduceLeDiff, reduceCtorEq, Int.reduceToNat, Int.reduceLE, Int.reduceLT, Int.reduceEq, withV_any, w1]
    simp only [F57.B7_eq, s1, F57.k142_n, condC_true, F57.k43_n, s2, F57.k137_n, s3, F57.k65_n, withO_nil, ed]
    have eL : (S ++ [Obj.arr [] (some none) false]).length = d + 1 := by simp [ed]
    rw [eL]
    simp only [List.length_nil] at b7
    have b8 := b7 (.msl 1 0 g.owner.length true, S') (by
      rw [k5, s4, F57.k45_n, F57.k41_n, s5, F57.k36_n]
      exact f1)
    exact b8
end Go.Vs
end
/- game.ranks: what its first loops fill in, plain. -/
section
set_option linter.unusedVariables false
set_option linter.unusedSimpArgs false
namespace Go.Vs
open Go Go.Proofs
theorem pushes_get (i q : Nat) : ∀ (l : List Int) (F : List (List Int)), l.Pairwise (· < ·) → (∀ m ∈ l, 0 ≤ m ∧ m < F.length) → q < F.length → (pushes i l F).getD q [] = F.getD q [] ++ (if (q : Int) ∈ l then [(i : Int)] else [])
  | [], F, _, _, _ => by simp [pushes]
  | m :: l, F, hp, hm, hq => by
    obtain ⟨h1, h2⟩ := List.pairwise_cons.1 hp
    rw [pushes, List.foldl_cons, ← pushes]
    have hm0 := hm m (by simp)
    rw [pushes_get i q l (F.set m.toNat (F.getD m.toNat [] ++ [(i : Int)])) h2 (fun x hx => by rw [List.length_set]; exact hm x (by simp [hx])) (by rw [List.length_set]; exact hq)]
    by_cases e : m.toNat = q
    · have em : m = (q : Int) := by omega
      have hn : (q : Int) ∉ l := fun hx => by have := h1 _ hx; omega
      have e1 : (F.set m.toNat (F.getD m.toNat [] ++ [(i : Int)])).getD q [] = F.getD q [] ++ [(i : Int)] := by
        rw [e]; simp [List.getD_eq_getElem?_getD, hq]
      rw [e1, if_neg hn, List.append_nil, if_pos (by rw [em]; simp)]
    · have em : ¬ (q : Int) = m := by omega
      have : (F.set m.toNat (F.getD m.toNat [] ++ [(i : Int)])).getD q [] = F.getD q [] := by simp [List.getD_eq_getElem?_getD, List.getElem?_set_ne e]
      rw [this]
      simp only [List.mem_cons, em, false_or]
theorem fill_len (g : Game) : ∀ (m i : Nat) (R O : List Int) (F : List (List Int)), (fill g m i R O F).1.length = R.length ∧ (fill g m i R O F).2.1.length = O.length ∧ (fill g m i R O F).2.2.length = F.length
  | 0, i, R, O, F => ⟨rfl, rfl, rfl⟩
  | m + 1, i, R, O, F => by
    obtain ⟨h1, h2, h3⟩ := fill_len g m (i + 1) (R.set i (-1)) (O.set i ((g.moves.getD i []).length : Int)) (pushes i (g.moves.getD i []) F)
    rw [fill]
    refine ⟨by rw [h1, List.length_set], by rw [h2, List.length_set], by rw [h3, pushes_length]⟩
theorem getD_set' {l : List Int} {i j : Nat} {v : Int} (h : j < l.length) : (l.set i v).getD j 0 = if i = j then v else l.getD j 0 := Rk.getD_set h
theorem fill_get (g : Game) (hg : g.good) : ∀ (m i : Nat) (R O : List Int) (F : List (List Int)), i + m = g.owner.length → R.length = g.owner.length → O.length = g.owner.length → F.length = g.owner.length → ∀ j, j < g.owner.length →
    (fill g m i R O F).1.getD j 0 = (if i ≤ j then -1 else R.getD j 0) ∧ (fill g m i R O F).2.1.getD j 0 = (if i ≤ j then ((g.moves.getD j []).length : Int) else O.getD j 0) ∧
    (fill g m i R O F).2.2.getD j [] = F.getD j [] ++ ((List.range' i m).filter fun t => decide ((j : Int) ∈ g.moves.getD t [])).map fun t : Nat => (t : Int)
  | 0, i, R, O, F, hi, hR, hO, hF, j, hj => by
    have : ¬ i ≤ j := by omega
    simp only [fill, this, if_false]
    exact ⟨trivial, trivial, by simp⟩
  | m + 1, i, R, O, F, hi, hR, hO, hF, j, hj => by
    rw [fill]
    obtain ⟨h1, h2, h3⟩ := fill_get g hg m (i + 1) (R.set i (-1)) (O.set i ((g.moves.getD i []).length : Int)) (pushes i (g.moves.getD i []) F) (by omega) (by rw [List.length_set]; exact hR) (by rw [List.length_set]; exact hO) (by rw [pushes_length]; exact hF) j hj
    have hmv := hg.ok.mv i (by simp only [Game.toG]; omega)
    have hin : (g.moves.getD i []).Pairwise (· < ·) := hg.ok.inc i (by simp only [Game.toG]; omega)
    refine ⟨?_, ?_, ?_⟩
    · rw [h1, getD_set' (by omega)]
      by_cases e : i = j
      · subst e; simp
      · by_cases e2 : i ≤ j
        · rw [if_pos (by omega : i + 1 ≤ j), if_pos e2]
        · rw [if_neg (by omega : ¬ i + 1 ≤ j), if_neg e, if_neg e2]
    · rw [h2, getD_set' (by omega)]
      by_cases e : i = j
      · subst e; simp
      · by_cases e2 : i ≤ j
        · rw [if_pos (by omega : i + 1 ≤ j), if_pos e2]
        · rw [if_neg (by omega : ¬ i + 1 ≤ j), if_neg e, if_neg e2]
    · rw [h3, pushes_get i j _ F hin (fun x hx => by rw [hF]; exact hmv x hx) (by omega), List.range'_succ, List.append_assoc]
      congr 1
      by_cases e : (j : Int) ∈ g.moves.getD i []
      · rw [if_pos e, List.filter_cons_of_pos (by simpa using e)]; rfl
      · rw [if_neg e, List.filter_cons_of_neg (by simpa using e)]; rfl
theorem fill_all (g : Game) (hg : g.good) : (fill g g.owner.length 0 (List.replicate g.owner.length 0) (List.replicate g.owner.length 0) (List.replicate g.owner.length [])).1 = List.replicate g.toG.n (-1) ∧
    (fill g g.owner.length 0 (List.replicate g.owner.length 0) (List.replicate g.owner.length 0) (List.replicate g.owner.length [])).2.1 = Rk.openL g.toG ∧
    ∀ q : Nat, q < g.toG.n → (fill g g.owner.length 0 (List.replicate g.owner.length 0) (List.replicate g.owner.length 0) (List.replicate g.owner.length [])).2.2.getD q [] = Rk.predL g.toG q := by
  have hl := fill_len g g.owner.length 0 (List.replicate g.owner.length 0) (List.replicate g.owner.length 0) (List.replicate g.owner.length [])
  have hh := fill_get g hg g.owner.length 0 (List.replicate g.owner.length 0) (List.replicate g.owner.length 0) (List.replicate g.owner.length []) (by omega) (by simp) (by simp) (by simp)
  generalize fill g g.owner.length 0 (List.replicate g.owner.length 0) (List.replicate g.owner.length 0) (List.replicate g.owner.length []) = f at *
  obtain ⟨l1, l2, l3⟩ := hl
  rw [List.length_replicate] at l1 l2 l3
  refine ⟨?_, ?_, fun q hq => ?_⟩
  · apply List.ext_getElem (by rw [l1, List.length_replicate]; rfl)
    intro j h1 h2
    have := (hh j (by omega)).1
    rw [if_pos (Nat.zero_le _)] at this
    simpa [List.getD_eq_getElem?_getD, h1] using this
  · apply List.ext_getElem (by rw [l2]; simp [Rk.openL, Game.toG])
    intro j h1 h2
    have := (hh j (by omega)).2.1
    rw [if_pos (Nat.zero_le _)] at this
    simp only [List.getD_eq_getElem?_getD, h1, List.getElem?_eq_getElem, Option.getD_some] at this
    rw [this]
    simp [Rk.openL, Game.toG, List.getD_eq_getElem?_getD]
  · have := (hh q hq).2.2
    rw [this]
    have e : (List.replicate g.owner.length ([] : List Int)).getD q [] = [] := by
      simp only [List.getD_eq_getElem?_getD, List.getElem?_replicate]
      split <;> rfl
    rw [e, List.nil_append, ← List.range_eq_range']
    rfl
theorem parts_get (g : Game) (O : List Int) : ∀ (m i : Nat) (s : List Int × List Int), parts g O m i s = (s.1 ++ ((List.range' i m).filter fun t => g.goal.getD t false).map fun t : Nat => (t : Int), s.2 ++ ((List.range' i m).filter fun t => !g.goal.getD t false && (decide (g.owner.getD t 0 = 1) && decide (O.getD t 0 = 0))).map fun t : Nat => (t : Int))
  | 0, i, s => by simp [parts]
  | m + 1, i, s => by
    rw [parts, parts_get g O m (i + 1), List.range'_succ]
    cases hgo : g.goal.getD i false with
    | true =>
      rw [if_pos rfl, List.filter_cons_of_pos (by simpa using hgo), List.filter_cons_of_neg (by rw [hgo]; simp)]
      simp
    | false =>
      rw [if_neg (by simp)]
      by_cases ho : g.owner.getD i 0 = 1 ∧ O.getD i 0 = 0
      · rw [if_pos ho, List.filter_cons_of_neg (by rw [hgo]; simp), List.filter_cons_of_pos (by rw [hgo, ho.1, ho.2]; rfl)]
        simp
      · rw [if_neg ho, List.filter_cons_of_neg (by rw [hgo]; simp), List.filter_cons_of_neg (by rw [hgo]; simpa using ho)]
theorem parts_all (g : Game) : parts g (Rk.openL g.toG) g.owner.length 0 ([], []) = (Rk.zeroL g.toG, Rk.oneL g.toG) := by
  rw [parts_get]
  simp only [List.nil_append, ← List.range_eq_range']
  refine Prod.ext rfl ?_
  simp only [Rk.oneL]
  have e : (List.range g.owner.length).filter (fun t => !g.goal.getD t false && (decide (g.owner.getD t 0 = 1) && decide ((Rk.openL g.toG).getD t 0 = 0))) = (List.range g.toG.n).filter (fun i => !g.toG.goal i && (decide (g.toG.owner i = 1) && decide (g.toG.moves i = []))) := by
    apply List.filter_congr
    intro t ht
    have ht' : t < g.toG.n := by
      have := List.mem_range.1 ht
      exact this
    have e1 : (Rk.openL g.toG).getD t 0 = ((g.toG.moves t).length : Int) := by simp [Rk.openL, List.getD_eq_getElem?_getD, ht']
    rw [e1]
    have e2 : decide (((g.toG.moves t).length : Int) = 0) = decide (g.toG.moves t = []) := by
      cases g.toG.moves t with
      | nil => rfl
      | cons a l => simp; omega
    rw [e2]
    rfl
  rw [e]
end Go.Vs
end
