/- A list of ints that a place holds and that is appended to; the closure of game.ranks that gives a rank. -/

import Derived.Test.YtnddhkcciphhkaaMX8
import Derived.Test.YtnddhkcciphhkaaMX13
import Derived.Test.YtnddhkcciphhkaaMX14
section
set_option linter.unusedVariables false
set_option linter.unusedSimpArgs false
namespace Go.Vs
open Go Go.Proofs
/-- A list of ints that may be appended to. -/
inductive IntO (S : Store) : PV → List Int → Prop
  | nil : IntO S (.sl [] true) []
  | arr (id : Nat) (L : List Int) (g : Option Nat) (hg : g = none ∨ g = some 1) (h : S[id]? = some (.arr (intRows L) (some g) false)) : IntO S (.msl id 0 L.length false) L
theorem IntO.lt {S : Store} {v : PV} {L : List Int} (h : IntO S v L) : ∀ r ∈ v.refs, r < S.length := by
  cases h with
  | nil => intro r hr; cases hr
  | arr id L g hg h =>
    intro r hr
    have := (List.getElem?_eq_some_iff.1 h).1
    simp only [PV.refs, List.mem_singleton] at hr
    omega
theorem IntO.ints {S : Store} {v : PV} {L : List Int} (h : IntO S v L) : Ints S v L := by
  cases h with
  | nil => exact .sl [] true
  | arr id L g hg h => exact .msl id L false _ _ h
theorem IntO.same {S S' : Store} {v : PV} {L : List Int} (h : IntO S v L) (hs : ∀ r ∈ v.refs, S'[r]? = S[r]?) : IntO S' v L := by
  cases h with
  | nil => exact .nil
  | arr id L g hg h => exact .arr id L g hg (by rw [hs id (by simp [PV.refs])]; exact h)
theorem IntO.keep {n : Nat} {X D : List Nat} {S S' : Store} {v : PV} {L : List Int} (h : IntO S v L) (k : Keep n X D S S') (hn : ∀ r ∈ v.refs, r < n ∧ r ∉ X) : IntO S' v L := by
  cases h with
  | nil => exact .nil
  | arr id L g hg h =>
    have := hn id (by simp [PV.refs])
    exact .arr id L g hg (k.keeps id this.1 this.2 _ _ _ h (by rw [intRows_refs]; intro r hr; cases hr))
theorem IntO.gcBox {n : Nat} {e : Env} {S : Store} {v : PV} {L : List Int} {ob : Nat} {g : Option (Option Nat)} {f : Bool} (h : IntO S v L) (hb : S[ob]? = some (.arr [[v]] g f)) (hn : ob < n) : IntO (Vs.gc n e S) v L := by
  unfold Vs.gc
  split
  case isFalse => exact h
  rename_i hc
  obtain ⟨h1, h2⟩ := hc
  rw [List.all_eq_true] at h2
  have hbox := h2 (.arr [[v]] g f) (by
    have e : (S.take n)[ob]? = some (.arr [[v]] g f) := by rw [List.getElem?_take_of_lt hn]; exact hb
    exact List.mem_of_getElem? e)
  simp only [rowsRefs_cons, rowsRefs_nil, refsL, List.append_nil, List.all_eq_true, decide_eq_true_eq] at hbox
  exact h.same fun r hr => by rw [List.getElem?_take_of_lt (hbox r hr)]
theorem IntO.gc {n : Nat} {e : Env} {S : Store} {v : PV} {L : List Int} (h : IntO S v L) (he : ∃ t, (t, v) ∈ e) : IntO (Vs.gc n e S) v L := by
  unfold Vs.gc
  split
  case isFalse => exact h
  rename_i hc
  obtain ⟨h1, h2⟩ := hc
  rw [List.all_eq_true] at h1
  obtain ⟨t, ht⟩ := he
  have hv := h1 _ ht
  simp only [List.all_eq_true, decide_eq_true_eq] at hv
  exact h.same fun r hr => by rw [List.getElem?_take_of_lt (hv r hr)]
theorem IntO.cells {S : Store} {v : PV} {L : List Int} (h : IntO S v L) : v.cells = [v] ∧ v.cell = true := by
  cases h with
  | nil => exact ⟨rfl, rfl⟩
  | arr => exact ⟨rfl, rfl⟩
/-- An int more. -/
theorem appendInt {b : Nat} {S : Store} {v : PV} {L l : List Int} {y : PV} (h : IntO S v L) (hy : Ints S y l) (h0 : v = .sl [] true → l ≠ []) (hn : L.length + l.length ≤ 4000000) :
    ∃ v' S' ks, appendE Try.prog b 22 22 S v y = some { v := v', S := S', kill := ks } ∧ IntO S' v' (L ++ l) ∧ Keep S.length v.refs v.refs S S' ∧ (∀ r ∈ ks, r ∈ v.refs) ∧ (∀ r ∈ v'.refs, r ∈ v.refs ∨ S.length ≤ r) ∧ (∀ j, j < S.length → j ∉ v.refs → S'[j]? = (S[j]?).map (killObj v.refs)) := by
  have hrb := hy.rowsIn
  have z1 : zeroOK (tyi Try.prog 3) = true := by kernel_rfl
  have z2 : (tyi Try.prog 3).bytes = 8 := by kernel_rfl
  cases h with
  | nil =>
    have hl0 : l.length ≠ 0 := fun e => h0 rfl (List.eq_nil_of_length_eq_zero e)
    refine ⟨.msl S.length 0 l.length false, S ++ [.arr (intRows l) (some (some 1)) false], [], ?_, ?_, ?_, (by intro r hr; cases hr), (by intro r hr; simp only [PV.refs, List.mem_singleton] at hr; omega), fun j hj _ => ?_⟩
    · have e5 : evAppendNew 8 1 S S.length (.sl [] true) y = some { v := .msl S.length 0 l.length false, new := some (intRows l, some (some 1)) } := by
        have e6 : Vs.rowsIn S (.sl [] true) = some [] := rfl
        simp only [evAppendNew, exact, if_true, e6, hrb, Option.bind_some]
        rw [if_pos ⟨rfl, intRows_ok l, by rw [intRows_length]; simp only [List.length_nil]; simp only [List.length_nil] at hn; omega, by rw [intRows_length]; simp only [List.length_nil]; simp only [List.length_nil] at hn; omega⟩, if_neg (by rw [intRows_length]; exact hl0)]
        simp only [intRows_length, List.length_nil, Nat.zero_add, List.nil_append]
      simp only [appendE, exact, if_true, appendN, d22, z1, z2, size3, e5, Option.map_some, place]
    · exact .arr S.length l (some 1) (.inr rfl) (by simp)
    · exact .same (by simp) fun j hj => by rw [List.getElem?_append_left hj]
    · rw [List.getElem?_append_left hj]
      cases S[j]? with
      | none => rfl
      | some o => simp only [PV.refs, Option.map_some, killObj_none]
  | arr id L g hg h =>
    have hid := (List.getElem?_eq_some_iff.1 h).1
    have hout : ((rowsRefs (intRows L) ++ rowsRefs (intRows l)).contains id) = false := by rw [intRows_refs, intRows_refs]; rfl
    have hk : ∀ b, b ≤ id → evAppend b 8 1 S (.msl id 0 L.length false) y = some { v := .msl id 0 ((intRows L).length + (intRows l).length) false, S := (S.map (killObj [id])).set id (.arr (intRows L ++ intRows l) (some (some 1)) false), kill := [id] } := fun b hle =>
      append_known h hrb hle (intRows_length L).symm hg (intRows_ok L) (intRows_ok l) (by simp only [intRows_length]; omega) (by simp only [intRows_length]; omega) hout
    have e1 : appendE Try.prog b 22 22 S (.msl id 0 L.length false) y = evAppend b 8 1 S (.msl id 0 L.length false) y := by
      simp only [appendE, exact, Bool.false_eq_true, if_false, d22, z1, if_true, z2, size3]
    have hl1 : (intRows L).length + (intRows l).length = (L ++ l).length := by simp [intRows_length]
    have hap : intRows L ++ intRows l = intRows (L ++ l) := (intRows_append L l).symm
    simp only [hl1, hap] at hk
    have keep1 : ∀ o, Keep S.length [id] [id] S ((S.map (killObj [id])).set id o) := fun o => ⟨by simp, fun j hj hx rows' g f ha hrr => by
      rw [List.getElem?_set_ne (fun e => hx (by simp [e]))]
      exact map_kill_at ha fun r h => (hrr r h).2⟩
    by_cases hle : b ≤ id
    · exact ⟨.msl id 0 (L ++ l).length false, _, [id], by rw [e1, hk b hle], .arr id (L ++ l) (some 1) (.inr rfl) (by simp [hid]), keep1 _, (by intro r h; exact h), (by intro r h; exact .inl h), fun j hj hx => by rw [List.getElem?_set_ne (fun e => hx (by simp [PV.refs, e])), List.getElem?_map]; rfl⟩
    · have e2 : evAppend b 8 1 S (.msl id 0 L.length false) y = some (renewed id S { v := .msl id 0 (L ++ l).length false, S := (S.map (killObj [id])).set id (.arr (intRows (L ++ l)) (some (some 1)) false), kill := [id] }) := by
        have := hk 0 (Nat.zero_le _)
        simp only [evAppend, Nat.zero_le, if_true] at this
        simp only [evAppend, if_neg hle, this, Option.map_some]
      have e3 : ((S.map (killObj [id])).set id (.arr (intRows (L ++ l)) (some (some 1)) false)).getD id .gone = .arr (intRows (L ++ l)) (some (some 1)) false := by
        simp [List.getD_eq_getElem?_getD, hid]
      have keep2 : Keep S.length [id] [id] S ((((S.map (killObj [id])).set id (.arr (intRows (L ++ l)) (some (some 1)) false)).set id .gone) ++ [.arr (intRows (L ++ l)) (some (some 1)) false]) := ⟨by simp, fun j hj hx rows' g f ha hrr => by
        rw [List.getElem?_append_left (by simpa using hj), List.getElem?_set_ne (fun e => hx (by simp [e]))]
        exact (keep1 _).keeps j hj hx rows' g f ha hrr⟩
      refine ⟨.msl S.length 0 (L ++ l).length false, (((S.map (killObj [id])).set id (.arr (intRows (L ++ l)) (some (some 1)) false)).set id .gone) ++ [Obj.arr (intRows (L ++ l)) (some (some 1)) false], [id], ?_, .arr S.length (L ++ l) (some 1) (.inr rfl) (by rw [List.getElem?_append_right (by simp)]; simp), keep2, (by intro r h; exact h), (by intro r h; simp only [PV.refs, List.mem_singleton] at h; omega), fun j hj hx => by rw [List.getElem?_append_left (by simpa using hj), List.getElem?_set_ne (fun e => hx (by simp [PV.refs, e])), List.getElem?_set_ne (fun e => hx (by simp [PV.refs, e])), List.getElem?_map]; rfl⟩
      rw [e1, e2]
      simp only [renewed, e3]
@[go_sem] theorem known22' : (tyi Try.prog 22).known = true := nr known22
/-- An int more in the list that a place holds. -/
theorem pushInt {b : Nat} {S : Store} {v : PV} {L : List Int} {i : Int} {ob : Nat} (hbox : S[ob]? = some (.arr [[v]] none false)) (hO : IntO S v L) (hob : ob ∉ v.refs) (hL : L.length ≤ 2000000) :
    ∃ v' S' S'' ks, appendE Try.prog b 22 22 (S ++ [.arr [[.int .i64 i]] (some (some 1)) false]) v (.msl S.length 0 1 true) = some { v := v', S := S', kill := ks } ∧
      storeE (tyi Try.prog 22) S' (.mp ob 0 0) v' = some { v := .skip, S := S'' } ∧ (∀ r ∈ ks, r ∈ v.refs) ∧ S''[ob]? = some (.arr [[v']] none false) ∧ IntO S'' v' (L ++ [i]) ∧ Keep S.length (ob :: v.refs) v.refs S S'' ∧ (∀ r ∈ v'.refs, r ∈ v.refs ∨ S.length ≤ r) := by
  have hobl := (List.getElem?_eq_some_iff.1 hbox).1
  have hv := hO.lt
  have hO1 : IntO (S ++ [.arr [[.int .i64 i]] (some (some 1)) false]) v L := hO.same fun r hr => by rw [List.getElem?_append_left (hv r hr)]
  have hy : Ints (S ++ [Obj.arr [[.int .i64 i]] (some (some 1)) false]) (.msl S.length 0 1 true) [i] := .msl S.length [i] true (some (some 1)) false (by simp [intRows])
  obtain ⟨v', S', ks, a1, a2, a3, a4, a5, a6⟩ := appendInt (b := b) hO1 hy (by simp) (by simp; omega)
  have hlen : (S ++ [Obj.arr [[.int .i64 i]] (some (some 1)) false]).length = S.length + 1 := by simp
  rw [hlen] at a3 a5 a6
  have hb2 : S'[ob]? = some (.arr [[kill1 v.refs v]] none false) := by
    rw [a6 ob (by omega) hob, List.getElem?_append_left hobl, hbox]
    simp only [Option.map_some, killObj_arr, killRows_eq]
    split
    · rfl
    · rename_i hx
      rw [kill1_id]
      simp only [rowsRefs_cons, rowsRefs_nil, refsL, List.append_nil, List.any_eq_true, not_exists, not_and, List.contains_iff_mem] at hx
      exact hx
  have hob' : ob ∉ v'.refs := fun hx => by
    rcases a5 ob hx with h | h
    · exact hob h
    · omega
  have hS'l : ob < S'.length := (List.getElem?_eq_some_iff.1 hb2).1
  refine ⟨v', S', S'.set ob (.arr [[v']] none false), ks, a1, store_box known22 size22 hb2 a2.cells.1 a2.cells.2, a4, by simp [hS'l], a2.same fun r hr => by rw [List.getElem?_set_ne (fun e => hob' (by rw [e]; exact hr))], ⟨by rw [List.length_set]; have := a3.len; omega, fun j hj hx rows g f ha hr => ?_⟩, fun r hr => ?_⟩
  · simp only [List.mem_cons, not_or] at hx
    rw [List.getElem?_set_ne (fun e => hx.1 e.symm)]
    exact a3.keeps j (by omega) hx.2 rows g f (by rw [List.getElem?_append_left hj]; exact ha) fun r h => ⟨by have := (hr r h).1; omega, (hr r h).2⟩
  · rcases a5 r hr with h | h
    · exact .inl h
    · exact .inr (by omega)
theorem intRows_get (R : List Int) (j : Nat) (h : j < R.length) : (intRows R).getD j [] = [.int .i64 (R.getD j 0)] := by
  simp [intRows, List.getD_eq_getElem?_getD, h]
theorem storeInt {S : Store} {ra : Nat} {R : List Int} {g : Option (Option Nat)} {j : Nat} (v : Int) (h : S[ra]? = some (.arr (intRows R) g false)) (hj : j < R.length) : storeE (tyi Try.prog 3) S (.mp ra j 0) (.int .i64 v) = some { v := .skip, S := S.set ra (.arr (intRows (R.set j v)) g false) } := by
  have e : (intRows R).set j [.int .i64 v] = intRows (R.set j v) := by simp [intRows, List.map_set]
  simp only [storeE_eq, known3, if_true, size3, evStore, h, pvcells_int, intRows_get R j hj]
  rw [if_pos ⟨by rw [intRows_length]; exact hj, by simp, rfl, rfl⟩]
  simp only [Option.map_some, splice_if, List.length_cons, List.length_nil, and_self, if_true, e]
/-- An int more, in place. -/
theorem appendHere {S : Store} {id : Nat} {L l : List Int} {y : PV} {g : Option Nat} (h : S[id]? = some (.arr (intRows L) (some g) false)) (hg : g = none ∨ g = some 1) (hy : Ints S y l) (hn : L.length + l.length ≤ 4000000) :
    appendE Try.prog 0 22 22 S (.msl id 0 L.length false) y = some { v := .msl id 0 (L ++ l).length false, S := (S.map (killObj [id])).set id (.arr (intRows (L ++ l)) (some (some 1)) false), kill := [id] } := by
  have hout : ((rowsRefs (intRows L) ++ rowsRefs (intRows l)).contains id) = false := by rw [intRows_refs, intRows_refs]; rfl
  have hk := append_known (ex := false) (esz := 1) (bytes := 8) h hy.rowsIn (Nat.zero_le id) (intRows_length L).symm hg (intRows_ok L) (intRows_ok l) (by simp only [intRows_length]; omega) (by simp only [intRows_length]; omega) hout
  have hl1 : (intRows L).length + (intRows l).length = (L ++ l).length := by simp [intRows_length]
  have hap : intRows L ++ intRows l = intRows (L ++ l) := (intRows_append L l).symm
  rw [hl1, hap] at hk
  rw [appendE22, hk]
/-- What stays where an array is appended to in place. -/
theorem here_at {S : Store} {id j : Nat} {o : Obj} {rows : List (List PV)} {g : Option (Option Nat)} {f : Bool} (h : S[j]? = some (.arr rows g f)) (hj : j ≠ id) (hr : ∀ r ∈ rowsRefs rows, r ≠ id) : ((S.map (killObj [id])).set id o)[j]? = some (.arr rows g f) := by
  rw [List.getElem?_set_ne (Ne.symm hj)]
  exact map_kill_at h fun r hx => by simp only [List.mem_singleton]; exact hr r hx
theorem getD_rk {R : List Int} {j : Nat} (h : j < R.length) : R.getD j 0 = Rk.rk R j := by simp [Rk.rk, List.getD_eq_getElem?_getD, h]
end Go.Vs
end
/- The closure of game.ranks that gives a rank: it is a fold of lev. -/
section
set_option linter.unusedVariables false
set_option linter.unusedSimpArgs false
namespace Go.Vs
open Go Go.Proofs
theorem Ints.load {S : Store} {p : PV} {l : List Int} (h : Ints S p l) {i : Nat} (hi : i < l.length) : ∃ a, indexAddrO Try.prog 22 S p (.int .i64 i) = some a ∧ evLoad (tyi Try.prog 3) S a = some (.int .i64 (l.getD i 0)) := by
  cases h with
  | sl l ex =>
    have h4 : 0 ≤ (i : Int) ∧ (i : Int) < (l.length : Int) := ⟨by omega, by omega⟩
    refine ⟨_, by simp only [go_sem, ↓reduceIte, Nat.reduceEqDiff, Nat.reduceBEq, Nat.reduceAdd, Nat.reduceMul, Nat.reduceSub, Nat.reduceLT, Nat.reduceLeDiff, reduceCtorEq, Int.reduceToNat, Int.reduceLE, Int.reduceLT, Int.reduceEq, h4]; rfl, by simp only [go_sem, ↓reduceIte, Nat.reduceEqDiff, Nat.reduceBEq, Nat.reduceAdd, Nat.reduceMul, Nat.reduceSub, Nat.reduceLT, Nat.reduceLeDiff, reduceCtorEq, Int.reduceToNat, Int.reduceLE, Int.reduceLT, Int.reduceEq, Int.toNat_natCast]⟩
  | msl id l ex g f hS =>
    have r := rowsAt_of hS
    refine ⟨_, idx22m i r (intRows_length l) (intRows_ok l) hi, ?_⟩
    simp only [go_sem, ↓reduceIte, Nat.reduceEqDiff, Nat.reduceBEq, Nat.reduceAdd, Nat.reduceMul, Nat.reduceSub, Nat.reduceLT, Nat.reduceLeDiff, reduceCtorEq, Int.reduceToNat, Int.reduceLE, Int.reduceLT, Int.reduceEq, r, intRows_get l i hi, hi]
/-- What is held while ranks are given. -/
structure LevS (n rb ra qb : Nat) (S : Store) (v : PV) (R Q : List Int) : Prop where
  len : n ≤ S.length
  box : S[rb]? = some (.arr [[.msl ra 0 R.length true]] none false)
  rank : S[ra]? = some (.arr (intRows R) (some (some 1)) false)
  qbox : S[qb]? = some (.arr [[v]] none false)
  q : IntO S v Q
  lt : rb < n ∧ ra < n ∧ qb < n
  ne : rb ≠ ra ∧ rb ≠ qb ∧ ra ≠ qb
  out : rb ∉ v.refs ∧ ra ∉ v.refs ∧ qb ∉ v.refs
theorem LevS.gc {n rb ra qb : Nat} {S : Store} {v : PV} {R Q : List Int} (h : LevS n rb ra qb S v R Q) (e : Env) : LevS n rb ra qb (Vs.gc n e S) v R Q := by
  obtain ⟨g1, g2⟩ := gc_at (e := e) h.len
  exact ⟨g1, by rw [g2 _ h.lt.1]; exact h.box, by rw [g2 _ h.lt.2.1]; exact h.rank, by rw [g2 _ h.lt.2.2]; exact h.qbox, h.q.gcBox h.qbox h.lt.2.2, h.lt, h.ne, h.out⟩
theorem LevS.set {n rb ra qb : Nat} {S : Store} {v : PV} {R Q : List Int} (h : LevS n rb ra qb S v R Q) (j : Nat) (k : Int) : LevS n rb ra qb (S.set ra (.arr (intRows (R.set j k)) (some (some 1)) false)) v (R.set j k) Q := by
  have hl := (List.getElem?_eq_some_iff.1 h.rank).1
  refine ⟨by rw [List.length_set]; exact h.len, by rw [List.getElem?_set_ne (Ne.symm h.ne.1), List.length_set]; exact h.box, by simp [hl], by rw [List.getElem?_set_ne h.ne.2.2]; exact h.qbox, h.q.same fun r hr => by rw [List.getElem?_set_ne (fun e : ra = r => h.out.2.1 (by rw [e]; exact hr))], h.lt, h.ne, h.out⟩
theorem LevS.push {n rb ra qb : Nat} {S S'' : Store} {v v' : PV} {R Q Q' : List Int} (h : LevS n rb ra qb S v R Q) (k : Keep S.length (qb :: v.refs) v.refs S S'') (hb : S''[qb]? = some (.arr [[v']] none false)) (hO : IntO S'' v' Q') (hv : ∀ r ∈ v'.refs, r ∈ v.refs ∨ S.length ≤ r) : LevS n rb ra qb S'' v' R Q' := by
  have hl := h.len
  have l1 := (List.getElem?_eq_some_iff.1 h.box).1
  have l2 := (List.getElem?_eq_some_iff.1 h.rank).1
  have l3 := (List.getElem?_eq_some_iff.1 h.qbox).1
  have no : ∀ r, r < S.length → r ∉ v.refs → r ∉ v'.refs := fun r hr hn hx => by
    rcases hv r hx with h | h
    · exact hn h
    · omega
  refine ⟨by have := k.len; omega, ?_, ?_, hb, hO, h.lt, h.ne, no _ l1 h.out.1, no _ l2 h.out.2.1, no _ l3 h.out.2.2⟩
  · exact k.keeps rb l1 (by simp [h.ne.2.1, h.out.1]) _ _ _ h.box fun r hr => by
      have : r = ra := by simpa [PV.refs, rowsRefs_cons, rowsRefs_nil, refsL] using hr
      subst this
      exact ⟨l2, h.out.2.1⟩
  · exact k.keeps ra l2 (by simp [h.ne.2.2, h.out.2.1]) _ _ _ h.rank (by rw [intRows_refs]; intro r hr; cases hr)
theorem loop83 {b n rb ra qb : Nat} {k : Int} {pl : PV} {l : List Int} (hl : l.length ≤ 2000000) : ∀ (m i : Nat), i + m = l.length → ∀ (S : Store) (v : PV) (R Q : List Int), LevS n rb ra qb S v R Q → Ints S pl l → (∀ r ∈ pl.refs, r < n ∧ r ≠ ra ∧ r ≠ qb ∧ r ∉ v.refs) → (∀ x ∈ l, ∃ j : Nat, j < R.length ∧ x = j) → Q.length + m ≤ 2000000 →
    ∃ v' S', F83.L0 b n (.int .i64 k) (.mp rb 0 0) (.mp qb 0 0) pl (.int .i64 l.length) (.int .i64 i) S = some (.tup [], S') ∧ LevS n rb ra qb S' v' ((l.drop i).foldl (Rk.lev k) (R, Q)).1 ((l.drop i).foldl (Rk.lev k) (R, Q)).2 ∧ Keep n (ra :: qb :: v.refs) v.refs S S' ∧ (∀ r ∈ v'.refs, r ∈ v.refs ∨ n ≤ r) := by
  intro m
  induction m with
  | zero =>
    intro i hi S v R Q h hp hd hx hQ
    have h1 : ¬ (i : Int) < (l.length : Int) := by omega
    have e0 : l.drop i = [] := List.drop_eq_nil_of_le (by omega)
    rw [e0]
    have h2 := h.gc (e := F83.ee3 .undef .undef .undef .undef .undef .undef .undef)
    obtain ⟨g1, g2⟩ := gc_at (e := F83.ee3 .undef .undef .undef .undef .undef .undef .undef) h.len
    refine ⟨v, _, F83.L0_step ?_, h2, .same g1 g2, fun r hr => .inl hr⟩
    simp only [F83.B0_eq, F83.g39]
    simp only [go_sem, ↓reduceIte, Nat.reduceEqDiff, Nat.reduceBEq, Nat.reduceAdd, Nat.reduceMul, Nat.reduceSub, Nat.reduceLT, Nat.reduceLeDiff, reduceCtorEq, Int.reduceToNat, Int.reduceLE, Int.reduceLT, Int.reduceEq, h1]
    done
  | succ m hm =>
    intro i hi S v R Q h hp hd hx hQ
    have h1 : (i : Int) < (l.length : Int) := by omega
    have h2 := wrap_succ (i := i) (n := l.length) (by omega) (by have : (2000000 : Nat) ≤ maxLen := by decide
                                                                 omega)
    have hlt : i < l.length := by omega
    obtain ⟨j, hj, ej⟩ := hx (l.getD i 0) (by simp [List.getD_eq_getElem?_getD, hlt])
    have ed : l.drop i = (j : Int) :: l.drop (i + 1) := by
      rw [List.drop_eq_getElem_cons hlt]
      simp only [List.getD_eq_getElem?_getD, List.getElem?_eq_getElem hlt, Option.getD_some] at ej
      rw [ej]
    obtain ⟨a, a1, a2⟩ := hp.load hlt
    rw [ej] at a2
    have r1 := rowsAt_of h.box
    have r2 := rowsAt_of h.rank
    have r3 := rowsAt_of h.qbox
    have x1 := idx22m (ex := true) j r2 (intRows_length R) (intRows_ok R) hj
    have s9 : ∀ K : KT, execL (F83.C b) 0 F83.c9 K (F83.ee2 (.int .i64 k) (.mp rb 0 0) (.mp qb 0 0) pl (.int .i64 l.length) (.int .i64 i)) S = K .normal (F83.ee3 (.int .i64 k) (.mp rb 0 0) (.mp qb 0 0) pl (.int .i64 l.length) (.int .i64 i) (.bool true)) S := fun K => by
      simp only [go_sem, ↓reduceIte, Nat.reduceEqDiff, Nat.reduceBEq, Nat.reduceAdd, Nat.reduceMul, Nat.reduceSub, Nat.reduceLT, Nat.reduceLeDiff, reduceCtorEq, Int.reduceToNat, Int.reduceLE, Int.reduceLT, Int.reduceEq, h1]
    have s20 : ∀ K : KT, execL (F83.C b) 1 F83.c20 K (F83.ee3 (.int .i64 k) (.mp rb 0 0) (.mp qb 0 0) pl (.int .i64 l.length) (.int .i64 i) (.bool true)) S = K .normal (F83.ee0 (.int .i64 k) (.mp rb 0 0) (.mp qb 0 0) (.int .i64 j) pl (.int .i64 l.length) (.int .i64 i)) S := fun K => by
      simp only [go_sem, ↓reduceIte, Nat.reduceEqDiff, Nat.reduceBEq, Nat.reduceAdd, Nat.reduceMul, Nat.reduceSub, Nat.reduceLT, Nat.reduceLeDiff, reduceCtorEq, Int.reduceToNat, Int.reduceLE, Int.reduceLT, Int.reduceEq, a1, withV_any, a2]
    have s22 : ∀ K : KT, execL (F83.C b) 1 F83.c22 K (F83.ee0 (.int .i64 k) (.mp rb 0 0) (.mp qb 0 0) (.int .i64 j) pl (.int .i64 l.length) (.int .i64 i)) S = K .normal (F83.ee1 (.int .i64 k) (.mp rb 0 0) (.mp qb 0 0) (.int .i64 j) pl (.int .i64 l.length) (.int .i64 i) (.bool (decide (Rk.rk R j < 0)))) S := fun K => by
      by_cases hh : Rk.rk R j < 0
      · simp only [go_sem, ↓reduceIte, Nat.reduceEqDiff, Nat.reduceBEq, Nat.reduceAdd, Nat.reduceMul, Nat.reduceSub, Nat.reduceLT, Nat.reduceLeDiff, reduceCtorEq, Int.reduceToNat, Int.reduceLE, Int.reduceLT, Int.reduceEq, r1, x1, r2, intRows_get R j hj, hj, getD_rk hj, hh, decide_true]
      · simp only [go_sem, ↓reduceIte, Nat.reduceEqDiff, Nat.reduceBEq, Nat.reduceAdd, Nat.reduceMul, Nat.reduceSub, Nat.reduceLT, Nat.reduceLeDiff, reduceCtorEq, Int.reduceToNat, Int.reduceLE, Int.reduceLT, Int.reduceEq, r1, x1, r2, intRows_get R j hj, hj, getD_rk hj, hh, decide_false]
    have s14 : ∀ (K : KT) (x : PV) (S : Store), execL (F83.C b) 0 F83.c14 K (F83.ee1 (.int .i64 k) (.mp rb 0 0) (.mp qb 0 0) (.int .i64 j) pl (.int .i64 l.length) (.int .i64 i) x) S = K .normal (F83.ee2 (.int .i64 k) (.mp rb 0 0) (.mp qb 0 0) pl (.int .i64 l.length) (.int .i64 (i + 1 : Nat))) S := fun K x S => by
      simp only [go_sem, ↓reduceIte, Nat.reduceEqDiff, Nat.reduceBEq, Nat.reduceAdd, Nat.reduceMul, Nat.reduceSub, Nat.reduceLT, Nat.reduceLeDiff, reduceCtorEq, Int.reduceToNat, Int.reduceLE, Int.reduceLT, Int.reduceEq, withV_any, h2]
    rw [ed, List.foldl_cons]
    by_cases hr : Rk.rk R j < 0
    · have el : Rk.lev k (R, Q) (j : Int) = (R.set j k, Q ++ [(j : Int)]) := by unfold Rk.lev; rw [if_pos hr]; rfl
      rw [el]
      have hS1 := h.set j k
      have e3 := storeInt (j := j) k h.rank hj
      obtain ⟨v', S', S'', ks, p1, p2, p3, p4, p5, p6, p7⟩ := pushInt (b := b) (i := (j : Int)) hS1.qbox hS1.q hS1.out.2.2 (by omega)
      have hS2 := hS1.push p6 p4 p5 p7
      have kk : ∀ w : PV, (∀ r ∈ w.refs, r ∉ v.refs) → kill1 ks w = w := fun w hw => kill1_id fun r hr hx => hw r hr (p3 _ hx)
      have k2 : kill1 ks (.mp rb 0 0) = .mp rb 0 0 := kk _ (by intro r hr; simp only [PV.refs, List.mem_singleton] at hr; subst hr; exact h.out.1)
      have k3 : kill1 ks (.mp qb 0 0) = .mp qb 0 0 := kk _ (by intro r hr; simp only [PV.refs, List.mem_singleton] at hr; subst hr; exact h.out.2.2)
      have k8 : kill1 ks pl = pl := kk _ fun r hr => (hd r hr).2.2.2
      have ki : ∀ z : Int, kill1 ks (.int .i64 z) = .int .i64 z := fun z => rfl
      have r3' := rowsAt_of hS1.qbox
      generalize eS1 : S.set ra (.arr (intRows (R.set j k)) (some (some 1)) false) = S1 at *
      have s28 : ∀ K : KT, execL (F83.C b) 1 F83.c28 K (F83.ee1 (.int .i64 k) (.mp rb 0 0) (.mp qb 0 0) (.int .i64 j) pl (.int .i64 l.length) (.int .i64 i) (.bool true)) S = K .normal (F83.ee0 (.int .i64 k) (.mp rb 0 0) (.mp qb 0 0) (.int .i64 j) pl (.int .i64 l.length) (.int .i64 i)) S1 := fun K => by
        simp only [storeE_eq, known3, if_true, size3] at e3
        simp only [go_sem, ↓reduceIte, Nat.reduceEqDiff, Nat.reduceBEq, Nat.reduceAdd, Nat.reduceMul, Nat.reduceSub, Nat.reduceLT, Nat.reduceLeDiff, reduceCtorEq, Int.reduceToNat, Int.reduceLE, Int.reduceLT, Int.reduceEq, withV_any, r1, x1, e3]
      have s29 : ∀ K : KT, execL (F83.C b) 1 F83.c29 K (F83.ee0 (.int .i64 k) (.mp rb 0 0) (.mp qb 0 0) (.int .i64 j) pl (.int .i64 l.length) (.int .i64 i)) S1 = K .normal (F83.ee1 (.int .i64 k) (.mp rb 0 0) (.mp qb 0 0) (.int .i64 j) pl (.int .i64 l.length) (.int .i64 i) .undef) S'' := fun K => by
        simp only [storeE_eq, known22', if_true, size22] at p2
        simp only [go_sem, ↓reduceIte, Nat.reduceEqDiff, Nat.reduceBEq, Nat.reduceAdd, Nat.reduceMul, Nat.reduceSub, Nat.reduceLT, Nat.reduceLeDiff, reduceCtorEq, Int.reduceToNat, Int.reduceLE, Int.reduceLT, Int.reduceEq, withV_any, r3', p1, get_put, get_killE, k2, k3, k8, ki, p2]
      have hS3 := hS2.gc (e := F83.ee2 (.int .i64 k) (.mp rb 0 0) (.mp qb 0 0) pl (.int .i64 l.length) (.int .i64 (i + 1 : Nat)))
      obtain ⟨g1, g2⟩ := gc_at (e := F83.ee2 (.int .i64 k) (.mp rb 0 0) (.mp qb 0 0) pl (.int .i64 l.length) (.int .i64 (i + 1 : Nat))) hS2.len
      have lr := h.len
      have lS1 : S1.length = S.length := by rw [← eS1, List.length_set]
      have kp1 : Keep n (ra :: qb :: v.refs) v.refs S S1 := ⟨by omega, fun t ht hx rows g f ha _ => by
        rw [← eS1, List.getElem?_set_ne (fun e => hx (by simp [e]))]; exact ha⟩
      have kp2 : Keep n (ra :: qb :: v.refs) v.refs S S'' := kp1.trans p6 (by omega) (fun r h => .inl (by simp only [List.mem_cons] at h ⊢; exact .inr h)) (fun r h => .inl h)
      have kp3 : Keep n (ra :: qb :: v.refs) v.refs S (Vs.gc n (F83.ee2 (.int .i64 k) (.mp rb 0 0) (.mp qb 0 0) pl (.int .i64 l.length) (.int .i64 (i + 1 : Nat))) S'') := kp2.trans (.same (X := []) (D := []) g1 g2) (by omega) (by intro r h; cases h) (by intro r h; cases h)
      have hv2 : ∀ r ∈ v'.refs, r ∈ v.refs ∨ n ≤ r := fun r hr => by
        rcases p7 r hr with h | h
        · exact .inl h
        · exact .inr (by omega)
      obtain ⟨v2, S2, q1, q2, q3, q4⟩ := hm (i + 1) (by omega) _ v' (R.set j k) (Q ++ [(j : Int)]) hS3 (hp.keep kp3 fun r hr => ⟨(hd r hr).1, by simp only [List.mem_cons, not_or]; exact (hd r hr).2⟩) (fun r hr => ⟨(hd r hr).1, (hd r hr).2.1, (hd r hr).2.2.1, fun hx => by
        rcases hv2 r hx with h | h
        · exact (hd r hr).2.2.2 h
        · have := (hd r hr).1; omega⟩) (by rw [List.length_set]; exact hx) (by simp only [List.length_append, List.length_cons, List.length_nil]; omega)
      refine ⟨v2, S2, F83.L0_step ?_, q2, kp3.trans q3 (Nat.le_refl _) (fun r h => ?_) hv2, fun r hr => ?_⟩
      · simp only [F83.B0_eq, s9, F83.k36_n, condC_true, F83.k17_n, s20, F83.k33_n, s22, hr, decide_true, F83.k24_n, s28, F83.k30_n, s29, F83.k19_n, F83.k15_n, s14, F83.k8_n, q1]
      · simp only [List.mem_cons] at h
        rcases h with h | h | h
        · exact .inl (by simp [h])
        · exact .inl (by simp [h])
        · rcases hv2 r h with h | h
          · exact .inl (by simp [h])
          · exact .inr h
      · rcases q4 r hr with h | h
        · exact hv2 r h
        · exact .inr h
    · have el : Rk.lev k (R, Q) (j : Int) = (R, Q) := by unfold Rk.lev; rw [if_neg hr]
      rw [el]
      have hS3 := h.gc (e := F83.ee2 (.int .i64 k) (.mp rb 0 0) (.mp qb 0 0) pl (.int .i64 l.length) (.int .i64 (i + 1 : Nat)))
      obtain ⟨g1, g2⟩ := gc_at (e := F83.ee2 (.int .i64 k) (.mp rb 0 0) (.mp qb 0 0) pl (.int .i64 l.length) (.int .i64 (i + 1 : Nat))) h.len
      have kp3 : Keep n (ra :: qb :: v.refs) v.refs S (Vs.gc n (F83.ee2 (.int .i64 k) (.mp rb 0 0) (.mp qb 0 0) pl (.int .i64 l.length) (.int .i64 (i + 1 : Nat))) S) := .same g1 g2
      obtain ⟨v2, S2, q1, q2, q3, q4⟩ := hm (i + 1) (by omega) _ v R Q hS3 (hp.keep kp3 fun r hr => ⟨(hd r hr).1, by simp only [List.mem_cons, not_or]; exact (hd r hr).2⟩) hd hx (by omega)
      refine ⟨v2, S2, F83.L0_step ?_, q2, kp3.trans q3 (Nat.le_refl _) (fun r h => .inl h) (fun r h => .inl h), q4⟩
      simp only [F83.B0_eq, s9, F83.k36_n, condC_true, F83.k17_n, s20, F83.k33_n, s22, hr, decide_false, F83.k24_n, condC_false, F83.k19_n, F83.k15_n, s14, F83.k8_n, q1]
/-- The closure gives rank k to those of l that have none, and puts them into the queue. -/
theorem call83 {rb ra qb : Nat} {k : Int} {pl v : PV} {l R Q : List Int} {S : Store} (h : LevS S.length rb ra qb S v R Q) (hp : Ints S pl l) (hd : ∀ r ∈ pl.refs, r ≠ ra ∧ r ≠ qb ∧ r ∉ v.refs) (hx : ∀ x ∈ l, ∃ j : Nat, j < R.length ∧ x = j) (hQ : Q.length + l.length ≤ 2000000) :
    ∃ v' S', callRL Try.prog hints 83 [pl, .int .i64 k, .mp rb 0 0, .mp qb 0 0] S = some (.tup [], S') ∧ LevS S.length rb ra qb S' v' (l.foldl (Rk.lev k) (R, Q)).1 (l.foldl (Rk.lev k) (R, Q)).2 ∧ Keep S.length (ra :: qb :: v.refs) v.refs S S' ∧ (∀ r ∈ v'.refs, r ∈ v.refs ∨ S.length ≤ r) := by
  obtain ⟨v', S', q1, q2, q3, q4⟩ := loop83 (b := S.length) (n := S.length) (k := k) (by omega) l.length 0 (by omega) S v R Q h hp (fun r hr => ⟨hp.refs_lt r hr, hd r hr⟩) hx (by omega)
  refine ⟨v', S', F83.callR ?_, q2, q3, q4⟩
  have e1 := hp.len
  simp only [Int.natCast_zero] at q1
  simp only [F83.E_eq, F83.g41, withV_any, e1, F83.k3_n, q1]
end Go.Vs
end
