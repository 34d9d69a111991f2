/- The order of trees: antisymmetric, transitive. -/
import Derived.Test.YtnddhkcciphhkaaY5
set_option linter.unusedVariables false
set_option linter.unusedSimpArgs false
namespace Go.Vs
open Go Go.Proofs
/-- Three comparisons, of a with b, b with c, a with c, go together. -/
def Tri (x y z : Int) : Prop := (0 < x ∨ 0 < y ∨ (z ≤ 0 ∧ (z ≠ 0 ∨ (x = 0 ∧ y = 0)))) ∧ (x < 0 ∨ y < 0 ∨ (0 ≤ z ∧ (z ≠ 0 ∨ (x = 0 ∧ y = 0))))
theorem Tri.seq {x y z x' y' z' : Int} (h : Tri x y z) (k : x = 0 → y = 0 → z = 0 → Tri x' y' z') : Tri (seqI x x') (seqI y y') (seqI z z') := by
  unfold Tri at *
  have e : ∀ u v : Int, (u = 0 ∧ seqI u v = v) ∨ (u ≠ 0 ∧ seqI u v = u) := fun u v => by
    by_cases hu : u = 0
    · left; simp [seqI, hu]
    · right; simp [seqI, hu]
  rcases e x x' with ⟨h1, e1⟩ | ⟨h1, e1⟩ <;> rcases e y y' with ⟨h2, e2⟩ | ⟨h2, e2⟩ <;> rcases e z z' with ⟨h3, e3⟩ | ⟨h3, e3⟩ <;> rw [e1, e2, e3]
  · exact k h1 h2 h3
  all_goals (clear k; omega)
theorem tri_zero : Tri 0 0 0 := by unfold Tri; omega
theorem tri_cmpI (a b c : Int) : Tri (cmpI a b) (cmpI b c) (cmpI a c) := by unfold Tri cmpI; omega
theorem anti_cmpI (a b : Int) : cmpI b a = - cmpI a b := by unfold cmpI; omega
theorem anti_seq {x y x' y' : Int} (h : y = -x) (k : x = 0 → y' = -x') : seqI y y' = - seqI x x' := by
  by_cases hx : x = 0
  · have := k hx
    subst h
    simp [seqI, hx, this]
  · have : y ≠ 0 := by omega
    simp [seqI, hx, this, h]
theorem bytesLess_irrefl : ∀ a, Op.bytesLess a a = false
  | [] => rfl
  | a :: r => by simp [Op.bytesLess, bytesLess_irrefl r]
theorem bytesLess_total : ∀ a b, a ≠ b → (Op.bytesLess b a = !Op.bytesLess a b)
  | [], [], h => absurd rfl h
  | [], _ :: _, _ => rfl
  | _ :: _, [], _ => rfl
  | a :: x, b :: y, h => by
    simp only [Op.bytesLess]
    by_cases hab : a = b
    · subst hab
      have : x ≠ y := fun e => h (by rw [e])
      simp [bytesLess_total x y this]
    · have h1 : (a == b) = false := by simpa using hab
      have h2 : (b == a) = false := by simpa using fun e : b = a => hab e.symm
      have h3 : a.toNat ≠ b.toNat := fun e => hab (UInt8.toNat.inj e)
      simp only [h1, h2, Bool.false_and, Bool.or_false, UInt8.lt_iff_toNat_lt]
      by_cases h4 : a.toNat < b.toNat <;> simp [h4] <;> omega
theorem bytesLess_trans : ∀ a b c, Op.bytesLess a b = true → Op.bytesLess b c = true → Op.bytesLess a c = true
  | _, [], _, h, _ => by simp [Op.bytesLess] at h
  | _, _ :: _, [], _, h => by simp [Op.bytesLess] at h
  | [], _ :: _, _ :: _, _, _ => rfl
  | a :: x, b :: y, c :: z, h, k => by
    simp only [Op.bytesLess, Bool.or_eq_true, Bool.and_eq_true, beq_iff_eq, decide_eq_true_eq, UInt8.lt_iff_toNat_lt] at h k ⊢
    rcases h with h | ⟨rfl, h⟩
    · rcases k with k | ⟨rfl, k⟩
      · left; omega
      · left; exact h
    · rcases k with k | ⟨rfl, k⟩
      · left; exact k
      · right; exact ⟨rfl, bytesLess_trans x y z h k⟩
theorem anti_cmpStr (a b : ByteArray) : cmpStr b a = - cmpStr a b := by
  unfold cmpStr
  by_cases h : a.toList = b.toList
  · simp [h]
  · have h' : ¬ b.toList = a.toList := fun e => h e.symm
    simp only [ne_eq, h, h', not_false_eq_true, if_true, bytesLess_total _ _ h]
    cases Op.bytesLess a.toList b.toList <;> rfl
theorem tri_cmpStr (a b c : ByteArray) : Tri (cmpStr a b) (cmpStr b c) (cmpStr a c) := by
  unfold cmpStr
  by_cases h1 : a.toList = b.toList
  · by_cases h2 : b.toList = c.toList
    · simp [h1, h2, tri_zero]
    · rw [h1]
      simp only [ne_eq, h2, not_false_eq_true, not_true_eq_false, if_true, if_false, cmpB]
      split <;> (unfold Tri; omega)
  · by_cases h2 : b.toList = c.toList
    · rw [← h2]
      simp only [ne_eq, h1, not_false_eq_true, not_true_eq_false, if_true, if_false, cmpB]
      split <;> (unfold Tri; omega)
    · by_cases h3 : a.toList = c.toList
      · rw [← h3] at h2 ⊢
        simp only [ne_eq, h1, h2, not_false_eq_true, not_true_eq_false, if_true, if_false, cmpB, bytesLess_total _ _ h1]
        cases Op.bytesLess a.toList b.toList <;> (unfold Tri; simp)
      · simp only [ne_eq, h1, h2, h3, not_false_eq_true, if_true, cmpB]
        have t1 := bytesLess_trans a.toList b.toList c.toList
        have t2 := bytesLess_trans c.toList b.toList a.toList
        rw [bytesLess_total _ _ h1, bytesLess_total _ _ h2, bytesLess_total _ _ h3] at t2
        revert t1 t2
        cases Op.bytesLess a.toList b.toList <;> cases Op.bytesLess b.toList c.toList <;> cases Op.bytesLess a.toList c.toList <;> simp [Tri]
theorem anti_cmpNeg (a b : Bool) : cmpNeg b a = - cmpNeg a b := by cases a <;> cases b <;> rfl
theorem tri_cmpNeg (a b c : Bool) : Tri (cmpNeg a b) (cmpNeg b c) (cmpNeg a c) := by cases a <;> cases b <;> cases c <;> (simp [cmpNeg, cmpB, Tri])
theorem anti_wordsTo (a b : List Int) : ∀ m, wordsTo b a m = - wordsTo a b m
  | 0 => rfl
  | m + 1 => anti_seq (anti_cmpI _ _) fun _ => anti_wordsTo a b m
theorem tri_wordsTo (a b c : List Int) : ∀ m, Tri (wordsTo a b m) (wordsTo b c m) (wordsTo a c m)
  | 0 => tri_zero
  | m + 1 => (tri_cmpI _ _ _).seq fun _ _ _ => tri_wordsTo a b c m
theorem cmpI_zero {a b : Int} (h : cmpI a b = 0) : a = b := by unfold cmpI at h; omega
theorem anti_cmpWords (a b : List Int) : cmpWords b a = - cmpWords a b := anti_seq (anti_cmpI _ _) fun h => by
  have : a.length = b.length := by have := cmpI_zero h; omega
  rw [this]; exact anti_wordsTo a b _
theorem tri_cmpWords (a b c : List Int) : Tri (cmpWords a b) (cmpWords b c) (cmpWords a c) := (tri_cmpI _ _ _).seq fun h k _ => by
  have e1 : a.length = b.length := by have := cmpI_zero h; omega
  rw [e1]; exact tri_wordsTo a b c _
theorem anti_cmps : ∀ (a b : List Node), (∀ n ∈ a, ∀ m, m.cmp n = - n.cmp m) → Node.cmps b a = - Node.cmps a b
  | [], [], _ => rfl
  | [], _ :: _, _ => rfl
  | _ :: _, [], _ => rfl
  | n :: r, m :: s, h => anti_seq (h n (by simp) m) fun _ => anti_cmps r s fun x hx => h x (by simp [hx])
theorem anti_cmp : ∀ a b : Node, b.cmp a = - a.cmp b := by
  refine Node.ind' fun a ih b => ?_
  rw [Node.cmp_eq b a, Node.cmp_eq a b]
  exact anti_seq (anti_cmpI _ _) fun _ => anti_seq (anti_cmpStr _ _) fun _ => anti_seq (anti_cmpNeg _ _) fun _ => anti_seq (anti_cmpWords _ _) fun _ => anti_seq (anti_cmpWords _ _) fun _ => anti_seq (anti_cmpI _ _) fun _ => anti_cmps _ _ ih
theorem tri_cmps : ∀ (a b c : List Node), a.length = b.length → b.length = c.length → (∀ n ∈ a, ∀ m k, Tri (n.cmp m) (m.cmp k) (n.cmp k)) → Tri (Node.cmps a b) (Node.cmps b c) (Node.cmps a c)
  | [], [], [], _, _, _ => tri_zero
  | n :: r, m :: s, k :: t, h1, h2, h => (h n (by simp) m k).seq fun _ _ _ => tri_cmps r s t (by simpa using h1) (by simpa using h2) fun x hx => h x (by simp [hx])
  | [], [], _ :: _, _, h, _ => by simp at h
  | [], _ :: _, _, h, _, _ => by simp at h
  | _ :: _, [], _, h, _, _ => by simp at h
  | _ :: _, _ :: _, [], _, h, _ => by simp at h
theorem tri_cmp : ∀ a b c : Node, Tri (a.cmp b) (b.cmp c) (a.cmp c) := by
  refine Node.ind' fun a ih b c => ?_
  rw [Node.cmp_eq a b, Node.cmp_eq b c, Node.cmp_eq a c]
  refine (tri_cmpI _ _ _).seq fun _ _ _ => (tri_cmpStr _ _ _).seq fun _ _ _ => (tri_cmpNeg _ _ _).seq fun _ _ _ => (tri_cmpWords _ _ _).seq fun _ _ _ => (tri_cmpWords _ _ _).seq fun _ _ _ => (tri_cmpI _ _ _).seq fun h k _ => tri_cmps _ _ _ ?_ ?_ ih
  · have := cmpI_zero h; omega
  · have := cmpI_zero k; omega
/-- The results are -1, 0, 1. -/
def Small (x : Int) : Prop := -1 ≤ x ∧ x ≤ 1
theorem Small.seq {x y : Int} (h : Small x) (k : Small y) : Small (seqI x y) := by unfold seqI; split <;> assumption
theorem small_cmpI (a b : Int) : Small (cmpI a b) := by unfold Small cmpI; omega
theorem small_cmpB (b : Bool) : Small (cmpB b) := by cases b <;> simp [Small, cmpB]
theorem small_wordsTo (a b : List Int) : ∀ m, Small (wordsTo a b m)
  | 0 => by simp [wordsTo, Small]
  | m + 1 => (small_cmpI _ _).seq (small_wordsTo a b m)
theorem small_cmps : ∀ (a b : List Node), (∀ n ∈ a, ∀ m, Small (n.cmp m)) → Small (Node.cmps a b)
  | [], _, _ => by simp [Node.cmps, Small]
  | _ :: _, [], _ => by simp [Node.cmps, Small]
  | n :: r, m :: s, h => (h n (by simp) m).seq (small_cmps r s fun x hx => h x (by simp [hx]))
theorem small_cmp : ∀ a b : Node, Small (a.cmp b) := by
  refine Node.ind' fun a ih b => ?_
  rw [Node.cmp_eq]
  refine (small_cmpI _ _).seq (Small.seq ?_ (Small.seq ?_ (((small_cmpI _ _).seq (small_wordsTo _ _ _)).seq (((small_cmpI _ _).seq (small_wordsTo _ _ _)).seq ((small_cmpI _ _).seq (small_cmps _ _ ih))))))
  · unfold cmpStr; split
    · exact small_cmpB _
    · simp [Small]
  · unfold cmpNeg; split
    · exact small_cmpB _
    · simp [Small]
end Go.Vs
