/- StateSets: for every input the law returns true, and each argument reads behind the call as it read before. The law's value semantics (text M24), lifted to the given statement. -/
import Derived.Test.YtkaeejkajfinhaaGreatRows
import Derived.WalkKit
import Derived.ProofKit
import Derived.OpenShut
import Derived.ShutString
import Derived.ChangeOld
import Derived.Below
import Derived.SizedLaws
import Derived.Test.YtkaeejkajfinhaaGreatMS8
import Derived.Test.YtkaeejkajfinhaaGreatMS28
namespace Go.Proofs.YtkaeejkajfinhaaGreat.stateSets
open Go.ChangeShapes Go.WideShapes Go.ChangeAt Go.RowKit
set_option linter.unusedVariables false
theorem own : ownKnob Tryz.prog.godebug = none := by kernel_rfl
theorem laidOut : laidOutB Tryz.prog = true := by kernel_rfl
theorem params : Tryz.f6.params = #[35, 35, 9, 9, 27, 47] := by kernel_rfl
theorem closed : Vs.closedB Tryz.prog [3, 4, 9, 25, 27, 35, 45, 47, 98, 126] = true := by kernel_rfl
theorem calls : ∀ pvs, Vs.Args Tryz.prog [35, 35, 9, 9, 27, 47] pvs → ∃ n, Vs.callP Tryz.prog Vs.hints n 6 pvs = some (.bool true) := fun pvs h => Vs.callP_of (Vs.law_StateSets pvs h)
theorem types : ∀ t ∈ ([35, 35, 9, 9, 27, 47] : List TypeId), Tryz.prog.readableRec t = true ∧ t < Tryz.prog.types.size := by
  intro t ht
  simp only [List.mem_cons, List.not_mem_nil, or_false] at ht
  rcases ht with rfl | rfl | rfl | rfl | rfl | rfl
  all_goals exact ⟨by kernel_rfl, of_decide_eq_true (by kernel_rfl)⟩
set_option maxRecDepth 100000 in
theorem contract (H : Type) (enc : TypeId × Value → H) (W : World) (base : Nat) (args : Array Value) (ds gs : List (DataW H)) (before : List MemPlace)
    (hval0 : ∀ (j : Nat) t v, Tryz.f6.params[j]? = some t → args[j]? = some v → Value.okWide Tryz.prog W .any base t v)
    (hW : DataW.Whole enc Tryz.prog Tryz.f6.params.toList Rows.stateSetsSpec.vars false W args.toList ds gs before) :
    Calls Tryz.prog 6 args W fun e W' => ∃ v, e = .returned v ∧ Rows.stateSetsSpec.post enc Tryz.prog Tryz.f6 false true false false W args v W' := by
  have hW' := hW
  obtain ⟨p, q, hA0, hV, rfl, hfz, hnd⟩ := hW
  have hA : DataW.TrodAll enc Tryz.prog W 0 (fun _ => true) true Tryz.f6.params.toList args.toList ds p := hA0
  have hok := Vs.ok_at (l := [35, 35, 9, 9, 27, 47]) (Q := fun t v => Value.okWide Tryz.prog W .any base t v) params hval0
  rw [params] at hA
  obtain ⟨rfl, rfl⟩ := trodVars_none hV
  have hA1 : DataW.TrodAll enc Tryz.prog W 0 (fun _ => true) true [35, 35, 9, 9, 27, 47] args.toList ds p := hA
  have key := Vs.law_calls (P := Tryz.prog) (Hn := Vs.hints) Tryz.checked.mixed Vs.hints_orc calls closed (by decide) hok hA1
  obtain ⟨v0, vs0, d0, ds0, p0, q0, e0, rfl, rfl, h0, r0⟩ := trodAll_cons hA
  obtain ⟨v1, vs1, d1, ds1, p1, q1, e1, rfl, rfl, h1, r1⟩ := trodAll_cons r0
  obtain ⟨v2, vs2, d2, ds2, p2, q2, e2, rfl, rfl, h2, r2⟩ := trodAll_cons r1
  obtain ⟨v3, vs3, d3, ds3, p3, q3, e3, rfl, rfl, h3, r3⟩ := trodAll_cons r2
  obtain ⟨v4, vs4, d4, ds4, p4, q4, e4, rfl, rfl, h4, r4⟩ := trodAll_cons r3
  obtain ⟨v5, vs5, d5, ds5, p5, q5, e5, rfl, rfl, h5, r5⟩ := trodAll_cons r4
  obtain ⟨rfl, rfl, rfl⟩ := trodAll_nil r5
  refine key.mono fun e W' ⟨he, bel⟩ => ?_
  subst he
  have back := Vs.args_back (ts := [35, 35, 9, 9, 27, 47]) laidOut bel types hA1 (Vs.trodAll_lt hA1)
  refine ⟨_, rfl, _, _, _, [], (p0 ++ (p1 ++ (p2 ++ (p3 ++ (p4 ++ (p5 ++ [])))))), [], hW', trodAll_mk1 (shut_bool (by kernel_rfl) _), ?_, rfl, bel.frame _, fun h => by cases h⟩
  rw [params]
  exact back
set_option maxRecDepth 100000 in
theorem lifted (os : Os) (started : os.Started) (H : Type) (enc : TypeId × Value → H) :
    ReturnsInHanded {} Tryz.checked os 6 .any (Rows.stateSetsSpec.pre6 enc Tryz.prog Tryz.f6 Rows.stateSetsRow.domain false) (Rows.stateSetsSpec.post enc Tryz.prog Tryz.f6 false true false false) := by
  refine returnsInHanded_of_change_sized (C := Tryz.checked) own started (by kernel_rfl) Tryz.func6
    (ChangeSpec.witness6 (enc := enc) (C := Tryz.checked) false ⟨#[], #[.slice none 0 0, .slice none 0 0, .string ByteArray.empty, .string ByteArray.empty, .agg #[.bool false, .slice none 0 0, .slice none 0 0], .agg #[.bool false, .slice none 0 0]], []⟩ 8 (by kernel_rfl) (by kernel_rfl) (by kernel_rfl) (by kernel_rfl)) ?_
  intro W base args ds gs before hval0 hW _ _ _
  exact contract H enc W base args ds gs before hval0 hW
theorem over : Rows.stateSetsRow.holds Tryz.pinned (OpenSpec.ofChange Rows.stateSetsSpec) :=
  OpenClaim.holds_of_wide 6 Tryz.f6 rfl rfl rfl rfl rfl rfl rfl ⟨rfl, rfl, rfl, rfl, rfl⟩ rfl rfl rfl rfl rfl (by kernel_rfl) Tryz.func6 (by kernel_rfl)
    (of_decide_eq_true (by kernel_rfl)) (by unfold Func.isWrapper; first | (rw [if_pos (by decide +kernel)]; kernel_rfl) | (rw [if_neg (by decide +kernel)]; exact ⟨rfl, rfl⟩))
    (fun os started H enc _ => lifted os started H enc)
theorem proved : Rows.StateSetsSaid := over
#print axioms proved
end Go.Proofs.YtkaeejkajfinhaaGreat.stateSets
namespace Go.Proofs.YtkaeejkajfinhaaGreat
/-- The row, under a short name, for the claim. -/
theorem stateSets_holds : Rows.StateSetsSaid := stateSets.proved
end Go.Proofs.YtkaeejkajfinhaaGreat
