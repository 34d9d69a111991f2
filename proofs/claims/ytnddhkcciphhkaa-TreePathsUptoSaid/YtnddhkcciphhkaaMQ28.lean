/- TreePaths: for every input the law returns true, and each argument reads behind the call as it read before. Where what it reads is of bulk at most 1048576. The law's value semantics (text Y55), lifted to the given statement. -/
import Derived.Test.YtnddhkcciphhkaaRows
import Derived.WalkKit
import Derived.ProofKit
import Derived.OpenShut
import Derived.ShutString
import Derived.ChangeOld
import Derived.Below
import Derived.SizedLaws
import Derived.JoinedCond
import Derived.Test.YtnddhkcciphhkaaMQ7
import Derived.Test.YtnddhkcciphhkaaMQ27
namespace Go.Proofs.Ytnddhkcciphhkaa.treePaths
open Go.ChangeShapes Go.WideShapes Go.ChangeAt Go.RowKit
set_option linter.unusedVariables false
theorem own : ownKnob Try.prog.godebug = none := by kernel_rfl
theorem laidOut : laidOutB Try.prog = true := by kernel_rfl
theorem params : Try.f10.params = #[54, 54] := by kernel_rfl
theorem closed : Vs.closedB Try.prog [3, 4, 9, 22, 23, 24, 26, 49, 76, 51, 52, 54] = true := by kernel_rfl
theorem calls : ∀ pvs, Vs.Args Try.prog [54, 54] pvs → Vs.pvsB pvs ≤ 1048576 → ∃ n, Vs.callP Try.prog Vs.hints n 10 pvs = some (.bool true) := fun pvs h hb => Vs.callP_of (Vs.law10 pvs h hb)
theorem types : ∀ t ∈ ([54, 54] : List TypeId), Try.prog.readableRec t = true ∧ t < Try.prog.types.size := by
  intro t ht
  simp only [List.mem_cons, List.not_mem_nil, or_false] at ht
  rcases ht with rfl | rfl
  all_goals exact ⟨by kernel_rfl, of_decide_eq_true (by kernel_rfl)⟩
set_option maxRecDepth 100000 in
theorem contract (H : Type) (enc : TypeId × Value → H) (W : World) (base : Nat) (args : Array Value) (ds gs : List (DataW H)) (before : List MemPlace)
    (hval0 : ∀ (j : Nat) t v, Try.f10.params[j]? = some t → args[j]? = some v → Value.okWide Try.prog W .any base t v)
    (hW : DataW.Whole enc Try.prog Try.f10.params.toList Rows.treePathsSpec.vars false W args.toList ds gs before) (hk : Rows.uptoSmall H (ds ++ gs) = true) :
    Calls Try.prog 10 args W fun e W' => ∃ v, e = .returned v ∧ Rows.treePathsSpec.post enc Try.prog Try.f10 false true false false W args v W' := by
  have hW' := hW
  obtain ⟨p, q, hA0, hV, rfl, hfz, hnd⟩ := hW
  have hA : DataW.TrodAll enc Try.prog W 0 (fun _ => true) true Try.f10.params.toList args.toList ds p := hA0
  have hok := Vs.ok_at (l := [54, 54]) (Q := fun t v => Value.okWide Try.prog W .any base t v) params hval0
  rw [params] at hA
  obtain ⟨rfl, rfl⟩ := trodVars_none hV
  have hA1 : DataW.TrodAll enc Try.prog W 0 (fun _ => true) true [54, 54] args.toList ds p := hA
  have hb := of_decide_eq_true hk
  rw [List.append_nil] at hb
  have key := Vs.law_callsB (P := Try.prog) (Hn := Vs.hints) Try.checked.mixed calls closed (by decide) hb hok hA1
  obtain ⟨v0, vs0, d0, ds0, p0, q0, e0, rfl, rfl, h0, r0⟩ := trodAll_cons hA
  obtain ⟨v1, vs1, d1, ds1, p1, q1, e1, rfl, rfl, h1, r1⟩ := trodAll_cons r0
  obtain ⟨rfl, rfl, rfl⟩ := trodAll_nil r1
  refine key.mono fun e W' ⟨he, bel⟩ => ?_
  subst he
  have back := Vs.args_back (ts := [54, 54]) laidOut bel types hA1 (Vs.trodAll_lt hA1)
  refine ⟨_, rfl, _, _, _, [], (p0 ++ (p1 ++ [])), [], hW', trodAll_mk1 (shut_bool (by kernel_rfl) _), ?_, rfl, bel.frame _, fun h => by cases h⟩
  rw [params]
  exact back
set_option maxRecDepth 100000 in
theorem lifted (os : Os) (started : os.Started) (H : Type) (enc : TypeId × Value → H) (F : Stop.Interp) :
    ReturnsInHanded {} Try.checked os 10 .any ((Rows.OpenSpec.upto Rows.treePathsSpec).pre6 enc Try.prog Try.f10 Rows.treePathsUptoRow.domain false) (((Rows.OpenSpec.upto Rows.treePathsSpec).at F).post enc Try.prog Try.f10 false true false false) := by
  refine returnsInHanded_of_cond (C := Try.checked) (s := Rows.OpenSpec.upto Rows.treePathsSpec) (k := Rows.uptoSmall) rfl own started (by kernel_rfl) Try.func10
    (OpenSpec.witness (enc := enc) (C := Try.checked) (s := Rows.OpenSpec.upto Rows.treePathsSpec) (k := Rows.uptoSmall) rfl false ⟨#[], #[.agg #[.int .i64 0, .string ByteArray.empty, .bool false, .slice none 0 0, .slice none 0 0, .slice none 0 0],  .agg #[.int .i64 0, .string ByteArray.empty, .bool false, .slice none 0 0, .slice none 0 0, .slice none 0 0]], []⟩ 8 (by kernel_rfl) (by kernel_rfl) (by kernel_rfl)
      (x := ([.agg [.lit (.int .i64 0), .lit (.string []), .agg [.lit (.bool false), .nil, .nil], .nil], .agg [.lit (.int .i64 0), .lit (.string []), .agg [.lit (.bool false), .nil, .nil], .nil]], [], [])) (by kernel_rfl) rfl (by kernel_rfl)) ?_
  intro W base args ds gs before hval hW _ hk _
  exact contract H enc W base args ds gs before hval hW hk
theorem over : Rows.treePathsUptoRow.holds Try.pinned (Rows.OpenSpec.upto Rows.treePathsSpec) :=
  OpenClaim.holds_of_cond 10 Try.f10 rfl rfl rfl rfl rfl rfl rfl ⟨rfl, rfl, rfl, rfl, rfl⟩ rfl rfl rfl rfl rfl (by kernel_rfl) Try.func10 (by kernel_rfl)
    (of_decide_eq_true (by kernel_rfl)) (by unfold Func.isWrapper; first | (rw [if_pos (by decide +kernel)]; kernel_rfl) | (rw [if_neg (by decide +kernel)]; exact ⟨rfl, rfl⟩))
    (fun os started H enc _ F => lifted os started H enc F)
theorem proved : Rows.TreePathsUptoSaid := over
#print axioms proved
end Go.Proofs.Ytnddhkcciphhkaa.treePaths
namespace Go.Proofs.Ytnddhkcciphhkaa
/-- The row, under a short name, for the claim. -/
theorem treePaths_holds : Rows.TreePathsUptoSaid := treePaths.proved
end Go.Proofs.Ytnddhkcciphhkaa
