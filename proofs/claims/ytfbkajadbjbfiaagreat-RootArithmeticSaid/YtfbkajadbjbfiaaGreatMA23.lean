import Derived.Test.YtfbkajadbjbfiaaGreatRows
import Derived.WalkKit
import Derived.ProofKit
import Derived.OpenShut
import Derived.ShutString
import Derived.ChangeOld
import Derived.Below
import Derived.SizedLaws
import Derived.Test.YtfbkajadbjbfiaaGreatMA7
import Derived.Test.YtfbkajadbjbfiaaGreatMA22
namespace Go.Proofs.YtfbkajadbjbfiaaGreat.rootArithmetic
open Go.ChangeShapes Go.WideShapes Go.ChangeAt Go.RowKit
theorem own:ownKnob Tryz.prog.godebug=none:=by kernel_rfl
theorem laidOut:laidOutB Tryz.prog=true:=by kernel_rfl
theorem params:Tryz.f4.params = #[22,22,42]:=by kernel_rfl
theorem closed:Vs.jJ Tryz.prog [4,22,40,42,96]=true:=by kernel_rfl
theorem calls : ∀pvs,Vs.Wq Tryz.prog [22,22,42] pvs→∃n,Vs.uU Tryz.prog Vs.zD n 4 pvs=some (.bool true):=fun pvs h=>Vs.zBB (Vs.qH pvs h)
theorem types : ∀t∈([22,22,42]:List TypeId),Tryz.prog.readableRec t=true∧t<Tryz.prog.types.size:=by
 intro t ht;simp only[List.mem_cons,List.not_mem_nil,or_false]at ht
 rcases ht with rfl | rfl | rfl
 all_goals exact⟨by kernel_rfl,of_decide_eq_true (by kernel_rfl)⟩
set_option maxRecDepth 100000 in
theorem contract (H:Type) (enc:TypeId × Value→H) (W:World) (base:Nat) (args:Array Value) (ds gs:List (DataW H)) (before:List MemPlace)
  (hval0 : ∀(j:Nat) t v,Tryz.f4.params[j]? = some t→args[j]? = some v→Value.okWide Tryz.prog W .any base t v)
  (hW:DataW.Whole enc Tryz.prog Tryz.f4.params.toList Rows.rootArithmeticSpec.vars false W args.toList ds gs before) :
  Calls Tryz.prog 4 args W fun e W'=>∃v,e=.returned v∧Rows.rootArithmeticSpec.post enc Tryz.prog Tryz.f4 false true false false W args v W':=by
 have hW':=hW;obtain⟨p,q,hA0,hV,rfl,hfz,hnd⟩:=hW;have hA:DataW.TrodAll enc Tryz.prog W 0 (fun _=>true) true Tryz.f4.params.toList args.toList ds p:=hA0;have hok:=Vs.zFh (l:=[22,22,42]) (Q:=fun t v=>Value.okWide Tryz.prog W .any base t v) params hval0;rw[params]at hA;obtain⟨rfl,rfl⟩:=trodVars_none hV;have hA1:DataW.TrodAll enc Tryz.prog W 0 (fun _=>true) true [22,22,42] args.toList ds p:=hA;have key:=Vs.Ql (P:=Tryz.prog) (Hn:=Vs.zD) Tryz.checked.mixed Vs.zAd calls closed (by decide) hok hA1;obtain⟨v0,vs0,d0,ds0,p0,q0,e0,rfl,rfl,h0,r0⟩:=trodAll_cons hA;obtain⟨v1,vs1,d1,ds1,p1,q1,e1,rfl,rfl,h1,r1⟩:=trodAll_cons r0;obtain⟨v2,vs2,d2,ds2,p2,q2,e2,rfl,rfl,h2,r2⟩:=trodAll_cons r1;obtain⟨rfl,rfl,rfl⟩:=trodAll_nil r2;refine key.mono fun e W' ⟨he,bel⟩=>?_;subst he;have back:=Vs.Xq (ts:=[22,22,42]) laidOut bel types hA1 (Vs.Y0 hA1);refine⟨_,rfl,_,_,_,[],(p0++(p1++(p2++[]))),[],hW',trodAll_mk1 (shut_bool (by kernel_rfl) _),?_,rfl,bel.frame _,fun h=>by cases h⟩;rw[params];exact back
set_option maxRecDepth 100000 in
theorem lifted (os:Os) (started:os.Started) (H:Type) (enc:TypeId × Value→H) :
  ReturnsInHanded {} Tryz.checked os 4 .any (Rows.rootArithmeticSpec.pre6 enc Tryz.prog Tryz.f4 Rows.rootArithmeticRow.domain false) (Rows.rootArithmeticSpec.post enc Tryz.prog Tryz.f4 false true false false):=by
 refine returnsInHanded_of_change_sized (C:=Tryz.checked) own started (by kernel_rfl) Tryz.func4
  (ChangeSpec.witness6 (enc:=enc) (C:=Tryz.checked) false ⟨#[],#[.slice none 0 0,.slice none 0 0,.agg #[.bool false,.slice none 0 0,.slice none 0 0]],[]⟩ 8 (by kernel_rfl) (by kernel_rfl) (by kernel_rfl) (by kernel_rfl)) ?_
 intro W base args ds gs before hval0 hW _ _ _;exact contract H enc W base args ds gs before hval0 hW
theorem over:Rows.rootArithmeticRow.holds Tryz.pinned (OpenSpec.ofChange Rows.rootArithmeticSpec) :=
 OpenClaim.holds_of_wide 4 Tryz.f4 rfl rfl rfl rfl rfl rfl rfl ⟨rfl,rfl,rfl,rfl,rfl⟩ rfl rfl rfl rfl rfl (by kernel_rfl) Tryz.func4 (by kernel_rfl)
  (of_decide_eq_true (by kernel_rfl)) (by unfold Func.isWrapper;first | (rw[if_pos (by decide +kernel)];kernel_rfl) | (rw[if_neg (by decide +kernel)];exact⟨rfl,rfl⟩))
  (fun os started H enc _=>lifted os started H enc)
theorem proved:Rows.RootArithmeticSaid:=over
#print axioms proved
end Go.Proofs.YtfbkajadbjbfiaaGreat.rootArithmetic
namespace Go.Proofs.YtfbkajadbjbfiaaGreat
theorem rootArithmetic_holds:Rows.RootArithmeticSaid:=rootArithmetic.proved
end Go.Proofs.YtfbkajadbjbfiaaGreat
