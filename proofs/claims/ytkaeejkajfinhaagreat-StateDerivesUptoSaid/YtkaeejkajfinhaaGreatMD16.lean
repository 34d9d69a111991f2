
import Derived.Test.YtkaeejkajfinhaaGreatMD15
set_option linter.unusedVariables false
set_option linter.unusedSimpArgs false
section
set_option maxRecDepth 100000
namespace Go.Vs
open Go Go.Proofs
def uE (q:Rat) (k:Nat):Prop:=(dec q.num.natAbs).length≤k∧(dec q.den).length≤k
theorem uE.mono {q:Rat} {j k:Nat} (h:uE q j) (hk:j≤k):uE q k:=⟨bO h.1 hk,bO h.2 hk⟩
theorem wB.dec {q:Rat} {k:Nat} (h:wB q k):uE q (3*k):=⟨Zu h.1,Zu h.2⟩
theorem uE.words {q:Rat} {k:Nat} (h:uE q k):wB q k:=⟨zAT h.1,zAT h.2⟩
theorem KE {neg:Bool} {n d:Nat} {va vb:PV} (ha:zs n va) (hb:zs d vb) (hd:d≠0) (hn:(dec n).length≤800000) (hdl:(dec d).length≤800000) (S:zB):zO (callL Tryz.prog zD) S 161 [.bool neg,va,vb]=some {v:=rrV (mkRat (sg neg n) d)} :=
 zF (S:=S) (zBa ha hb hd hn hdl) (by simp[ha.plain,hb.plain,zh.bool])
theorem zII {m n k:Nat} (hm:(dec m).length≤k) (hn:(dec n).length≤k):(dec (m+n)).length≤k+1:=zD1 DB2 hm hn
theorem zAZ {q:Rat} (h:q.num.natAbs=0):yT q=false:=by unfold yT;exact bI (by omega)
section
attribute [local irreducible] Vs.callL Vs.callRL tyi zO zn zg zR zY za zI zZ zA zK ze zX zG zJ zW zr yJ zq zL zf Vs.gc zH
noncomputable def zP6:FX:=⟨Tryz.f138,zD.of 138,[]⟩
instance ok138_:zP6.ok 138:=FX.mk'
theorem U8 (q r:Rat) (hq:uE q 300000) (hr:uE r 300000):callL Tryz.prog zD 138 [rrV q,rrV r]=some (rrV (q*r)):=by
 have c1:=VJ (zs.of q.num.natAbs) (zs.of r.num.natAbs) (by have:=hq.1;omega) (by have:=hr.1;omega);have c2:=VJ (zs.of q.den) (zs.of r.den) (by have:=hq.2;omega) (by have:=hr.2;omega);have mk:=KE (neg:=yT q != yT r) (zs.of (q.num.natAbs*r.num.natAbs)) (zs.of (q.den*r.den)) (PH q.den_nz r.den_nz) (bO (ki hq.1 hr.1) (by omega)) (bO (ki hq.2 hr.2) (by omega));rw[←WU]at mk;rw[show (yT q != yT r) = !(yT q == yT r) from rfl]at mk;refine FX.callL (r:=(rrV (q*r),[.arr [[.bool (yT q),zu q.num.natAbs,zu q.den]] none false,.arr [[.bool (yT r),zu r.num.natAbs,zu r.den]] none false,.arr [[.bool (yT (q*r)),zu (q*r).num.natAbs,zu (q*r).den]] none false])) ok138_ 1000 rfl rfl ?_ rfl;unfold rrV rrL zu yN at *;((repeat((conv=>lhs;whnf);simp only[go_sem,simprocAttr,c1,c2,mk]));try rfl)
noncomputable def zP7:FX:=⟨Tryz.f139,zD.of 139,[]⟩
instance ok139_:zP7.ok 139:=FX.mk'
theorem zEJ (q r:Rat) (hq:uE q 300000) (hr:uE r 300000):callL Tryz.prog zD 139 [rrV q,rrV r]=some (rrV (q+r)):=by
 have k1:=VJ (zs.of q.num.natAbs) (zs.of r.den) (by have:=hq.1;omega) (by have:=hr.2;omega);have k2:=VJ (zs.of r.num.natAbs) (zs.of q.den) (by have:=hr.1;omega) (by have:=hq.2;omega);have k3:=VJ (zs.of q.den) (zs.of r.den) (by have:=hq.2;omega) (by have:=hr.2;omega);have hX:(dec (q.num.natAbs*r.den)).length≤600000:=ki hq.1 hr.2;have hY:(dec (r.num.natAbs*q.den)).length≤600000:=ki hr.1 hq.2;have hD:(dec (q.den*r.den)).length≤600000:=ki hq.2 hr.2;have hd0:=PH q.den_nz r.den_nz;refine FX.callL (r:=(rrV (q+r),[.arr [[.bool (yT q),zu q.num.natAbs,zu q.den]] none false,.arr [[.bool (yT r),zu r.num.natAbs,zu r.den]] none false,.arr [[.bool (yT (q+r)),zu (q+r).num.natAbs,zu (q+r).den]] none false])) ok139_ 1000 rfl rfl ?_ rfl;by_cases hs:yT q=yT r
 ·have hb:(yT q == yT r)=true:=by simp[hs]
  have f1:=zN4 (zs.of (q.num.natAbs*r.den)) (zs.of (r.num.natAbs*q.den)) (by omega) (by omega);have f2:=KE (neg:=yT q) (zs.of (q.num.natAbs*r.den+r.num.natAbs*q.den)) (zs.of (q.den*r.den)) hd0 (bO (zII hX hY) (by omega)) (by omega);have e:q+r=mkRat (sg (yT q) (q.num.natAbs*r.den+r.num.natAbs*q.den)) (q.den*r.den):=by
   rw[vA,←hs,U5]
  rw[←e]at f2;unfold rrV rrL zu yN at *;((repeat((conv=>lhs;whnf);simp only[go_sem,simprocAttr,k1,k2,k3,f1,f2,hb]));try rfl)
 ·have hb:(yT q == yT r)=false:=by simpa using hs
  have f0:=X6 (zs.of (q.num.natAbs*r.den)) (zs.of (r.num.natAbs*q.den)) (by omega) (by omega);by_cases hc:r.num.natAbs*q.den≤q.num.natAbs*r.den
  ·have c:0≤xt (q.num.natAbs*r.den) (r.num.natAbs*q.den):=by unfold xt;rw[hZ (by omega)];split <;> omega
   have hx0:q.num.natAbs*r.den≠0:=by
    intro h;have h1:q.num.natAbs=0:=by
     rcases Nat.mul_eq_zero.1 h with h | h
     ·exact h
     ·exact absurd h r.den_nz
    have h2:r.num.natAbs=0:=by
     rcases Nat.mul_eq_zero.1 (show r.num.natAbs*q.den=0 by omega) with h | h
     ·exact h
     ·exact absurd h q.den_nz
    exact hs (by rw[zAZ h1,zAZ h2])
   have f1:=zB2 (zs.of (q.num.natAbs*r.den)) (zs.of (r.num.natAbs*q.den)) hx0 hc (by omega);have f2:=KE (neg:=yT q) (zs.of (q.num.natAbs*r.den-r.num.natAbs*q.den)) (zs.of (q.den*r.den)) hd0 (bO (kV (Nat.sub_le _ _)) (by omega)) (by omega);have e:q+r=mkRat (sg (yT q) (q.num.natAbs*r.den-r.num.natAbs*q.den)) (q.den*r.den):=by
    rw[vA,zAW hs hc]
   rw[←e]at f2;unfold rrV rrL zu yN at *;((repeat((conv=>lhs;whnf);simp only[go_sem,simprocAttr,k1,k2,k3,f0,f1,f2,hb,c]));try rfl)
  ·have c : ¬ 0≤xt (q.num.natAbs*r.den) (r.num.natAbs*q.den):=by unfold xt;rw[bA (by omega)];omega
   have f1:=zB2 (zs.of (r.num.natAbs*q.den)) (zs.of (q.num.natAbs*r.den)) (by omega) (by omega) (by omega);have f2:=KE (neg:=yT r) (zs.of (r.num.natAbs*q.den-q.num.natAbs*r.den)) (zs.of (q.den*r.den)) hd0 (bO (kV (Nat.sub_le _ _)) (by omega)) (by omega);have e:q+r=mkRat (sg (yT r) (r.num.natAbs*q.den-q.num.natAbs*r.den)) (q.den*r.den):=by
    rw[vA,zAX hs (by omega)]
   rw[←e]at f2;unfold rrV rrL zu yN at *;((repeat((conv=>lhs;whnf);simp only[go_sem,simprocAttr,k1,k2,k3,f0,f1,f2,hb,c]));try rfl)
noncomputable def zRo:FX:=⟨Tryz.f93,zD.of 93,[]⟩
instance ok93_:zRo.ok 93:=FX.mk'
theorem zEK (q r:Rat) (hq:uE q 300000) (hr:uE r 300000) (h0:r≠0):callL Tryz.prog zD 93 [rrV q,rrV r]=some (rrV (q*r⁻¹)):=by
 obtain⟨h1,h2⟩:=YV h0;have e1:yT r⁻¹ = yT r:=by
  unfold yT;rw[h1];have hd:=r.den_nz;by_cases c:r.num<0
  ·simp[c];omega
  ·simp[c]
 have e2:r⁻¹.num.natAbs=r.den:=by rw[h1];split <;> simp
 have hi:uE r⁻¹ 300000:=by unfold uE;rw[e2,h2];exact⟨hr.2,hr.1⟩
 have c1:=fun S=>zF (S:=S) (U8 q r⁻¹ hq hi) (by simp[qA]);refine FX.callL (r:=(rrV (q*r⁻¹),[.arr [[.bool (yT q),zu q.num.natAbs,zu q.den]] none false,.arr [[.bool (yT r),zu r.num.natAbs,zu r.den]] none false,.arr [[.bool (yT (q*r⁻¹)),zu (q*r⁻¹).num.natAbs,zu (q*r⁻¹).den]] none false])) ok93_ 1000 rfl rfl ?_ rfl;have er:rrV r⁻¹ = rrL (yT r) r.den r.num.natAbs:=by unfold rrV;rw[e1,e2,h2]
 rw[er]at c1;unfold rrV rrL zu yN at *;((repeat((conv=>lhs;whnf);simp only[go_sem,simprocAttr,c1]));try rfl)
end
end Go.Vs
end
section
set_option maxRecDepth 100000
namespace Go.Vs
open Go Go.Proofs
theorem zBb {n:Nat} {v:PV} (h:yI n v) (hn:(words n).length≤100000) (S:zB):zO (callL Tryz.prog zD) S 135 [v]=some {v:=zu n} := by
 obtain⟨e,rfl,hp⟩:=h.form;exact zF (S:=S) (zN3 n e hn) (by simp[hp])
theorem zA0 {n:Nat} {v:PV} (h:zs n v) (hn:(dec n).length≤1000000) (S:zB):zO (callL Tryz.prog zD) S 73 [v]=some {v:=yM n} := zF (S:=S) (zGM h hn) (by simp[h.plain])
section
attribute [local irreducible] Vs.callL Vs.callRL tyi zO zn zg zR zY za zI zZ zA zK ze zX zG zJ zW zr yJ zq zL zf Vs.gc zH
noncomputable def zRp:FX:=⟨Tryz.f89,zD.of 89,[]⟩
instance ok89_:zRp.ok 89:=FX.mk'
theorem zG3 (q:Rat) (hq:wB q 100000):callL Tryz.prog zD 89 [xY q]=some (rrV q):=by
 have c1:=zBb (yI.of q.num.natAbs) hq.1;have c2:=zBb (yI.of q.den) hq.2;refine FX.callL (r:=(rrV q,[.arr [[.bool (yT q),yD q.num.natAbs false,yD q.den false]] none false,.arr [[.bool (yT q),zu q.num.natAbs,zu q.den]] none false])) ok89_ 1000 rfl rfl ?_ rfl;rw[wT];unfold yM at c1 c2;unfold rrV rrL zu yN yD at *;((repeat((conv=>lhs;whnf);simp only[go_sem,simprocAttr,c1,c2]));try rfl)
noncomputable def zRq:FX:=⟨Tryz.f32,zD.of 32,[]⟩
instance ok32_:zRq.ok 32:=FX.mk'
theorem JL (q:Rat) (hq:uE q 1000000):callL Tryz.prog zD 32 [rrV q]=some (xY q):=by
 have c1:=zA0 (zs.of q.num.natAbs) hq.1;have c2:=zA0 (zs.of q.den) hq.2;refine FX.callL (r:=(xY q,[.arr [[.bool (yT q),zu q.num.natAbs,zu q.den]] none false,.arr [[.bool (yT q),yD q.num.natAbs false,yD q.den false]] none false])) ok32_ 1000 rfl rfl ?_ rfl;rw[wT];unfold yM at c1 c2;unfold rrV rrL zu yN yD at *;((repeat((conv=>lhs;whnf);simp only[go_sem,simprocAttr,c1,c2]));try rfl)
noncomputable def zP8:FX:=⟨Tryz.f136,zD.of 136,[]⟩
instance ok136_:zP8.ok 136:=FX.mk'
theorem QI (q:Rat) (w:Int):callL Tryz.prog zD 136 [xY q,.int .i64 w]=some (.bool (decide ((words q.num.natAbs).length≤w)&&decide ((words q.den).length≤w))):=by
 refine FX.callL (r:=(.bool (decide ((words q.num.natAbs).length≤w)&&decide ((words q.den).length≤w)),[.arr [[.bool (yT q),yD q.num.natAbs false,yD q.den false]] none false])) ok136_ 1000 rfl rfl ?_ rfl;rw[wT];unfold yD;by_cases h:((words q.num.natAbs).length:Int)≤w
 ·simp only[h,decide_true,bC];((repeat((conv=>lhs;whnf);simp only[go_sem,simprocAttr,h]));try rfl)
 ·simp only[h,decide_false,bB];((repeat((conv=>lhs;whnf);simp only[go_sem,simprocAttr,h]));try rfl)
noncomputable def zLX:FX:=⟨Tryz.f107,zD.of 107,[]⟩
instance ok107_:zLX.ok 107:=FX.mk'
theorem zG4 (A B:List Int) (e1 e2:Bool) (hl:A.length=B.length) (hm:A.length≤3000000) : ∀(m i:Nat),i+m=A.length→A.take i=B.take i→zU 0 zLX 0 116 0 [.blk 0,.seq 0 15] [(0,.sl (zE .u32 A) e1),(1,.sl (zE .u32 B) e2),(12,.int .i64 A.length),(13,.int .i64 i)] []=some (.bool (decide (A=B)),[]):=by
 have hM:=yj;intro m
 induction m with
 | zero =>
  intro i hi ht;have h1 : ¬(i:Int)<(A.length:Int):=by omega
  have e:A=B:=by
   rw[aW (by omega),aW (by omega)]at ht;exact ht
  rw[bH e];apply zC;(repeat((conv=>lhs;whnf);simp only[go_sem,simprocAttr,h1]));apply zN;((repeat((conv=>lhs;whnf);simp only[go_sem,simprocAttr]));try rfl)
 | succ m ih =>
  intro i hi ht;have h1:(i:Int)<(A.length:Int):=by omega
  have w1:=zi (i:=i) (n:=A.length) (by omega) (by omega);have x1:0≤(i:Int)∧(i:Int)<(A.length:Int):=⟨by omega,h1⟩;have x2:0≤(i:Int)∧(i:Int)<(B.length:Int):=⟨by omega,by omega⟩;have ea:=xA A (k:=i) (by omega);have eb:=xA B (k:=i) (by omega);apply zC;by_cases h:A.getD i 0=B.getD i 0
  ·have key:=ih (i+1) (by omega) (by
    have ta:A.take (i+1)=A.take i++[A.getD i 0]:=by
     rw[BR];have:A[i]? = some (A.getD i 0):=by rw[pR (by omega)];simp[bM,show i<A.length by omega]
     rw[this];rfl
    have tb:B.take (i+1)=B.take i++[B.getD i 0]:=by
     rw[BR];have:B[i]? = some (B.getD i 0):=by rw[pR (by omega)];simp[bM,show i<B.length by omega]
     rw[this];rfl
    rw[ta,tb,ht,h])
   (repeat((conv=>lhs;whnf);simp only[go_sem,simprocAttr,h1,x1,x2,bD,h,w1]));exact key
  ·have e : ¬A=B:=fun hab=>h (by rw[hab]);rw[bI e];((repeat((conv=>lhs;whnf);simp only[go_sem,simprocAttr,h1,x1,x2,bD,h]));try rfl)
theorem JM (A B:List Int) (e1 e2:Bool) (hm:A.length≤3000000):callL Tryz.prog zD 107 [.sl (zE .u32 A) e1,.sl (zE .u32 B) e2]=some (.bool (decide (A=B))):=by
 refine FX.callL (r:=(.bool (decide (A=B)),[])) ok107_ 1000 rfl rfl ?_ rfl;by_cases hl:A.length=B.length
 ·have hl':(A.length:Int)=(B.length:Int):=by omega
  have key:=zG4 A B e1 e2 hl hm A.length 0 (by omega) (by simp);rw[hl']at key;(repeat((conv=>lhs;whnf);simp only[go_sem,simprocAttr,hl',hl]));exact key
 ·have hl' : ¬(A.length:Int)=(B.length:Int):=by omega
  have e : ¬A=B:=fun hab=>hl (by rw[hab]);rw[bI e];((repeat((conv=>lhs;whnf);simp only[go_sem,simprocAttr,hl',hl]));try rfl)
noncomputable def zRr:FX:=⟨Tryz.f57,zD.of 57,[]⟩
instance ok57_:zRr.ok 57:=FX.mk'
theorem zBc (b1 b2:Bool) (N1 D1 N2 D2:List Int) (h1:N1.length≤3000000) (h2:D1.length≤3000000):callL Tryz.prog zD 57 [ku b1 N1 D1,ku b2 N2 D2]=some (.bool (decide (b1=b2∧N1=N2∧D1=D2))):=by
 have c1:=fun S=>zF (S:=S) (JM N1 N2 false false h1) (by simp;exact⟨zh.sl _,zh.sl _⟩);have c2:=fun S=>zF (S:=S) (JM D1 D2 false false h2) (by simp;exact⟨zh.sl _,zh.sl _⟩);refine FX.callL (r:=(.bool (decide (b1=b2∧N1=N2∧D1=D2)),[.arr [[.bool b1,.sl (zE .u32 N1) false,.sl (zE .u32 D1) false]] none false,.arr [[.bool b2,.sl (zE .u32 N2) false,.sl (zE .u32 D2) false]] none false])) ok57_ 1000 rfl rfl ?_ rfl;unfold ku;by_cases hb:b1=b2
 ·have hb':(b1 == b2)=true:=by simp[hb]
  by_cases hN:N1=N2
  ·simp only[hN,decide_true]at c1;simp only[hb,hN,true_and];rw[hb]at hb';((repeat((conv=>lhs;whnf);simp only[go_sem,simprocAttr,hb',c1,c2]));try rfl)
  ·simp only[hN,decide_false]at c1;simp only[hN,false_and,and_false,decide_false];((repeat((conv=>lhs;whnf);simp only[go_sem,simprocAttr,hb',c1,c2]));try rfl)
 ·have hb':(b1 == b2)=false:=by simpa using hb
  simp only[hb,false_and,decide_false];((repeat((conv=>lhs;whnf);simp only[go_sem,simprocAttr,hb',c1,c2]));try rfl)
end
end Go.Vs
end
section
set_option maxRecDepth 100000
namespace Go.Vs
open Go Go.Proofs
section
attribute [local irreducible] Vs.callL Vs.callRL tyi zO zn zg zR zY za zI zZ zA zK ze zX zG zJ zW zr yJ zq zL zf Vs.gc zH
noncomputable def zP9:FX:=⟨Tryz.f148,zD.of 148,[]⟩
instance ok148_:zP9.ok 148:=FX.mk'
theorem VK (L:List Int) (e:Bool) (hl:L.length≤9223372036854775807):callL Tryz.prog zD 148 [.sl (zE .u32 L) e]=some (.bool (decide (L.length≤4096)&&decide (xd L))):=by
 refine FX.callL (r:=(.bool (decide (L.length≤4096)&&decide (xd L)),[])) ok148_ 1000 rfl rfl ?_ rfl;by_cases c1:L.length≤4096
 ·have c1':(L.length:Int)≤4096:=by omega
  by_cases c2:L=[]
  ·subst c2;have ht:xd []:=.inl rfl;simp only[c1,ht,decide_true,sH];((repeat((conv=>lhs;whnf);simp only[go_sem,simprocAttr,bV]));try rfl)
  ·have l0:L.length≠0:=fun h=>c2 (pL h);have l0' : ¬(L.length:Int)=0:=by omega
   have wl:IntKind.i64.wrap ((L.length:Int)-1)=((L.length-1:Nat):Int):=by rw[bE];omega
   have xl:0≤((L.length-1:Nat):Int)∧((L.length-1:Nat):Int)<L.length:=⟨by omega,by omega⟩;by_cases c3:L.getD (L.length-1) 0=0
   ·have ht : ¬xd L:=fun h=>by
     rcases h with h | h
     ·exact c2 h
     ·exact h c3
    simp only[c1,ht,decide_true,decide_false,bQ];((repeat((conv=>lhs;whnf);simp only[go_sem,simprocAttr,c1',l0,l0',wl,xl,bD,c3]));try rfl)
   ·have ht:xd L:=.inr c3;simp only[c1,ht,decide_true,sH];((repeat((conv=>lhs;whnf);simp only[go_sem,simprocAttr,c1',l0,l0',wl,xl,bD,c3]));try rfl)
 ·have c1' : ¬(L.length:Int)≤4096:=by omega
  simp only[c1,decide_false,bB];((repeat((conv=>lhs;whnf);simp only[go_sem,simprocAttr,c1']));try rfl)
noncomputable def zLY:FX:=⟨Tryz.f111,zD.of 111,[]⟩
instance ok111_:zLY.ok 111:=FX.mk'
theorem QJ (neg:Bool) (N D:List Int) (hN:OkD WB N) (hD:OkD WB D) (hl1:N.length≤9223372036854775807) (hl2:D.length≤9223372036854775807):callL Tryz.prog zD 111 [ku neg N D]=some (.bool (um neg N D 4096)):=by
 have c1:=fun S=>zF (S:=S) (VK N false hl1) (by simp;exact zh.sl _);have c2:=fun S=>zF (S:=S) (VK D false hl2) (by simp;exact zh.sl _);have hr : ∃S,run ([]:zB).length zLY 1000 (.at 0 1) [] [(0,ku neg N D)] []=some (.bool (um neg N D 4096),S):=by
  unfold um;have z1:decide ((N.length:Int)≤4096)=decide (N.length≤4096):=by congr 1;exact propext ⟨by omega,by omega⟩
  have z2:decide ((D.length:Int)≤4096)=decide (D.length≤4096):=by congr 1;exact propext ⟨by omega,by omega⟩
  rw[z1,z2];unfold ku
  cases v1:(decide (N.length≤4096)&&decide (xd N)) with
  | false =>
   rw[v1]at c1;refine⟨[.arr [[.bool neg,.sl (zE .u32 N) false,.sl (zE .u32 D) false]] none false],?_⟩;simp only[bB];((repeat((conv=>lhs;whnf);simp only[go_sem,simprocAttr,c1]));try rfl)
  | true =>
   rw[v1]at c1
   cases v2:(decide (D.length≤4096)&&decide (xd D)) with
   | false =>
    rw[v2]at c2;refine⟨[.arr [[.bool neg,.sl (zE .u32 N) false,.sl (zE .u32 D) false]] none false],?_⟩;simp only[bC,bB];((repeat((conv=>lhs;whnf);simp only[go_sem,simprocAttr,c1,c2]));try rfl)
   | true =>
    rw[v2]at c2;by_cases d0:D.length=0
    ·have d0':(D.length:Int)=0:=by omega
     refine⟨[.arr [[.bool neg,.sl (zE .u32 N) false,.sl (zE .u32 D) false]] none false],?_⟩;simp only[d0,decide_true,bT,bQ,bB];((repeat((conv=>lhs;whnf);simp only[go_sem,simprocAttr,c1,c2,d0,d0']));try rfl)
    ·have d0' : ¬(D.length:Int)=0:=by omega
     simp only[d0,decide_false,bK,pD,bC];by_cases n0:N.length=0
     ·have n0':(N.length:Int)=0:=by omega
      rw[bA n0];refine⟨[.arr [[.bool neg,.sl (zE .u32 N) false,.sl (zE .u32 D) false]] none false],?_⟩;cases neg with
      | true =>
       simp only[bT,bB];((repeat((conv=>lhs;whnf);simp only[go_sem,simprocAttr,c1,c2,d0,d0',n0,n0']));try rfl)
      | false =>
       simp only[bK,bC];by_cases d1:D.length=1
       ·have d1':(D.length:Int)=1:=by omega
        have x0:0≤(0:Int)∧(0:Int)<(D.length:Int):=⟨by omega,by omega⟩;have e:=YW d1;by_cases g1:D.getD 0 0=1
        ·rw[bH (e.2 g1)];((repeat((conv=>lhs;whnf);simp only[go_sem,simprocAttr,c1,c2,d0,d0',n0,n0',d1,d1',x0,sI,g1]));try rfl)
        ·rw[bI (fun h=>g1 (e.1 h))];((repeat((conv=>lhs;whnf);simp only[go_sem,simprocAttr,c1,c2,d0,d0',n0,n0',d1,d1',x0,sI,g1]));try rfl)
       ·have d1' : ¬(D.length:Int)=1:=by omega
        have e : ¬D=[1]:=fun h=>d1 (by rw[h];rfl);rw[bI e];((repeat((conv=>lhs;whnf);simp only[go_sem,simprocAttr,c1,c2,d0,d0',n0,n0',d1,d1']));try rfl)
     ·have n0' : ¬(N.length:Int)=0:=by omega
      rw[hZ n0];have v1':=v1;have v2':=v2;simp only[bP,bR]at v1' v2';have wN:=v1'.2.words hN;have wD:=v2'.2.words hD;have lN:(words (nv N)).length≤4096:=by rw[←wN];exact v1'.1
      have lD:(words (nv D)).length≤4096:=by rw[←wD];exact v2'.1
      have o1:=zBb (yI.of (nv N)) (by omega);have o2:=zBb (yI.of (nv D)) (by omega);have k1:(dec (nv N)).length≤12288:=Zu lN;have k2:(dec (nv D)).length≤12288:=Zu lD;obtain⟨g,ig,cg⟩:=zIF (zs.of (nv N)) (zs.of (nv D)) (by omega) (by omega);have hgl:(dec (Nat.gcd (nv N) (nv D))).length≤12288:=by
       have hn0:nv N≠0:=fun e=>n0 (by rw[wN,e];exact xE.2 rfl);exact bO (kV (PG (by omega) (Nat.gcd_dvd_left _ _))) k1
      have hc0:callL Tryz.prog zD 149 [g,zu 1]=some (.int .i64 (xt (Nat.gcd (nv N) (nv D)) 1)):=by
       obtain⟨eg,rfl,_⟩:=ig.form;exact JE _ 1 eg false (by omega) (by rw[zG1];decide)
      rw[JK]at hc0;have hS : ∃S0:zB,S0=[.arr [[.bool neg,.sl (zE .u32 N) false,.sl (zE .u32 D) false]] none false,.arr [[.int .i64 1]] (some (some 1)) false]:=⟨_,rfl⟩;obtain⟨S0,hS0⟩:=hS;have cc:=JA (S:=S0) (l:=[g,.msl 1 0 1 true]) (ids:=[1]) hc0 (by
       have h2:=ig.plain.2 S0;have hf:=uV (S:=S0) (id:=1) (n:=1) (k:=.i64) (L:=[1]) (ex:=true) (by rw[hS0];rfl) rfl;simp only[xf,h2,bG,hf,pE];rfl) (by
       have h2:=ig.plain.1;simp only[BN,List.flatMap_nil,h2];rw[hS0];rfl) (by rw[hS0];rfl)
      rw[hS0]at cc;unfold yM at o1 o2;rw[←wN]at o1;rw[←wD]at o2;refine⟨[.arr [[.bool neg,.sl (zE .u32 N) false,.sl (zE .u32 D) false]] none false,.arr [[.int .i64 1]] (some (some 1)) true],?_⟩;have e:decide (Nat.gcd (nv N) (nv D)=1)=decide (xt (Nat.gcd (nv N) (nv D)) 1=0):=by
       congr 1
       refine propext ⟨fun h=>by rw[h];rfl,fun h=>?_⟩;unfold xt at h
       split at h
       ·omega
       ·split at h <;> omega
      rw[e];((repeat((conv=>lhs;whnf);simp only[go_sem,simprocAttr,c1,c2,d0,d0',n0,n0',o1,o2,cg,cc]));try rfl)
 obtain⟨S,h⟩:=hr;exact FX.callL (r:=(.bool (um neg N D 4096),S)) ok111_ 1000 rfl rfl h rfl
end
end Go.Vs
end
section
set_option maxRecDepth 100000
namespace Go.Vs
open Go Go.Proofs
@[go_sem] theorem zN9 (ti:TI) (a b:ByteArray):xR .gtr ti (.str a) (.str b)=some (.bool (!(Op.bytesLess a.toList b.toList||a.toList == b.toList))):=nr rfl
@[go_sem] theorem zNa (ti:TI) (a b:ByteArray):xR .geq ti (.str a) (.str b)=some (.bool (!(Op.bytesLess a.toList b.toList))):=nr rfl
def we (c:Int):Bool:=(decide (97≤c)&&decide (c≤122))||(decide (65≤c)&&decide (c≤90))
section
attribute [local irreducible] Vs.callL Vs.callRL tyi zO zn zg zR zY za zI zZ zA zK ze zX zG zJ zW zr yJ zq zL zf Vs.gc zH
noncomputable def zPa:FX:=⟨Tryz.f146,zD.of 146,[]⟩
instance ok146_:zPa.ok 146:=FX.mk'
theorem zEL (c:Int):callL Tryz.prog zD 146 [.int .u8 c]=some (.bool (we c)):=by
 refine FX.callL (r:=(.bool (we c),[])) ok146_ 1000 rfl rfl ?_ rfl;unfold we;by_cases h1:97≤c <;> by_cases h2:c≤122 <;> by_cases h3:65≤c <;> by_cases h4:c≤90 <;>
  (simp only[h1,h2,h3,h4,decide_true,decide_false,bC,bB,pD,bQ,sU,pJ,pI,bX];((repeat((conv=>lhs;whnf);simp only[go_sem,simprocAttr,h1,h2,h3,h4]));try rfl))
noncomputable def zPb:FX:=⟨Tryz.f118,zD.of 118,[]⟩
instance ok118_:zPb.ok 118:=FX.mk'
theorem zBd (c:Int):callL Tryz.prog zD 118 [.int .u8 c]=some (.bool (we c)):=by
 refine FX.callL (r:=(.bool (we c),[])) ok118_ 1000 rfl rfl ?_ rfl;unfold we;by_cases h1:97≤c <;> by_cases h2:c≤122 <;> by_cases h3:65≤c <;> by_cases h4:c≤90 <;>
  (simp only[h1,h2,h3,h4,decide_true,decide_false,bC,bB,pD,bQ,sU,pJ,pI,bX];((repeat((conv=>lhs;whnf);simp only[go_sem,simprocAttr,h1,h2,h3,h4]));try rfl))
theorem Zv (S:zB) (c:Int):zO (callL Tryz.prog zD) S 146 [.int .u8 c]=some {v:=.bool (we c)} := zF (zEL c) (by simp[zh.int])
theorem Zw (S:zB) (c:Int):zO (callL Tryz.prog zD) S 118 [.int .u8 c]=some {v:=.bool (we c)} := zF (zBd c) (by simp[zh.int])
def KF (c:Int):Bool:=we c||(decide (48≤c)&&decide (c≤57))
def Y2 (s:ByteArray):Nat→Nat→Bool
 | 0,i=>true
 | m+1,i=>KF (xn s i)&&Y2 s m (i+1)
def kw1 (s:ByteArray):Bool:=s.toList == (⟨#[116,114,117,101]⟩:ByteArray).toList
def kw2 (s:ByteArray):Bool:=s.toList == (⟨#[102,97,108,115,101]⟩:ByteArray).toList
def kw3 (s:ByteArray):Bool:=s.toList == (⟨#[102,111,114,97,108,108]⟩:ByteArray).toList
def kw4 (s:ByteArray):Bool:=s.toList == (⟨#[101,120,105,115,116,115]⟩:ByteArray).toList
def KG (s:ByteArray):Bool:=kw1 s||kw2 s||kw3 s||kw4 s
def yQ (s:ByteArray):Bool:=decide (0<s.size)&&decide (s.size≤12)&&we (xn s 0)&&Y2 s s.size 0 && !KG s
noncomputable def zLZ:FX:=⟨Tryz.f108,zD.of 108,[]⟩
instance ok108_:zLZ.ok 108:=FX.mk'
theorem zJK (s:ByteArray) (hs:s.size≤12) : ∀(m i:Nat),i+m=s.size→zU 0 zLZ 0 116 0 [.blk 0,.seq 0 15] [(0,.str s),(3,.int .i64 i)] []=some (.bool (Y2 s m i && !KG s),[]):=by
 intro m
 induction m with
 | zero =>
  intro i hi;have h1 : ¬(i:Int)<(s.size:Int):=by omega
  apply zC;(repeat((conv=>lhs;whnf);simp only[go_sem,simprocAttr,h1]));apply zN;simp only[Y2,bC,KG]
  cases k1:kw1 s <;> cases k2:kw2 s <;> cases k3:kw3 s <;> cases k4:kw4 s <;>
   (unfold kw1 kw2 kw3 kw4 at *;simp only[sU,pJ,pI,bX,bT,bK];((repeat((conv=>lhs;whnf);simp only[go_sem,simprocAttr,k1,k2,k3,k4]));try rfl))
 | succ m ih =>
  intro i hi;have h1:(i:Int)<(s.size:Int):=by omega
  have h2:=zi (i:=i) (n:=s.size) (by omega) (by unfold maxLen;omega);have h4:0≤(i:Int)∧(i:Int)<(s.size:Int):=⟨by omega,h1⟩;have key:=ih (i+1) (by omega);apply zC;simp only[Y2,KF]
  cases hl:we (xn s i)
  ·by_cases c1:xn s i<48
   ·have c1' : ¬ 48≤xn s i:=by omega
    simp only[c1',decide_false,bB,sX];((repeat((conv=>lhs;whnf);simp only[go_sem,simprocAttr,h1,h2,h4,Zv,hl,bD,c1]));try rfl)
   ·have c1':48≤xn s i:=by omega
    by_cases c2:57<xn s i
    ·have c2' : ¬xn s i≤57:=by omega
     simp only[c1',c2',decide_true,decide_false,bC,sX,bB];((repeat((conv=>lhs;whnf);simp only[go_sem,simprocAttr,h1,h2,h4,Zv,hl,bD,c1,c2]));try rfl)
    ·have c2':xn s i≤57:=by omega
     simp only[c1',c2',decide_true,bC,sU,sH];(repeat((conv=>lhs;whnf);simp only[go_sem,simprocAttr,h1,h2,h4,Zv,hl,bD,c1,c2]));exact key
  ·simp only[pI,bC];(repeat((conv=>lhs;whnf);simp only[go_sem,simprocAttr,h1,h2,h4,Zv,hl,bD]));exact key
theorem zJL (s:ByteArray):callL Tryz.prog zD 108 [.str s]=some (.bool (yQ s)):=by
 refine FX.callL (r:=(.bool (yQ s),[])) ok108_ 1000 rfl rfl ?_ rfl;unfold yQ;by_cases h0:s.size=0
 ·simp only[h0,Nat.lt_irrefl,decide_false,bB];((repeat((conv=>lhs;whnf);simp only[go_sem,simprocAttr,h0]));try rfl)
 ·have h0':0<s.size:=by omega
  have h5 : ¬(s.size:Int)=0:=by omega
  have h6:(0:Int)<(s.size:Int):=by omega
  by_cases h1:s.size≤12
  ·have h4 : ¬(12:Int)<(s.size:Int):=by omega
   have key:=zJK s h1 s.size 0 (by omega);simp only[h0',h1,decide_true,bC]
   cases hl:we (xn s 0)
   ·simp only[bB];((repeat((conv=>lhs;whnf);simp only[go_sem,simprocAttr,h5,h4,h6,Zv,hl,sI]));try rfl)
   ·simp only[bC];(repeat((conv=>lhs;whnf);simp only[go_sem,simprocAttr,h5,h4,h6,Zv,hl,sI]));exact key
  ·have h4:(12:Int)<(s.size:Int):=by omega
   simp only[h0',h1,decide_true,decide_false,bC,bB];((repeat((conv=>lhs;whnf);simp only[go_sem,simprocAttr,h5,h4]));try rfl)
def ZS (s:ByteArray):Nat→Nat→Bool
 | 0,i=>true
 | m+1,i=>(we (xn s i)||(decide (i≠0)&&(decide (48≤xn s i)&&decide (xn s i≤57))))&&ZS s m (i+1)
theorem JN (s:ByteArray) : ∀(m i:Nat),i≠0→ZS s m i=Y2 s m i
 | 0,i,h=>rfl
 | m+1,i,h=>by simp only[Y2,ZS,h,JN s m (i+1) (by omega),KF,ne_eq,not_false_eq_true,decide_true,bC]
noncomputable def zOW:FX:=⟨Tryz.f71,zD.of 71,[]⟩
instance ok71_:zOW.ok 71:=FX.mk'
theorem zG5 (s:ByteArray) (hs:s.size≤12) : ∀(m i:Nat),i+m=s.size→zU 0 zOW 0 116 0 [.blk 0,.seq 0 15] [(0,.str s),(3,.int .i64 i)] []=some (.bool (ZS s m i),[]):=by
 intro m
 induction m with
 | zero =>
  intro i hi;have h1 : ¬(i:Int)<(s.size:Int):=by omega
  apply zC;(repeat((conv=>lhs;whnf);simp only[go_sem,simprocAttr,h1]));apply zN;simp only[ZS];((repeat((conv=>lhs;whnf);simp only[go_sem,simprocAttr]));try rfl)
 | succ m ih =>
  intro i hi;have h1:(i:Int)<(s.size:Int):=by omega
  have h2:=zi (i:=i) (n:=s.size) (by omega) (by unfold maxLen;omega);have h4:0≤(i:Int)∧(i:Int)<(s.size:Int):=⟨by omega,h1⟩;have key:=ih (i+1) (by omega);apply zC;simp only[ZS]
  cases hl:we (xn s i)
  ·by_cases c0:i=0
   ·have c0':(i:Int)=0:=by omega
    simp only[c0,ne_eq,not_true,decide_false,bB,sX];simp only[c0,AB]at h1 h4 hl c0' ⊢;((repeat((conv=>lhs;whnf);simp only[go_sem,simprocAttr,h1,h4,Zw,hl,sI]));try rfl)
   ·have c0' : ¬(i:Int)=0:=by omega
    by_cases c1:xn s i<48
    ·have c1' : ¬ 48≤xn s i:=by omega
     simp only[c0,c1',ne_eq,not_false_eq_true,decide_true,bC,decide_false,bB,sX];((repeat((conv=>lhs;whnf);simp only[go_sem,simprocAttr,h1,h2,h4,Zw,hl,bD,c0',c1]));try rfl)
    ·have c1':48≤xn s i:=by omega
     by_cases c2:57<xn s i
     ·have c2' : ¬xn s i≤57:=by omega
      simp only[c0,c1',c2',ne_eq,not_false_eq_true,decide_true,decide_false,bC,sX,bB];((repeat((conv=>lhs;whnf);simp only[go_sem,simprocAttr,h1,h2,h4,Zw,hl,bD,c0',c1,c2]));try rfl)
     ·have c2':xn s i≤57:=by omega
      simp only[c0,c1',c2',ne_eq,not_false_eq_true,decide_true,bC,sU,sH];(repeat((conv=>lhs;whnf);simp only[go_sem,simprocAttr,h1,h2,h4,Zw,hl,bD,c0',c1,c2]));exact key
  ·simp only[pI,bC];(repeat((conv=>lhs;whnf);simp only[go_sem,simprocAttr,h1,h2,h4,Zw,hl,bD]));exact key
theorem zG6 (s:ByteArray):callL Tryz.prog zD 71 [.str s]=some (.bool (yQ s)):=by
 refine FX.callL (r:=(.bool (yQ s),[])) ok71_ 1000 rfl rfl ?_ rfl;unfold yQ;by_cases h0:s.size=0
 ·simp only[h0,Nat.lt_irrefl,decide_false,bB];((repeat((conv=>lhs;whnf);simp only[go_sem,simprocAttr,h0]));try rfl)
 ·have h0':0<s.size:=by omega
  have h5 : ¬(s.size:Int)=0:=by omega
  by_cases h1:s.size≤12
  ·have h4 : ¬(12:Int)<(s.size:Int):=by omega
   have key:=zG5 s h1 s.size 0 (by omega);obtain⟨m,hm⟩ : ∃m,s.size=m+1:=⟨s.size-1,by omega⟩;have h7:ZS s s.size 0=(we (xn s 0)&&Y2 s s.size 0):=by
    rw[hm];simp only[ZS,Y2,KF,JN s m (0+1) (by omega)]
    cases we (xn s 0) <;> simp
   simp only[h0',h1,decide_true,bC];rw[h7]at key
   cases k1:kw1 s <;> cases k2:kw2 s <;> cases k3:kw3 s <;> cases k4:kw4 s <;>
    (simp only[KG,k1,k2,k3,k4,sU,pJ,pI,bX,bT,bK,pD,bQ];unfold kw1 kw2 kw3 kw4 at *;((repeat((conv=>lhs;whnf);simp only[go_sem,simprocAttr,h5,h4,k1,k2,k3,k4]));try rfl);try exact key)
  ·have h4:(12:Int)<(s.size:Int):=by omega
   simp only[h0',h1,decide_true,decide_false,bC,bB];((repeat((conv=>lhs;whnf);simp only[go_sem,simprocAttr,h5,h4]));try rfl)
theorem yL (S:zB) (s:ByteArray):zO (callL Tryz.prog zD) S 71 [.str s]=some {v:=.bool (yQ s)} := zF (zG6 s) (by simp[zh.str])
theorem xJ (S:zB) (s:ByteArray):zO (callL Tryz.prog zD) S 108 [.str s]=some {v:=.bool (yQ s)} := zF (zJL s) (by simp[zh.str])
end
end Go.Vs
end
section
set_option maxRecDepth 100000
namespace Go.Vs
open Go Go.Proofs
theorem zA1 (S:zB) (s:ByteArray) (n:Nat) (h:n≤s.size):zZ Tryz.prog 9 S (.str s) none (some (.int .i64 (n:Int))) none=some (.str (s.extract 0 n)):=by
 have b:vG s.size (some (.int .i64 (n:Int)))=some n:=by simp[vG]
 have b0:vG 0 none=some 0:=rfl;have k:kA (tyi Tryz.prog 9)=false:=by kernel_rfl
 simp[zZ,zHt,jG,b,b0,h,k]
def primed (s:ByteArray):Bool:=decide (0<s.size)&&decide (xn s (s.size-1)=39)
def Yd (s:ByteArray):Bool:=yQ (if primed s=true then s.extract 0 (s.size-1) else s)
section
attribute [local irreducible] Vs.callL Vs.callRL tyi zO zn zg zR zY za zI zZ zA zK ze zX zG zJ zW zr yJ zq zL zf Vs.gc zH
noncomputable def zRs:FX:=⟨Tryz.f58,zD.of 58,[]⟩
instance ok58_:zRs.ok 58:=FX.mk'
theorem QK (s:ByteArray) (hs:s.size≤maxLen):callL Tryz.prog zD 58 [.str s]=some (.bool (Yd s)):=by
 refine FX.callL (r:=(.bool (Yd s),[])) ok58_ 1000 rfl rfl ?_ rfl;have hM:=xZ;unfold Yd primed;by_cases h0:0<s.size
 ·have h1:(0:Int)<(s.size:Int):=by omega
  have w1:IntKind.i64.wrap ((s.size:Int)-1)=((s.size-1:Nat):Int):=by rw[bE];omega
  have x1:0≤((s.size-1:Nat):Int)∧((s.size-1:Nat):Int)<s.size:=⟨by omega,by omega⟩;have sl:=fun S=>zA1 S s (s.size-1) (by omega);by_cases h2:xn s (s.size-1)=39
  ·simp only[h0,h2,decide_true,sH,if_true];((repeat((conv=>lhs;whnf);simp only[go_sem,simprocAttr,h1,w1,x1,h2,sl,bD,xJ]));try rfl)
  ·simp only[h0,h2,decide_true,decide_false,bQ,bZ,if_false];((repeat((conv=>lhs;whnf);simp only[go_sem,simprocAttr,h1,w1,x1,h2,bD,xJ]));try rfl)
 ·have h1 : ¬(0:Int)<(s.size:Int):=by omega
  simp only[h0,decide_false,bB,bZ,if_false];((repeat((conv=>lhs;whnf);simp only[go_sem,simprocAttr,h1,xJ]));try rfl)
noncomputable def zRt:FX:=⟨Tryz.f29,zD.of 29,[]⟩
instance ok29_:zRt.ok 29:=FX.mk'
theorem QL (s:ByteArray) (hs:s.size≤maxLen):callL Tryz.prog zD 29 [.str s]=some (.bool (Yd s)):=by
 refine FX.callL (r:=(.bool (Yd s),[])) ok29_ 1000 rfl rfl ?_ rfl;have hM:=xZ;unfold Yd primed;by_cases h0:0<s.size
 ·have h1:(0:Int)<(s.size:Int):=by omega
  have w1:IntKind.i64.wrap ((s.size:Int)-1)=((s.size-1:Nat):Int):=by rw[bE];omega
  have x1:0≤((s.size-1:Nat):Int)∧((s.size-1:Nat):Int)<s.size:=⟨by omega,by omega⟩;have sl:=fun S=>zA1 S s (s.size-1) (by omega);by_cases h2:xn s (s.size-1)=39
  ·simp only[h0,h2,decide_true,sH,if_true];((repeat((conv=>lhs;whnf);simp only[go_sem,simprocAttr,h1,w1,x1,h2,sl,bD,yL]));try rfl)
  ·simp only[h0,h2,decide_true,decide_false,bQ,bZ,if_false];((repeat((conv=>lhs;whnf);simp only[go_sem,simprocAttr,h1,w1,x1,h2,bD,yL]));try rfl)
 ·have h1 : ¬(0:Int)<(s.size:Int):=by omega
  simp only[h0,decide_false,bB,bZ,if_false];((repeat((conv=>lhs;whnf);simp only[go_sem,simprocAttr,h1,yL]));try rfl)
theorem zRu (S:zB) (s:ByteArray) (hs:s.size≤maxLen):zO (callL Tryz.prog zD) S 58 [.str s]=some {v:=.bool (Yd s)} := zF (QK s hs) (by simp[zh.str])
theorem zRv (S:zB) (s:ByteArray) (hs:s.size≤maxLen):zO (callL Tryz.prog zD) S 29 [.str s]=some {v:=.bool (Yd s)} := zF (QL s hs) (by simp[zh.str])
end
end Go.Vs
end
section
set_option maxRecDepth 100000
namespace Go.Vs
open Go Go.Proofs
structure RV where
 neg:Bool
 num:List Int
 den:List Int
def RV.cells (v:RV):List PV:=[.bool v.neg,.sl (zE .u32 v.num) false,.sl (zE .u32 v.den) false]
structure RV.ok (v:RV):Prop where
 n:OkD WB v.num
 d:OkD WB v.den
 ln:v.num.length≤maxLen
 ld:v.den.length≤maxLen
structure Bd where
 name:ByteArray
 val:RV
def Bd.cells (b:Bd):List PV:=[.str b.name,.bool b.val.neg,.sl (zE .u32 b.val.num) false,.sl (zE .u32 b.val.den) false]
structure Bd.ok (b:Bd):Prop where
 s:b.name.size≤maxLen
 v:b.val.ok
def bd0:Bd:=⟨⟨#[]⟩,⟨false,[],[]⟩⟩
def yC (L:List Bd):List (List PV):=L.map Bd.cells
@[go_sem] theorem zMt (L:List Bd):(yC L).length=L.length:=nr (by simp[yC])
theorem WV:(tyi Tryz.prog 98).d=.struct [(0,1,false),(1,3,true)]:=by kernel_rfl
@[go_sem] theorem zJM:(tyi Tryz.prog 98).size=4:=nr (by kernel_rfl)
@[go_sem] theorem zG7:(tyi Tryz.prog 98).known=true:=nr (by kernel_rfl)
@[go_sem] theorem zJN:(tyi Tryz.prog 98).zero=some [.str ⟨#[]⟩,.bool false,.sl [] true,.sl [] true]:=nr (by kernel_rfl)
@[go_sem] theorem zPc (n:Nat):zW (tyi Tryz.prog 98) n=some {v:=.mp n 0 0,new:=some ([[.str ⟨#[]⟩,.bool false,.sl [] true,.sl [] true]],none)} := nr (by unfold zW;rw[zJN];rfl)
@[go_sem] theorem zQd (id i off:Nat):zA (tyi Tryz.prog 98) 0 (.mp id i off)=some (.mp id i (off+0)):=by simp[zA,WV]
@[go_sem] theorem zQe (r:List PV):zA (tyi Tryz.prog 98) 0 (.cp r)=some (.cp (r.drop 0)):=by simp[zA,WV]
@[go_sem] theorem zQf (cs:List PV):zK (tyi Tryz.prog 98) 0 (.agg cs)=cs[0]? := by simp[zK,WV]
@[go_sem] theorem zQg (id i off:Nat):zA (tyi Tryz.prog 98) 1 (.mp id i off)=some (.mp id i (off+1)):=by simp[zA,WV]
@[go_sem] theorem zQh (r:List PV):zA (tyi Tryz.prog 98) 1 (.cp r)=some (.cp (r.drop 1)):=by simp[zA,WV]
@[go_sem] theorem zQi (cs:List PV):zK (tyi Tryz.prog 98) 1 (.agg cs)=if 1+3≤cs.length then some (.agg ((cs.drop 1).take 3)) else none:=by simp[zK,WV]
theorem zL0:SlT 35 98 4 72:=⟨by kernel_rfl,by kernel_rfl,by kernel_rfl,by kernel_rfl,by kernel_rfl⟩
@[go_sem] theorem zPd (r:List (List PV)) (ex:Bool):yJ (tyi Tryz.prog 35) (.sl r ex)=some (.int .i64 r.length):=nr (zL0.len r ex)
@[go_sem] theorem zUj (S:zB) (L:List Bd) (ex:Bool) (i:Int):zI Tryz.prog 35 S (.sl (yC L) ex) (.int .i64 i)=if 0≤i∧i<L.length then some (.cp (L.getD i.toNat bd0).cells) else none:=nr (zL0.idx (fun _=>rfl) bd0 S L ex i)
@[go_sem] theorem zRw (v:PV) (r:List PV):part (tyi Tryz.prog 9) (v::r)=some v:=by
 have e:(tyi Tryz.prog 9).isAgg=false:=by kernel_rfl
 simp[part,zPR,e]
@[go_sem] theorem zTn (v:PV) (r:List PV):part (tyi Tryz.prog 35) (v::r)=some v:=by
 have e:(tyi Tryz.prog 35).isAgg=false:=by kernel_rfl
 have k:(tyi Tryz.prog 35).known=true:=by kernel_rfl
 simp[part,k,e]
@[go_sem] theorem zTo (v:PV) (r:List PV):part (tyi Tryz.prog 45) (v::r)=some v:=by
 have e:(tyi Tryz.prog 45).isAgg=false:=by kernel_rfl
 have k:(tyi Tryz.prog 45).known=true:=by kernel_rfl
 simp[part,k,e]
@[go_sem] theorem zTp:(tyi Tryz.prog 35).size=1:=nr (by kernel_rfl)
theorem JO:(tyi Tryz.prog 47).d=.struct [(0,1,false),(1,1,false)]:=by kernel_rfl
@[go_sem] theorem zL1:(tyi Tryz.prog 47).size=2:=nr (by kernel_rfl)
@[go_sem] theorem zJO:(tyi Tryz.prog 47).known=true:=nr (by kernel_rfl)
@[go_sem] theorem zRx (id i off:Nat):zA (tyi Tryz.prog 47) 0 (.mp id i off)=some (.mp id i (off+0)):=by simp[zA,JO]
@[go_sem] theorem zRy (r:List PV):zA (tyi Tryz.prog 47) 0 (.cp r)=some (.cp (r.drop 0)):=by simp[zA,JO]
@[go_sem] theorem zRz (cs:List PV):zK (tyi Tryz.prog 47) 0 (.agg cs)=cs[0]? := by simp[zK,JO]
@[go_sem] theorem zSA (id i off:Nat):zA (tyi Tryz.prog 47) 1 (.mp id i off)=some (.mp id i (off+1)):=by simp[zA,JO]
@[go_sem] theorem zSB (r:List PV):zA (tyi Tryz.prog 47) 1 (.cp r)=some (.cp (r.drop 1)):=by simp[zA,JO]
@[go_sem] theorem zSC (cs:List PV):zK (tyi Tryz.prog 47) 1 (.agg cs)=cs[1]? := by simp[zK,JO]
@[go_sem] theorem zSD (a b:PV) (r:List PV):part (tyi Tryz.prog 47) (a::b::r)=some (.agg [a,b]):=by simp[part,zJO,TI.isAgg,JO,zL1]
@[go_sem] theorem zQj (a b c d:PV) (r:List PV):part (tyi Tryz.prog 98) (a::b::c::d::r)=some (.agg [a,b,c,d]):=by simp[part,zG7,TI.isAgg,WV,zJM]
def RV.fit (v:RV):Bool:=decide (v.num.length≤400)&&decide (v.den.length≤400)&&um v.neg v.num v.den 4096
section
attribute [local irreducible] Vs.callL Vs.callRL tyi zO zn zg zR zY za zI zZ zA zK ze zX zG zJ zW zr yJ zq zL zf Vs.gc zH
noncomputable def zSE:FX:=⟨Tryz.f61,zD.of 61,[]⟩
instance ok61_:zSE.ok 61:=FX.mk'
theorem zJP (v:RV) (h:v.ok):callL Tryz.prog zD 61 [.agg v.cells,.int .i64 400]=some (.bool v.fit):=by
 have hM:=xZ;have h1:=h.ln;have h2:=h.ld;have cv:=fun S=>zF (S:=S) (XE v.neg v.num v.den h.n h.d (by omega) (by omega)) (by simp;exact ju _ _ _);unfold ku at cv;refine FX.callL (r:=(.bool v.fit,[.arr [[.bool v.neg,.sl (zE .u32 v.num) false,.sl (zE .u32 v.den) false]] none false])) ok61_ 1000 rfl rfl ?_ rfl;unfold RV.fit RV.cells;by_cases c1:v.num.length≤400
 ·have c1':(v.num.length:Int)≤400:=by omega
  by_cases c2:v.den.length≤400
  ·have c2':(v.den.length:Int)≤400:=by omega
   simp only[c1,c2,decide_true,bC];((repeat((conv=>lhs;whnf);simp only[go_sem,simprocAttr,c1',c2',cv]));try rfl)
  ·have c2' : ¬(v.den.length:Int)≤400:=by omega
   simp only[c1,c2,decide_true,decide_false,bC,bB];((repeat((conv=>lhs;whnf);simp only[go_sem,simprocAttr,c1',c2',cv]));try rfl)
 ·have c1' : ¬(v.num.length:Int)≤400:=by omega
  simp only[c1,decide_false,bB];((repeat((conv=>lhs;whnf);simp only[go_sem,simprocAttr,c1']));try rfl)
noncomputable def zSF:FX:=⟨Tryz.f64,zD.of 64,[]⟩
instance ok64_:zSF.ok 64:=FX.mk'
theorem zBe (v:RV) (h:v.ok):callL Tryz.prog zD 64 [.agg v.cells,.int .i64 400]=some (.bool v.fit):=by
 have hM:=xZ;have h1:=h.ln;have h2:=h.ld;have cv:=fun S=>zF (S:=S) (QJ v.neg v.num v.den h.n h.d (by omega) (by omega)) (by simp;exact ju _ _ _);unfold ku at cv;refine FX.callL (r:=(.bool v.fit,[.arr [[.bool v.neg,.sl (zE .u32 v.num) false,.sl (zE .u32 v.den) false]] none false])) ok64_ 1000 rfl rfl ?_ rfl;unfold RV.fit RV.cells
 cases cb:um v.neg v.num v.den 4096
 ·rw[cb]at cv;simp only[bQ];((repeat((conv=>lhs;whnf);simp only[go_sem,simprocAttr,cv]));try rfl)
 ·rw[cb]at cv;by_cases c1:v.num.length≤400
  ·have c1':(v.num.length:Int)≤400:=by omega
   by_cases c2:v.den.length≤400
   ·have c2':(v.den.length:Int)≤400:=by omega
    simp only[c1,c2,decide_true,bC];((repeat((conv=>lhs;whnf);simp only[go_sem,simprocAttr,c1',c2',cv]));try rfl)
   ·have c2' : ¬(v.den.length:Int)≤400:=by omega
    simp only[c1,c2,decide_true,decide_false,bC,bB];((repeat((conv=>lhs;whnf);simp only[go_sem,simprocAttr,c1',c2',cv]));try rfl)
  ·have c1' : ¬(v.num.length:Int)≤400:=by omega
   simp only[c1,decide_false,bB];((repeat((conv=>lhs;whnf);simp only[go_sem,simprocAttr,c1',cv]));try rfl)
theorem kW (v:RV):zh (.agg v.cells):=ju _ _ _
theorem zPe (S:zB) (v:RV) (h:v.ok):zO (callL Tryz.prog zD) S 61 [.agg v.cells,.int .i64 400]=some {v:=.bool v.fit} := zF (zJP v h) (by simp[zh.int];exact kW v)
theorem zJQ (S:zB) (v:RV) (h:v.ok):zO (callL Tryz.prog zD) S 64 [.agg v.cells,.int .i64 400]=some {v:=.bool v.fit} := zF (zBe v h) (by simp[zh.int];exact kW v)
end
end Go.Vs
end
section
set_option maxRecDepth 100000
namespace Go.Vs
open Go Go.Proofs
inductive Node where
 | mk (op:Int) (name:ByteArray) (neg:Bool) (num den:List Int) (kids:List Node)
namespace Node
def op:Node→Int | mk a _ _ _ _ _=>a
def name:Node→ByteArray | mk _ a _ _ _ _=>a
def neg:Node→Bool | mk _ _ a _ _ _=>a
def num:Node→List Int | mk _ _ _ a _ _=>a
def den:Node→List Int | mk _ _ _ _ a _=>a
def kids:Node→List Node | mk _ _ _ _ _ a=>a
def val (n:Node):RV:=⟨n.neg,n.num,n.den⟩
end Node
def nd0:Node:=.mk 0 ⟨#[]⟩ false [] [] []
instance:Inhabited Node:=⟨nd0⟩
mutual
def Node.cells:Node→List PV
 | .mk a b c d e f=>[.int .i64 a,.str b,.bool c,.sl (zE .u32 d) false,.sl (zE .u32 e) false,.sl (Node.rows f) false]
def Node.rows:List Node→List (List PV)
 | []=>[]
 | n::r=>n.cells::Node.rows r
end
mutual
def Node.ok:Node→Prop
 | .mk a b c d e f=>(-9223372036854775808≤a∧a≤9223372036854775807)∧b.size≤maxLen∧(RV.mk c d e).ok∧f.length≤maxLen∧Node.oks f
def Node.oks:List Node→Prop
 | []=>True
 | n::r=>n.ok∧Node.oks r
end
theorem Node.oks_iff : ∀ {l:List Node},Node.oks l↔∀n∈l,n.ok
 | []=>by simp[Node.oks]
 | n::r=>by simp[Node.oks,Node.oks_iff (l:=r)]
theorem Node.ind' {P:Node→Prop} (h : ∀n,(∀k∈n.kids,P k)→P n) (n:Node):P n :=
 Node.rec (motive_1:=P) (motive_2:=fun l=>∀k∈l,P k) (fun a b c d e f ih=>h (.mk a b c d e f) ih) (by simp)
  (fun n r hn hr k hk=>by
   rcases aF.1 hk with rfl | hk
   ·exact hn
   ·exact hr k hk) n
theorem Node.rows_eq : ∀l,Node.rows l=l.map Node.cells
 | []=>rfl
 | n::r=>by rw[Node.rows,Node.rows_eq r];rfl
theorem Node.cells_eq (n:Node):n.cells=[.int .i64 n.op,.str n.name,.bool n.neg,.sl (zE .u32 n.num) false,.sl (zE .u32 n.den) false,.sl (Node.rows n.kids) false]:=by cases n;rfl
theorem Node.ok.op {n:Node} (h:n.ok) : -9223372036854775808≤n.op∧n.op≤9223372036854775807:=by cases n;exact h.1
theorem Node.ok.name {n:Node} (h:n.ok):n.name.size≤maxLen:=by cases n;exact h.2.1
theorem Node.ok.val {n:Node} (h:n.ok):n.val.ok:=by cases n;exact h.2.2.1
theorem Node.ok.len {n:Node} (h:n.ok):n.kids.length≤maxLen:=by cases n;exact h.2.2.2.1
theorem Node.ok.kids {n:Node} (h:n.ok) : ∀k∈n.kids,k.ok:=by cases n;exact Node.oks_iff.1 h.2.2.2.2
@[go_sem] theorem Node.cells_length (n:Node):n.cells.length=6:=nr (by cases n;rfl)
@[go_sem] theorem Node.cells_cell (n:Node):n.cells.all PV.cell=true:=nr (by cases n;rfl)
theorem Node.plain (n:Node):zh (.agg n.cells):=by cases n;exact⟨rfl,fun _=>rfl⟩
@[go_sem] theorem Node.fz (S:zB) (n:Node):vI S (.agg n.cells)=some (.agg n.cells):=n.plain.2 S
@[go_sem] theorem Node.refs (n:Node):vX n.cells=[]:=nr (by cases n;rfl)
@[go_sem] theorem Node.rows_length (l:List Node):(Node.rows l).length=l.length:=by rw[Node.rows_eq];simp
@[go_sem] theorem Node.rows_ok (l:List Node):yO 6 (Node.rows l)=true:=by rw[Node.rows_eq];exact zFn (enc:=Node.cells) (fun n=>by cases n;rfl) l
@[go_sem] theorem Node.rows_refs : ∀l:List Node,zV (Node.rows l)=[]
 | []=>rfl
 | n::r=>by
  have:=Node.rows_refs r
  show vX n.cells++zV (Node.rows r)=[]
  rw[this,Node.refs];rfl
theorem Yj:(tyi Tryz.prog 30).d=.struct [(0,1,false),(1,1,false),(2,3,true),(5,1,false)]:=by kernel_rfl
@[go_sem] theorem ZT:(tyi Tryz.prog 30).size=6:=nr (by kernel_rfl)
@[go_sem] theorem jT:(tyi Tryz.prog 30).known=true:=nr (by kernel_rfl)
@[go_sem] theorem zIJ:(tyi Tryz.prog 30).zero=some [.int .i64 0,.str ⟨#[]⟩,.bool false,.sl [] true,.sl [] true,.sl [] true]:=nr (by kernel_rfl)
@[go_sem] theorem zj (n:Nat):zW (tyi Tryz.prog 30) n=some {v:=.mp n 0 0,new:=some ([[.int .i64 0,.str ⟨#[]⟩,.bool false,.sl [] true,.sl [] true,.sl [] true]],none)} := nr (by unfold zW;rw[zIJ];rfl)
@[go_sem] theorem zSG (l:List (Nat × PV)):zX Tryz.prog 30 l=(qd [(0,1,false),(1,1,false),(2,3,true),(5,1,false)] [.int .i64 0,.str ⟨#[]⟩,.bool false,.sl [] true,.sl [] true,.sl [] true] l).map .agg:=nr (by unfold zX;rw[Yj];dsimp only;unfold ze;rw[Yj,zIJ];rfl)
@[go_sem] theorem zTq (id i off:Nat):zA (tyi Tryz.prog 30) 0 (.mp id i off)=some (.mp id i (off+0)):=by simp[zA,Yj]
@[go_sem] theorem zTr (r:List PV):zA (tyi Tryz.prog 30) 0 (.cp r)=some (.cp (r.drop 0)):=by simp[zA,Yj]
@[go_sem] theorem zTs (cs:List PV):zK (tyi Tryz.prog 30) 0 (.agg cs)=cs[0]? := by simp[zK,Yj]
@[go_sem] theorem zTt (id i off:Nat):zA (tyi Tryz.prog 30) 1 (.mp id i off)=some (.mp id i (off+1)):=by simp[zA,Yj]
@[go_sem] theorem zTu (r:List PV):zA (tyi Tryz.prog 30) 1 (.cp r)=some (.cp (r.drop 1)):=by simp[zA,Yj]
@[go_sem] theorem zTv (cs:List PV):zK (tyi Tryz.prog 30) 1 (.agg cs)=cs[1]? := by simp[zK,Yj]
@[go_sem] theorem zTw (id i off:Nat):zA (tyi Tryz.prog 30) 2 (.mp id i off)=some (.mp id i (off+2)):=by simp[zA,Yj]
@[go_sem] theorem zTx (r:List PV):zA (tyi Tryz.prog 30) 2 (.cp r)=some (.cp (r.drop 2)):=by simp[zA,Yj]
@[go_sem] theorem zTy (cs:List PV):zK (tyi Tryz.prog 30) 2 (.agg cs)=if 2+3≤cs.length then some (.agg ((cs.drop 2).take 3)) else none:=by simp[zK,Yj]
@[go_sem] theorem zTz (id i off:Nat):zA (tyi Tryz.prog 30) 3 (.mp id i off)=some (.mp id i (off+5)):=by simp[zA,Yj]
@[go_sem] theorem zUA (r:List PV):zA (tyi Tryz.prog 30) 3 (.cp r)=some (.cp (r.drop 5)):=by simp[zA,Yj]
@[go_sem] theorem zUB (cs:List PV):zK (tyi Tryz.prog 30) 3 (.agg cs)=cs[5]? := by simp[zK,Yj]
theorem vq:SlT 28 30 6 104:=⟨by kernel_rfl,by kernel_rfl,by kernel_rfl,by kernel_rfl,by kernel_rfl⟩
@[go_sem] theorem zNb (r:List (List PV)) (ex:Bool):yJ (tyi Tryz.prog 28) (.sl r ex)=some (.int .i64 r.length):=nr (vq.len r ex)
@[go_sem] theorem zL2 (i o l:Nat) (ex:Bool):yJ (tyi Tryz.prog 28) (.msl i o l ex)=some (.int .i64 l):=nr (vq.lenm i o l ex)
@[go_sem] theorem zUC (S:zB) (l:List Node) (ex:Bool) (i:Int):zI Tryz.prog 28 S (.sl (Node.rows l) ex) (.int .i64 i)=if 0≤i∧i<l.length then some (.cp (l.getD i.toNat nd0).cells) else none:=by
 rw[Node.rows_eq];exact vq.idx (fun n=>by cases n;rfl) nd0 S l ex i
@[go_sem] theorem zSH (v:PV) (r:List PV):part (tyi Tryz.prog 28) (v::r)=some v:=by
 have e:(tyi Tryz.prog 28).isAgg=false:=by kernel_rfl
 have k:(tyi Tryz.prog 28).known=true:=by kernel_rfl
 simp[part,k,e]
@[go_sem] theorem vr:(tyi Tryz.prog 28).size=1:=nr (by kernel_rfl)
@[go_sem] theorem vF:(tyi Tryz.prog 28).known=true:=nr (by kernel_rfl)
@[go_sem] theorem zUD (n:Node):part (tyi Tryz.prog 30) n.cells=some (.agg n.cells):=by cases n;simp[Node.cells,part,jT,TI.isAgg,Yj,ZT]
@[go_sem] theorem Node.drop1 (n:Node):n.cells.drop 1=[.str n.name,.bool n.neg,.sl (zE .u32 n.num) false,.sl (zE .u32 n.den) false,.sl (Node.rows n.kids) false]:=nr (by cases n;rfl)
@[go_sem] theorem Node.drop2 (n:Node):n.cells.drop 2=[.bool n.neg,.sl (zE .u32 n.num) false,.sl (zE .u32 n.den) false,.sl (Node.rows n.kids) false]:=nr (by cases n;rfl)
@[go_sem] theorem Node.drop3 (n:Node):n.cells.drop 3=[.sl (zE .u32 n.num) false,.sl (zE .u32 n.den) false,.sl (Node.rows n.kids) false]:=nr (by cases n;rfl)
@[go_sem] theorem Node.drop4 (n:Node):n.cells.drop 4=[.sl (zE .u32 n.den) false,.sl (Node.rows n.kids) false]:=nr (by cases n;rfl)
@[go_sem] theorem Node.drop5 (n:Node):n.cells.drop 5=[.sl (Node.rows n.kids) false]:=nr (by cases n;rfl)
@[go_sem] theorem Node.part_int (n:Node):part (tyi Tryz.prog 3) n.cells=some (.int .i64 n.op):=by
 have e:(tyi Tryz.prog 3).isAgg=false:=by kernel_rfl
 cases n;simp[Node.cells,part,Kz,e];rfl
@[go_sem] theorem Node.part_rat (n:Node) (r:List PV):part (tyi Tryz.prog 27) (.bool n.neg :: .sl (zE .u32 n.num) false :: .sl (zE .u32 n.den) false::r)=some (.agg n.val.cells):=by
 simp[part,Vv,TI.isAgg,jC,Ku,RV.cells,Node.val]
theorem xO {l:List Node} {i:Nat} (h:i<l.length):l.drop i=l.getD i nd0::l.drop (i+1):=by
 rw[PU h];simp[bM,h]
theorem yA {l:List Node} {i:Nat} (h:i<l.length):l.getD i nd0∈l:=by
 simp[bM,h]
theorem uQ {f:FuncId} {n:Node} {v:PV} (S:zB) (h:callL Tryz.prog zD f [.agg n.cells]=some v):zO (callL Tryz.prog zD) S f [.agg n.cells]=some {v} := zF h (by simp[Node.plain])
theorem WW {f:FuncId} {n m:Node} {v:PV} (S:zB) (h:callL Tryz.prog zD f [.agg n.cells,.agg m.cells]=some v):zO (callL Tryz.prog zD) S f [.agg n.cells,.agg m.cells]=some {v} := zF h (by simp[Node.plain])
end Go.Vs
end
