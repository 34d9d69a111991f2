
import Derived.Test.YtkaeejkajfinhaaGreatMV15
set_option linter.unusedVariables false
set_option linter.unusedSimpArgs false
section
set_option maxRecDepth 100000
namespace Go.Vs
open Go Go.Proofs
def vq (q:Rat) (k:Nat):Prop:=(dec q.num.natAbs).length≤k∧(dec q.den).length≤k
theorem vq.mono {q:Rat} {j k:Nat} (h:vq q j) (hk:j≤k):vq q k:=⟨bP h.1 hk,bP h.2 hk⟩
theorem wL.dec {q:Rat} {k:Nat} (h:wL q k):vq q (3*k):=⟨Z5 h.1,Z5 h.2⟩
theorem vq.words {q:Rat} {k:Nat} (h:vq q k):wL q k:=⟨Qb h.1,Qb h.2⟩
theorem U8 {neg:Bool} {n d:Nat} {va vb:PV} (ha:zq n va) (hb:zq d vb) (hd:d≠0) (hn:(dec n).length≤800000) (hdl:(dec d).length≤800000) (S:zB):zO (callL Tryz.prog zE) S 161 [.bool neg,va,vb]=some {v:=rrV (mkRat (sg neg n) d)} :=
 zF (S:=S) (zAs ha hb hd hn hdl) (by simp[ha.plain,hb.plain,zh.bool])
theorem zHX {m n k:Nat} (hm:(dec m).length≤k) (hn:(dec n).length≤k):(dec (m+n)).length≤k+1:=zCk DB2 hm hn
theorem Qg {q:Rat} (h:q.num.natAbs=0):yU q=false:=by unfold yU;exact bH (by omega)
section
attribute [local irreducible] Vs.callL Vs.callRL tyi zO zl zf zR zW za zI zY zA zK zb zV zG zJ zU zn yI zm zL ze Vs.gc zH
noncomputable def zOj:FX:=⟨Tryz.f138,zE.of 138,[]⟩
instance ok138_:zOj.ok 138:=FX.mk'
theorem UD (q r:Rat) (hq:vq q 300000) (hr:vq r 300000):callL Tryz.prog zE 138 [rrV q,rrV r]=some (rrV (q*r)):=by
 have c1:=Wj (zq.of q.num.natAbs) (zq.of r.num.natAbs) (by have:=hq.1;omega) (by have:=hr.1;omega);have c2:=Wj (zq.of q.den) (zq.of r.den) (by have:=hq.2;omega) (by have:=hr.2;omega);have mk:=U8 (neg:=yU q != yU r) (zq.of (q.num.natAbs*r.num.natAbs)) (zq.of (q.den*r.den)) (PO q.den_nz r.den_nz) (bP (kL hq.1 hr.1) (by omega)) (bP (kL hq.2 hr.2) (by omega));rw[←Xx]at mk;rw[show (yU q != yU r) = !(yU q == yU r) from rfl]at mk;refine FX.callL (r:=(rrV (q*r),[.arr [[.bool (yU q),zs q.num.natAbs,zs q.den]] none false,.arr [[.bool (yU r),zs r.num.natAbs,zs r.den]] none false,.arr [[.bool (yU (q*r)),zs (q*r).num.natAbs,zs (q*r).den]] none false])) ok138_ 1000 rfl rfl ?_ rfl;unfold rrV rrL zs yN at *;((repeat((conv=>lhs;whnf);simp only[go_sem,simprocAttr,c1,c2,mk]));try rfl)
noncomputable def zOk:FX:=⟨Tryz.f139,zE.of 139,[]⟩
instance ok139_:zOk.ok 139:=FX.mk'
theorem zD2 (q r:Rat) (hq:vq q 300000) (hr:vq r 300000):callL Tryz.prog zE 139 [rrV q,rrV r]=some (rrV (q+r)):=by
 have k1:=Wj (zq.of q.num.natAbs) (zq.of r.den) (by have:=hq.1;omega) (by have:=hr.2;omega);have k2:=Wj (zq.of r.num.natAbs) (zq.of q.den) (by have:=hr.1;omega) (by have:=hq.2;omega);have k3:=Wj (zq.of q.den) (zq.of r.den) (by have:=hq.2;omega) (by have:=hr.2;omega);have hX:(dec (q.num.natAbs*r.den)).length≤600000:=kL hq.1 hr.2;have hY:(dec (r.num.natAbs*q.den)).length≤600000:=kL hr.1 hq.2;have hD:(dec (q.den*r.den)).length≤600000:=kL hq.2 hr.2;have hd0:=PO q.den_nz r.den_nz;refine FX.callL (r:=(rrV (q+r),[.arr [[.bool (yU q),zs q.num.natAbs,zs q.den]] none false,.arr [[.bool (yU r),zs r.num.natAbs,zs r.den]] none false,.arr [[.bool (yU (q+r)),zs (q+r).num.natAbs,zs (q+r).den]] none false])) ok139_ 1000 rfl rfl ?_ rfl;by_cases hs:yU q=yU r
 ·have hb:(yU q == yU r)=true:=by simp[hs]
  have f1:=zMi (zq.of (q.num.natAbs*r.den)) (zq.of (r.num.natAbs*q.den)) (by omega) (by omega);have f2:=U8 (neg:=yU q) (zq.of (q.num.natAbs*r.den+r.num.natAbs*q.den)) (zq.of (q.den*r.den)) hd0 (bP (zHX hX hY) (by omega)) (by omega);have e:q+r=mkRat (sg (yU q) (q.num.natAbs*r.den+r.num.natAbs*q.den)) (q.den*r.den):=by
   rw[vQ,←hs,UA]
  rw[←e]at f2;unfold rrV rrL zs yN at *;((repeat((conv=>lhs;whnf);simp only[go_sem,simprocAttr,k1,k2,k3,f1,f2,hb]));try rfl)
 ·have hb:(yU q == yU r)=false:=by simpa using hs
  have f0:=XJ (zq.of (q.num.natAbs*r.den)) (zq.of (r.num.natAbs*q.den)) (by omega) (by omega);by_cases hc:r.num.natAbs*q.den≤q.num.natAbs*r.den
  ·have c:0≤xi (q.num.natAbs*r.den) (r.num.natAbs*q.den):=by unfold xi;rw[hZ (by omega)];split <;> omega
   have hx0:q.num.natAbs*r.den≠0:=by
    intro h;have h1:q.num.natAbs=0:=by
     rcases Nat.mul_eq_zero.1 h with h | h
     ·exact h
     ·exact absurd h r.den_nz
    have h2:r.num.natAbs=0:=by
     rcases Nat.mul_eq_zero.1 (show r.num.natAbs*q.den=0 by omega) with h | h
     ·exact h
     ·exact absurd h q.den_nz
    exact hs (by rw[Qg h1,Qg h2])
   have f1:=zAk (zq.of (q.num.natAbs*r.den)) (zq.of (r.num.natAbs*q.den)) hx0 hc (by omega);have f2:=U8 (neg:=yU q) (zq.of (q.num.natAbs*r.den-r.num.natAbs*q.den)) (zq.of (q.den*r.den)) hd0 (bP (kD (Nat.sub_le _ _)) (by omega)) (by omega);have e:q+r=mkRat (sg (yU q) (q.num.natAbs*r.den-r.num.natAbs*q.den)) (q.den*r.den):=by
    rw[vQ,Qe hs hc]
   rw[←e]at f2;unfold rrV rrL zs yN at *;((repeat((conv=>lhs;whnf);simp only[go_sem,simprocAttr,k1,k2,k3,f0,f1,f2,hb,c]));try rfl)
  ·have c : ¬ 0≤xi (q.num.natAbs*r.den) (r.num.natAbs*q.den):=by unfold xi;rw[bA (by omega)];omega
   have f1:=zAk (zq.of (r.num.natAbs*q.den)) (zq.of (q.num.natAbs*r.den)) (by omega) (by omega) (by omega);have f2:=U8 (neg:=yU r) (zq.of (r.num.natAbs*q.den-q.num.natAbs*r.den)) (zq.of (q.den*r.den)) hd0 (bP (kD (Nat.sub_le _ _)) (by omega)) (by omega);have e:q+r=mkRat (sg (yU r) (r.num.natAbs*q.den-q.num.natAbs*r.den)) (q.den*r.den):=by
    rw[vQ,Qf hs (by omega)]
   rw[←e]at f2;unfold rrV rrL zs yN at *;((repeat((conv=>lhs;whnf);simp only[go_sem,simprocAttr,k1,k2,k3,f0,f1,f2,hb,c]));try rfl)
noncomputable def zQz:FX:=⟨Tryz.f93,zE.of 93,[]⟩
instance ok93_:zQz.ok 93:=FX.mk'
theorem zD3 (q r:Rat) (hq:vq q 300000) (hr:vq r 300000) (h0:r≠0):callL Tryz.prog zE 93 [rrV q,rrV r]=some (rrV (q*r⁻¹)):=by
 obtain⟨h1,h2⟩:=Zw h0;have e1:yU r⁻¹ = yU r:=by
  unfold yU;rw[h1];have hd:=r.den_nz;by_cases c:r.num<0
  ·simp[c];omega
  ·simp[c]
 have e2:r⁻¹.num.natAbs=r.den:=by rw[h1];split <;> simp
 have hi:vq r⁻¹ 300000:=by unfold vq;rw[e2,h2];exact⟨hr.2,hr.1⟩
 have c1:=fun S=>zF (S:=S) (UD q r⁻¹ hq hi) (by simp[jc]);refine FX.callL (r:=(rrV (q*r⁻¹),[.arr [[.bool (yU q),zs q.num.natAbs,zs q.den]] none false,.arr [[.bool (yU r),zs r.num.natAbs,zs r.den]] none false,.arr [[.bool (yU (q*r⁻¹)),zs (q*r⁻¹).num.natAbs,zs (q*r⁻¹).den]] none false])) ok93_ 1000 rfl rfl ?_ rfl;have er:rrV r⁻¹ = rrL (yU r) r.den r.num.natAbs:=by unfold rrV;rw[e1,e2,h2]
 rw[er]at c1;unfold rrV rrL zs yN at *;((repeat((conv=>lhs;whnf);simp only[go_sem,simprocAttr,c1]));try rfl)
end
end Go.Vs
end
section
set_option maxRecDepth 100000
namespace Go.Vs
open Go Go.Proofs
theorem zAt {n:Nat} {v:PV} (h:yH n v) (hn:(words n).length≤100000) (S:zB):zO (callL Tryz.prog zE) S 135 [v]=some {v:=zs n} := by
 obtain⟨e,rfl,hp⟩:=h.form;exact zF (S:=S) (zMh n e hn) (by simp[hp])
theorem Qh {n:Nat} {v:PV} (h:zq n v) (hn:(dec n).length≤1000000) (S:zB):zO (callL Tryz.prog zE) S 73 [v]=some {v:=yL n} := zF (S:=S) (zF2 h hn) (by simp[h.plain])
section
attribute [local irreducible] Vs.callL Vs.callRL tyi zO zl zf zR zW za zI zY zA zK zb zV zG zJ zU zn yI zm zL ze Vs.gc zH
noncomputable def zRA:FX:=⟨Tryz.f89,zE.of 89,[]⟩
instance ok89_:zRA.ok 89:=FX.mk'
theorem zFj (q:Rat) (hq:wL q 100000):callL Tryz.prog zE 89 [xU q]=some (rrV q):=by
 have c1:=zAt (yH.of q.num.natAbs) hq.1;have c2:=zAt (yH.of q.den) hq.2;refine FX.callL (r:=(rrV q,[.arr [[.bool (yU q),yC q.num.natAbs false,yC q.den false]] none false,.arr [[.bool (yU q),zs q.num.natAbs,zs q.den]] none false])) ok89_ 1000 rfl rfl ?_ rfl;rw[wM];unfold yL at c1 c2;unfold rrV rrL zs yN yC at *;((repeat((conv=>lhs;whnf);simp only[go_sem,simprocAttr,c1,c2]));try rfl)
noncomputable def zRB:FX:=⟨Tryz.f32,zE.of 32,[]⟩
instance ok32_:zRB.ok 32:=FX.mk'
theorem Ka (q:Rat) (hq:vq q 1000000):callL Tryz.prog zE 32 [rrV q]=some (xU q):=by
 have c1:=Qh (zq.of q.num.natAbs) hq.1;have c2:=Qh (zq.of q.den) hq.2;refine FX.callL (r:=(xU q,[.arr [[.bool (yU q),zs q.num.natAbs,zs q.den]] none false,.arr [[.bool (yU q),yC q.num.natAbs false,yC q.den false]] none false])) ok32_ 1000 rfl rfl ?_ rfl;rw[wM];unfold yL at c1 c2;unfold rrV rrL zs yN yC at *;((repeat((conv=>lhs;whnf);simp only[go_sem,simprocAttr,c1,c2]));try rfl)
noncomputable def zOl:FX:=⟨Tryz.f136,zE.of 136,[]⟩
instance ok136_:zOl.ok 136:=FX.mk'
theorem J6 (q:Rat) (w:Int):callL Tryz.prog zE 136 [xU q,.int .i64 w]=some (.bool (decide ((words q.num.natAbs).length≤w)&&decide ((words q.den).length≤w))):=by
 refine FX.callL (r:=(.bool (decide ((words q.num.natAbs).length≤w)&&decide ((words q.den).length≤w)),[.arr [[.bool (yU q),yC q.num.natAbs false,yC q.den false]] none false])) ok136_ 1000 rfl rfl ?_ rfl;rw[wM];unfold yC;by_cases h:((words q.num.natAbs).length:Int)≤w
 ·simp only[h,decide_true,bC];((repeat((conv=>lhs;whnf);simp only[go_sem,simprocAttr,h]));try rfl)
 ·simp only[h,decide_false,bB];((repeat((conv=>lhs;whnf);simp only[go_sem,simprocAttr,h]));try rfl)
noncomputable def zKf:FX:=⟨Tryz.f107,zE.of 107,[]⟩
instance ok107_:zKf.ok 107:=FX.mk'
theorem zFk (A B:List Int) (e1 e2:Bool) (hl:A.length=B.length) (hm:A.length≤3000000) : ∀(m i:Nat),i+m=A.length→A.take i=B.take i→zS 0 zKf 0 116 0 [.blk 0,.seq 0 15] [(0,.sl (zD .u32 A) e1),(1,.sl (zD .u32 B) e2),(12,.int .i64 A.length),(13,.int .i64 i)] []=some (.bool (decide (A=B)),[]):=by
 have hM:=yg;intro m
 induction m with
 | zero =>
  intro i hi ht;have h1 : ¬(i:Int)<(A.length:Int):=by omega
  have e:A=B:=by
   rw[aN (by omega),aN (by omega)]at ht;exact ht
  rw[bG e];apply zC;(repeat((conv=>lhs;whnf);simp only[go_sem,simprocAttr,h1]));apply zN;((repeat((conv=>lhs;whnf);simp only[go_sem,simprocAttr]));try rfl)
 | succ m ih =>
  intro i hi ht;have h1:(i:Int)<(A.length:Int):=by omega
  have w1:=zg (i:=i) (n:=A.length) (by omega) (by omega);have x1:0≤(i:Int)∧(i:Int)<(A.length:Int):=⟨by omega,h1⟩;have x2:0≤(i:Int)∧(i:Int)<(B.length:Int):=⟨by omega,by omega⟩;have ea:=yu A (k:=i) (by omega);have eb:=yu B (k:=i) (by omega);apply zC;by_cases h:A.getD i 0=B.getD i 0
  ·have key:=ih (i+1) (by omega) (by
    have ta:A.take (i+1)=A.take i++[A.getD i 0]:=by
     rw[BJ];have:A[i]? = some (A.getD i 0):=by rw[pP (by omega)];simp[bL,show i<A.length by omega]
     rw[this];rfl
    have tb:B.take (i+1)=B.take i++[B.getD i 0]:=by
     rw[BJ];have:B[i]? = some (B.getD i 0):=by rw[pP (by omega)];simp[bL,show i<B.length by omega]
     rw[this];rfl
    rw[ta,tb,ht,h])
   (repeat((conv=>lhs;whnf);simp only[go_sem,simprocAttr,h1,x1,x2,bD,h,w1]));exact key
  ·have e : ¬A=B:=fun hab=>h (by rw[hab]);rw[bH e];((repeat((conv=>lhs;whnf);simp only[go_sem,simprocAttr,h1,x1,x2,bD,h]));try rfl)
theorem Kb (A B:List Int) (e1 e2:Bool) (hm:A.length≤3000000):callL Tryz.prog zE 107 [.sl (zD .u32 A) e1,.sl (zD .u32 B) e2]=some (.bool (decide (A=B))):=by
 refine FX.callL (r:=(.bool (decide (A=B)),[])) ok107_ 1000 rfl rfl ?_ rfl;by_cases hl:A.length=B.length
 ·have hl':(A.length:Int)=(B.length:Int):=by omega
  have key:=zFk A B e1 e2 hl hm A.length 0 (by omega) (by simp);rw[hl']at key;(repeat((conv=>lhs;whnf);simp only[go_sem,simprocAttr,hl',hl]));exact key
 ·have hl' : ¬(A.length:Int)=(B.length:Int):=by omega
  have e : ¬A=B:=fun hab=>hl (by rw[hab]);rw[bH e];((repeat((conv=>lhs;whnf);simp only[go_sem,simprocAttr,hl',hl]));try rfl)
noncomputable def zRC:FX:=⟨Tryz.f57,zE.of 57,[]⟩
instance ok57_:zRC.ok 57:=FX.mk'
theorem zAu (b1 b2:Bool) (N1 D1 N2 D2:List Int) (h1:N1.length≤3000000) (h2:D1.length≤3000000):callL Tryz.prog zE 57 [kS b1 N1 D1,kS b2 N2 D2]=some (.bool (decide (b1=b2∧N1=N2∧D1=D2))):=by
 have c1:=fun S=>zF (S:=S) (Kb N1 N2 false false h1) (by simp;exact⟨zh.sl _,zh.sl _⟩);have c2:=fun S=>zF (S:=S) (Kb D1 D2 false false h2) (by simp;exact⟨zh.sl _,zh.sl _⟩);refine FX.callL (r:=(.bool (decide (b1=b2∧N1=N2∧D1=D2)),[.arr [[.bool b1,.sl (zD .u32 N1) false,.sl (zD .u32 D1) false]] none false,.arr [[.bool b2,.sl (zD .u32 N2) false,.sl (zD .u32 D2) false]] none false])) ok57_ 1000 rfl rfl ?_ rfl;unfold kS;by_cases hb:b1=b2
 ·have hb':(b1 == b2)=true:=by simp[hb]
  by_cases hN:N1=N2
  ·simp only[hN,decide_true]at c1;simp only[hb,hN,true_and];rw[hb]at hb';((repeat((conv=>lhs;whnf);simp only[go_sem,simprocAttr,hb',c1,c2]));try rfl)
  ·simp only[hN,decide_false]at c1;simp only[hN,false_and,and_false,decide_false];((repeat((conv=>lhs;whnf);simp only[go_sem,simprocAttr,hb',c1,c2]));try rfl)
 ·have hb':(b1 == b2)=false:=by simpa using hb
  simp only[hb,false_and,decide_false];((repeat((conv=>lhs;whnf);simp only[go_sem,simprocAttr,hb',c1,c2]));try rfl)
end
end Go.Vs
end
section
set_option maxRecDepth 100000
namespace Go.Vs
open Go Go.Proofs
section
attribute [local irreducible] Vs.callL Vs.callRL tyi zO zl zf zR zW za zI zY zA zK zb zV zG zJ zU zn yI zm zL ze Vs.gc zH
noncomputable def zOm:FX:=⟨Tryz.f148,zE.of 148,[]⟩
instance ok148_:zOm.ok 148:=FX.mk'
theorem Wl (L:List Int) (e:Bool) (hl:L.length≤9223372036854775807):callL Tryz.prog zE 148 [.sl (zD .u32 L) e]=some (.bool (decide (L.length≤4096)&&decide (xX L))):=by
 refine FX.callL (r:=(.bool (decide (L.length≤4096)&&decide (xX L)),[])) ok148_ 1000 rfl rfl ?_ rfl;by_cases c1:L.length≤4096
 ·have c1':(L.length:Int)≤4096:=by omega
  by_cases c2:L=[]
  ·subst c2;have ht:xX []:=.inl rfl;simp only[c1,ht,decide_true,sC];((repeat((conv=>lhs;whnf);simp only[go_sem,simprocAttr,bU]));try rfl)
  ·have l0:L.length≠0:=fun h=>c2 (pL h);have l0' : ¬(L.length:Int)=0:=by omega
   have wl:IntKind.i64.wrap ((L.length:Int)-1)=((L.length-1:Nat):Int):=by rw[bE];omega
   have xl:0≤((L.length-1:Nat):Int)∧((L.length-1:Nat):Int)<L.length:=⟨by omega,by omega⟩;by_cases c3:L.getD (L.length-1) 0=0
   ·have ht : ¬xX L:=fun h=>by
     rcases h with h | h
     ·exact c2 h
     ·exact h c3
    simp only[c1,ht,decide_true,decide_false,bQ];((repeat((conv=>lhs;whnf);simp only[go_sem,simprocAttr,c1',l0,l0',wl,xl,bD,c3]));try rfl)
   ·have ht:xX L:=.inr c3;simp only[c1,ht,decide_true,sC];((repeat((conv=>lhs;whnf);simp only[go_sem,simprocAttr,c1',l0,l0',wl,xl,bD,c3]));try rfl)
 ·have c1' : ¬(L.length:Int)≤4096:=by omega
  simp only[c1,decide_false,bB];((repeat((conv=>lhs;whnf);simp only[go_sem,simprocAttr,c1']));try rfl)
noncomputable def zKg:FX:=⟨Tryz.f111,zE.of 111,[]⟩
instance ok111_:zKg.ok 111:=FX.mk'
theorem J7 (neg:Bool) (N D:List Int) (hN:OkD WB N) (hD:OkD WB D) (hl1:N.length≤9223372036854775807) (hl2:D.length≤9223372036854775807):callL Tryz.prog zE 111 [kS neg N D]=some (.bool (ub neg N D 4096)):=by
 have c1:=fun S=>zF (S:=S) (Wl N false hl1) (by simp;exact zh.sl _);have c2:=fun S=>zF (S:=S) (Wl D false hl2) (by simp;exact zh.sl _);have hr : ∃S,run ([]:zB).length zKg 1000 (.at 0 1) [] [(0,kS neg N D)] []=some (.bool (ub neg N D 4096),S):=by
  unfold ub;have z1:decide ((N.length:Int)≤4096)=decide (N.length≤4096):=by congr 1;exact propext ⟨by omega,by omega⟩
  have z2:decide ((D.length:Int)≤4096)=decide (D.length≤4096):=by congr 1;exact propext ⟨by omega,by omega⟩
  rw[z1,z2];unfold kS
  cases v1:(decide (N.length≤4096)&&decide (xX N)) with
  | false =>
   rw[v1]at c1;refine⟨[.arr [[.bool neg,.sl (zD .u32 N) false,.sl (zD .u32 D) false]] none false],?_⟩;simp only[bB];((repeat((conv=>lhs;whnf);simp only[go_sem,simprocAttr,c1]));try rfl)
  | true =>
   rw[v1]at c1
   cases v2:(decide (D.length≤4096)&&decide (xX D)) with
   | false =>
    rw[v2]at c2;refine⟨[.arr [[.bool neg,.sl (zD .u32 N) false,.sl (zD .u32 D) false]] none false],?_⟩;simp only[bC,bB];((repeat((conv=>lhs;whnf);simp only[go_sem,simprocAttr,c1,c2]));try rfl)
   | true =>
    rw[v2]at c2;by_cases d0:D.length=0
    ·have d0':(D.length:Int)=0:=by omega
     refine⟨[.arr [[.bool neg,.sl (zD .u32 N) false,.sl (zD .u32 D) false]] none false],?_⟩;simp only[d0,decide_true,bS,bQ,bB];((repeat((conv=>lhs;whnf);simp only[go_sem,simprocAttr,c1,c2,d0,d0']));try rfl)
    ·have d0' : ¬(D.length:Int)=0:=by omega
     simp only[d0,decide_false,bJ,pD,bC];by_cases n0:N.length=0
     ·have n0':(N.length:Int)=0:=by omega
      rw[bA n0];refine⟨[.arr [[.bool neg,.sl (zD .u32 N) false,.sl (zD .u32 D) false]] none false],?_⟩;cases neg with
      | true =>
       simp only[bS,bB];((repeat((conv=>lhs;whnf);simp only[go_sem,simprocAttr,c1,c2,d0,d0',n0,n0']));try rfl)
      | false =>
       simp only[bJ,bC];by_cases d1:D.length=1
       ·have d1':(D.length:Int)=1:=by omega
        have x0:0≤(0:Int)∧(0:Int)<(D.length:Int):=⟨by omega,by omega⟩;have e:=Zx d1;by_cases g1:D.getD 0 0=1
        ·rw[bG (e.2 g1)];((repeat((conv=>lhs;whnf);simp only[go_sem,simprocAttr,c1,c2,d0,d0',n0,n0',d1,d1',x0,sD,g1]));try rfl)
        ·rw[bH (fun h=>g1 (e.1 h))];((repeat((conv=>lhs;whnf);simp only[go_sem,simprocAttr,c1,c2,d0,d0',n0,n0',d1,d1',x0,sD,g1]));try rfl)
       ·have d1' : ¬(D.length:Int)=1:=by omega
        have e : ¬D=[1]:=fun h=>d1 (by rw[h];rfl);rw[bH e];((repeat((conv=>lhs;whnf);simp only[go_sem,simprocAttr,c1,c2,d0,d0',n0,n0',d1,d1']));try rfl)
     ·have n0' : ¬(N.length:Int)=0:=by omega
      rw[hZ n0];have v1':=v1;have v2':=v2;simp only[bO,pA]at v1' v2';have wN:=v1'.2.words hN;have wD:=v2'.2.words hD;have lN:(words (nv N)).length≤4096:=by rw[←wN];exact v1'.1
      have lD:(words (nv D)).length≤4096:=by rw[←wD];exact v2'.1
      have o1:=zAt (yH.of (nv N)) (by omega);have o2:=zAt (yH.of (nv D)) (by omega);have k1:(dec (nv N)).length≤12288:=Z5 lN;have k2:(dec (nv D)).length≤12288:=Z5 lD;obtain⟨g,ig,cg⟩:=zHU (zq.of (nv N)) (zq.of (nv D)) (by omega) (by omega);have hgl:(dec (Nat.gcd (nv N) (nv D))).length≤12288:=by
       have hn0:nv N≠0:=fun e=>n0 (by rw[wN,e];exact xC.2 rfl);exact bP (kD (BX (by omega) (Nat.gcd_dvd_left _ _))) k1
      have hc0:callL Tryz.prog zE 149 [g,zs 1]=some (.int .i64 (xi (Nat.gcd (nv N) (nv D)) 1)):=by
       obtain⟨eg,rfl,_⟩:=ig.form;exact K3 _ 1 eg false (by omega) (by rw[zFh];decide)
      rw[K9]at hc0;have hS : ∃S0:zB,S0=[.arr [[.bool neg,.sl (zD .u32 N) false,.sl (zD .u32 D) false]] none false,.arr [[.int .i64 1]] (some (some 1)) false]:=⟨_,rfl⟩;obtain⟨S0,hS0⟩:=hS;have cc:=KX (S:=S0) (l:=[g,.msl 1 0 1 true]) (ids:=[1]) hc0 (by
       have h2:=ig.plain.2 S0;have hf:=uJ (S:=S0) (id:=1) (n:=1) (k:=.i64) (L:=[1]) (ex:=true) (by rw[hS0];rfl) rfl;simp only[xY,h2,bI,hf,pE];rfl) (by
       have h2:=ig.plain.1;simp only[BF,List.flatMap_nil,h2];rw[hS0];rfl) (by rw[hS0];rfl)
      rw[hS0]at cc;unfold yL at o1 o2;rw[←wN]at o1;rw[←wD]at o2;refine⟨[.arr [[.bool neg,.sl (zD .u32 N) false,.sl (zD .u32 D) false]] none false,.arr [[.int .i64 1]] (some (some 1)) true],?_⟩;have e:decide (Nat.gcd (nv N) (nv D)=1)=decide (xi (Nat.gcd (nv N) (nv D)) 1=0):=by
       congr 1
       refine propext ⟨fun h=>by rw[h];rfl,fun h=>?_⟩;unfold xi at h
       split at h
       ·omega
       ·split at h <;> omega
      rw[e];((repeat((conv=>lhs;whnf);simp only[go_sem,simprocAttr,c1,c2,d0,d0',n0,n0',o1,o2,cg,cc]));try rfl)
 obtain⟨S,h⟩:=hr;exact FX.callL (r:=(.bool (ub neg N D 4096),S)) ok111_ 1000 rfl rfl h rfl
end
end Go.Vs
end
section
set_option maxRecDepth 100000
namespace Go.Vs
open Go Go.Proofs
@[go_sem] theorem zMn (ti:TI) (a b:ByteArray):xN .gtr ti (.str a) (.str b)=some (.bool (!(Op.bytesLess a.toList b.toList||a.toList == b.toList))):=nr rfl
@[go_sem] theorem zMo (ti:TI) (a b:ByteArray):xN .geq ti (.str a) (.str b)=some (.bool (!(Op.bytesLess a.toList b.toList))):=nr rfl
def wT (c:Int):Bool:=(decide (97≤c)&&decide (c≤122))||(decide (65≤c)&&decide (c≤90))
section
attribute [local irreducible] Vs.callL Vs.callRL tyi zO zl zf zR zW za zI zY zA zK zb zV zG zJ zU zn yI zm zL ze Vs.gc zH
noncomputable def zOn:FX:=⟨Tryz.f146,zE.of 146,[]⟩
instance ok146_:zOn.ok 146:=FX.mk'
theorem zD4 (c:Int):callL Tryz.prog zE 146 [.int .u8 c]=some (.bool (wT c)):=by
 refine FX.callL (r:=(.bool (wT c),[])) ok146_ 1000 rfl rfl ?_ rfl;unfold wT;by_cases h1:97≤c <;> by_cases h2:c≤122 <;> by_cases h3:65≤c <;> by_cases h4:c≤90 <;>
  (simp only[h1,h2,h3,h4,decide_true,decide_false,bC,bB,pD,bQ,sM,pJ,pI,bW];((repeat((conv=>lhs;whnf);simp only[go_sem,simprocAttr,h1,h2,h3,h4]));try rfl))
noncomputable def zOo:FX:=⟨Tryz.f118,zE.of 118,[]⟩
instance ok118_:zOo.ok 118:=FX.mk'
theorem zAv (c:Int):callL Tryz.prog zE 118 [.int .u8 c]=some (.bool (wT c)):=by
 refine FX.callL (r:=(.bool (wT c),[])) ok118_ 1000 rfl rfl ?_ rfl;unfold wT;by_cases h1:97≤c <;> by_cases h2:c≤122 <;> by_cases h3:65≤c <;> by_cases h4:c≤90 <;>
  (simp only[h1,h2,h3,h4,decide_true,decide_false,bC,bB,pD,bQ,sM,pJ,pI,bW];((repeat((conv=>lhs;whnf);simp only[go_sem,simprocAttr,h1,h2,h3,h4]));try rfl))
theorem Z7 (S:zB) (c:Int):zO (callL Tryz.prog zE) S 146 [.int .u8 c]=some {v:=.bool (wT c)} := zF (zD4 c) (by simp[zh.int])
theorem Z8 (S:zB) (c:Int):zO (callL Tryz.prog zE) S 118 [.int .u8 c]=some {v:=.bool (wT c)} := zF (zAv c) (by simp[zh.int])
def U9 (c:Int):Bool:=wT c||(decide (48≤c)&&decide (c≤57))
def YD (s:ByteArray):Nat→Nat→Bool
 | 0,i=>true
 | m+1,i=>U9 (xf s i)&&YD s m (i+1)
def kw1 (s:ByteArray):Bool:=s.toList == (⟨#[116,114,117,101]⟩:ByteArray).toList
def kw2 (s:ByteArray):Bool:=s.toList == (⟨#[102,97,108,115,101]⟩:ByteArray).toList
def kw3 (s:ByteArray):Bool:=s.toList == (⟨#[102,111,114,97,108,108]⟩:ByteArray).toList
def kw4 (s:ByteArray):Bool:=s.toList == (⟨#[101,120,105,115,116,115]⟩:ByteArray).toList
def Ua (s:ByteArray):Bool:=kw1 s||kw2 s||kw3 s||kw4 s
def yP (s:ByteArray):Bool:=decide (0<s.size)&&decide (s.size≤12)&&wT (xf s 0)&&YD s s.size 0 && !Ua s
noncomputable def zKh:FX:=⟨Tryz.f108,zE.of 108,[]⟩
instance ok108_:zKh.ok 108:=FX.mk'
theorem zI2 (s:ByteArray) (hs:s.size≤12) : ∀(m i:Nat),i+m=s.size→zS 0 zKh 0 116 0 [.blk 0,.seq 0 15] [(0,.str s),(3,.int .i64 i)] []=some (.bool (YD s m i && !Ua s),[]):=by
 intro m
 induction m with
 | zero =>
  intro i hi;have h1 : ¬(i:Int)<(s.size:Int):=by omega
  apply zC;(repeat((conv=>lhs;whnf);simp only[go_sem,simprocAttr,h1]));apply zN;simp only[YD,bC,Ua]
  cases k1:kw1 s <;> cases k2:kw2 s <;> cases k3:kw3 s <;> cases k4:kw4 s <;>
   (unfold kw1 kw2 kw3 kw4 at *;simp only[sM,pJ,pI,bW,bS,bJ];((repeat((conv=>lhs;whnf);simp only[go_sem,simprocAttr,k1,k2,k3,k4]));try rfl))
 | succ m ih =>
  intro i hi;have h1:(i:Int)<(s.size:Int):=by omega
  have h2:=zg (i:=i) (n:=s.size) (by omega) (by unfold maxLen;omega);have h4:0≤(i:Int)∧(i:Int)<(s.size:Int):=⟨by omega,h1⟩;have key:=ih (i+1) (by omega);apply zC;simp only[YD,U9]
  cases hl:wT (xf s i)
  ·by_cases c1:xf s i<48
   ·have c1' : ¬ 48≤xf s i:=by omega
    simp only[c1',decide_false,bB,sO];((repeat((conv=>lhs;whnf);simp only[go_sem,simprocAttr,h1,h2,h4,Z7,hl,bD,c1]));try rfl)
   ·have c1':48≤xf s i:=by omega
    by_cases c2:57<xf s i
    ·have c2' : ¬xf s i≤57:=by omega
     simp only[c1',c2',decide_true,decide_false,bC,sO,bB];((repeat((conv=>lhs;whnf);simp only[go_sem,simprocAttr,h1,h2,h4,Z7,hl,bD,c1,c2]));try rfl)
    ·have c2':xf s i≤57:=by omega
     simp only[c1',c2',decide_true,bC,sM,sC];(repeat((conv=>lhs;whnf);simp only[go_sem,simprocAttr,h1,h2,h4,Z7,hl,bD,c1,c2]));exact key
  ·simp only[pI,bC];(repeat((conv=>lhs;whnf);simp only[go_sem,simprocAttr,h1,h2,h4,Z7,hl,bD]));exact key
theorem zI3 (s:ByteArray):callL Tryz.prog zE 108 [.str s]=some (.bool (yP s)):=by
 refine FX.callL (r:=(.bool (yP s),[])) ok108_ 1000 rfl rfl ?_ rfl;unfold yP;by_cases h0:s.size=0
 ·simp only[h0,Nat.lt_irrefl,decide_false,bB];((repeat((conv=>lhs;whnf);simp only[go_sem,simprocAttr,h0]));try rfl)
 ·have h0':0<s.size:=by omega
  have h5 : ¬(s.size:Int)=0:=by omega
  have h6:(0:Int)<(s.size:Int):=by omega
  by_cases h1:s.size≤12
  ·have h4 : ¬(12:Int)<(s.size:Int):=by omega
   have key:=zI2 s h1 s.size 0 (by omega);simp only[h0',h1,decide_true,bC]
   cases hl:wT (xf s 0)
   ·simp only[bB];((repeat((conv=>lhs;whnf);simp only[go_sem,simprocAttr,h5,h4,h6,Z7,hl,sD]));try rfl)
   ·simp only[bC];(repeat((conv=>lhs;whnf);simp only[go_sem,simprocAttr,h5,h4,h6,Z7,hl,sD]));exact key
  ·have h4:(12:Int)<(s.size:Int):=by omega
   simp only[h0',h1,decide_true,decide_false,bC,bB];((repeat((conv=>lhs;whnf);simp only[go_sem,simprocAttr,h5,h4]));try rfl)
def qt (s:ByteArray):Nat→Nat→Bool
 | 0,i=>true
 | m+1,i=>(wT (xf s i)||(decide (i≠0)&&(decide (48≤xf s i)&&decide (xf s i≤57))))&&qt s m (i+1)
theorem Kc (s:ByteArray) : ∀(m i:Nat),i≠0→qt s m i=YD s m i
 | 0,i,h=>rfl
 | m+1,i,h=>by simp only[YD,qt,h,Kc s m (i+1) (by omega),U9,ne_eq,not_false_eq_true,decide_true,bC]
noncomputable def zN9:FX:=⟨Tryz.f71,zE.of 71,[]⟩
instance ok71_:zN9.ok 71:=FX.mk'
theorem zFl (s:ByteArray) (hs:s.size≤12) : ∀(m i:Nat),i+m=s.size→zS 0 zN9 0 116 0 [.blk 0,.seq 0 15] [(0,.str s),(3,.int .i64 i)] []=some (.bool (qt s m i),[]):=by
 intro m
 induction m with
 | zero =>
  intro i hi;have h1 : ¬(i:Int)<(s.size:Int):=by omega
  apply zC;(repeat((conv=>lhs;whnf);simp only[go_sem,simprocAttr,h1]));apply zN;simp only[qt];((repeat((conv=>lhs;whnf);simp only[go_sem,simprocAttr]));try rfl)
 | succ m ih =>
  intro i hi;have h1:(i:Int)<(s.size:Int):=by omega
  have h2:=zg (i:=i) (n:=s.size) (by omega) (by unfold maxLen;omega);have h4:0≤(i:Int)∧(i:Int)<(s.size:Int):=⟨by omega,h1⟩;have key:=ih (i+1) (by omega);apply zC;simp only[qt]
  cases hl:wT (xf s i)
  ·by_cases c0:i=0
   ·have c0':(i:Int)=0:=by omega
    simp only[c0,ne_eq,not_true,decide_false,bB,sO];simp only[c0,ST]at h1 h4 hl c0' ⊢;((repeat((conv=>lhs;whnf);simp only[go_sem,simprocAttr,h1,h4,Z8,hl,sD]));try rfl)
   ·have c0' : ¬(i:Int)=0:=by omega
    by_cases c1:xf s i<48
    ·have c1' : ¬ 48≤xf s i:=by omega
     simp only[c0,c1',ne_eq,not_false_eq_true,decide_true,bC,decide_false,bB,sO];((repeat((conv=>lhs;whnf);simp only[go_sem,simprocAttr,h1,h2,h4,Z8,hl,bD,c0',c1]));try rfl)
    ·have c1':48≤xf s i:=by omega
     by_cases c2:57<xf s i
     ·have c2' : ¬xf s i≤57:=by omega
      simp only[c0,c1',c2',ne_eq,not_false_eq_true,decide_true,decide_false,bC,sO,bB];((repeat((conv=>lhs;whnf);simp only[go_sem,simprocAttr,h1,h2,h4,Z8,hl,bD,c0',c1,c2]));try rfl)
     ·have c2':xf s i≤57:=by omega
      simp only[c0,c1',c2',ne_eq,not_false_eq_true,decide_true,bC,sM,sC];(repeat((conv=>lhs;whnf);simp only[go_sem,simprocAttr,h1,h2,h4,Z8,hl,bD,c0',c1,c2]));exact key
  ·simp only[pI,bC];(repeat((conv=>lhs;whnf);simp only[go_sem,simprocAttr,h1,h2,h4,Z8,hl,bD]));exact key
theorem zFm (s:ByteArray):callL Tryz.prog zE 71 [.str s]=some (.bool (yP s)):=by
 refine FX.callL (r:=(.bool (yP s),[])) ok71_ 1000 rfl rfl ?_ rfl;unfold yP;by_cases h0:s.size=0
 ·simp only[h0,Nat.lt_irrefl,decide_false,bB];((repeat((conv=>lhs;whnf);simp only[go_sem,simprocAttr,h0]));try rfl)
 ·have h0':0<s.size:=by omega
  have h5 : ¬(s.size:Int)=0:=by omega
  by_cases h1:s.size≤12
  ·have h4 : ¬(12:Int)<(s.size:Int):=by omega
   have key:=zFl s h1 s.size 0 (by omega);obtain⟨m,hm⟩ : ∃m,s.size=m+1:=⟨s.size-1,by omega⟩;have h7:qt s s.size 0=(wT (xf s 0)&&YD s s.size 0):=by
    rw[hm];simp only[qt,YD,U9,Kc s m (0+1) (by omega)]
    cases wT (xf s 0) <;> simp
   simp only[h0',h1,decide_true,bC];rw[h7]at key
   cases k1:kw1 s <;> cases k2:kw2 s <;> cases k3:kw3 s <;> cases k4:kw4 s <;>
    (simp only[Ua,k1,k2,k3,k4,sM,pJ,pI,bW,bS,bJ,pD,bQ];unfold kw1 kw2 kw3 kw4 at *;((repeat((conv=>lhs;whnf);simp only[go_sem,simprocAttr,h5,h4,k1,k2,k3,k4]));try rfl);try exact key)
  ·have h4:(12:Int)<(s.size:Int):=by omega
   simp only[h0',h1,decide_true,decide_false,bC,bB];((repeat((conv=>lhs;whnf);simp only[go_sem,simprocAttr,h5,h4]));try rfl)
theorem yK (S:zB) (s:ByteArray):zO (callL Tryz.prog zE) S 71 [.str s]=some {v:=.bool (yP s)} := zF (zFm s) (by simp[zh.str])
theorem xG (S:zB) (s:ByteArray):zO (callL Tryz.prog zE) S 108 [.str s]=some {v:=.bool (yP s)} := zF (zI3 s) (by simp[zh.str])
end
end Go.Vs
end
section
set_option maxRecDepth 100000
namespace Go.Vs
open Go Go.Proofs
theorem Qi (S:zB) (s:ByteArray) (n:Nat) (h:n≤s.size):zY Tryz.prog 9 S (.str s) none (some (.int .i64 (n:Int))) none=some (.str (s.extract 0 n)):=by
 have b:ww s.size (some (.int .i64 (n:Int)))=some n:=by simp[ww]
 have b0:ww 0 none=some 0:=rfl;have k:ui (tyi Tryz.prog 9)=false:=by kernel_rfl
 simp[zY,zHI,kb,b,b0,h,k]
def primed (s:ByteArray):Bool:=decide (0<s.size)&&decide (xf s (s.size-1)=39)
def YP (s:ByteArray):Bool:=yP (if primed s=true then s.extract 0 (s.size-1) else s)
section
attribute [local irreducible] Vs.callL Vs.callRL tyi zO zl zf zR zW za zI zY zA zK zb zV zG zJ zU zn yI zm zL ze Vs.gc zH
noncomputable def zRD:FX:=⟨Tryz.f58,zE.of 58,[]⟩
instance ok58_:zRD.ok 58:=FX.mk'
theorem J8 (s:ByteArray) (hs:s.size≤maxLen):callL Tryz.prog zE 58 [.str s]=some (.bool (YP s)):=by
 refine FX.callL (r:=(.bool (YP s),[])) ok58_ 1000 rfl rfl ?_ rfl;have hM:=xV;unfold YP primed;by_cases h0:0<s.size
 ·have h1:(0:Int)<(s.size:Int):=by omega
  have w1:IntKind.i64.wrap ((s.size:Int)-1)=((s.size-1:Nat):Int):=by rw[bE];omega
  have x1:0≤((s.size-1:Nat):Int)∧((s.size-1:Nat):Int)<s.size:=⟨by omega,by omega⟩;have sl:=fun S=>Qi S s (s.size-1) (by omega);by_cases h2:xf s (s.size-1)=39
  ·simp only[h0,h2,decide_true,sC,if_true];((repeat((conv=>lhs;whnf);simp only[go_sem,simprocAttr,h1,w1,x1,h2,sl,bD,xG]));try rfl)
  ·simp only[h0,h2,decide_true,decide_false,bQ,bY,if_false];((repeat((conv=>lhs;whnf);simp only[go_sem,simprocAttr,h1,w1,x1,h2,bD,xG]));try rfl)
 ·have h1 : ¬(0:Int)<(s.size:Int):=by omega
  simp only[h0,decide_false,bB,bY,if_false];((repeat((conv=>lhs;whnf);simp only[go_sem,simprocAttr,h1,xG]));try rfl)
noncomputable def zRE:FX:=⟨Tryz.f29,zE.of 29,[]⟩
instance ok29_:zRE.ok 29:=FX.mk'
theorem J9 (s:ByteArray) (hs:s.size≤maxLen):callL Tryz.prog zE 29 [.str s]=some (.bool (YP s)):=by
 refine FX.callL (r:=(.bool (YP s),[])) ok29_ 1000 rfl rfl ?_ rfl;have hM:=xV;unfold YP primed;by_cases h0:0<s.size
 ·have h1:(0:Int)<(s.size:Int):=by omega
  have w1:IntKind.i64.wrap ((s.size:Int)-1)=((s.size-1:Nat):Int):=by rw[bE];omega
  have x1:0≤((s.size-1:Nat):Int)∧((s.size-1:Nat):Int)<s.size:=⟨by omega,by omega⟩;have sl:=fun S=>Qi S s (s.size-1) (by omega);by_cases h2:xf s (s.size-1)=39
  ·simp only[h0,h2,decide_true,sC,if_true];((repeat((conv=>lhs;whnf);simp only[go_sem,simprocAttr,h1,w1,x1,h2,sl,bD,yK]));try rfl)
  ·simp only[h0,h2,decide_true,decide_false,bQ,bY,if_false];((repeat((conv=>lhs;whnf);simp only[go_sem,simprocAttr,h1,w1,x1,h2,bD,yK]));try rfl)
 ·have h1 : ¬(0:Int)<(s.size:Int):=by omega
  simp only[h0,decide_false,bB,bY,if_false];((repeat((conv=>lhs;whnf);simp only[go_sem,simprocAttr,h1,yK]));try rfl)
theorem zRF (S:zB) (s:ByteArray) (hs:s.size≤maxLen):zO (callL Tryz.prog zE) S 58 [.str s]=some {v:=.bool (YP s)} := zF (J8 s hs) (by simp[zh.str])
theorem zRG (S:zB) (s:ByteArray) (hs:s.size≤maxLen):zO (callL Tryz.prog zE) S 29 [.str s]=some {v:=.bool (YP s)} := zF (J9 s hs) (by simp[zh.str])
end
end Go.Vs
end
section
set_option maxRecDepth 100000
namespace Go.Vs
open Go Go.Proofs
structure RV where
 neg:Bool
 num:List Int
 den:List Int
def RV.cells (v:RV):List PV:=[.bool v.neg,.sl (zD .u32 v.num) false,.sl (zD .u32 v.den) false]
structure RV.ok (v:RV):Prop where
 n:OkD WB v.num
 d:OkD WB v.den
 ln:v.num.length≤maxLen
 ld:v.den.length≤maxLen
structure Bd where
 name:ByteArray
 val:RV
def Bd.cells (b:Bd):List PV:=[.str b.name,.bool b.val.neg,.sl (zD .u32 b.val.num) false,.sl (zD .u32 b.val.den) false]
structure Bd.ok (b:Bd):Prop where
 s:b.name.size≤maxLen
 v:b.val.ok
def bd0:Bd:=⟨⟨#[]⟩,⟨false,[],[]⟩⟩
def yW (L:List Bd):List (List PV):=L.map Bd.cells
@[go_sem] theorem zMH (L:List Bd):(yW L).length=L.length:=nr (by simp[yW])
theorem Xy:(tyi Tryz.prog 98).d=.struct [(0,1,false),(1,3,true)]:=by kernel_rfl
@[go_sem] theorem zI4:(tyi Tryz.prog 98).size=4:=nr (by kernel_rfl)
@[go_sem] theorem zFn:(tyi Tryz.prog 98).known=true:=nr (by kernel_rfl)
@[go_sem] theorem zI5:(tyi Tryz.prog 98).zero=some [.str ⟨#[]⟩,.bool false,.sl [] true,.sl [] true]:=nr (by kernel_rfl)
@[go_sem] theorem zOp (n:Nat):zU (tyi Tryz.prog 98) n=some {v:=.mp n 0 0,new:=some ([[.str ⟨#[]⟩,.bool false,.sl [] true,.sl [] true]],none)} := nr (by unfold zU;rw[zI5];rfl)
@[go_sem] theorem zPo (id i off:Nat):zA (tyi Tryz.prog 98) 0 (.mp id i off)=some (.mp id i (off+0)):=by simp[zA,Xy]
@[go_sem] theorem zPp (r:List PV):zA (tyi Tryz.prog 98) 0 (.cp r)=some (.cp (r.drop 0)):=by simp[zA,Xy]
@[go_sem] theorem zPq (cs:List PV):zK (tyi Tryz.prog 98) 0 (.agg cs)=cs[0]? := by simp[zK,Xy]
@[go_sem] theorem zPr (id i off:Nat):zA (tyi Tryz.prog 98) 1 (.mp id i off)=some (.mp id i (off+1)):=by simp[zA,Xy]
@[go_sem] theorem zPs (r:List PV):zA (tyi Tryz.prog 98) 1 (.cp r)=some (.cp (r.drop 1)):=by simp[zA,Xy]
@[go_sem] theorem zPt (cs:List PV):zK (tyi Tryz.prog 98) 1 (.agg cs)=if 1+3≤cs.length then some (.agg ((cs.drop 1).take 3)) else none:=by simp[zK,Xy]
theorem zKi:SlT 35 98 4 72:=⟨by kernel_rfl,by kernel_rfl,by kernel_rfl,by kernel_rfl,by kernel_rfl⟩
@[go_sem] theorem zOq (r:List (List PV)) (ex:Bool):yI (tyi Tryz.prog 35) (.sl r ex)=some (.int .i64 r.length):=nr (zKi.len r ex)
@[go_sem] theorem zTs (S:zB) (L:List Bd) (ex:Bool) (i:Int):zI Tryz.prog 35 S (.sl (yW L) ex) (.int .i64 i)=if 0≤i∧i<L.length then some (.cp (L.getD i.toNat bd0).cells) else none:=nr (zKi.idx (fun _=>rfl) bd0 S L ex i)
@[go_sem] theorem zRH (v:PV) (r:List PV):part (tyi Tryz.prog 9) (v::r)=some v:=by
 have e:(tyi Tryz.prog 9).isAgg=false:=by kernel_rfl
 simp[part,zO4,e]
@[go_sem] theorem zSw (v:PV) (r:List PV):part (tyi Tryz.prog 35) (v::r)=some v:=by
 have e:(tyi Tryz.prog 35).isAgg=false:=by kernel_rfl
 have k:(tyi Tryz.prog 35).known=true:=by kernel_rfl
 simp[part,k,e]
@[go_sem] theorem zSx (v:PV) (r:List PV):part (tyi Tryz.prog 45) (v::r)=some v:=by
 have e:(tyi Tryz.prog 45).isAgg=false:=by kernel_rfl
 have k:(tyi Tryz.prog 45).known=true:=by kernel_rfl
 simp[part,k,e]
@[go_sem] theorem zSy:(tyi Tryz.prog 35).size=1:=nr (by kernel_rfl)
theorem Kd:(tyi Tryz.prog 47).d=.struct [(0,1,false),(1,1,false)]:=by kernel_rfl
@[go_sem] theorem zKj:(tyi Tryz.prog 47).size=2:=nr (by kernel_rfl)
@[go_sem] theorem zI6:(tyi Tryz.prog 47).known=true:=nr (by kernel_rfl)
@[go_sem] theorem zRI (id i off:Nat):zA (tyi Tryz.prog 47) 0 (.mp id i off)=some (.mp id i (off+0)):=by simp[zA,Kd]
@[go_sem] theorem zRJ (r:List PV):zA (tyi Tryz.prog 47) 0 (.cp r)=some (.cp (r.drop 0)):=by simp[zA,Kd]
@[go_sem] theorem zRK (cs:List PV):zK (tyi Tryz.prog 47) 0 (.agg cs)=cs[0]? := by simp[zK,Kd]
@[go_sem] theorem zRL (id i off:Nat):zA (tyi Tryz.prog 47) 1 (.mp id i off)=some (.mp id i (off+1)):=by simp[zA,Kd]
@[go_sem] theorem zRM (r:List PV):zA (tyi Tryz.prog 47) 1 (.cp r)=some (.cp (r.drop 1)):=by simp[zA,Kd]
@[go_sem] theorem zRN (cs:List PV):zK (tyi Tryz.prog 47) 1 (.agg cs)=cs[1]? := by simp[zK,Kd]
@[go_sem] theorem zRO (a b:PV) (r:List PV):part (tyi Tryz.prog 47) (a::b::r)=some (.agg [a,b]):=by simp[part,zI6,TI.isAgg,Kd,zKj]
@[go_sem] theorem zPu (a b c d:PV) (r:List PV):part (tyi Tryz.prog 98) (a::b::c::d::r)=some (.agg [a,b,c,d]):=by simp[part,zFn,TI.isAgg,Xy,zI4]
def RV.fit (v:RV):Bool:=decide (v.num.length≤400)&&decide (v.den.length≤400)&&ub v.neg v.num v.den 4096
section
attribute [local irreducible] Vs.callL Vs.callRL tyi zO zl zf zR zW za zI zY zA zK zb zV zG zJ zU zn yI zm zL ze Vs.gc zH
noncomputable def zRP:FX:=⟨Tryz.f61,zE.of 61,[]⟩
instance ok61_:zRP.ok 61:=FX.mk'
theorem zI7 (v:RV) (h:v.ok):callL Tryz.prog zE 61 [.agg v.cells,.int .i64 400]=some (.bool v.fit):=by
 have hM:=xV;have h1:=h.ln;have h2:=h.ld;have cv:=fun S=>zF (S:=S) (Yi v.neg v.num v.den h.n h.d (by omega) (by omega)) (by simp;exact jY _ _ _);unfold kS at cv;refine FX.callL (r:=(.bool v.fit,[.arr [[.bool v.neg,.sl (zD .u32 v.num) false,.sl (zD .u32 v.den) false]] none false])) ok61_ 1000 rfl rfl ?_ rfl;unfold RV.fit RV.cells;by_cases c1:v.num.length≤400
 ·have c1':(v.num.length:Int)≤400:=by omega
  by_cases c2:v.den.length≤400
  ·have c2':(v.den.length:Int)≤400:=by omega
   simp only[c1,c2,decide_true,bC];((repeat((conv=>lhs;whnf);simp only[go_sem,simprocAttr,c1',c2',cv]));try rfl)
  ·have c2' : ¬(v.den.length:Int)≤400:=by omega
   simp only[c1,c2,decide_true,decide_false,bC,bB];((repeat((conv=>lhs;whnf);simp only[go_sem,simprocAttr,c1',c2',cv]));try rfl)
 ·have c1' : ¬(v.num.length:Int)≤400:=by omega
  simp only[c1,decide_false,bB];((repeat((conv=>lhs;whnf);simp only[go_sem,simprocAttr,c1']));try rfl)
noncomputable def zRQ:FX:=⟨Tryz.f64,zE.of 64,[]⟩
instance ok64_:zRQ.ok 64:=FX.mk'
theorem zAw (v:RV) (h:v.ok):callL Tryz.prog zE 64 [.agg v.cells,.int .i64 400]=some (.bool v.fit):=by
 have hM:=xV;have h1:=h.ln;have h2:=h.ld;have cv:=fun S=>zF (S:=S) (J7 v.neg v.num v.den h.n h.d (by omega) (by omega)) (by simp;exact jY _ _ _);unfold kS at cv;refine FX.callL (r:=(.bool v.fit,[.arr [[.bool v.neg,.sl (zD .u32 v.num) false,.sl (zD .u32 v.den) false]] none false])) ok64_ 1000 rfl rfl ?_ rfl;unfold RV.fit RV.cells
 cases cb:ub v.neg v.num v.den 4096
 ·rw[cb]at cv;simp only[bQ];((repeat((conv=>lhs;whnf);simp only[go_sem,simprocAttr,cv]));try rfl)
 ·rw[cb]at cv;by_cases c1:v.num.length≤400
  ·have c1':(v.num.length:Int)≤400:=by omega
   by_cases c2:v.den.length≤400
   ·have c2':(v.den.length:Int)≤400:=by omega
    simp only[c1,c2,decide_true,bC];((repeat((conv=>lhs;whnf);simp only[go_sem,simprocAttr,c1',c2',cv]));try rfl)
   ·have c2' : ¬(v.den.length:Int)≤400:=by omega
    simp only[c1,c2,decide_true,decide_false,bC,bB];((repeat((conv=>lhs;whnf);simp only[go_sem,simprocAttr,c1',c2',cv]));try rfl)
  ·have c1' : ¬(v.num.length:Int)≤400:=by omega
   simp only[c1,decide_false,bB];((repeat((conv=>lhs;whnf);simp only[go_sem,simprocAttr,c1',cv]));try rfl)
theorem jA (v:RV):zh (.agg v.cells):=jY _ _ _
theorem zOr (S:zB) (v:RV) (h:v.ok):zO (callL Tryz.prog zE) S 61 [.agg v.cells,.int .i64 400]=some {v:=.bool v.fit} := zF (zI7 v h) (by simp[zh.int];exact jA v)
theorem zI8 (S:zB) (v:RV) (h:v.ok):zO (callL Tryz.prog zE) S 64 [.agg v.cells,.int .i64 400]=some {v:=.bool v.fit} := zF (zAw v h) (by simp[zh.int];exact jA v)
end
end Go.Vs
end
section
set_option maxRecDepth 100000
namespace Go.Vs
open Go Go.Proofs
inductive Node where
 | mk (op:Int) (name:ByteArray) (neg:Bool) (num den:List Int) (kids:List Node)
namespace Node
def op:Node→Int | mk a _ _ _ _ _=>a
def name:Node→ByteArray | mk _ a _ _ _ _=>a
def neg:Node→Bool | mk _ _ a _ _ _=>a
def num:Node→List Int | mk _ _ _ a _ _=>a
def den:Node→List Int | mk _ _ _ _ a _=>a
def kids:Node→List Node | mk _ _ _ _ _ a=>a
def val (n:Node):RV:=⟨n.neg,n.num,n.den⟩
end Node
def nd0:Node:=.mk 0 ⟨#[]⟩ false [] [] []
instance:Inhabited Node:=⟨nd0⟩
mutual
def Node.cells:Node→List PV
 | .mk a b c d e f=>[.int .i64 a,.str b,.bool c,.sl (zD .u32 d) false,.sl (zD .u32 e) false,.sl (Node.rows f) false]
def Node.rows:List Node→List (List PV)
 | []=>[]
 | n::r=>n.cells::Node.rows r
end
mutual
def Node.ok:Node→Prop
 | .mk a b c d e f=>(-9223372036854775808≤a∧a≤9223372036854775807)∧b.size≤maxLen∧(RV.mk c d e).ok∧f.length≤maxLen∧Node.oks f
def Node.oks:List Node→Prop
 | []=>True
 | n::r=>n.ok∧Node.oks r
end
theorem Node.oks_iff : ∀ {l:List Node},Node.oks l↔∀n∈l,n.ok
 | []=>by simp[Node.oks]
 | n::r=>by simp[Node.oks,Node.oks_iff (l:=r)]
theorem Node.ind' {P:Node→Prop} (h : ∀n,(∀k∈n.kids,P k)→P n) (n:Node):P n :=
 Node.rec (motive_1:=P) (motive_2:=fun l=>∀k∈l,P k) (fun a b c d e f ih=>h (.mk a b c d e f) ih) (by simp)
  (fun n r hn hr k hk=>by
   rcases sW.1 hk with rfl | hk
   ·exact hn
   ·exact hr k hk) n
theorem Node.rows_eq : ∀l,Node.rows l=l.map Node.cells
 | []=>rfl
 | n::r=>by rw[Node.rows,Node.rows_eq r];rfl
theorem Node.cells_eq (n:Node):n.cells=[.int .i64 n.op,.str n.name,.bool n.neg,.sl (zD .u32 n.num) false,.sl (zD .u32 n.den) false,.sl (Node.rows n.kids) false]:=by cases n;rfl
theorem Node.ok.op {n:Node} (h:n.ok) : -9223372036854775808≤n.op∧n.op≤9223372036854775807:=by cases n;exact h.1
theorem Node.ok.name {n:Node} (h:n.ok):n.name.size≤maxLen:=by cases n;exact h.2.1
theorem Node.ok.val {n:Node} (h:n.ok):n.val.ok:=by cases n;exact h.2.2.1
theorem Node.ok.len {n:Node} (h:n.ok):n.kids.length≤maxLen:=by cases n;exact h.2.2.2.1
theorem Node.ok.kids {n:Node} (h:n.ok) : ∀k∈n.kids,k.ok:=by cases n;exact Node.oks_iff.1 h.2.2.2.2
@[go_sem] theorem Node.cells_length (n:Node):n.cells.length=6:=nr (by cases n;rfl)
@[go_sem] theorem Node.cells_cell (n:Node):n.cells.all PV.cell=true:=nr (by cases n;rfl)
theorem Node.plain (n:Node):zh (.agg n.cells):=by cases n;exact⟨rfl,fun _=>rfl⟩
@[go_sem] theorem Node.fz (S:zB) (n:Node):wy S (.agg n.cells)=some (.agg n.cells):=n.plain.2 S
@[go_sem] theorem Node.refs (n:Node):vK n.cells=[]:=nr (by cases n;rfl)
@[go_sem] theorem Node.rows_length (l:List Node):(Node.rows l).length=l.length:=by rw[Node.rows_eq];simp
@[go_sem] theorem Node.rows_ok (l:List Node):yM 6 (Node.rows l)=true:=by rw[Node.rows_eq];exact zFD (enc:=Node.cells) (fun n=>by cases n;rfl) l
@[go_sem] theorem Node.rows_refs : ∀l:List Node,zT (Node.rows l)=[]
 | []=>rfl
 | n::r=>by
  have:=Node.rows_refs r
  show vK n.cells++zT (Node.rows r)=[]
  rw[this,Node.refs];rfl
theorem YW:(tyi Tryz.prog 30).d=.struct [(0,1,false),(1,1,false),(2,3,true),(5,1,false)]:=by kernel_rfl
@[go_sem] theorem qu:(tyi Tryz.prog 30).size=6:=nr (by kernel_rfl)
@[go_sem] theorem jB:(tyi Tryz.prog 30).known=true:=nr (by kernel_rfl)
@[go_sem] theorem zHY:(tyi Tryz.prog 30).zero=some [.int .i64 0,.str ⟨#[]⟩,.bool false,.sl [] true,.sl [] true,.sl [] true]:=nr (by kernel_rfl)
@[go_sem] theorem zr (n:Nat):zU (tyi Tryz.prog 30) n=some {v:=.mp n 0 0,new:=some ([[.int .i64 0,.str ⟨#[]⟩,.bool false,.sl [] true,.sl [] true,.sl [] true]],none)} := nr (by unfold zU;rw[zHY];rfl)
@[go_sem] theorem zRR (l:List (Nat × PV)):zV Tryz.prog 30 l=(qH [(0,1,false),(1,1,false),(2,3,true),(5,1,false)] [.int .i64 0,.str ⟨#[]⟩,.bool false,.sl [] true,.sl [] true,.sl [] true] l).map .agg:=nr (by unfold zV;rw[YW];dsimp only;unfold zb;rw[YW,zHY];rfl)
@[go_sem] theorem zSz (id i off:Nat):zA (tyi Tryz.prog 30) 0 (.mp id i off)=some (.mp id i (off+0)):=by simp[zA,YW]
@[go_sem] theorem zTA (r:List PV):zA (tyi Tryz.prog 30) 0 (.cp r)=some (.cp (r.drop 0)):=by simp[zA,YW]
@[go_sem] theorem zTB (cs:List PV):zK (tyi Tryz.prog 30) 0 (.agg cs)=cs[0]? := by simp[zK,YW]
@[go_sem] theorem zTC (id i off:Nat):zA (tyi Tryz.prog 30) 1 (.mp id i off)=some (.mp id i (off+1)):=by simp[zA,YW]
@[go_sem] theorem zTD (r:List PV):zA (tyi Tryz.prog 30) 1 (.cp r)=some (.cp (r.drop 1)):=by simp[zA,YW]
@[go_sem] theorem zTE (cs:List PV):zK (tyi Tryz.prog 30) 1 (.agg cs)=cs[1]? := by simp[zK,YW]
@[go_sem] theorem zTF (id i off:Nat):zA (tyi Tryz.prog 30) 2 (.mp id i off)=some (.mp id i (off+2)):=by simp[zA,YW]
@[go_sem] theorem zTG (r:List PV):zA (tyi Tryz.prog 30) 2 (.cp r)=some (.cp (r.drop 2)):=by simp[zA,YW]
@[go_sem] theorem zTH (cs:List PV):zK (tyi Tryz.prog 30) 2 (.agg cs)=if 2+3≤cs.length then some (.agg ((cs.drop 2).take 3)) else none:=by simp[zK,YW]
@[go_sem] theorem zTI (id i off:Nat):zA (tyi Tryz.prog 30) 3 (.mp id i off)=some (.mp id i (off+5)):=by simp[zA,YW]
@[go_sem] theorem zTJ (r:List PV):zA (tyi Tryz.prog 30) 3 (.cp r)=some (.cp (r.drop 5)):=by simp[zA,YW]
@[go_sem] theorem zTK (cs:List PV):zK (tyi Tryz.prog 30) 3 (.agg cs)=cs[5]? := by simp[zK,YW]
theorem vf:SlT 28 30 6 104:=⟨by kernel_rfl,by kernel_rfl,by kernel_rfl,by kernel_rfl,by kernel_rfl⟩
@[go_sem] theorem zMp (r:List (List PV)) (ex:Bool):yI (tyi Tryz.prog 28) (.sl r ex)=some (.int .i64 r.length):=nr (vf.len r ex)
@[go_sem] theorem zKk (i o l:Nat) (ex:Bool):yI (tyi Tryz.prog 28) (.msl i o l ex)=some (.int .i64 l):=nr (vf.lenm i o l ex)
@[go_sem] theorem zTL (S:zB) (l:List Node) (ex:Bool) (i:Int):zI Tryz.prog 28 S (.sl (Node.rows l) ex) (.int .i64 i)=if 0≤i∧i<l.length then some (.cp (l.getD i.toNat nd0).cells) else none:=by
 rw[Node.rows_eq];exact vf.idx (fun n=>by cases n;rfl) nd0 S l ex i
@[go_sem] theorem zRS (v:PV) (r:List PV):part (tyi Tryz.prog 28) (v::r)=some v:=by
 have e:(tyi Tryz.prog 28).isAgg=false:=by kernel_rfl
 have k:(tyi Tryz.prog 28).known=true:=by kernel_rfl
 simp[part,k,e]
@[go_sem] theorem vg:(tyi Tryz.prog 28).size=1:=nr (by kernel_rfl)
@[go_sem] theorem wv:(tyi Tryz.prog 28).known=true:=nr (by kernel_rfl)
@[go_sem] theorem zTM (n:Node):part (tyi Tryz.prog 30) n.cells=some (.agg n.cells):=by cases n;simp[Node.cells,part,jB,TI.isAgg,YW,qu]
@[go_sem] theorem Node.drop1 (n:Node):n.cells.drop 1=[.str n.name,.bool n.neg,.sl (zD .u32 n.num) false,.sl (zD .u32 n.den) false,.sl (Node.rows n.kids) false]:=nr (by cases n;rfl)
@[go_sem] theorem Node.drop2 (n:Node):n.cells.drop 2=[.bool n.neg,.sl (zD .u32 n.num) false,.sl (zD .u32 n.den) false,.sl (Node.rows n.kids) false]:=nr (by cases n;rfl)
@[go_sem] theorem Node.drop3 (n:Node):n.cells.drop 3=[.sl (zD .u32 n.num) false,.sl (zD .u32 n.den) false,.sl (Node.rows n.kids) false]:=nr (by cases n;rfl)
@[go_sem] theorem Node.drop4 (n:Node):n.cells.drop 4=[.sl (zD .u32 n.den) false,.sl (Node.rows n.kids) false]:=nr (by cases n;rfl)
@[go_sem] theorem Node.drop5 (n:Node):n.cells.drop 5=[.sl (Node.rows n.kids) false]:=nr (by cases n;rfl)
@[go_sem] theorem Node.part_int (n:Node):part (tyi Tryz.prog 3) n.cells=some (.int .i64 n.op):=by
 have e:(tyi Tryz.prog 3).isAgg=false:=by kernel_rfl
 cases n;simp[Node.cells,part,KW,e];rfl
@[go_sem] theorem Node.part_rat (n:Node) (r:List PV):part (tyi Tryz.prog 27) (.bool n.neg :: .sl (zD .u32 n.num) false :: .sl (zD .u32 n.den) false::r)=some (.agg n.val.cells):=by
 simp[part,V3,TI.isAgg,kX,KQ,RV.cells,Node.val]
theorem xM {l:List Node} {i:Nat} (h:i<l.length):l.drop i=l.getD i nd0::l.drop (i+1):=by
 rw[PK h];simp[bL,h]
theorem yA {l:List Node} {i:Nat} (h:i<l.length):l.getD i nd0∈l:=by
 simp[bL,h]
theorem uR {f:FuncId} {n:Node} {v:PV} (S:zB) (h:callL Tryz.prog zE f [.agg n.cells]=some v):zO (callL Tryz.prog zE) S f [.agg n.cells]=some {v} := zF h (by simp[Node.plain])
theorem Xz {f:FuncId} {n m:Node} {v:PV} (S:zB) (h:callL Tryz.prog zE f [.agg n.cells,.agg m.cells]=some v):zO (callL Tryz.prog zE) S f [.agg n.cells,.agg m.cells]=some {v} := zF h (by simp[Node.plain])
end Go.Vs
end
