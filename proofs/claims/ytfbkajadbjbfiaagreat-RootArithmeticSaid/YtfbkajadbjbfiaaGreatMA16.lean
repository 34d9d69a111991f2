
import Derived.Test.YtfbkajadbjbfiaaGreatMA15
set_option linter.unusedVariables false
set_option linter.unusedSimpArgs false
set_option maxRecDepth 100000
namespace Go.Vs
open Go Go.Proofs
section
def Zs (q:Rat) (k:Nat):Prop:=(dec q.num.natAbs).length≤k∧(dec q.den).length≤k
theorem Zs.mono {q:Rat} {j k:Nat} (h:Zs q j) (hk:j≤k):Zs q k:=⟨bF h.1 hk,bF h.2 hk⟩
theorem ze.dec {q:Rat} {k:Nat} (h:ze q k):Zs q (3*k):=⟨uf h.1,uf h.2⟩
theorem Zs.words {q:Rat} {k:Nat} (h:Zs q k):ze q k:=⟨WQ h.1,WQ h.2⟩
theorem YG {neg:Bool} {n d:Nat} {va vb:PV} (ha:zU n va) (hb:zU d vb) (hd:d≠0) (hn:(dec n).length≤800000) (hdl:(dec d).length≤800000) (S:zA):zQ (callL Tryz.prog zD) S 73 [.bool neg,va,vb]=some {v:=rrV (mkRat (sg neg n) d)} :=
 zE (S:=S) (VT ha hb hd hn hdl) (by simp[ha.plain,hb.plain,zW.bool])
theorem zDU {m n k:Nat} (hm:(dec m).length≤k) (hn:(dec n).length≤k):(dec (m+n)).length≤k+1:=UT DB2 hm hn
theorem WW {q:Rat} (h:q.num.natAbs=0):zt q=false:=by unfold zt;exact sA (by omega)
section
attribute [local irreducible] Vs.callL Vs.callRL tyi zQ yE zm zV zk zb zK zf zF zT zl zi zJ zL zj yB yO yD zN zh Vs.gc zH
noncomputable def zGd:FX:=⟨Tryz.f43,zD.of 43,[]⟩
instance ok43_:zGd.ok 43:=FX.mk'
theorem KG (q r:Rat) (hq:Zs q 300000) (hr:Zs r 300000):callL Tryz.prog zD 43 [rrV q,rrV r]=some (rrV (q*r)):=by
 have c1:=qt (zU.of q.num.natAbs) (zU.of r.num.natAbs) (by have:=hq.1;omega) (by have:=hr.1;omega);have c2:=qt (zU.of q.den) (zU.of r.den) (by have:=hq.2;omega) (by have:=hr.2;omega);have mk:=YG (neg:=zt q != zt r) (zU.of (q.num.natAbs*r.num.natAbs)) (zU.of (q.den*r.den)) (HN q.den_nz r.den_nz) (bF (kG hq.1 hr.1) (by omega)) (bF (kG hq.2 hr.2) (by omega));rw[←qF]at mk;rw[show (zt q != zt r) = !(zt q == zt r) from rfl]at mk;refine FX.callL (r:=(rrV (q*r),[.arr [[.bool (zt q),zg q.num.natAbs,zg q.den]] none false,.arr [[.bool (zt r),zg r.num.natAbs,zg r.den]] none false,.arr [[.bool (zt (q*r)),zg (q*r).num.natAbs,zg (q*r).den]] none false])) ok43_ 1000 rfl rfl ?_ rfl;unfold rrV rrL zg yJ at *;((repeat((conv=>lhs;whnf);simp only[go_sem,simprocAttr,c1,c2,mk]));try rfl)
noncomputable def zGe:FX:=⟨Tryz.f42,zD.of 42,[]⟩
instance ok42_:zGe.ok 42:=FX.mk'
theorem KH (q r:Rat) (hq:Zs q 300000) (hr:Zs r 300000):callL Tryz.prog zD 42 [rrV q,rrV r]=some (rrV (q+r)):=by
 have k1:=qt (zU.of q.num.natAbs) (zU.of r.den) (by have:=hq.1;omega) (by have:=hr.2;omega);have k2:=qt (zU.of r.num.natAbs) (zU.of q.den) (by have:=hr.1;omega) (by have:=hq.2;omega);have k3:=qt (zU.of q.den) (zU.of r.den) (by have:=hq.2;omega) (by have:=hr.2;omega);have hX:(dec (q.num.natAbs*r.den)).length≤600000:=kG hq.1 hr.2;have hY:(dec (r.num.natAbs*q.den)).length≤600000:=kG hr.1 hq.2;have hD:(dec (q.den*r.den)).length≤600000:=kG hq.2 hr.2;have hd0:=HN q.den_nz r.den_nz;refine FX.callL (r:=(rrV (q+r),[.arr [[.bool (zt q),zg q.num.natAbs,zg q.den]] none false,.arr [[.bool (zt r),zg r.num.natAbs,zg r.den]] none false,.arr [[.bool (zt (q+r)),zg (q+r).num.natAbs,zg (q+r).den]] none false])) ok42_ 1000 rfl rfl ?_ rfl;by_cases hs:zt q=zt r
 ·have hb:(zt q == zt r)=true:=by simp[hs]
  have f1:=zDR (zU.of (q.num.natAbs*r.den)) (zU.of (r.num.natAbs*q.den)) (by omega) (by omega);have f2:=YG (neg:=zt q) (zU.of (q.num.natAbs*r.den+r.num.natAbs*q.den)) (zU.of (q.den*r.den)) hd0 (bF (zDU hX hY) (by omega)) (by omega);have e:q+r=mkRat (sg (zt q) (q.num.natAbs*r.den+r.num.natAbs*q.den)) (q.den*r.den):=by
   rw[xT,←hs,Z9]
  rw[←e]at f2;unfold rrV rrL zg yJ at *;((repeat((conv=>lhs;whnf);simp only[go_sem,simprocAttr,k1,k2,k3,f1,f2,hb]));try rfl)
 ·have hb:(zt q == zt r)=false:=by simpa using hs
  have f0:=jT (zU.of (q.num.natAbs*r.den)) (zU.of (r.num.natAbs*q.den)) (by omega) (by omega);by_cases hc:r.num.natAbs*q.den≤q.num.natAbs*r.den
  ·have c:0≤yU (q.num.natAbs*r.den) (r.num.natAbs*q.den):=by unfold yU;rw[hI (by omega)];split <;> omega
   have hx0:q.num.natAbs*r.den≠0:=by
    intro h;have h1:q.num.natAbs=0:=by
     rcases Nat.mul_eq_zero.1 h with h | h
     ·exact h
     ·exact absurd h r.den_nz
    have h2:r.num.natAbs=0:=by
     rcases Nat.mul_eq_zero.1 (show r.num.natAbs*q.den=0 by omega) with h | h
     ·exact h
     ·exact absurd h q.den_nz
    exact hs (by rw[WW h1,WW h2])
   have f1:=VM (zU.of (q.num.natAbs*r.den)) (zU.of (r.num.natAbs*q.den)) hx0 hc (by omega);have f2:=YG (neg:=zt q) (zU.of (q.num.natAbs*r.den-r.num.natAbs*q.den)) (zU.of (q.den*r.den)) hd0 (bF (wO (Nat.sub_le _ _)) (by omega)) (by omega);have e:q+r=mkRat (sg (zt q) (q.num.natAbs*r.den-r.num.natAbs*q.den)) (q.den*r.den):=by
    rw[xT,WT hs hc]
   rw[←e]at f2;unfold rrV rrL zg yJ at *;((repeat((conv=>lhs;whnf);simp only[go_sem,simprocAttr,k1,k2,k3,f0,f1,f2,hb,c]));try rfl)
  ·have c : ¬ 0≤yU (q.num.natAbs*r.den) (r.num.natAbs*q.den):=by unfold yU;rw[hZ (by omega)];omega
   have f1:=VM (zU.of (r.num.natAbs*q.den)) (zU.of (q.num.natAbs*r.den)) (by omega) (by omega) (by omega);have f2:=YG (neg:=zt r) (zU.of (r.num.natAbs*q.den-q.num.natAbs*r.den)) (zU.of (q.den*r.den)) hd0 (bF (wO (Nat.sub_le _ _)) (by omega)) (by omega);have e:q+r=mkRat (sg (zt r) (r.num.natAbs*q.den-q.num.natAbs*r.den)) (q.den*r.den):=by
    rw[xT,WU hs (by omega)]
   rw[←e]at f2;unfold rrV rrL zg yJ at *;((repeat((conv=>lhs;whnf);simp only[go_sem,simprocAttr,k1,k2,k3,f0,f1,f2,hb,c]));try rfl)
end
end
section
theorem VU {n:Nat} {v:PV} (h:za n v) (hn:(words n).length≤100000) (S:zA):zQ (callL Tryz.prog zD) S 58 [v]=some {v:=zg n} := by
 obtain⟨e,rfl,hp⟩:=h.form;exact zE (S:=S) (zDQ n e hn) (by simp[hp])
theorem WX {n:Nat} {v:PV} (h:zU n v) (hn:(dec n).length≤1000000) (S:zA):zQ (callL Tryz.prog zD) S 88 [v]=some {v:=zc n} := zE (S:=S) (JT h hn) (by simp[h.plain])
section
attribute [local irreducible] Vs.callL Vs.callRL tyi zQ yE zm zV zk zb zK zf zF zT zl zi zJ zL zj yB yO yD zN zh Vs.gc zH
noncomputable def zGf:FX:=⟨Tryz.f23,zD.of 23,[]⟩
instance ok23_:zGf.ok 23:=FX.mk'
theorem J8 (q:Rat) (hq:ze q 100000):callL Tryz.prog zD 23 [wM q]=some (rrV q):=by
 have c1:=VU (za.of q.num.natAbs) hq.1;have c2:=VU (za.of q.den) hq.2;refine FX.callL (r:=(rrV q,[.arr [[.bool (zt q),zo q.num.natAbs false,zo q.den false]] none false,.arr [[.bool (zt q),zg q.num.natAbs,zg q.den]] none false])) ok23_ 1000 rfl rfl ?_ rfl;rw[xX];unfold zc at c1 c2;unfold rrV rrL zg yJ zo at *;((repeat((conv=>lhs;whnf);simp only[go_sem,simprocAttr,c1,c2]));try rfl)
noncomputable def zGg:FX:=⟨Tryz.f56,zD.of 56,[]⟩
instance ok56_:zGg.ok 56:=FX.mk'
theorem J9 (q:Rat) (hq:Zs q 1000000):callL Tryz.prog zD 56 [rrV q]=some (wM q):=by
 have c1:=WX (zU.of q.num.natAbs) hq.1;have c2:=WX (zU.of q.den) hq.2;refine FX.callL (r:=(wM q,[.arr [[.bool (zt q),zg q.num.natAbs,zg q.den]] none false,.arr [[.bool (zt q),zo q.num.natAbs false,zo q.den false]] none false])) ok56_ 1000 rfl rfl ?_ rfl;rw[xX];unfold zc at c1 c2;unfold rrV rrL zg yJ zo at *;((repeat((conv=>lhs;whnf);simp only[go_sem,simprocAttr,c1,c2]));try rfl)
noncomputable def zGh:FX:=⟨Tryz.f30,zD.of 30,[]⟩
instance ok30_:zGh.ok 30:=FX.mk'
noncomputable def zDz:FX:=⟨Tryz.f87,zD.of 87,[]⟩
instance ok87_:zDz.ok 87:=FX.mk'
theorem Ja (A B:List Int) (e1 e2:Bool) (hl:A.length=B.length) (hm:A.length≤3000000) : ∀(m i:Nat),i+m=A.length→A.take i=B.take i→zS 0 zDz 0 116 0 [.blk 0,.seq 0 15] [(0,.sl (zB .u32 A) e1),(1,.sl (zB .u32 B) e2),(12,.int .i64 A.length),(13,.int .i64 i)] []=some (.bool (decide (A=B)),[]):=by
 have hM:=zs;intro m
 induction m with
 | zero =>
  intro i hi ht;have h1 : ¬(i:Int)<(A.length:Int):=by omega
  have e:A=B:=by
   rw[pZ (by omega),pZ (by omega)]at ht;exact ht
  rw[pM e];apply zC;(repeat((conv=>lhs;whnf);simp only[go_sem,simprocAttr,h1]));apply zR;((repeat((conv=>lhs;whnf);simp only[go_sem,simprocAttr]));try rfl)
 | succ m ih =>
  intro i hi ht;have h1:(i:Int)<(A.length:Int):=by omega
  have w1:=xF (i:=i) (n:=A.length) (by omega) (by omega);have x1:0≤(i:Int)∧(i:Int)<(A.length:Int):=⟨by omega,h1⟩;have x2:0≤(i:Int)∧(i:Int)<(B.length:Int):=⟨by omega,by omega⟩;have ea:=yA A (k:=i) (by omega);have eb:=yA B (k:=i) (by omega);apply zC;by_cases h:A.getD i 0=B.getD i 0
  ·have key:=ih (i+1) (by omega) (by
    have ta:A.take (i+1)=A.take i++[A.getD i 0]:=by
     rw[aK];have:A[i]? = some (A.getD i 0):=by rw[bI (by omega)];simp[bE,show i<A.length by omega]
     rw[this];rfl
    have tb:B.take (i+1)=B.take i++[B.getD i 0]:=by
     rw[aK];have:B[i]? = some (B.getD i 0):=by rw[bI (by omega)];simp[bE,show i<B.length by omega]
     rw[this];rfl
    rw[ta,tb,ht,h])
   (repeat((conv=>lhs;whnf);simp only[go_sem,simprocAttr,h1,x1,x2,bD,h,w1]));exact key
  ·have e : ¬A=B:=fun hab=>h (by rw[hab]);rw[sA e];((repeat((conv=>lhs;whnf);simp only[go_sem,simprocAttr,h1,x1,x2,bD,h]));try rfl)
theorem XG (A B:List Int) (e1 e2:Bool) (hm:A.length≤3000000):callL Tryz.prog zD 87 [.sl (zB .u32 A) e1,.sl (zB .u32 B) e2]=some (.bool (decide (A=B))):=by
 refine FX.callL (r:=(.bool (decide (A=B)),[])) ok87_ 1000 rfl rfl ?_ rfl;by_cases hl:A.length=B.length
 ·have hl':(A.length:Int)=(B.length:Int):=by omega
  have key:=Ja A B e1 e2 hl hm A.length 0 (by omega) (by simp);rw[hl']at key;(repeat((conv=>lhs;whnf);simp only[go_sem,simprocAttr,hl',hl]));exact key
 ·have hl' : ¬(A.length:Int)=(B.length:Int):=by omega
  have e : ¬A=B:=fun hab=>hl (by rw[hab]);rw[sA e];((repeat((conv=>lhs;whnf);simp only[go_sem,simprocAttr,hl',hl]));try rfl)
noncomputable def zGi:FX:=⟨Tryz.f55,zD.of 55,[]⟩
instance ok55_:zGi.ok 55:=FX.mk'
theorem VV (b1 b2:Bool) (N1 D1 N2 D2:List Int) (h1:N1.length≤3000000) (h2:D1.length≤3000000):callL Tryz.prog zD 55 [kY b1 N1 D1,kY b2 N2 D2]=some (.bool (decide (b1=b2∧N1=N2∧D1=D2))):=by
 have c1:=fun S=>zE (S:=S) (XG N1 N2 false false h1) (by simp;exact⟨zW.sl _,zW.sl _⟩);have c2:=fun S=>zE (S:=S) (XG D1 D2 false false h2) (by simp;exact⟨zW.sl _,zW.sl _⟩);refine FX.callL (r:=(.bool (decide (b1=b2∧N1=N2∧D1=D2)),[.arr [[.bool b1,.sl (zB .u32 N1) false,.sl (zB .u32 D1) false]] none false,.arr [[.bool b2,.sl (zB .u32 N2) false,.sl (zB .u32 D2) false]] none false])) ok55_ 1000 rfl rfl ?_ rfl;unfold kY;by_cases hb:b1=b2
 ·have hb':(b1 == b2)=true:=by simp[hb]
  by_cases hN:N1=N2
  ·simp only[hN,decide_true]at c1;simp only[hb,hN,true_and];rw[hb]at hb';((repeat((conv=>lhs;whnf);simp only[go_sem,simprocAttr,hb',c1,c2]));try rfl)
  ·simp only[hN,decide_false]at c1;simp only[hN,false_and,and_false,decide_false];((repeat((conv=>lhs;whnf);simp only[go_sem,simprocAttr,hb',c1,c2]));try rfl)
 ·have hb':(b1 == b2)=false:=by simpa using hb
  simp only[hb,false_and,decide_false];((repeat((conv=>lhs;whnf);simp only[go_sem,simprocAttr,hb',c1,c2]));try rfl)
end
end
section
section
attribute [local irreducible] Vs.callL Vs.callRL tyi zQ yE zm zV zk zb zK zf zF zT zl zi zJ zL zj yB yO yD zN zh Vs.gc zH
noncomputable def zGj:FX:=⟨Tryz.f82,zD.of 82,[]⟩
instance ok82_:zGj.ok 82:=FX.mk'
theorem qy (L:List Int) (e:Bool) (hl:L.length≤9223372036854775807):callL Tryz.prog zD 82 [.sl (zB .u32 L) e]=some (.bool (decide (L.length≤4096)&&decide (yc L))):=by
 refine FX.callL (r:=(.bool (decide (L.length≤4096)&&decide (yc L)),[])) ok82_ 1000 rfl rfl ?_ rfl;by_cases c1:L.length≤4096
 ·have c1':(L.length:Int)≤4096:=by omega
  by_cases c2:L=[]
  ·subst c2;have ht:yc []:=.inl rfl;simp only[c1,ht,decide_true,BE];((repeat((conv=>lhs;whnf);simp only[go_sem,simprocAttr,HR]));try rfl)
  ·have l0:L.length≠0:=fun h=>c2 (bT h);have l0' : ¬(L.length:Int)=0:=by omega
   have wl:IntKind.i64.wrap ((L.length:Int)-1)=((L.length-1:Nat):Int):=by rw[bA];omega
   have xl:0≤((L.length-1:Nat):Int)∧((L.length-1:Nat):Int)<L.length:=⟨by omega,by omega⟩;by_cases c3:L.getD (L.length-1) 0=0
   ·have ht : ¬yc L:=fun h=>by
     rcases h with h | h
     ·exact c2 h
     ·exact h c3
    simp only[c1,ht,decide_true,decide_false,HD];((repeat((conv=>lhs;whnf);simp only[go_sem,simprocAttr,c1',l0,l0',wl,xl,bD,c3]));try rfl)
   ·have ht:yc L:=.inr c3;simp only[c1,ht,decide_true,BE];((repeat((conv=>lhs;whnf);simp only[go_sem,simprocAttr,c1',l0,l0',wl,xl,bD,c3]));try rfl)
 ·have c1' : ¬(L.length:Int)≤4096:=by omega
  simp only[c1,decide_false,pS];((repeat((conv=>lhs;whnf);simp only[go_sem,simprocAttr,c1']));try rfl)
noncomputable def zEA:FX:=⟨Tryz.f49,zD.of 49,[]⟩
instance ok49_:zEA.ok 49:=FX.mk'
theorem Xc (neg:Bool) (N D:List Int) (hN:OkD WB N) (hD:OkD WB D) (hl1:N.length≤9223372036854775807) (hl2:D.length≤9223372036854775807):callL Tryz.prog zD 49 [kY neg N D]=some (.bool (vN neg N D 4096)):=by
 have c1:=fun S=>zE (S:=S) (qy N false hl1) (by simp;exact zW.sl _);have c2:=fun S=>zE (S:=S) (qy D false hl2) (by simp;exact zW.sl _);have hr : ∃S,run ([]:zA).length zEA 1000 (.at 0 1) [] [(0,kY neg N D)] []=some (.bool (vN neg N D 4096),S):=by
  unfold vN;have z1:decide ((N.length:Int)≤4096)=decide (N.length≤4096):=by congr 1;exact propext ⟨by omega,by omega⟩
  have z2:decide ((D.length:Int)≤4096)=decide (D.length≤4096):=by congr 1;exact propext ⟨by omega,by omega⟩
  rw[z1,z2];unfold kY
  cases v1:(decide (N.length≤4096)&&decide (yc N)) with
  | false =>
   rw[v1]at c1;refine⟨[.arr [[.bool neg,.sl (zB .u32 N) false,.sl (zB .u32 D) false]] none false],?_⟩;simp only[pS];((repeat((conv=>lhs;whnf);simp only[go_sem,simprocAttr,c1]));try rfl)
  | true =>
   rw[v1]at c1
   cases v2:(decide (D.length≤4096)&&decide (yc D)) with
   | false =>
    rw[v2]at c2;refine⟨[.arr [[.bool neg,.sl (zB .u32 N) false,.sl (zB .u32 D) false]] none false],?_⟩;simp only[pQ,pS];((repeat((conv=>lhs;whnf);simp only[go_sem,simprocAttr,c1,c2]));try rfl)
   | true =>
    rw[v2]at c2;by_cases d0:D.length=0
    ·have d0':(D.length:Int)=0:=by omega
     refine⟨[.arr [[.bool neg,.sl (zB .u32 N) false,.sl (zB .u32 D) false]] none false],?_⟩;simp only[d0,decide_true,HQ,HD,pS];((repeat((conv=>lhs;whnf);simp only[go_sem,simprocAttr,c1,c2,d0,d0']));try rfl)
    ·have d0' : ¬(D.length:Int)=0:=by omega
     simp only[d0,decide_false,aP,BF,pQ];by_cases n0:N.length=0
     ·have n0':(N.length:Int)=0:=by omega
      rw[hZ n0];refine⟨[.arr [[.bool neg,.sl (zB .u32 N) false,.sl (zB .u32 D) false]] none false],?_⟩;cases neg with
      | true =>
       simp only[HQ,pS];((repeat((conv=>lhs;whnf);simp only[go_sem,simprocAttr,c1,c2,d0,d0',n0,n0']));try rfl)
      | false =>
       simp only[aP,pQ];by_cases d1:D.length=1
       ·have d1':(D.length:Int)=1:=by omega
        have x0:0≤(0:Int)∧(0:Int)<(D.length:Int):=⟨by omega,by omega⟩;have e:=qm d1;by_cases g1:D.getD 0 0=1
        ·rw[pM (e.2 g1)];((repeat((conv=>lhs;whnf);simp only[go_sem,simprocAttr,c1,c2,d0,d0',n0,n0',d1,d1',x0,aM,g1]));try rfl)
        ·rw[sA (fun h=>g1 (e.1 h))];((repeat((conv=>lhs;whnf);simp only[go_sem,simprocAttr,c1,c2,d0,d0',n0,n0',d1,d1',x0,aM,g1]));try rfl)
       ·have d1' : ¬(D.length:Int)=1:=by omega
        have e : ¬D=[1]:=fun h=>d1 (by rw[h];rfl);rw[sA e];((repeat((conv=>lhs;whnf);simp only[go_sem,simprocAttr,c1,c2,d0,d0',n0,n0',d1,d1']));try rfl)
     ·have n0' : ¬(N.length:Int)=0:=by omega
      rw[hI n0];have v1':=v1;have v2':=v2;simp only[bS,sL]at v1' v2';have wN:=v1'.2.words hN;have wD:=v2'.2.words hD;have lN:(words (nv N)).length≤4096:=by rw[←wN];exact v1'.1
      have lD:(words (nv D)).length≤4096:=by rw[←wD];exact v2'.1
      have o1:=VU (za.of (nv N)) (by omega);have o2:=VU (za.of (nv D)) (by omega);have k1:(dec (nv N)).length≤12288:=uf lN;have k2:(dec (nv D)).length≤12288:=uf lD;obtain⟨g,ig,cg⟩:=Q4 (zU.of (nv N)) (zU.of (nv D)) (by omega) (by omega);have hgl:(dec (Nat.gcd (nv N) (nv D))).length≤12288:=by
       have hn0:nv N≠0:=fun e=>n0 (by rw[wN,e];exact zx.2 rfl);exact bF (wO (HW (by omega) (Nat.gcd_dvd_left _ _))) k1
      have hc0:callL Tryz.prog zD 75 [g,zg 1]=some (.int .i64 (yU (Nat.gcd (nv N) (nv D)) 1)):=by
       obtain⟨eg,rfl,_⟩:=ig.form;exact XA _ 1 eg false (by omega) (by rw[J7];decide)
      rw[XF]at hc0;have hS : ∃S0:zA,S0=[.arr [[.bool neg,.sl (zB .u32 N) false,.sl (zB .u32 D) false]] none false,.arr [[.int .i64 1]] (some (some 1)) false]:=⟨_,rfl⟩;obtain⟨S0,hS0⟩:=hS;have cc:=Ug (S:=S0) (l:=[g,.msl 1 0 1 true]) (ids:=[1]) hc0 (by
       have h2:=ig.plain.2 S0;have hf:=vL (S:=S0) (id:=1) (n:=1) (k:=.i64) (L:=[1]) (ex:=true) (by rw[hS0];rfl) rfl;simp only[yG,h2,bC,hf,bJ];rfl) (by
       have h2:=ig.plain.1;simp only[HY,List.flatMap_nil,h2];rw[hS0];rfl) (by rw[hS0];rfl)
      rw[hS0]at cc;unfold zc at o1 o2;rw[←wN]at o1;rw[←wD]at o2;refine⟨[.arr [[.bool neg,.sl (zB .u32 N) false,.sl (zB .u32 D) false]] none false,.arr [[.int .i64 1]] (some (some 1)) true],?_⟩;have e:decide (Nat.gcd (nv N) (nv D)=1)=decide (yU (Nat.gcd (nv N) (nv D)) 1=0):=by
       congr 1
       refine propext ⟨fun h=>by rw[h];rfl,fun h=>?_⟩;unfold yU at h
       split at h
       ·omega
       ·split at h <;> omega
      rw[e];((repeat((conv=>lhs;whnf);simp only[go_sem,simprocAttr,c1,c2,d0,d0',n0,n0',o1,o2,cg,cc]));try rfl)
 obtain⟨S,h⟩:=hr;exact FX.callL (r:=(.bool (vN neg N D 4096),S)) ok49_ 1000 rfl rfl h rfl
end
end
abbrev QL:=List Rat
def wP (l:QL):Nat→Nat
 | 0=>0
 | n+1=>if l.getD n 0=0 then wP l n else n+1
def xQ (l:QL):QL:=l.take (wP l l.length)
theorem qz (l:QL) : ∀n,wP l n≤n
 | 0=>bB _
 | n+1=>by
  unfold wP;by_cases h:l.getD n 0=0
  ·rw[hZ h];have:=qz l n;omega
  ·rw[hI h];omega
theorem XH (l:QL) : ∀n,wP l n≠0→l.getD (wP l n-1) 0≠0
 | 0,h=>absurd rfl h
 | n+1,h=>by
  unfold wP at h ⊢;by_cases c:l.getD n 0=0
  ·rw[hZ c]at h ⊢;exact XH l n h
  ·rw[hI c];simpa using c
theorem Zc {l m:QL} : ∀n,(∀i,i<n→l.getD i 0=m.getD i 0)→wP l n=wP m n
 | 0,_=>rfl
 | n+1,h=>by
  unfold wP;rw[h n (by omega),Zc n fun i hi=>h i (by omega)]
theorem XI {l:QL} {n:Nat} : ∀k,(∀i,n≤i→i<n+k→l.getD i 0=0)→wP l (n+k)=wP l n
 | 0,_=>rfl
 | k+1,h=>by
  show (if l.getD (n+k) 0=0 then wP l (n+k) else n+k+1)=_
  rw[hZ (h _ (by omega) (by omega)),XI k fun i h1 h2=>h i h1 (by omega)]
theorem KI {l m:QL} {i:Nat} (h:i<l.length):(l++m).getD i 0=l.getD i 0:=by
 rw[bE,bE,pP h]
theorem zAY {l m:QL} (i:Nat):(l++m).getD (l.length+i) 0=m.getD i 0:=by
 rw[bE,bE,pG (by omega),Nat.add_sub_cancel_left]
theorem Zd (l:QL) (k:Nat):xQ (l++List.replicate k 0)=xQ l:=by
 unfold xQ;rw[bO,sY,XI k,Zc (l:=l++_) (m:=l) l.length fun i hi=>KI hi]
 ·rw[List.take_append_of_le_length (qz _ _)]
 ·intro i h1 h2;obtain⟨j,rfl⟩ : ∃j,i=l.length+j:=⟨i-l.length,by omega⟩;rw[zAY,bE,PJ]
  split <;> rfl
theorem zAZ (l:QL):(xQ l).length≤l.length:=by
 unfold xQ;rw[pJ];omega
theorem WY {l:QL} {i:Nat} (h:i<(xQ l).length):(xQ l).getD i 0=l.getD i 0:=by
 unfold xQ at *;rw[pJ]at h;rw[bE,bE,aO,hZ (by omega)]
theorem Jb (l:QL) (h:(xQ l).length≠0):(xQ l).getD ((xQ l).length-1) 0≠0:=by
 rw[WY (by omega)];have e:(xQ l).length=wP l l.length:=by
  unfold xQ;rw[pJ];have:=qz l l.length;omega
 rw[e]at h ⊢;exact XH l l.length h
def wQ (a b:QL):QL:=(List.range (max a.length b.length)).map fun i=>a.getD i 0+b.getD i 0
theorem zA0 (a b:QL):wQ a b=wQ b a:=by
 unfold wQ;rw[Nat.max_comm]
 congr 1
 funext i
 exact Rat.add_comm _ _
theorem ug (a b:QL):(wQ a b).length=max a.length b.length:=by simp[wQ]
theorem XJ (a b:QL) (i:Nat):(wQ a b).getD i 0=a.getD i 0+b.getD i 0:=by
 unfold wQ;rw[bE,pB];by_cases h:i<max a.length b.length
 ·rw[sX h];rfl
 ·rw[bY (by simp;omega)];rw[bE,bE,bY (by omega),bY (by omega)];exact (Rat.add_zero 0).symm
def vR (x:Rat):QL→Nat→QL→QL
 | l,_,[]=>l
 | l,k,y::r=>vR x (l.set k (l.getD k 0+x*y)) (k+1) r
def xY (b:QL):QL→Nat→QL→QL
 | l,_,[]=>l
 | l,i,x::r=>xY b (vR x l i b) (i+1) r
theorem vS (x:Rat) : ∀(b l:QL) (k:Nat),(vR x l k b).length=l.length
 | [],l,k=>rfl
 | y::r,l,k=>by unfold vR;rw[vS x r,aZ]
theorem XK (x:Rat) : ∀(b l z:QL) (k:Nat),k+b.length≤l.length→vR x (l++z) k b=vR x l k b++z
 | [],l,z,k,_=>rfl
 | y::r,l,z,k,h=>by
  simp only[bP]at h;unfold vR;rw[KI (by omega),List.set_append_left _ _ (by omega),XK x r _ z _ (by rw[aZ];omega)]
theorem kL (b:QL) : ∀(a l:QL) (i:Nat),(xY b l i a).length=l.length
 | [],l,i=>rfl
 | x::r,l,i=>by unfold xY;rw[kL b r,vS]
theorem XL (b:QL) : ∀(a l z:QL) (i:Nat),i+a.length+b.length≤l.length+1→xY b (l++z) i a=xY b l i a++z
 | [],l,z,i,_=>rfl
 | x::r,l,z,i,h=>by
  simp only[bP]at h;unfold xY;rw[XK _ _ _ _ _ (by omega),XL b r _ z _ (by rw[vS];omega)]
def zA1 (a b:QL):QL:=xQ (xY b (List.replicate (a.length+b.length-1) 0) 0 a)
theorem zBt (a b:QL) (ha:a≠[]) (hb:b≠[]):xQ (xY b (List.replicate (a.length+b.length+1) 0) 0 a)=zA1 a b:=by
 have h1:=aR.2 ha;have h2:=aR.2 hb;have e:List.replicate (a.length+b.length+1) (0:Rat)=List.replicate (a.length+b.length-1) 0++List.replicate 2 0:=by
  rw[PP]
  congr 1;omega
 unfold zA1;rw[e,XL _ _ _ _ _ (by rw[sY];omega),Zd]
def vD (x:Rat):QL→Rat
 | []=>0
 | c::r=>vD x r*x+c
def evQ (x:Rat):QL→Rat→Rat→Rat
 | [],o,_=>o
 | c::r,o,w=>evQ x r (o+c*w) (w*x)
theorem KJ (x:Rat) : ∀(l:QL) (o w:Rat),evQ x l o w=o+w*vD x l
 | [],o,w=>by
  show o=o+w*0
  rw[Rat.mul_zero,Rat.add_zero]
 | c::r,o,w=>by
  show evQ x r (o+c*w) (w*x)=o+w*(vD x r*x+c)
  rw[KJ x r,Rat.mul_add,Rat.add_assoc,Rat.mul_comm c w,Rat.add_comm (w*c),Rat.mul_assoc,Rat.mul_comm x]
theorem zEq (x:Rat) (l:QL):evQ x l 0 1=vD x l:=by rw[KJ,Rat.zero_add,Rat.one_mul]
def wR (c:QL):QL:=(List.range (c.length-1)).map fun i=>((i+1:Nat):Rat)*c.getD (i+1) 0
theorem zGk:ze 1 1:=by
 have e:(words 1).length=1:=by rw[vi];rfl
 exact⟨by show (words 1).length≤1;omega,by show (words 1).length≤1;omega⟩
theorem jB:ze 0 1:=by
 have e:(words 1).length=1:=by rw[vi];rfl
 have e0:(words 0).length=0:=zx.2 rfl;exact⟨by show (words 0).length≤1;omega,by show (words 1).length≤1;omega⟩
theorem XM {q r:Rat} {j k:Nat} (hq:ze q j) (hr:ze r k):ze (q+r) (j+k+1):=by
 rw[xT];have hX:(words (q.num.natAbs*r.den)).length≤j+k:=xO hq.1 hr.2;have hY:(words (r.num.natAbs*q.den)).length≤j+k:=by have:=xO hr.1 hq.2;omega
 have hD:(words (q.den*r.den)).length≤j+k:=xO hq.2 hr.2;generalize q.num.natAbs*r.den=X at *;generalize r.num.natAbs*q.den=Y at *;have hd:=HN q.den_nz r.den_nz;generalize q.den*r.den=D at *;generalize zt q=b;generalize zt r=c;have hN:(sg b X+sg c Y).natAbs≤X+Y:=by
  have:=Int.natAbs_add_le (sg b X) (sg c Y)
  rwa [vu,vu]at this
 have hS:=WV hX hY;have hS':=bF (yk hN) hS;unfold ze;rw[Yn hd,Yo hd];exact⟨bF (yk (aF _ _)) hS',bF (yk (aF _ _)) (by show (words D).length≤_;omega)⟩
theorem kM {q r:Rat} {j k:Nat} (hq:ze q j) (hr:ze r k):ze (q*r) (j+k):=by
 rw[qF];have hd:=HN q.den_nz r.den_nz;unfold ze;rw[Yn hd,Yo hd,vu];exact⟨bF (yk (aF _ _)) (xO hq.1 hr.1),bF (yk (aF _ _)) (xO hq.2 hr.2)⟩
section
theorem FX.retV {F:FX} {f:FuncId} (ok:F.ok f) (n:Nat) {args:List PV} (ha:Nat.ble args.length F.fn.ntmps=true) {e:Env} (he:(List.range args.length).zip args=e) {v:PV} {r:PV × zA} (h1:run 0 F n (.at 0 1) [] e []=some r) (h2:ym r.2 r.1=some v):Vs.callL Tryz.prog zD f args=some v:=FX.callL ok n ha he h1 h2
theorem FX.retB {F:FX} {f:FuncId} (ok:F.ok f) (n:Nat) {args:List PV} (ha:Nat.ble args.length F.fn.ntmps=true) {e:Env} (he:(List.range args.length).zip args=e) {b:Bool} {S':zA} (h1:run 0 F n (.at 0 1) [] e []=some (.bool b,S')):Vs.callL Tryz.prog zD f args=some (.bool b):=FX.callL ok n ha he h1 rfl
structure EncT {α:Type} (enc:α→List PV) (sz:Nat):Prop where
 len : ∀a,(enc a).length=sz
 refs : ∀a,xa (enc a)=[]
 fz : ∀S d a,yG (yu S (d+2)) (enc a)=some (enc a)
 pos:0<sz
section
variable {α:Type} {enc:α→List PV} {t el:TypeId} {sz bytes:Nat} (E:EncT enc sz) (h:SlT t el sz bytes)
include E
theorem EncT.rrefs : ∀L:List α,zd (L.map enc)=[]
 | []=>rfl
 | a::r=>by
  rw[pF,yP,E.refs,EncT.rrefs r];rfl
theorem EncT.ok (L:List α):zq sz (L.map enc)=true:=zB1 E.len L
theorem EncT.fzR (S:zA) (d:Nat) (L:List α):yG (yG (yu S (d+2))) (L.map enc)=some (L.map enc):=by
 have:=qh (f:=yG (yu S (d+2))) (g:=id) (l:=L.map enc) (fun a ha=>by
  obtain⟨w,_,rfl⟩:=sH.1 ha;exact E.fz S d w)
 rw[List.map_id]at this;exact this
theorem EncT.fzC {S:zA} {id n:Nat} {L:List α} {ex:Bool} (hr:zz S id=some (L.map enc)) (hn:L.length=n) (d:Nat):yu S (d+3) (.msl id 0 n ex)=some (.sl (L.map enc) false):=by
 have e1:rowsIn S (.msl id 0 n false)=some (L.map enc):=by
  rw[qA,hr];simp only[bC,bW,pH,sS,hn,bB,if_true];rw[←hn,←sS (f:=enc),PN]
 show ((rowsIn S (.msl id 0 n false)).bind fun rows=>(yG (yG (yu S (d+2))) rows).map fun rows=>PV.sl rows false)=_
 rw[e1];simp only[bC,E.fzR,bJ]
theorem EncT.fzV {S:zA} {id n:Nat} {L:List α} {ex:Bool} (hr:zz S id=some (L.map enc)) (hn:L.length=n):ym S (.msl id 0 n ex)=some (.sl (L.map enc) false):=E.fzC (ex:=ex) hr hn 5
omit E in
theorem EncT.fzS (S:zA) (L:List α):ym S (.sl (L.map enc) false)=some (.sl (L.map enc) false):=(zW.sl _).2 S
theorem EncT.tupV {S:zA} {id n:Nat} {L:List α} {ex:Bool} {k:IntKind} {c:Int} (hr:zz S id=some (L.map enc)) (hn:L.length=n):ym S (.tup [.msl id 0 n ex,.int k c])=some (.tup [.sl (L.map enc) false,.int k c]):=by
 have e:yZ S (.msl id 0 n ex)=some (.sl (L.map enc) false):=E.fzV (ex:=ex) hr hn
 show (yG (yZ S) [.msl id 0 n ex,.int k c]).map PV.tup=_
 simp only[yG,e,bC];rfl
theorem EncT.call {S:zA} {f:FuncId} {id n:Nat} {L:List α} {ex:Bool} {v:PV} (hc:callL Tryz.prog zD f [.sl (L.map enc) false]=some v) (hr:zz S id=some (L.map enc)) (hn:L.length=n) (hid:id<S.length):zQ (callL Tryz.prog zD) S f [.msl id 0 n ex]=some {v,fz:=[id]} := by
 have e:(List.flatMap PV.refs [PV.msl id 0 n ex])=[id]:=rfl;unfold zQ;rw[e,WA hr (E.rrefs L)];simp only[aY,List.all_nil,BF,pM hid,if_true,yG,E.fzV hr hn,bC,hc,bJ]
include h
theorem EncT.app {b:Nat} {S S':zA} {id j:Nat} (L:List α) (x:α) (g:Option Nat) (hg:g=none∨g=some sz) (hl:(L.length+1)*bytes≤140737488355328) (hl2:L.length+1≤9223372036854775807) (ex:Bool) (hb:b≤id) (h1:S[id]? = some (.arr (L.map enc) (some g) false)) (hj:S[j]? = some (.arr [enc x] (some (some sz)) false)) (hS:(S.map (yF [id])).set id (.arr ((L++[x]).map enc) (some (some sz)) false)=S') :
  zV Tryz.prog b t t S (.msl id 0 L.length false) (.msl j 0 1 ex)=some {v:=.msl id 0 (L.length+1) false,S:=S',kill:=[id]} := by
 have:=h.app (b:=b) (S:=S) (id:=id) (rows:=L.map enc) (new:=[enc x]) (g:=g) (p:=.msl j 0 1 ex) h1 hb hg (RowsV.msl j [enc x] ex _ _ hj) (E.ok L) (E.ok [x]) (by rw[sS];exact hl) (by rw[sS];exact hl2) (by rw[E.rrefs];simp) (by have:=E.rrefs [x];simp only[pF,aA]at this;rw[this];simp);rw[sS,←List.map_singleton,←List.map_append,hS]at this;exact this
end
def qc (q:Rat):List PV:=[.bool (zt q),zo q.num.natAbs false,zo q.den false]
theorem YH (q:Rat):wM q=.agg (qc q):=rfl
def zO (L:QL):List (List PV):=L.map qc
theorem wS:EncT qc 3:=⟨fun _=>rfl,fun _=>rfl,fun _ _ _=>rfl,by decide⟩
def rc (q:Rat):List PV:=[.bool (zt q),zg q.num.natAbs,zg q.den]
def zn (L:QL):List (List PV):=L.map rc
theorem wo:EncT rc 3:=⟨fun _=>rfl,fun _=>rfl,fun _ _ _=>rfl,by decide⟩
theorem uO:SlT 22 42 3 56:=⟨by kernel_rfl,by kernel_rfl,by kernel_rfl,by kernel_rfl,by kernel_rfl⟩
theorem jC:SlT 26 50 3 56:=⟨by kernel_rfl,by kernel_rfl,by kernel_rfl,by kernel_rfl,by kernel_rfl⟩
@[go_sem] theorem wz (L:QL):(zO L).length=L.length:=nr (by simp[zO])
@[go_sem] theorem ZA (L:QL):(zn L).length=L.length:=nr (by simp[zn])
@[go_sem] theorem ZB (L:QL):zq 3 (zO L)=true:=nr (wS.ok L)
@[go_sem] theorem KK (L:QL):zq 3 (zn L)=true:=nr (wo.ok L)
@[go_sem] theorem zEr (L:QL):zd (zO L)=[]:=nr (wS.rrefs L)
@[go_sem] theorem zEs (L:QL):zd (zn L)=[]:=nr (wo.rrefs L)
theorem Jc (L:QL) (n:Nat):(zO L).take n=zO (L.take n):=by simp[zO,List.map_take]
theorem Jd (L:QL) (n:Nat):(zn L).take n=zn (L.take n):=by simp[zn,List.map_take]
@[go_sem] theorem zHz (r:List (List PV)) (ex:Bool):yO (tyi Tryz.prog 22) (.sl r ex)=some (.int .i64 r.length):=nr (uO.len r ex)
@[go_sem] theorem zH2 (i o l:Nat) (ex:Bool):yO (tyi Tryz.prog 22) (.msl i o l ex)=some (.int .i64 l):=nr (uO.lenm i o l ex)
@[go_sem] theorem zIA (r:List (List PV)) (ex:Bool):yO (tyi Tryz.prog 26) (.sl r ex)=some (.int .i64 r.length):=nr (jC.len r ex)
@[go_sem] theorem zH3 (i o l:Nat) (ex:Bool):yO (tyi Tryz.prog 26) (.msl i o l ex)=some (.int .i64 l):=nr (jC.lenm i o l ex)
@[go_sem] theorem zIB (S:zA) (L:QL) (ex:Bool) (i:Int):zK Tryz.prog 22 S (.sl (zO L) ex) (.int .i64 i)=if 0≤i∧i<L.length then some (.cp (qc (L.getD i.toNat 0))) else none:=nr (uO.idx wS.len 0 S L ex i)
@[go_sem] theorem zIC (S:zA) (L:QL) (ex:Bool) (i:Int):zK Tryz.prog 26 S (.sl (zn L) ex) (.int .i64 i)=if 0≤i∧i<L.length then some (.cp (rc (L.getD i.toNat 0))) else none:=nr (jC.idx wo.len 0 S L ex i)
@[go_sem] theorem Q6 (q:Rat):part (tyi Tryz.prog 42) (qc q)=some (.agg (qc q)):=nr (by simp[qc,part,ZT,TI.isAgg,wn,Yp])
@[go_sem] theorem zDV (q:Rat):part (tyi Tryz.prog 50) (rc q)=some (.agg (rc q)):=nr (by simp[rc,part,KD,TI.isAgg,ZX,Q5])
@[go_sem] theorem zH4 (q:Rat):(qc q).all PV.cell=true:=nr rfl
@[go_sem] theorem zH5 (q:Rat):(rc q).all PV.cell=true:=nr rfl
@[go_sem] theorem zH6 (q:Rat):(qc q).take 3=qc q:=nr rfl
@[go_sem] theorem zH7 (q:Rat):(rc q).take 3=rc q:=nr rfl
@[go_sem] theorem zH8 (q:Rat):xa (qc q)=[]:=nr rfl
@[go_sem] theorem zH9 (q:Rat):xa (rc q)=[]:=nr rfl
@[go_sem] theorem zID (q:Rat):(qc q).length=3:=nr rfl
@[go_sem] theorem zIE (q:Rat):(rc q).length=3:=nr rfl
theorem zBu (S:zA) (L:QL) (ex:Bool) (i:Nat) (hi:i≤L.length):zf Tryz.prog 22 S (.sl (zO L) ex) none (some (.int .i64 i)) none=some (.sl (zO (L.take i)) false):=by
 have:=uO.firsts S (rows:=zO L) ex i (by rw[wz];exact hi) (ZB L);rw[Jc]at this;exact this
theorem zBv (S:zA) (L:QL) (ex:Bool) (i:Nat) (hi:i≤L.length):zf Tryz.prog 26 S (.sl (zn L) ex) none (some (.int .i64 i)) none=some (.sl (zn (L.take i)) false):=by
 have:=jC.firsts S (rows:=zn L) ex i (by rw[ZA];exact hi) (KK L);rw[Jd]at this;exact this
end
section
theorem Q7 (S:zA) (q:Rat):zQ (callL Tryz.prog zD) S 78 [.agg (qc q)]=some {v:=.int .i64 (kK q)} := zE (Xa q) (by simp[←YH,wh])
theorem Je (S:zA) (q r:Rat) (hq:ze q 4096) (hr:ze r 4096):zQ (callL Tryz.prog zD) S 69 [.agg (qc q),.agg (qc r)]=some {v:=.agg (qc (q*r))} := zE (qu q r (hq.mono (by omega)) (hr.mono (by omega))) (by simp[←YH,wh])
theorem Jf (S:zA) (q r:Rat) (hq:ze q 4096) (hr:ze r 4096):zQ (callL Tryz.prog zD) S 68 [.agg (qc q),.agg (qc r)]=some {v:=.agg (qc (q+r))} := zE (qv q r (hq.mono (by omega)) (hr.mono (by omega))) (by simp[←YH,wh])
theorem Q8 (S:zA):zQ (callL Tryz.prog zD) S 67 []=some {v:=.agg (qc 0)} := zE jl (by simp)
theorem Q9 (S:zA) (q:Rat) (hq:ze q 4096):zQ (callL Tryz.prog zD) S 71 [.agg (qc q)]=some {v:=.agg (qc q)} := zE (jm q (hq.mono (by omega))) (by simp[←YH,wh])
theorem zEt (S:zA) (n:Nat) (hn:n<9223372036854775808):zQ (callL Tryz.prog zD) S 86 [.int .i64 n]=some {v:=.agg (qc (n:Rat))} := zE (VP n hn) (by simp[zW.int])
theorem jD {q:Rat} : kK q=0↔q=0:=by
 rw[←Rat.num_eq_zero];unfold kK;by_cases h:q.num=0
 ·rw[hZ h];exact⟨fun _=>h,fun _=>rfl⟩
 ·rw[hI h];refine⟨fun e=>?_,fun e=>absurd e h⟩
  split at e <;> cases e
section
attribute [local irreducible] Vs.callL Vs.callRL tyi zQ yE zm zV zk zb zK zf zF zT zl zi zJ zL zj yB yO yD zN zh Vs.gc zH
noncomputable def zBw:FX:=⟨Tryz.f70,zD.of 70,[]⟩
instance ok70_:zBw.ok 70:=FX.mk'
theorem Jg (L:QL) (hL:L.length≤1000000) (fs:List Fr) : ∀n,n≤L.length→∀z:PV × zA,zZ 0 zBw 0 fs [(0,.sl (zO (L.take (wP L n))) false),(15,.undef)] []=some z→zS 0 zBw 0 24 0 fs [(0,.sl (zO (L.take n)) false)] []=some z:=by
 intro n
 induction n with
 | zero =>
  intro _ z hz;unfold wP at hz;apply zC;(repeat((conv=>lhs;whnf);simp only[go_sem,simprocAttr]));exact hz
 | succ n ih =>
  intro hn z hz;have h1:(L.take (n+1)).length=n+1:=by rw[pJ];omega
  have h2:(0:Int)<((n+1:Nat):Int):=by omega
  have h3:IntKind.i64.wrap (((n+1:Nat):Int)-1)=(n:Int):=by rw[bA];omega
  have h4:0≤(n:Int)∧(n:Int)<((n+1:Nat):Int):=⟨by omega,by omega⟩;have h5:(L.take (n+1)).getD n 0=L.getD n 0:=by
   rw[bE,bE,aO,hZ (by omega)]
  have sg:=Q7;have cut:=fun S=>zBu S (L.take (n+1)) false n (by omega);rw[List.take_take,BV (by omega)]at cut;unfold wP at hz;by_cases h0:L.getD n 0=0
  ·rw[hZ h0]at hz;have g0:=jD.2 h0;have key:=ih (by omega) z hz;apply zC;(repeat((conv=>lhs;whnf);simp only[go_sem,simprocAttr,h1,h2,h3,h4,h5,bD,sg,g0,cut]));exact key
  ·rw[hI h0]at hz;have g0 : ¬kK (L.getD n 0)=0:=fun h=>h0 (jD.1 h);apply zC;(repeat((conv=>lhs;whnf);simp only[go_sem,simprocAttr,h1,h2,h3,h4,h5,bD,sg,g0]));exact hz
theorem XN (L:QL) (hL:L.length≤1000000):callL Tryz.prog zD 70 [.sl (zO L) false]=some (.sl (zO (xQ L)) false):=by
 have key:=Jg L hL [.blk 0,.seq 0 7] L.length (bB _);rw[PN]at key;apply FX.callL (r:=(.sl (zO (xQ L)) false,[])) ok70_ 1000 rfl rfl
 ·(repeat((conv=>lhs;whnf);simp only[go_sem,simprocAttr]));refine key _ ?_;apply zR;((repeat((conv=>lhs;whnf);simp only[go_sem,simprocAttr]));try rfl)
 ·exact EncT.fzS _ _
noncomputable def zBx:FX:=⟨Tryz.f52,zD.of 52,[]⟩
instance ok52_:zBx.ok 52:=FX.mk'
theorem Jh (L:QL) (x:Rat) (hL:L.length≤9) (hw : ∀q∈L,ze q 2) (hx:ze x 2) (Z:List PV) (fs:List Fr) : ∀i,i≤L.length→ze (vD x (L.drop i)) (5*(L.length-i)+1)→∀z:PV × zA,zZ 0 zBx 0 fs [(0,.undef),(3,.undef),(4,.mp 1 0 0),(5,.mp 2 0 0),(6,.undef),(12,.undef)] [.arr [qc x] none false,.arr [Z] none false,.arr [qc (vD x L)] none false]=some z→zS 0 zBx 0 116 3 fs [(0,.sl (zO L) false),(3,.mp 0 0 0),(4,.mp 1 0 0),(5,.mp 2 0 0),(6,.int .i64 ((i:Int)-1))] [.arr [qc x] none false,.arr [Z] none false,.arr [qc (vD x (L.drop i))] none false]=some z:=by
 intro i
 induction i with
 | zero =>
  intro _ _ z hz;rw[pH];apply zC;have h1 : ¬(0:Int)≤((0:Nat):Int)-1:=by omega
  (repeat((conv=>lhs;whnf);simp only[go_sem,simprocAttr,h1]));exact hz
 | succ i ih =>
  intro hi hW z hz;have e:L.drop i=L.getD i 0::L.drop (i+1):=by
   rw[PC (by omega)];simp[bE,show i<L.length by omega]
  have hq:ze (L.getD i 0) 2:=hw _ (by
   rw[bE,bI (by omega)];exact BY _)
  have ev:vD x (L.drop i)=vD x (L.drop (i+1))*x+L.getD i 0:=by rw[e];rfl
  have hW':ze (vD x (L.drop i)) (5*(L.length-i)+1):=by
   rw[ev];exact (XM (kM hW hx) hq).mono (by omega)
  have key:=ih (by omega) hW' z hz;have m1:=fun S=>Je S (vD x (L.drop (i+1))) x (hW.mono (by omega)) (hx.mono (by omega));have a1:=fun S=>Jf S (vD x (L.drop (i+1))*x) (L.getD i 0) ((kM hW hx).mono (by omega)) (hq.mono (by omega));rw[←ev]at a1;have h0:((i+1:Nat):Int)-1=(i:Int):=by omega
  have h1:(0:Int)≤(i:Int):=by omega
  have h2:IntKind.i64.wrap ((i:Int)-1)=(i:Int)-1:=by rw[bA];omega
  have h4:0≤(i:Int)∧(i:Int)<(L.length:Int):=⟨by omega,by omega⟩;rw[h0];apply zC;(repeat((conv=>lhs;whnf);simp only[go_sem,simprocAttr,h1,h2,h4,bD,m1,a1]));exact key
theorem Ji (L:QL) (x:Rat) (hL:L.length≤9) (hw : ∀q∈L,ze q 2) (hx:ze x 2):callL Tryz.prog zD 52 [.sl (zO L) false,.agg (qc x)]=some (.agg (qc (vD x L))):=by
 have z:=Q8;have h2:IntKind.i64.wrap ((L.length:Int)-1)=(L.length:Int)-1:=by rw[bA];omega
 have key:=fun Z fs=>Jh L x hL hw hx Z fs L.length (bB _) (by
  rw[sU];exact jB.mono (by omega))
 rw[sU]at key;apply FX.retV ok52_ 1000 rfl rfl
 ·(repeat((conv=>lhs;whnf);simp only[go_sem,simprocAttr,z,h2]));apply key;apply zR;((repeat((conv=>lhs;whnf);simp only[go_sem,simprocAttr]));try rfl)
 ·rfl
end
end
section
theorem xK {L:QL} {i:Nat} (h:i<L.length):L.getD i 0∈L:=by
 rw[bE,bI h];exact BY _
theorem jE {L:QL} {i j:Nat} {x:Rat} (h:i<L.length):(L.set i x).getD j 0=if i=j then x else L.getD j 0:=by
 rw[bE,HP,bE];by_cases e:i=j
 ·rw[hZ e,hZ e,hZ h];rfl
 ·rw[hI e,hI e]
theorem XO {L M:QL} (hl:L.length=M.length) (h : ∀i,i<L.length→L.getD i 0=M.getD i 0):L=M:=by
 refine List.ext_getElem hl fun i h1 h2=>?_;have:=h i h1;rw[bE,bE,bI h1,bI h2]at this;exact this
theorem EncT.store {α:Type} {enc:α→List PV} {sz:Nat} (E:EncT enc sz) {S:zA} {id:Nat} {L:List α} {g:Option (Option Nat)} (hS:S[id]? = some (.arr (L.map enc) g false)) {i:Nat} (hi:i<L.length) (x:α) (hc:(enc x).all PV.cell=true):yr sz S (.mp id i 0) (.agg (enc x))=some (S.set id (.arr ((L.set i x).map enc) g false)):=by
 have hr:((L.map enc).getD i []).length=sz:=by
  rw[bE,pB,bI hi];exact E.len _
 simp only[yr,hS];rw[hZ ⟨by rw[sS];exact hi,by omega,E.len x,hc⟩];have e:wH ((L.map enc).getD i []) 0 (PV.agg (enc x)).cells=enc x:=by
  unfold wH;rw[hZ ⟨rfl,by rw[hr];exact E.len x⟩];rfl
 rw[e,List.map_set]
theorem EncT.load {α:Type} {enc:α→List PV} {sz:Nat} (E:EncT enc sz) {S:zA} {id:Nat} {L:List α} {g:Option (Option Nat)} {f:Bool} (hS:S[id]? = some (.arr (L.map enc) g f)) {i:Nat} (hi:i<L.length) (d:α) {ti:TI} (hp:part ti (enc (L.getD i d))=some (.agg (enc (L.getD i d)))):zb ti S (.mp id i 0)=some (.agg (enc (L.getD i d))):=by
 simp only[zb,Xz hS,bC];rw[hZ (by rw[sS];exact hi),pH,Ww L d hi];exact hp
section
attribute [local irreducible] Vs.callL Vs.callRL tyi zQ yE zm zV zk zb zK zf zF zT zl zi zJ zL zj yB yO yD zN zh Vs.gc zH
noncomputable def zBy:FX:=⟨Tryz.f53,zD.of 53,[]⟩
instance ok53_:zBy.ok 53:=FX.mk'
def vk (a b:QL) (j:Nat):QL:=(List.range a.length).map fun k=>if k<j then a.getD k 0+b.getD k 0 else a.getD k 0
theorem wF (a b:QL) (j:Nat):(vk a b j).length=a.length:=by simp[vk]
theorem uh (a b:QL) (j:Nat) {k:Nat} (h:k<a.length):(vk a b j).getD k 0=if k<j then a.getD k 0+b.getD k 0 else a.getD k 0:=by
 unfold vk;rw[bE,pB,sX h];rfl
theorem Jj (a b:QL):vk a b 0=a:=XO (wF _ _ _) fun i hi=>by
 rw[wF]at hi;rw[uh _ _ _ hi,hI (by omega)]
theorem Jk (a b:QL) {j:Nat} (h:j<a.length):(vk a b j).set j (a.getD j 0+b.getD j 0)=vk a b (j+1):=XO (by rw[aZ,wF,wF]) fun i hi=>by
 rw[aZ,wF]at hi;rw[jE (by rw[wF];exact h),uh _ _ _ hi,uh _ _ _ hi];by_cases e:j=i
 ·subst e;rw[hZ rfl,hZ (by omega)]
 ·rw[hI e];by_cases e2:i<j
  ·rw[hZ e2,hZ (by omega)]
  ·rw[hI e2,hI (by omega)]
theorem zA2 (a b:QL) (h:b.length≤a.length):vk a b b.length=wQ a b:=XO (by rw[wF,ug];omega) fun i hi=>by
 rw[wF]at hi;rw[uh _ _ _ hi,XJ];by_cases e:i<b.length
 ·rw[hZ e]
 ·rw[hI e,bE (l:=b),bY (by omega)];exact (Rat.add_zero _).symm
theorem zA3 (a b:QL) (hl:b.length≤a.length) (hL:a.length≤9) (ha : ∀q∈a,ze q 2) (hb : ∀q∈b,ze q 2) (g:Option Nat) (fs:List Fr) : ∀m j,j+m=b.length→∀z:PV × zA,zZ 0 zBy 0 fs [(5,.msl 0 0 a.length false),(17,.undef),(18,.undef),(19,.undef),(20,.undef)] [.arr (zO (wQ a b)) (some g) false]=some z→zS 0 zBy 0 244 1 fs [(5,.msl 0 0 a.length false),(17,.sl (zO b) false),(18,.int .i64 b.length),(19,.int .i64 j)] [.arr (zO (vk a b j)) (some g) false]=some z:=by
 intro m
 induction m with
 | zero =>
  intro j hj z hz;have ej:j=b.length:=by omega
  subst ej;have h1 : ¬(b.length:Int)<(b.length:Int):=by omega
  rw[zA2 a b hl];apply zC;(repeat((conv=>lhs;whnf);simp only[go_sem,simprocAttr,h1]));exact hz
 | succ m ih =>
  intro j hj z hz;have h1:(j:Int)<(b.length:Int):=by omega
  have h2:IntKind.i64.wrap ((j:Int)+1)=((j+1:Nat):Int):=by rw[bA];omega
  have h4:0≤(j:Int)∧(j:Int)<(b.length:Int):=⟨by omega,h1⟩;have qa:=ha _ (xK (L:=a) (i:=j) (by omega));have qb:=hb _ (xK (L:=b) (i:=j) (by omega));have key:=ih (j+1) (by omega) z hz;have a1:=fun S=>Jf S (a.getD j 0) (b.getD j 0) (qa.mono (by omega)) (qb.mono (by omega));have hlen:=wF a b j;have gj:(vk a b j).getD j 0=a.getD j 0:=by rw[uh _ _ _ (by omega),hI (by omega)]
  have ix:=fun X=>uO.idxm (S:=.arr (zO (vk a b j)) (some g) false::X) (id:=0) (off:=0) (n:=a.length) (ex:=false) (rows:=zO (vk a b j)) j rfl (by rw[wz];omega) (ZB _) (by omega);have ld:=fun X=>wS.load (S:=.arr (zO (vk a b j)) (some g) false::X) (id:=0) (i:=j) rfl (by omega) 0 (Q6 _);rw[gj]at ld;have st : ∀X,yr 3 (.arr (zO (vk a b j)) (some g) false::X) (.mp 0 j 0) (.agg (qc (a.getD j 0+b.getD j 0)))=some (.arr (zO (vk a b (j+1))) (some g) false::X):=fun X=>by
   rw[←Jk a b (by omega)];exact wS.store (S:=.arr (zO (vk a b j)) (some g) false::X) (id:=0) rfl (by omega) _ rfl
  apply zC;(repeat((conv=>lhs;whnf);simp only[go_sem,simprocAttr,h1,h2,h4,bD,ix,ld,a1,st]));exact key
theorem XP (a b:QL) (hl:b.length≤a.length) (hL:a.length≤9) (ha : ∀q∈a,ze q 2) (hb : ∀q∈b,ze q 2) (c d:QL) (hs:(c=a∧d=b)∨(c=b∧d=a∧b.length<a.length)):callL Tryz.prog zD 53 [.sl (zO c) false,.sl (zO d) false]=some (.sl (zO (xQ (wQ a b))) false):=by
 have ap:=fun bb S=>uO.appNil (b:=bb) S (p:=.sl (zO a) false) (rows:=zO a) (.sl _ _) (ZB a) (by rw[wz];omega) (by rw[wz];omega);have key:=fun g fs=>zA3 a b hl hL ha hb g fs b.length 0 (by omega);rw[Jj]at key;have tr:=XN (wQ a b) (by rw[ug];omega);have al:(wQ a b).length=a.length:=by rw[ug];omega
 have tc:=fun X=>wS.call (S:=.arr (zO (wQ a b)) (some (some 3)) false::X) (id:=0) (n:=a.length) (ex:=false) tr rfl al (by simp)
 rcases hs with⟨rfl,rfl⟩ | ⟨rfl,rfl,hlt⟩
 ·have h1 : ¬(c.length:Int)<(d.length:Int):=by omega
  apply FX.retV ok53_ 1000 rfl rfl
  ·(repeat((conv=>lhs;whnf);simp only[go_sem,simprocAttr,h1,ap]));apply key;apply zR;((repeat((conv=>lhs;whnf);simp only[go_sem,simprocAttr,tc]));try rfl)
  ·exact EncT.fzS _ _
 ·have h1:(c.length:Int)<(d.length:Int):=by omega
  apply FX.retV ok53_ 1000 rfl rfl
  ·(repeat((conv=>lhs;whnf);simp only[go_sem,simprocAttr,h1,ap]));apply key;apply zR;((repeat((conv=>lhs;whnf);simp only[go_sem,simprocAttr,tc]));try rfl)
  ·exact EncT.fzS _ _
theorem zA4 (a b:QL) (hL:a.length≤9) (hM:b.length≤9) (ha : ∀q∈a,ze q 2) (hb : ∀q∈b,ze q 2):callL Tryz.prog zD 53 [.sl (zO a) false,.sl (zO b) false]=some (.sl (zO (xQ (wQ a b))) false):=by
 by_cases h:b.length≤a.length
 ·exact XP a b h hL ha hb a b (.inl ⟨rfl,rfl⟩)
 ·rw[zA0];exact XP b a (by omega) hM hb ha a b (.inr ⟨rfl,rfl,by omega⟩)
end
end
section
theorem ZC {x:Rat} (hx:ze x 2) {j:Nat} : ∀(b l:QL) (k:Nat),(∀y∈b,ze y 2)→k+b.length≤l.length→(∀t,t<k→ze (l.getD t 0) (j+5))→(∀t,k≤t→ze (l.getD t 0) j)→∀t,ze ((vR x l k b).getD t 0) (j+5)
 | [],l,k,_,_,h1,h2,t=>by
  show ze (l.getD t 0) (j+5)
  by_cases h:t<k
  ·exact h1 t h
  ·exact (h2 t (by omega)).mono (by omega)
 | y::r,l,k,hb,hl,h1,h2,t=>by
  simp only[bP]at hl;refine ZC hx r _ (k+1) (fun z hz=>hb z (by simp[hz])) (by rw[aZ];omega) (fun t ht=>?_) (fun t ht=>?_) t
  ·rw[jE (by omega)];by_cases e:k=t
   ·rw[hZ e];exact (XM (h2 k (bB _)) (kM hx (hb y (by simp)))).mono (by omega)
   ·rw[hI e];exact h1 t (by omega)
  ·rw[jE (by omega),hI (by omega)];exact h2 t (by omega)
theorem KL {b:QL} (hb : ∀y∈b,ze y 2) : ∀(a l:QL) (i j:Nat),(∀x∈a,ze x 2)→i+a.length+b.length≤l.length+1→(∀t,ze (l.getD t 0) j)→∀t,ze ((xY b l i a).getD t 0) (j+5*a.length)
 | [],l,i,j,_,_,h,t=>h t
 | x::r,l,i,j,ha,hl,h,t=>by
  simp only[bP]at hl ⊢;have:=KL hb r (vR x l i b) (i+1) (j+5) (fun z hz=>ha z (by simp[hz])) (by rw[vS];omega) (ZC (ha x (by simp)) b l i hb (by omega) (fun t _=>(h t).mono (by omega)) fun t _=>h t) t;exact this.mono (by omega)
theorem ui {L:QL} {i:Nat} (h:i<L.length):L.drop i=L.getD i 0::L.drop (i+1):=by
 rw[PC h];simp[bE,h]
theorem WZ {S:zA} {id sz:Nat} {rows:List (List PV)} {g:Option (Option Nat)} (hS:S[id]? = some (.arr rows g false)) {i:Nat} (hi:i<rows.length) (hr:(rows.getD i []).length=sz) {c:List PV} (hl:c.length=sz) (hc:c.all PV.cell=true):yr sz S (.mp id i 0) (.agg c)=some (S.set id (.arr (rows.set i c) g false)):=by
 simp only[yr,hS];rw[hZ ⟨hi,by omega,hl,hc⟩];have e:wH (rows.getD i []) 0 (PV.agg c).cells=c:=by
  unfold wH;rw[hZ ⟨rfl,by rw[hr];exact hl⟩];rfl
 rw[e]
def xR {α:Type} (c z:α) (n j:Nat):List α:=List.replicate j c++List.replicate (n-j) z
theorem uj {α:Type} (c z:α) {n j:Nat} (h:j≤n):(xR c z n j).length=n:=by simp[xR];omega
theorem W0 {α:Type} (c z:α) {n j:Nat} (h:j<n):(xR c z n j).set j c=xR c z n (j+1):=by
 unfold xR;rw[List.set_append_right _ _ (by simp),sY,sM];obtain⟨m,hm⟩ : ∃m,n-j=m+1:=⟨n-j-1,by omega⟩;rw[hm,sV,pV,PD,show n-(j+1)=m by omega];simp
theorem ZY {α:Type} {c z:α} {n j:Nat} {r:α} (h:r∈xR c z n j):r=c∨r=z:=by
 unfold xR at h
 rcases sB.1 h with h | h
 ·exact .inl (HS h)
 ·exact .inr (HS h)
theorem W1 {α:Type} (c z:α) (n:Nat):xR c z n n=List.replicate n c:=by simp[xR]
theorem XQ {α:Type} (c z:α) (n:Nat):xR c z n 0=List.replicate n z:=by simp[xR]
def z3:List PV:=[.bool false,.sl [] true,.sl [] true]
theorem Qa {c z:List PV} {n j sz:Nat} (hc:c.length=sz) (hz:z.length=sz):zq sz (xR c z n j)=true:=by
 unfold zq;rw[pN];intro r hr
 rcases ZY hr with rfl | rfl
 ·simpa using hc
 ·simpa using hz
theorem KM {c z:List PV} {n j sz i:Nat} (hc:c.length=sz) (hz:z.length=sz) (hi:i<n) (hj:j≤n):((xR c z n j).getD i []).length=sz:=by
 have h:i<(xR c z n j).length:=by rw[uj _ _ hj];exact hi
 rw[bE,bI h,BS]
 rcases ZY (BY h) with e | e <;> rw[e] <;> assumption
theorem W2 {c z:List PV} {n j:Nat} (hc:xa c=[]) (hz:xa z=[]):zd (xR c z n j)=[]:=by
 have : ∀l:List (List PV),(∀r∈l,xa r=[])→zd l=[]:=by
  intro l
  induction l with
  | nil=>intro _;rfl
  | cons a r ih =>
   intro h;rw[yP,h a (by simp),ih fun x hx=>h x (by simp[hx])];rfl
 refine this _ fun r hr=>?_
 rcases ZY hr with rfl | rfl <;> assumption
theorem zA5 (n:Nat):List.replicate n (qc 0)=zO (List.replicate n 0):=by simp[zO]
theorem zA6 (n:Nat):List.replicate n (rc 0)=zn (List.replicate n 0):=by simp[zn]
section
attribute [local irreducible] Vs.callL Vs.callRL tyi zQ yE zm zV zk zb zK zf zF zT zl zi zJ zL zj yB yO yD zN zh Vs.gc zH
noncomputable def XR:FX:=⟨Tryz.f37,zD.of 37,[]⟩
instance ok37_:XR.ok 37:=FX.mk'
theorem Jl (a b:QL) (n:Nat) (hn:n≤100) (g:Option (Option Nat)) (fs:List Fr) : ∀m j,j+m=n→∀z:PV × zA,zZ 0 XR 0 fs [(0,.sl (zO a) false),(1,.sl (zO b) false),(5,.msl 0 0 n true),(27,.undef),(28,.undef),(29,.undef)] [.arr (zO (List.replicate n 0)) g false]=some z→zS 0 XR 0 244 1 fs [(0,.sl (zO a) false),(1,.sl (zO b) false),(5,.msl 0 0 n true),(27,.int .i64 n),(28,.int .i64 j)] [.arr (xR (qc 0) z3 n j) g false]=some z:=by
 intro m
 induction m with
 | zero =>
  intro j hj z hz;have ej:j=n:=by omega
  subst ej;have h1 : ¬(j:Int)<(j:Int):=by omega
  rw[W1,zA5];apply zC;(repeat((conv=>lhs;whnf);simp only[go_sem,simprocAttr,h1]));exact hz
 | succ m ih =>
  intro j hj z hz;have h1:(j:Int)<(n:Int):=by omega
  have h2:IntKind.i64.wrap ((j:Int)+1)=((j+1:Nat):Int):=by rw[bA];omega
  have key:=ih (j+1) (by omega) z hz;have zr:=Q8;have ix:=fun X=>uO.idxm (S:=.arr (xR (qc 0) z3 n j) g false::X) (id:=0) (off:=0) (n:=n) (ex:=true) (rows:=xR (qc 0) z3 n j) j rfl (by rw[uj _ _ (by omega)];omega) (Qa rfl rfl) (by omega);have st : ∀X,yr 3 (.arr (xR (qc 0) z3 n j) g false::X) (.mp 0 j 0) (.agg (qc 0))=some (.arr (xR (qc 0) z3 n (j+1)) g false::X):=fun X=>by
   rw[←W0 _ _ (by omega)];exact WZ (S:=.arr (xR (qc 0) z3 n j) g false::X) (id:=0) (sz:=3) rfl (i:=j) (by rw[uj _ _ (by omega)];omega) (KM rfl rfl (by omega) (by omega)) (c:=qc 0) rfl rfl
  apply zC;(repeat((conv=>lhs;whnf);simp only[go_sem,simprocAttr,h1,h2,ix,zr,st]));exact key
theorem Jm (b:QL) (x:Rat) (i n:Nat) (hx:ze x 2) (hb : ∀y∈b,ze y 2) (hL:b.length≤9) (hi:i≤9) (j0:Nat) (hj0:j0≤100) (a':QL) (al:Int) (g:Option (Option Nat)) (fs:List Fr) : ∀m k (l:QL),k+m=b.length→l.length=n→i+b.length≤n→(∀t,i+k≤t→ze (l.getD t 0) j0)→∀z:PV × zA,zZ 0 XR 4 fs [(1,.sl (zO b) false),(5,.msl 0 0 n true),(7,.undef),(8,.undef),(36,.sl (zO a') false),(37,.int .i64 al),(38,.int .i64 i),(43,.undef),(44,.undef),(45,.undef),(46,.undef)] [.arr (zO (vR x l (i+k) (b.drop k))) g false,.arr [qc x] none false]=some z→zS 0 XR 4 128204 2 fs [(1,.sl (zO b) false),(5,.msl 0 0 n true),(7,.int .i64 i),(8,.mp 1 0 0),(36,.sl (zO a') false),(37,.int .i64 al),(38,.int .i64 i),(43,.sl (zO b) false),(44,.int .i64 b.length),(45,.int .i64 k)] [.arr (zO l) g false,.arr [qc x] none false]=some z:=by
 intro m
 induction m with
 | zero =>
  intro k l hk hl hle hw z hz;have h1 : ¬(k:Int)<(b.length:Int):=by omega
  rw[pA (by omega)]at hz;apply zC;(repeat((conv=>lhs;whnf);simp only[go_sem,simprocAttr,h1]));exact hz
 | succ m ih =>
  intro k l hk hl hle hw z hz;have h1:(k:Int)<(b.length:Int):=by omega
  have h2:IntKind.i64.wrap ((k:Int)+1)=((k+1:Nat):Int):=by rw[bA];omega
  have h3:IntKind.i64.wrap ((i:Int)+(k:Int))=((i+k:Nat):Int):=by rw[bA];omega
  have h4:0≤(k:Int)∧(k:Int)<(b.length:Int):=⟨by omega,h1⟩;have hy:=hb _ (xK (L:=b) (i:=k) (by omega));have hk0:=hw (i+k) (bB _);rw[ui (by omega)]at hz;have key:=ih (k+1) (l.set (i+k) (l.getD (i+k) 0+x*b.getD k 0)) (by omega) (by rw[aZ];exact hl) hle (fun t ht=>by
   rw[jE (by omega),hI (by omega)];exact hw t (by omega)) z hz
  have m1:=fun S=>Je S x (b.getD k 0) (hx.mono (by omega)) (hy.mono (by omega));have a1:=fun S=>Jf S (l.getD (i+k) 0) (x*b.getD k 0) (hk0.mono (by omega)) ((kM hx hy).mono (by omega));have ix:=fun X=>uO.idxm (S:=.arr (zO l) g false::X) (id:=0) (off:=0) (n:=n) (ex:=true) (rows:=zO l) (i+k) rfl (by rw[wz];omega) (ZB _) (by omega);have ld:=fun X=>wS.load (S:=.arr (zO l) g false::X) (id:=0) (i:=i+k) rfl (by omega) 0 (Q6 _);have st : ∀X,yr 3 (.arr (zO l) g false::X) (.mp 0 (i+k) 0) (.agg (qc (l.getD (i+k) 0+x*b.getD k 0)))=some (.arr (zO (l.set (i+k) (l.getD (i+k) 0+x*b.getD k 0))) g false::X):=fun X=>wS.store (S:=.arr (zO l) g false::X) (id:=0) rfl (by omega) _ rfl;apply zC;(repeat((conv=>lhs;whnf);simp only[go_sem,simprocAttr,h1,h2,h3,h4,bD,ix,ld,m1,a1,st]));exact key
theorem Jn (a b:QL) (n:Nat) (ha : ∀y∈a,ze y 2) (hb : ∀y∈b,ze y 2) (hL:b.length≤9) (hM:a.length≤9) (hn:a.length+b.length≤n+1) (g:Option (Option Nat)) (fs:List Fr) : ∀m i (l:QL),i+m=a.length→l.length=n→(∀t,ze (l.getD t 0) (5*i+1))→∀z:PV × zA,zZ 0 XR 2 fs [(1,.undef),(5,.msl 0 0 n true),(36,.undef),(37,.undef),(38,.undef),(39,.undef)] [.arr (zO (xY b l i (a.drop i))) g false]=some z→zS 0 XR 2 500 1 fs [(1,.sl (zO b) false),(5,.msl 0 0 n true),(36,.sl (zO a) false),(37,.int .i64 a.length),(38,.int .i64 i)] [.arr (zO l) g false]=some z:=by
 intro m
 induction m with
 | zero =>
  intro i l hi hl hw z hz;have h1 : ¬(i:Int)<(a.length:Int):=by omega
  rw[pA (by omega)]at hz;apply zC;(repeat((conv=>lhs;whnf);simp only[go_sem,simprocAttr,h1]));exact hz
 | succ m ih =>
  intro i l hi hl hw z hz;have h1:(i:Int)<(a.length:Int):=by omega
  have h2:IntKind.i64.wrap ((i:Int)+1)=((i+1:Nat):Int):=by rw[bA];omega
  have h4:0≤(i:Int)∧(i:Int)<(a.length:Int):=⟨by omega,h1⟩;have hx:=ha _ (xK (L:=a) (i:=i) (by omega));rw[ui (by omega)]at hz;have key:=ih (i+1) (vR (a.getD i 0) l i b) (by omega) (by rw[vS];exact hl) (ZC (j:=5*i+1) hx b l i hb (by omega) (fun t _=>(hw t).mono (by omega)) fun t _=>hw t) z hz;have lp:=fun fs=>Jm b (a.getD i 0) i n hx hb hL (by omega) (5*i+1) (by omega) a a.length g fs b.length 0 l (by omega) hl (by omega) (fun t _=>hw t);rw[pH,sC]at lp;apply zC;(repeat((conv=>lhs;whnf);simp only[go_sem,simprocAttr,h1,h2,h4,bD]));refine lp _ _ ?_;apply zR;(repeat((conv=>lhs;whnf);simp only[go_sem,simprocAttr,h1,h2,h4]));exact key
theorem VW (n t:Nat):(List.replicate n (0:Rat)).getD t 0=0:=by
 rw[bE,PJ]
 split <;> rfl
theorem zA7 (a b:QL) (hM:a.length≤9) (hL:b.length≤9) (ha : ∀q∈a,ze q 2) (hb : ∀q∈b,ze q 2):callL Tryz.prog zD 37 [.sl (zO a) false,.sl (zO b) false]=some (if a=[]∨b=[] then .sl [] true else .sl (zO (zA1 a b)) false):=by
 by_cases h0:a=[]
 ·subst h0;rw[hZ (.inl rfl)];apply FX.retV ok37_ 1000 rfl rfl
  ·((repeat((conv=>lhs;whnf);simp only[go_sem,simprocAttr,HR]));try rfl)
  ·rfl
 by_cases h1:b=[]
 ·subst h1;rw[hZ (.inr rfl)];have g0 : ¬(a.length:Int)=0:=by have:=aR.2 h0;omega
  apply FX.retV ok37_ 1000 rfl rfl
  ·((repeat((conv=>lhs;whnf);simp only[go_sem,simprocAttr,HR,g0]));try rfl)
  ·rfl
 rw[hI (by simp[h0,h1])];have p0:=aR.2 h0;have p1:=aR.2 h1;have g0 : ¬(a.length:Int)=0:=by omega
 have g1 : ¬(b.length:Int)=0:=by omega
 obtain⟨n,hn⟩ : ∃n,n=a.length+b.length-1:=⟨_,rfl⟩;have w1:IntKind.i64.wrap ((a.length:Int)+(b.length:Int))=(a.length:Int)+b.length:=by rw[bA];omega
 have w2:IntKind.i64.wrap ((a.length:Int)+(b.length:Int)-1)=(n:Int):=by rw[bA];omega
 have mk:=fun id=>uO.make Yq id n (by omega) (by omega);have e0:List.replicate n [PV.bool false,.sl [] true,.sl [] true]=xR (qc 0) z3 n 0:=(XQ _ _ _).symm;rw[e0]at mk;have k0:=fun g fs=>Jl a b n (by omega) g fs n 0 (by omega);have k2:=fun g fs=>Jn a b n ha hb hL hM (by omega) g fs a.length 0 (List.replicate n 0) (by omega) sY (fun t=>by rw[VW];exact jB.mono (by omega));rw[pH]at k2;have ml:(xY b (List.replicate n 0) 0 a).length=n:=by rw[kL,sY]
 have tr:=XN (xY b (List.replicate n 0) 0 a) (by omega);have tc:=fun g X=>wS.call (S:=.arr (zO (xY b (List.replicate n 0) 0 a)) g false::X) (id:=0) (n:=n) (ex:=true) tr rfl ml (by simp);unfold zA1;rw[←hn];apply FX.retV ok37_ 1000 rfl rfl
 ·(repeat((conv=>lhs;whnf);simp only[go_sem,simprocAttr,g0,g1,w1,w2,mk,W2]));apply k0;apply zR;(repeat((conv=>lhs;whnf);simp only[go_sem,simprocAttr]));apply k2;apply zR;((repeat((conv=>lhs;whnf);simp only[go_sem,simprocAttr,tc]));try rfl)
 ·exact EncT.fzS _ _
end
end
end Go.Vs
