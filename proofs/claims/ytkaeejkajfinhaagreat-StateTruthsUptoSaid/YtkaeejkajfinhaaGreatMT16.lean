
import Derived.Test.YtkaeejkajfinhaaGreatMT15
set_option linter.unusedVariables false
set_option linter.unusedSimpArgs false
section
set_option maxRecDepth 100000
namespace Go.Vs
open Go Go.Proofs
theorem Uk:(tyi Tryz.prog 62).d=.struct [(0,1,false),(1,1,false),(2,1,false)]:=by kernel_rfl
@[go_sem] theorem zN0:(tyi Tryz.prog 62).size=3:=nr (by kernel_rfl)
@[go_sem] theorem zLG:(tyi Tryz.prog 62).known=true:=nr (by kernel_rfl)
@[go_sem] theorem zHg:(tyi Tryz.prog 62).zero=some [.bool false,.sl [] true,.sl [] true]:=nr (by kernel_rfl)
@[go_sem] theorem zRr (n:Nat):zU (tyi Tryz.prog 62) n=some {v:=.mp n 0 0,new:=some ([[.bool false,.sl [] true,.sl [] true]],none)} := nr (by unfold zU;rw[zHg];rfl)
@[go_sem] theorem zRs (l:List (Nat × PV)):zV Tryz.prog 62 l=(qP [(0,1,false),(1,1,false),(2,1,false)] [.bool false,.sl [] true,.sl [] true] l).map .agg:=nr (by unfold zV;rw[Uk];dsimp only;unfold zb;rw[Uk,zHg];rfl)
theorem zLH (row:List PV):part (tyi Tryz.prog 62) row=if 3≤row.length then some (.agg (row.take 3)) else none:=by simp[part,zLG,TI.isAgg,Uk,zN0]
@[go_sem] theorem zTn (id i off:Nat):zA (tyi Tryz.prog 62) 0 (.mp id i off)=some (.mp id i (off+0)):=by simp[zA,Uk]
@[go_sem] theorem zTo (r:List PV):zA (tyi Tryz.prog 62) 0 (.cp r)=some (.cp (r.drop 0)):=by simp[zA,Uk]
@[go_sem] theorem zTp (cs:List PV):zK (tyi Tryz.prog 62) 0 (.agg cs)=cs[0]? := by simp[zK,Uk]
@[go_sem] theorem zTq (id i off:Nat):zA (tyi Tryz.prog 62) 1 (.mp id i off)=some (.mp id i (off+1)):=by simp[zA,Uk]
@[go_sem] theorem zTr (r:List PV):zA (tyi Tryz.prog 62) 1 (.cp r)=some (.cp (r.drop 1)):=by simp[zA,Uk]
@[go_sem] theorem zTs (cs:List PV):zK (tyi Tryz.prog 62) 1 (.agg cs)=cs[1]? := by simp[zK,Uk]
@[go_sem] theorem zTt (id i off:Nat):zA (tyi Tryz.prog 62) 2 (.mp id i off)=some (.mp id i (off+2)):=by simp[zA,Uk]
@[go_sem] theorem zTu (r:List PV):zA (tyi Tryz.prog 62) 2 (.cp r)=some (.cp (r.drop 2)):=by simp[zA,Uk]
@[go_sem] theorem zTv (cs:List PV):zK (tyi Tryz.prog 62) 2 (.agg cs)=cs[2]? := by simp[zK,Uk]
attribute [go_sem] zLH
@[go_sem] theorem zRt (v:PV) (r:List PV):part (tyi Tryz.prog 60) (v::r)=some v:=by
 have k:(tyi Tryz.prog 60).known=true:=by kernel_rfl
 simp[part,k,TI.isAgg,wV.d]
def rrL (neg:Bool) (n d:Nat):PV:=.agg [.bool neg,zg n,zg d]
def rrV (q:Rat):PV:=rrL (yG q) q.num.natAbs q.den
theorem zIo (neg:Bool) (n d:Nat):zi (rrL neg n d):=⟨rfl,fun _=>rfl⟩
theorem vN (q:Rat):zi (rrV q):=zIo _ _ _
theorem zGA:dec 1=[1]:=by
 unfold dec;rw[vh DB2 (by decide)];have:1 / DB=0:=by decide
 rw[this,xH]
 decide
theorem JA:zg 1=.sl [[.int .i64 1]] false:=by unfold zg yI;rw[zGA];rfl
theorem zUn:yG 0=false:=rfl
theorem zUo:(0:Rat).num.natAbs=0:=rfl
theorem zUp:(0:Rat).den=1:=rfl
theorem zGB:yG 1=false:=rfl
theorem zUq:(1:Rat).num.natAbs=1:=rfl
theorem zUr:(1:Rat).den=1:=rfl
theorem zDi:rrV 0=.agg [.bool false,.sl [] false,.sl [[.int .i64 1]] false]:=by
 unfold rrV rrL;rw[zUn,zUo,zUp,Vq,JA]
theorem zN1:rrV 1=.agg [.bool false,.sl [[.int .i64 1]] false,.sl [[.int .i64 1]] false]:=by
 unfold rrV rrL;rw[zGB,zUq,zUr,JA]
theorem zP5 (neg:Bool) {n d:Nat} (hn:n≠0) (hd:d≠0):rrV (mkRat (sg neg n) d)=rrL neg (n / Nat.gcd n d) (d / Nat.gcd n d):=by
 unfold rrV;have h1:yG (mkRat (sg neg n) d)=neg:=by
  unfold yG;have:=Wx neg n hd;have e:(if neg=true then -(n:Int) else n)=sg neg n:=rfl;rw[e]at this;cases neg with
  | true=>exact bG (this.2 ⟨rfl,hn⟩)
  | false=>exact bH (fun h=>by have:=(this.1 h).1;cases this)
 rw[h1,zBA hd,zBB hd,Zf]
theorem zv.pos {n:Nat} {v:PV} (h:zv n v) (h0:n≠0):v=zg n:=by
 rcases h with h | ⟨h,_⟩
 ·exact h
 ·exact absurd h h0
section
attribute [local irreducible] Vs.callL Vs.callRL tyi zO zk zf zQ zW zZ zI zX zA zK zb zV zG zJ zU zs yL zr zL za Vs.gc zH
noncomputable def zRu:FX:=⟨Tryz.f51,zE.of 51,[]⟩
instance ok51_:zRu.ok 51:=FX.mk'
theorem YN:callL Tryz.prog zE 51 []=some (rrV 0):=by
 rw[zDi];refine FX.callL (r:=(.agg [.bool false,.msl 1 0 0 true,.msl 2 0 1 true],[.arr [[.bool false,.msl 1 0 0 true,.msl 2 0 1 true]] none false,.arr [] (some (some 1)) false,.arr [[.int .i64 1]] (some (some 1)) false])) ok51_ 1000 rfl rfl ?_ rfl;((repeat((conv=>lhs;whnf);simp only[go_sem,simprocAttr]));try rfl)
noncomputable def zRv:FX:=⟨Tryz.f34,zE.of 34,[]⟩
instance ok34_:zRv.ok 34:=FX.mk'
theorem zDj:callL Tryz.prog zE 34 []=some (rrV 1):=by
 rw[zN1];refine FX.callL (r:=(.agg [.bool false,.msl 1 0 1 true,.msl 2 0 1 true],[.arr [[.bool false,.msl 1 0 1 true,.msl 2 0 1 true]] none false,.arr [[.int .i64 1]] (some (some 1)) false,.arr [[.int .i64 1]] (some (some 1)) false])) ok34_ 1000 rfl rfl ?_ rfl;((repeat((conv=>lhs;whnf);simp only[go_sem,simprocAttr]));try rfl)
noncomputable def zP6:FX:=⟨Tryz.f140,zE.of 140,[]⟩
instance ok140_:zP6.ok 140:=FX.mk'
theorem zBN (q:Rat):callL Tryz.prog zE 140 [rrV q]=some (.int .i64 (qF q)):=by
 refine FX.callL (r:=(.int .i64 (qF q),[.arr [[.bool (yG q),zg q.num.natAbs,zg q.den]] none false])) ok140_ 1000 rfl rfl ?_ rfl;unfold rrV rrL zg yI;have l0:=uI (n:=q.num.natAbs);by_cases h0:q.num.natAbs=0
 ·have w:(dec q.num.natAbs).length=0:=l0.2 h0;have e:qF q=0:=by unfold qF;rw[bA (by omega)]
  rw[e];((repeat((conv=>lhs;whnf);simp only[go_sem,simprocAttr,w]));try rfl)
 ·have w : ¬(dec q.num.natAbs).length=0:=fun e=>h0 (l0.1 e);have w' : ¬((dec q.num.natAbs).length:Int)=0:=by omega
  have e:qF q=if yG q then -1 else 1:=by unfold qF;rw[hZ (by omega)]
  rw[e]
  cases hn:yG q with
  | true=>((repeat((conv=>lhs;whnf);simp only[go_sem,simprocAttr,w,w',hn]));try rfl)
  | false=>((repeat((conv=>lhs;whnf);simp only[go_sem,simprocAttr,w,w',hn]));try rfl)
noncomputable def zP7:FX:=⟨Tryz.f165,zE.of 165,[]⟩
instance ok165_:zP7.ok 165:=FX.mk'
theorem zDk (q:Rat):callL Tryz.prog zE 165 [rrV q]=some (rrV (-q)):=by
 have e:rrV (-q)=rrL (!(yG q)&&decide (q.num.natAbs≠0)) q.num.natAbs q.den:=by
  unfold rrV yG;have h1:decide ((-q).num<0)=(!(decide (q.num<0))&&decide (q.num.natAbs≠0)):=by
   rw[PS]
   rcases PP q.num 0 with h | h | h
   ·simp[h];omega
   ·simp[h]
   ·have a1 : ¬q.num<0:=by omega
    have a2:q.num.natAbs≠0:=by omega
    simp[a1,a2];omega
  rw[h1,PS,Rat.neg_den,Int.natAbs_neg]
 rw[e];refine FX.callL (r:=(rrL (!(yG q)&&decide (q.num.natAbs≠0)) q.num.natAbs q.den,[.arr [[.bool (yG q),zg q.num.natAbs,zg q.den]] none false,.arr [[.bool (!(yG q)&&decide (q.num.natAbs≠0)),zg q.num.natAbs,zg q.den]] none false])) ok165_ 1000 rfl rfl ?_ rfl;unfold rrV rrL zg yI;have l0:=uI (n:=q.num.natAbs);by_cases h0:q.num.natAbs=0
 ·have w:(dec q.num.natAbs).length=0:=l0.2 h0;have hn:yG q=false:=by unfold yG;exact bH (by omega)
  simp only[hn,h0,ne_eq,not_true_eq_false,decide_false,bQ];rw[h0]at w;((repeat((conv=>lhs;whnf);simp only[go_sem,simprocAttr,w]));try rfl)
 ·have w : ¬(dec q.num.natAbs).length=0:=fun e=>h0 (l0.1 e);have w' : ¬((dec q.num.natAbs).length:Int)=0:=by omega
  simp only[h0,ne_eq,not_false_eq_true,decide_true,bX];((repeat((conv=>lhs;whnf);simp only[go_sem,simprocAttr,w,w']));try rfl)
noncomputable def zP8:FX:=⟨Tryz.f161,zE.of 161,[]⟩
instance ok161_:zP8.ok 161:=FX.mk'
theorem zBO {neg:Bool} {n d:Nat} {va vb:PV} (ha:zv n va) (hb:zv d vb) (hd:d≠0) (hn:(dec n).length≤800000) (hdl:(dec d).length≤800000):callL Tryz.prog zE 161 [.bool neg,va,vb]=some (rrV (mkRat (sg neg n) d)):=by
 by_cases h0:n=0
 ·subst h0;rw[zHf,UV];have cz:=fun S=>zF (S:=S) YN (by simp);have l0:(dec 0).length=0:=uI.2 rfl;obtain⟨e1,rfl,p1⟩:=ha.form;refine FX.callL (r:=(rrV 0,[.arr [[.bool false,.sl [] false,.sl [[.int .i64 1]] false]] none false])) ok161_ 1000 rfl rfl ?_ rfl;rw[zDi]at *;unfold yI at *;((repeat((conv=>lhs;whnf);simp only[go_sem,simprocAttr,l0,cz]));try rfl)
 ·rw[zP5 neg h0 hd,ha.pos h0,hb.pos hd];have l0 : ¬(dec n).length=0:=fun e=>h0 (uI.1 e);have l0' : ¬((dec n).length:Int)=0:=by omega
  by_cases hone:d=1
  ·subst hone;have l1:(dec 1).length=1:=by rw[zGA];rfl
   have g1:(dec 1).getD 0 0=1:=by rw[zGA];rfl
   have x0:0≤(0:Int)∧(0:Int)<((dec 1).length:Int):=by rw[l1];decide
   rw[Nat.gcd_one_right,PT,PT];refine FX.callL (r:=(rrL neg n 1,[.arr [[.bool neg,zg n,zg 1]] none false])) ok161_ 1000 rfl rfl ?_ rfl;unfold rrL zg yI;((repeat((conv=>lhs;whnf);simp only[go_sem,simprocAttr,l0,l0',l1,x0,sD,g1]));try rfl)
  ·have hD : ¬((dec d).length=1∧(dec d).getD 0 0=1):=fun h=>hone (by
    obtain⟨x,hx⟩:=BO.1 h.1;have hv:=vJ d;rw[hx]at h hv;simp[zM]at hv;simp[bN]at h;omega)
   obtain⟨g,ig,cg⟩:=zHe (zv.of n) (zv.of d) hn hdl;have hg0:Nat.gcd n d≠0:=fun e=>hd (AE e);have:=ig.pos hg0;subst this;have hgl:(dec (Nat.gcd n d)).length≤800000:=bP (kK (PA (by omega) (SK n d))) hdl;have x0:0≤(0:Int)∧(0:Int)<((dec d).length:Int):=⟨by omega,by have:(dec d).length≠0:=fun e=>hd (uI.1 e);omega⟩;have x1:0≤(0:Int)∧(0:Int)<((dec (Nat.gcd n d)).length:Int):=⟨by omega,by have:(dec (Nat.gcd n d)).length≠0:=fun e=>hg0 (uI.1 e);omega⟩;have first:((dec d).length=1→¬(dec d).getD 0 0=1):=fun h1 h2=>hD ⟨h1,h2⟩
   by_cases h1:Nat.gcd n d=1
   ·rw[h1,PT,PT];rw[h1]at cg x1;have l1:(dec 1).length=1:=by rw[zGA];rfl
    have g1:(dec 1).getD 0 0=1:=by rw[zGA];rfl
    refine FX.callL (r:=(rrL neg n d,[.arr [[.bool neg,zg n,zg d]] none false])) ok161_ 1000 rfl rfl ?_ rfl;unfold rrL zg yI at *;by_cases hl:(dec d).length=1
    ·have hl':((dec d).length:Int)=1:=by omega
     have f:=first hl
     ((repeat((conv=>lhs;whnf);simp only[go_sem,simprocAttr,l0,l0',hl,hl',x0,sD,f,cg,l1,x1,g1]));try rfl)
    ·have hl' : ¬((dec d).length:Int)=1:=by omega
     ((repeat((conv=>lhs;whnf);simp only[go_sem,simprocAttr,l0,l0',hl,hl',cg,l1,x1,sD,g1]));try rfl)
   ·have second:((dec (Nat.gcd n d)).length=1→¬(dec (Nat.gcd n d)).getD 0 0=1):=fun a1 a2=>h1 (by
     obtain⟨x,hx⟩:=BO.1 a1;have hv:=vJ (Nat.gcd n d);rw[hx]at a2 hv;simp[zM]at hv;simp[bN]at a2;omega)
    obtain⟨q1,r1,iq1,_,d1⟩:=WN (zv.of n) (zv.of (Nat.gcd n d)) hn hgl hg0;obtain⟨q2,r2,iq2,_,d2⟩:=WN (zv.of d) (zv.of (Nat.gcd n d)) hdl hgl hg0;have e1:=iq1.pos (by
     have:=Nat.div_pos (PA (by omega) (Nat.gcd_dvd_left n d)) (by omega);omega)
    have e2:=iq2.pos (by
     have:=Nat.div_pos (PA (by omega) (SK n d)) (by omega);omega)
    subst e1 e2;refine FX.callL (r:=(rrL neg (n / Nat.gcd n d) (d / Nat.gcd n d),[.arr [[.bool neg,zg (n / Nat.gcd n d),zg (d / Nat.gcd n d)]] none false])) ok161_ 1000 rfl rfl ?_ rfl;unfold rrL zg yI at *;by_cases hl:(dec d).length=1 <;> by_cases hk:(dec (Nat.gcd n d)).length=1
    ·have hl':((dec d).length:Int)=1:=by omega
     have hk':((dec (Nat.gcd n d)).length:Int)=1:=by omega
     have f:=first hl
     have f2:=second hk;((repeat((conv=>lhs;whnf);simp only[go_sem,simprocAttr,l0,l0',hl,hl',x0,sD,f,cg,hk,hk',x1,f2,d1,d2]));try rfl)
    ·have hl':((dec d).length:Int)=1:=by omega
     have hk' : ¬((dec (Nat.gcd n d)).length:Int)=1:=by omega
     have f:=first hl
     ((repeat((conv=>lhs;whnf);simp only[go_sem,simprocAttr,l0,l0',hl,hl',x0,sD,f,cg,hk,hk',d1,d2]));try rfl)
    ·have hl' : ¬((dec d).length:Int)=1:=by omega
     have hk':((dec (Nat.gcd n d)).length:Int)=1:=by omega
     have f2:=second hk;((repeat((conv=>lhs;whnf);simp only[go_sem,simprocAttr,l0,l0',hl,hl',cg,hk,hk',x1,sD,f2,d1,d2]));try rfl)
    ·have hl' : ¬((dec d).length:Int)=1:=by omega
     have hk' : ¬((dec (Nat.gcd n d)).length:Int)=1:=by omega
     ((repeat((conv=>lhs;whnf);simp only[go_sem,simprocAttr,l0,l0',hl,hl',cg,hk,hk',d1,d2]));try rfl)
end
end Go.Vs
end
section
set_option maxRecDepth 100000
namespace Go.Vs
open Go Go.Proofs
def wn (q:Rat) (k:Nat):Prop:=(dec q.num.natAbs).length≤k∧(dec q.den).length≤k
theorem wn.mono {q:Rat} {j k:Nat} (h:wn q j) (hk:j≤k):wn q k:=⟨bP h.1 hk,bP h.2 hk⟩
theorem wH.dec {q:Rat} {k:Nat} (h:wH q k):wn q (3*k):=⟨Ze h.1,Ze h.2⟩
theorem wn.words {q:Rat} {k:Nat} (h:wn q k):wH q k:=⟨Qx h.1,Qx h.2⟩
theorem Uz {neg:Bool} {n d:Nat} {va vb:PV} (ha:zv n va) (hb:zv d vb) (hd:d≠0) (hn:(dec n).length≤800000) (hdl:(dec d).length≤800000) (S:zB):zO (callL Tryz.prog zE) S 161 [.bool neg,va,vb]=some {v:=rrV (mkRat (sg neg n) d)} :=
 zF (S:=S) (zBO ha hb hd hn hdl) (by simp[ha.plain,hb.plain,zi.bool])
theorem zHh {m n k:Nat} (hm:(dec m).length≤k) (hn:(dec n).length≤k):(dec (m+n)).length≤k+1:=zDC DB2 hm hn
theorem zAC {q:Rat} (h:q.num.natAbs=0):yG q=false:=by unfold yG;exact bH (by omega)
section
attribute [local irreducible] Vs.callL Vs.callRL tyi zO zk zf zQ zW zZ zI zX zA zK zb zV zG zJ zU zs yL zr zL za Vs.gc zH
noncomputable def zP9:FX:=⟨Tryz.f138,zE.of 138,[]⟩
instance ok138_:zP9.ok 138:=FX.mk'
theorem UX (q r:Rat) (hq:wn q 300000) (hr:wn r 300000):callL Tryz.prog zE 138 [rrV q,rrV r]=some (rrV (q*r)):=by
 have c1:=VE (zv.of q.num.natAbs) (zv.of r.num.natAbs) (by have:=hq.1;omega) (by have:=hr.1;omega);have c2:=VE (zv.of q.den) (zv.of r.den) (by have:=hq.2;omega) (by have:=hr.2;omega);have mk:=Uz (neg:=yG q != yG r) (zv.of (q.num.natAbs*r.num.natAbs)) (zv.of (q.den*r.den)) (PU q.den_nz r.den_nz) (bP (kT hq.1 hr.1) (by omega)) (bP (kT hq.2 hr.2) (by omega));rw[←WO]at mk;rw[show (yG q != yG r) = !(yG q == yG r) from rfl]at mk;refine FX.callL (r:=(rrV (q*r),[.arr [[.bool (yG q),zg q.num.natAbs,zg q.den]] none false,.arr [[.bool (yG r),zg r.num.natAbs,zg r.den]] none false,.arr [[.bool (yG (q*r)),zg (q*r).num.natAbs,zg (q*r).den]] none false])) ok138_ 1000 rfl rfl ?_ rfl;unfold rrV rrL zg yI at *;((repeat((conv=>lhs;whnf);simp only[go_sem,simprocAttr,c1,c2,mk]));try rfl)
noncomputable def zPa:FX:=⟨Tryz.f139,zE.of 139,[]⟩
instance ok139_:zPa.ok 139:=FX.mk'
theorem UY (q r:Rat) (hq:wn q 300000) (hr:wn r 300000):callL Tryz.prog zE 139 [rrV q,rrV r]=some (rrV (q+r)):=by
 have k1:=VE (zv.of q.num.natAbs) (zv.of r.den) (by have:=hq.1;omega) (by have:=hr.2;omega);have k2:=VE (zv.of r.num.natAbs) (zv.of q.den) (by have:=hr.1;omega) (by have:=hq.2;omega);have k3:=VE (zv.of q.den) (zv.of r.den) (by have:=hq.2;omega) (by have:=hr.2;omega);have hX:(dec (q.num.natAbs*r.den)).length≤600000:=kT hq.1 hr.2;have hY:(dec (r.num.natAbs*q.den)).length≤600000:=kT hr.1 hq.2;have hD:(dec (q.den*r.den)).length≤600000:=kT hq.2 hr.2;have hd0:=PU q.den_nz r.den_nz;refine FX.callL (r:=(rrV (q+r),[.arr [[.bool (yG q),zg q.num.natAbs,zg q.den]] none false,.arr [[.bool (yG r),zg r.num.natAbs,zg r.den]] none false,.arr [[.bool (yG (q+r)),zg (q+r).num.natAbs,zg (q+r).den]] none false])) ok139_ 1000 rfl rfl ?_ rfl;by_cases hs:yG q=yG r
 ·have hb:(yG q == yG r)=true:=by simp[hs]
  have f1:=zNX (zv.of (q.num.natAbs*r.den)) (zv.of (r.num.natAbs*q.den)) (by omega) (by omega);have f2:=Uz (neg:=yG q) (zv.of (q.num.natAbs*r.den+r.num.natAbs*q.den)) (zv.of (q.den*r.den)) hd0 (bP (zHh hX hY) (by omega)) (by omega);have e:q+r=mkRat (sg (yG q) (q.num.natAbs*r.den+r.num.natAbs*q.den)) (q.den*r.den):=by
   rw[vU,←hs,UU]
  rw[←e]at f2;unfold rrV rrL zg yI at *;((repeat((conv=>lhs;whnf);simp only[go_sem,simprocAttr,k1,k2,k3,f1,f2,hb]));try rfl)
 ·have hb:(yG q == yG r)=false:=by simpa using hs
  have f0:=XY (zv.of (q.num.natAbs*r.den)) (zv.of (r.num.natAbs*q.den)) (by omega) (by omega);by_cases hc:r.num.natAbs*q.den≤q.num.natAbs*r.den
  ·have c:0≤xV (q.num.natAbs*r.den) (r.num.natAbs*q.den):=by unfold xV;rw[hZ (by omega)];split <;> omega
   have hx0:q.num.natAbs*r.den≠0:=by
    intro h;have h1:q.num.natAbs=0:=by
     rcases Nat.mul_eq_zero.1 h with h | h
     ·exact h
     ·exact absurd h r.den_nz
    have h2:r.num.natAbs=0:=by
     rcases Nat.mul_eq_zero.1 (show r.num.natAbs*q.den=0 by omega) with h | h
     ·exact h
     ·exact absurd h q.den_nz
    exact hs (by rw[zAC h1,zAC h2])
   have f1:=zBE (zv.of (q.num.natAbs*r.den)) (zv.of (r.num.natAbs*q.den)) hx0 hc (by omega);have f2:=Uz (neg:=yG q) (zv.of (q.num.natAbs*r.den-r.num.natAbs*q.den)) (zv.of (q.den*r.den)) hd0 (bP (kK (Nat.sub_le _ _)) (by omega)) (by omega);have e:q+r=mkRat (sg (yG q) (q.num.natAbs*r.den-r.num.natAbs*q.den)) (q.den*r.den):=by
    rw[vU,zAA hs hc]
   rw[←e]at f2;unfold rrV rrL zg yI at *;((repeat((conv=>lhs;whnf);simp only[go_sem,simprocAttr,k1,k2,k3,f0,f1,f2,hb,c]));try rfl)
  ·have c : ¬ 0≤xV (q.num.natAbs*r.den) (r.num.natAbs*q.den):=by unfold xV;rw[bA (by omega)];omega
   have f1:=zBE (zv.of (r.num.natAbs*q.den)) (zv.of (q.num.natAbs*r.den)) (by omega) (by omega) (by omega);have f2:=Uz (neg:=yG r) (zv.of (r.num.natAbs*q.den-q.num.natAbs*r.den)) (zv.of (q.den*r.den)) hd0 (bP (kK (Nat.sub_le _ _)) (by omega)) (by omega);have e:q+r=mkRat (sg (yG r) (r.num.natAbs*q.den-q.num.natAbs*r.den)) (q.den*r.den):=by
    rw[vU,zAB hs (by omega)]
   rw[←e]at f2;unfold rrV rrL zg yI at *;((repeat((conv=>lhs;whnf);simp only[go_sem,simprocAttr,k1,k2,k3,f0,f1,f2,hb,c]));try rfl)
theorem zLI {q:Rat} {k:Nat} (h:wn q k):wn (-q) k:=by
 unfold wn;rw[PS,Rat.neg_den,Int.natAbs_neg];exact h
noncomputable def zPb:FX:=⟨Tryz.f141,zE.of 141,[]⟩
instance ok141_:zPb.ok 141:=FX.mk'
theorem zDl (q r:Rat) (hq:wn q 300000) (hr:wn r 300000):callL Tryz.prog zE 141 [rrV q,rrV r]=some (rrV (q-r)):=by
 have c1:=fun S=>zF (S:=S) (zDk r) (by simp[vN]);have c2:=fun S=>zF (S:=S) (UY q (-r) hq (zLI hr)) (by simp[vN]);rw[←Rat.sub_eq_add_neg]at c2;refine FX.callL (r:=(rrV (q-r),[.arr [[.bool (yG q),zg q.num.natAbs,zg q.den]] none false,.arr [[.bool (yG r),zg r.num.natAbs,zg r.den]] none false,.arr [[.bool (yG (q-r)),zg (q-r).num.natAbs,zg (q-r).den]] none false])) ok141_ 1000 rfl rfl ?_ rfl;unfold rrV rrL zg yI at *;((repeat((conv=>lhs;whnf);simp only[go_sem,simprocAttr,c1,c2]));try rfl)
noncomputable def zRw:FX:=⟨Tryz.f93,zE.of 93,[]⟩
instance ok93_:zRw.ok 93:=FX.mk'
theorem zDm (q r:Rat) (hq:wn q 300000) (hr:wn r 300000) (h0:r≠0):callL Tryz.prog zE 93 [rrV q,rrV r]=some (rrV (q*r⁻¹)):=by
 obtain⟨h1,h2⟩:=YH h0;have e1:yG r⁻¹ = yG r:=by
  unfold yG;rw[h1];have hd:=r.den_nz;by_cases c:r.num<0
  ·simp[c];omega
  ·simp[c]
 have e2:r⁻¹.num.natAbs=r.den:=by rw[h1];split <;> simp
 have hi:wn r⁻¹ 300000:=by unfold wn;rw[e2,h2];exact⟨hr.2,hr.1⟩
 have c1:=fun S=>zF (S:=S) (UX q r⁻¹ hq hi) (by simp[vN]);refine FX.callL (r:=(rrV (q*r⁻¹),[.arr [[.bool (yG q),zg q.num.natAbs,zg q.den]] none false,.arr [[.bool (yG r),zg r.num.natAbs,zg r.den]] none false,.arr [[.bool (yG (q*r⁻¹)),zg (q*r⁻¹).num.natAbs,zg (q*r⁻¹).den]] none false])) ok93_ 1000 rfl rfl ?_ rfl;have er:rrV r⁻¹ = rrL (yG r) r.den r.num.natAbs:=by unfold rrV;rw[e1,e2,h2]
 rw[er]at c1;unfold rrV rrL zg yI at *;((repeat((conv=>lhs;whnf);simp only[go_sem,simprocAttr,c1]));try rfl)
theorem zLJ (q r:Rat):qF (q-r)=Xe q r:=by
 unfold qF Xe yG;have h1:(q-r).num=0↔q=r:=by
  rw[Rat.num_eq_zero];constructor
  ·intro h;have:=congrArg (· + r) h;simp only[Rat.sub_eq_add_neg,Rat.add_assoc,Rat.neg_add_cancel,Rat.add_zero,Rat.zero_add]at this;exact this
  ·rintro rfl
   exact Rat.sub_self
 have h2:(q-r).num<0↔q<r:=by
  rw[←Int.not_le,Rat.num_nonneg,←Rat.not_le,←Rat.le_iff_sub_nonneg]
 by_cases e:q=r
 ·subst e;rw[bA (h1.2 rfl),hZ (by simp),hZ (by simp)]
 ·rw[hZ (fun h=>e (h1.1 h))];by_cases l:q<r
  ·rw[bA l];simp[h2.2 l]
  ·have l2:r<q:=by
    rcases Rat.le_total (a:=q) (b:=r) with h | h
    ·exact absurd (Rat.lt_of_le_of_ne h e) l
    ·exact Rat.lt_of_le_of_ne h fun h2=>e h2.symm
   rw[hZ l,bA l2];have : ¬(q-r).num<0:=fun h=>l (h2.1 h);simp[this]
noncomputable def zRx:FX:=⟨Tryz.f95,zE.of 95,[]⟩
instance ok95_:zRx.ok 95:=FX.mk'
theorem zDn (q r:Rat) (hq:wn q 300000) (hr:wn r 300000):callL Tryz.prog zE 95 [rrV q,rrV r]=some (.int .i64 (Xe q r)):=by
 have c1:=fun S=>zF (S:=S) (zDl q r hq hr) (by simp[vN]);have c2:=fun S=>zF (S:=S) (zBN (q-r)) (by simp[vN]);rw[zLJ]at c2;refine FX.callL (r:=(.int .i64 (Xe q r),[.arr [[.bool (yG q),zg q.num.natAbs,zg q.den]] none false,.arr [[.bool (yG r),zg r.num.natAbs,zg r.den]] none false])) ok95_ 1000 rfl rfl ?_ rfl;unfold rrV rrL zg yI at *;((repeat((conv=>lhs;whnf);simp only[go_sem,simprocAttr,c1,c2]));try rfl)
end
end Go.Vs
end
section
set_option maxRecDepth 100000
namespace Go.Vs
open Go Go.Proofs
theorem zBP {n:Nat} {v:PV} (h:yH n v) (hn:(words n).length≤100000) (S:zB):zO (callL Tryz.prog zE) S 135 [v]=some {v:=zg n} := by
 obtain⟨e,rfl,hp⟩:=h.form;exact zF (S:=S) (zNW n e hn) (by simp[hp])
theorem zAD {n:Nat} {v:PV} (h:zv n v) (hn:(dec n).length≤1000000) (S:zB):zO (callL Tryz.prog zE) S 73 [v]=some {v:=yQ n} := zF (S:=S) (zFl h hn) (by simp[h.plain])
section
attribute [local irreducible] Vs.callL Vs.callRL tyi zO zk zf zQ zW zZ zI zX zA zK zb zV zG zJ zU zs yL zr zL za Vs.gc zH
noncomputable def zRy:FX:=⟨Tryz.f89,zE.of 89,[]⟩
instance ok89_:zRy.ok 89:=FX.mk'
theorem zGC (q:Rat) (hq:wH q 100000):callL Tryz.prog zE 89 [xT q]=some (rrV q):=by
 have c1:=zBP (yH.of q.num.natAbs) hq.1;have c2:=zBP (yH.of q.den) hq.2;refine FX.callL (r:=(rrV q,[.arr [[.bool (yG q),yB q.num.natAbs false,yB q.den false]] none false,.arr [[.bool (yG q),zg q.num.natAbs,zg q.den]] none false])) ok89_ 1000 rfl rfl ?_ rfl;rw[wC];unfold yQ at c1 c2;unfold rrV rrL zg yI yB at *;((repeat((conv=>lhs;whnf);simp only[go_sem,simprocAttr,c1,c2]));try rfl)
noncomputable def zRz:FX:=⟨Tryz.f32,zE.of 32,[]⟩
instance ok32_:zRz.ok 32:=FX.mk'
theorem JB (q:Rat) (hq:wn q 1000000):callL Tryz.prog zE 32 [rrV q]=some (xT q):=by
 have c1:=zAD (zv.of q.num.natAbs) hq.1;have c2:=zAD (zv.of q.den) hq.2;refine FX.callL (r:=(xT q,[.arr [[.bool (yG q),zg q.num.natAbs,zg q.den]] none false,.arr [[.bool (yG q),yB q.num.natAbs false,yB q.den false]] none false])) ok32_ 1000 rfl rfl ?_ rfl;rw[wC];unfold yQ at c1 c2;unfold rrV rrL zg yI yB at *;((repeat((conv=>lhs;whnf);simp only[go_sem,simprocAttr,c1,c2]));try rfl)
noncomputable def zPc:FX:=⟨Tryz.f136,zE.of 136,[]⟩
instance ok136_:zPc.ok 136:=FX.mk'
theorem Js (q:Rat) (w:Int):callL Tryz.prog zE 136 [xT q,.int .i64 w]=some (.bool (decide ((words q.num.natAbs).length≤w)&&decide ((words q.den).length≤w))):=by
 refine FX.callL (r:=(.bool (decide ((words q.num.natAbs).length≤w)&&decide ((words q.den).length≤w)),[.arr [[.bool (yG q),yB q.num.natAbs false,yB q.den false]] none false])) ok136_ 1000 rfl rfl ?_ rfl;rw[wC];unfold yB;by_cases h:((words q.num.natAbs).length:Int)≤w
 ·simp only[h,decide_true,bC];((repeat((conv=>lhs;whnf);simp only[go_sem,simprocAttr,h]));try rfl)
 ·simp only[h,decide_false,bB];((repeat((conv=>lhs;whnf);simp only[go_sem,simprocAttr,h]));try rfl)
end
end Go.Vs
end
section
set_option maxRecDepth 100000
namespace Go.Vs
open Go Go.Proofs
section
attribute [local irreducible] Vs.callL Vs.callRL tyi zO zk zf zQ zW zZ zI zX zA zK zb zV zG zJ zU zs yL zr zL za Vs.gc zH
noncomputable def zPd:FX:=⟨Tryz.f148,zE.of 148,[]⟩
instance ok148_:zPd.ok 148:=FX.mk'
theorem VF (L:List Int) (e:Bool) (hl:L.length≤9223372036854775807):callL Tryz.prog zE 148 [.sl (zD .u32 L) e]=some (.bool (decide (L.length≤4096)&&decide (xb L))):=by
 refine FX.callL (r:=(.bool (decide (L.length≤4096)&&decide (xb L)),[])) ok148_ 1000 rfl rfl ?_ rfl;by_cases c1:L.length≤4096
 ·have c1':(L.length:Int)≤4096:=by omega
  by_cases c2:L=[]
  ·subst c2;have ht:xb []:=.inl rfl;simp only[c1,ht,decide_true,sC];((repeat((conv=>lhs;whnf);simp only[go_sem,simprocAttr,bV]));try rfl)
  ·have l0:L.length≠0:=fun h=>c2 (pL h);have l0' : ¬(L.length:Int)=0:=by omega
   have wl:IntKind.i64.wrap ((L.length:Int)-1)=((L.length-1:Nat):Int):=by rw[bE];omega
   have xl:0≤((L.length-1:Nat):Int)∧((L.length-1:Nat):Int)<L.length:=⟨by omega,by omega⟩;by_cases c3:L.getD (L.length-1) 0=0
   ·have ht : ¬xb L:=fun h=>by
     rcases h with h | h
     ·exact c2 h
     ·exact h c3
    simp only[c1,ht,decide_true,decide_false,bQ];((repeat((conv=>lhs;whnf);simp only[go_sem,simprocAttr,c1',l0,l0',wl,xl,bD,c3]));try rfl)
   ·have ht:xb L:=.inr c3;simp only[c1,ht,decide_true,sC];((repeat((conv=>lhs;whnf);simp only[go_sem,simprocAttr,c1',l0,l0',wl,xl,bD,c3]));try rfl)
 ·have c1' : ¬(L.length:Int)≤4096:=by omega
  simp only[c1,decide_false,bB];((repeat((conv=>lhs;whnf);simp only[go_sem,simprocAttr,c1']));try rfl)
noncomputable def zLK:FX:=⟨Tryz.f111,zE.of 111,[]⟩
instance ok111_:zLK.ok 111:=FX.mk'
theorem Jt (neg:Bool) (N D:List Int) (hN:OkD WB N) (hD:OkD WB D) (hl1:N.length≤9223372036854775807) (hl2:D.length≤9223372036854775807):callL Tryz.prog zE 111 [qE neg N D]=some (.bool (ug neg N D 4096)):=by
 have c1:=fun S=>zF (S:=S) (VF N false hl1) (by simp;exact zi.sl _);have c2:=fun S=>zF (S:=S) (VF D false hl2) (by simp;exact zi.sl _);have hr : ∃S,run ([]:zB).length zLK 1000 (.at 0 1) [] [(0,qE neg N D)] []=some (.bool (ug neg N D 4096),S):=by
  unfold ug;have z1:decide ((N.length:Int)≤4096)=decide (N.length≤4096):=by congr 1;exact propext ⟨by omega,by omega⟩
  have z2:decide ((D.length:Int)≤4096)=decide (D.length≤4096):=by congr 1;exact propext ⟨by omega,by omega⟩
  rw[z1,z2];unfold qE
  cases v1:(decide (N.length≤4096)&&decide (xb N)) with
  | false =>
   rw[v1]at c1;refine⟨[.arr [[.bool neg,.sl (zD .u32 N) false,.sl (zD .u32 D) false]] none false],?_⟩;simp only[bB];((repeat((conv=>lhs;whnf);simp only[go_sem,simprocAttr,c1]));try rfl)
  | true =>
   rw[v1]at c1
   cases v2:(decide (D.length≤4096)&&decide (xb D)) with
   | false =>
    rw[v2]at c2;refine⟨[.arr [[.bool neg,.sl (zD .u32 N) false,.sl (zD .u32 D) false]] none false],?_⟩;simp only[bC,bB];((repeat((conv=>lhs;whnf);simp only[go_sem,simprocAttr,c1,c2]));try rfl)
   | true =>
    rw[v2]at c2;by_cases d0:D.length=0
    ·have d0':(D.length:Int)=0:=by omega
     refine⟨[.arr [[.bool neg,.sl (zD .u32 N) false,.sl (zD .u32 D) false]] none false],?_⟩;simp only[d0,decide_true,bU,bQ,bB];((repeat((conv=>lhs;whnf);simp only[go_sem,simprocAttr,c1,c2,d0,d0']));try rfl)
    ·have d0' : ¬(D.length:Int)=0:=by omega
     simp only[d0,decide_false,bK,bX,bC];by_cases n0:N.length=0
     ·have n0':(N.length:Int)=0:=by omega
      rw[bA n0];refine⟨[.arr [[.bool neg,.sl (zD .u32 N) false,.sl (zD .u32 D) false]] none false],?_⟩;cases neg with
      | true =>
       simp only[bU,bB];((repeat((conv=>lhs;whnf);simp only[go_sem,simprocAttr,c1,c2,d0,d0',n0,n0']));try rfl)
      | false =>
       simp only[bK,bC];by_cases d1:D.length=1
       ·have d1':(D.length:Int)=1:=by omega
        have x0:0≤(0:Int)∧(0:Int)<(D.length:Int):=⟨by omega,by omega⟩;have e:=YI d1;by_cases g1:D.getD 0 0=1
        ·rw[bG (e.2 g1)];((repeat((conv=>lhs;whnf);simp only[go_sem,simprocAttr,c1,c2,d0,d0',n0,n0',d1,d1',x0,sD,g1]));try rfl)
        ·rw[bH (fun h=>g1 (e.1 h))];((repeat((conv=>lhs;whnf);simp only[go_sem,simprocAttr,c1,c2,d0,d0',n0,n0',d1,d1',x0,sD,g1]));try rfl)
       ·have d1' : ¬(D.length:Int)=1:=by omega
        have e : ¬D=[1]:=fun h=>d1 (by rw[h];rfl);rw[bH e];((repeat((conv=>lhs;whnf);simp only[go_sem,simprocAttr,c1,c2,d0,d0',n0,n0',d1,d1']));try rfl)
     ·have n0' : ¬(N.length:Int)=0:=by omega
      rw[hZ n0];have v1':=v1;have v2':=v2;simp only[bO,pC]at v1' v2';have wN:=v1'.2.words hN;have wD:=v2'.2.words hD;have lN:(words (nv N)).length≤4096:=by rw[←wN];exact v1'.1
      have lD:(words (nv D)).length≤4096:=by rw[←wD];exact v2'.1
      have o1:=zBP (yH.of (nv N)) (by omega);have o2:=zBP (yH.of (nv D)) (by omega);have k1:(dec (nv N)).length≤12288:=Ze lN;have k2:(dec (nv D)).length≤12288:=Ze lD;obtain⟨g,ig,cg⟩:=zHe (zv.of (nv N)) (zv.of (nv D)) (by omega) (by omega);have hgl:(dec (Nat.gcd (nv N) (nv D))).length≤12288:=by
       have hn0:nv N≠0:=fun e=>n0 (by rw[wN,e];exact yy.2 rfl);exact bP (kK (PA (by omega) (Nat.gcd_dvd_left _ _))) k1
      have hc0:callL Tryz.prog zE 149 [g,zg 1]=some (.int .i64 (xV (Nat.gcd (nv N) (nv D)) 1)):=by
       obtain⟨eg,rfl,_⟩:=ig.form;exact Ku _ 1 eg false (by omega) (by rw[zGA];decide)
      rw[JA]at hc0;have hS : ∃S0:zB,S0=[.arr [[.bool neg,.sl (zD .u32 N) false,.sl (zD .u32 D) false]] none false,.arr [[.int .i64 1]] (some (some 1)) false]:=⟨_,rfl⟩;obtain⟨S0,hS0⟩:=hS;have cc:=Kq (S:=S0) (l:=[g,.msl 1 0 1 true]) (ids:=[1]) hc0 (by
       have h2:=ig.plain.2 S0;have hf:=uO (S:=S0) (id:=1) (n:=1) (k:=.i64) (L:=[1]) (ex:=true) (by rw[hS0];rfl) rfl;simp only[xc,h2,bI,hf,pG];rfl) (by
       have h2:=ig.plain.1;simp only[BI,List.flatMap_nil,h2];rw[hS0];rfl) (by rw[hS0];rfl)
      rw[hS0]at cc;unfold yQ at o1 o2;rw[←wN]at o1;rw[←wD]at o2;refine⟨[.arr [[.bool neg,.sl (zD .u32 N) false,.sl (zD .u32 D) false]] none false,.arr [[.int .i64 1]] (some (some 1)) true],?_⟩;have e:decide (Nat.gcd (nv N) (nv D)=1)=decide (xV (Nat.gcd (nv N) (nv D)) 1=0):=by
       congr 1
       refine propext ⟨fun h=>by rw[h];rfl,fun h=>?_⟩;unfold xV at h
       split at h
       ·omega
       ·split at h <;> omega
      rw[e];((repeat((conv=>lhs;whnf);simp only[go_sem,simprocAttr,c1,c2,d0,d0',n0,n0',o1,o2,cg,cc]));try rfl)
 obtain⟨S,h⟩:=hr;exact FX.callL (r:=(.bool (ug neg N D 4096),S)) ok111_ 1000 rfl rfl h rfl
end
end Go.Vs
end
section
set_option maxRecDepth 100000
namespace Go.Vs
open Go Go.Proofs
@[go_sem] theorem zN2 (ti:TI) (a b:ByteArray):xQ .gtr ti (.str a) (.str b)=some (.bool (!(Op.bytesLess a.toList b.toList||a.toList == b.toList))):=nr rfl
@[go_sem] theorem zN3 (ti:TI) (a b:ByteArray):xQ .geq ti (.str a) (.str b)=some (.bool (!(Op.bytesLess a.toList b.toList))):=nr rfl
def wX (c:Int):Bool:=(decide (97≤c)&&decide (c≤122))||(decide (65≤c)&&decide (c≤90))
section
attribute [local irreducible] Vs.callL Vs.callRL tyi zO zk zf zQ zW zZ zI zX zA zK zb zV zG zJ zU zs yL zr zL za Vs.gc zH
noncomputable def zPe:FX:=⟨Tryz.f146,zE.of 146,[]⟩
instance ok146_:zPe.ok 146:=FX.mk'
theorem zDo (c:Int):callL Tryz.prog zE 146 [.int .u8 c]=some (.bool (wX c)):=by
 refine FX.callL (r:=(.bool (wX c),[])) ok146_ 1000 rfl rfl ?_ rfl;unfold wX;by_cases h1:97≤c <;> by_cases h2:c≤122 <;> by_cases h3:65≤c <;> by_cases h4:c≤90 <;>
  (simp only[h1,h2,h3,h4,decide_true,decide_false,bC,bB,bX,bQ,sO,pJ,pI,bZ];((repeat((conv=>lhs;whnf);simp only[go_sem,simprocAttr,h1,h2,h3,h4]));try rfl))
noncomputable def zPf:FX:=⟨Tryz.f118,zE.of 118,[]⟩
instance ok118_:zPf.ok 118:=FX.mk'
theorem zBQ (c:Int):callL Tryz.prog zE 118 [.int .u8 c]=some (.bool (wX c)):=by
 refine FX.callL (r:=(.bool (wX c),[])) ok118_ 1000 rfl rfl ?_ rfl;unfold wX;by_cases h1:97≤c <;> by_cases h2:c≤122 <;> by_cases h3:65≤c <;> by_cases h4:c≤90 <;>
  (simp only[h1,h2,h3,h4,decide_true,decide_false,bC,bB,bX,bQ,sO,pJ,pI,bZ];((repeat((conv=>lhs;whnf);simp only[go_sem,simprocAttr,h1,h2,h3,h4]));try rfl))
theorem Zg (S:zB) (c:Int):zO (callL Tryz.prog zE) S 146 [.int .u8 c]=some {v:=.bool (wX c)} := zF (zDo c) (by simp[zi.int])
theorem Zh (S:zB) (c:Int):zO (callL Tryz.prog zE) S 118 [.int .u8 c]=some {v:=.bool (wX c)} := zF (zBQ c) (by simp[zi.int])
def KA (c:Int):Bool:=wX c||(decide (48≤c)&&decide (c≤57))
def YO (s:ByteArray):Nat→Nat→Bool
 | 0,i=>true
 | m+1,i=>KA (xj s i)&&YO s m (i+1)
def kw1 (s:ByteArray):Bool:=s.toList == (⟨#[116,114,117,101]⟩:ByteArray).toList
def kw2 (s:ByteArray):Bool:=s.toList == (⟨#[102,97,108,115,101]⟩:ByteArray).toList
def kw3 (s:ByteArray):Bool:=s.toList == (⟨#[102,111,114,97,108,108]⟩:ByteArray).toList
def kw4 (s:ByteArray):Bool:=s.toList == (⟨#[101,120,105,115,116,115]⟩:ByteArray).toList
def KB (s:ByteArray):Bool:=kw1 s||kw2 s||kw3 s||kw4 s
def yT (s:ByteArray):Bool:=decide (0<s.size)&&decide (s.size≤12)&&wX (xj s 0)&&YO s s.size 0 && !KB s
noncomputable def zLL:FX:=⟨Tryz.f108,zE.of 108,[]⟩
instance ok108_:zLL.ok 108:=FX.mk'
theorem zIp (s:ByteArray) (hs:s.size≤12) : ∀(m i:Nat),i+m=s.size→zT 0 zLL 0 116 0 [.blk 0,.seq 0 15] [(0,.str s),(3,.int .i64 i)] []=some (.bool (YO s m i && !KB s),[]):=by
 intro m
 induction m with
 | zero =>
  intro i hi;have h1 : ¬(i:Int)<(s.size:Int):=by omega
  apply zC;(repeat((conv=>lhs;whnf);simp only[go_sem,simprocAttr,h1]));apply zN;simp only[YO,bC,KB]
  cases k1:kw1 s <;> cases k2:kw2 s <;> cases k3:kw3 s <;> cases k4:kw4 s <;>
   (unfold kw1 kw2 kw3 kw4 at *;simp only[sO,pJ,pI,bZ,bU,bK];((repeat((conv=>lhs;whnf);simp only[go_sem,simprocAttr,k1,k2,k3,k4]));try rfl))
 | succ m ih =>
  intro i hi;have h1:(i:Int)<(s.size:Int):=by omega
  have h2:=zh (i:=i) (n:=s.size) (by omega) (by unfold maxLen;omega);have h4:0≤(i:Int)∧(i:Int)<(s.size:Int):=⟨by omega,h1⟩;have key:=ih (i+1) (by omega);apply zC;simp only[YO,KA]
  cases hl:wX (xj s i)
  ·by_cases c1:xj s i<48
   ·have c1' : ¬ 48≤xj s i:=by omega
    simp only[c1',decide_false,bB,sQ];((repeat((conv=>lhs;whnf);simp only[go_sem,simprocAttr,h1,h2,h4,Zg,hl,bD,c1]));try rfl)
   ·have c1':48≤xj s i:=by omega
    by_cases c2:57<xj s i
    ·have c2' : ¬xj s i≤57:=by omega
     simp only[c1',c2',decide_true,decide_false,bC,sQ,bB];((repeat((conv=>lhs;whnf);simp only[go_sem,simprocAttr,h1,h2,h4,Zg,hl,bD,c1,c2]));try rfl)
    ·have c2':xj s i≤57:=by omega
     simp only[c1',c2',decide_true,bC,sO,sC];(repeat((conv=>lhs;whnf);simp only[go_sem,simprocAttr,h1,h2,h4,Zg,hl,bD,c1,c2]));exact key
  ·simp only[pI,bC];(repeat((conv=>lhs;whnf);simp only[go_sem,simprocAttr,h1,h2,h4,Zg,hl,bD]));exact key
theorem zIq (s:ByteArray):callL Tryz.prog zE 108 [.str s]=some (.bool (yT s)):=by
 refine FX.callL (r:=(.bool (yT s),[])) ok108_ 1000 rfl rfl ?_ rfl;unfold yT;by_cases h0:s.size=0
 ·simp only[h0,Nat.lt_irrefl,decide_false,bB];((repeat((conv=>lhs;whnf);simp only[go_sem,simprocAttr,h0]));try rfl)
 ·have h0':0<s.size:=by omega
  have h5 : ¬(s.size:Int)=0:=by omega
  have h6:(0:Int)<(s.size:Int):=by omega
  by_cases h1:s.size≤12
  ·have h4 : ¬(12:Int)<(s.size:Int):=by omega
   have key:=zIp s h1 s.size 0 (by omega);simp only[h0',h1,decide_true,bC]
   cases hl:wX (xj s 0)
   ·simp only[bB];((repeat((conv=>lhs;whnf);simp only[go_sem,simprocAttr,h5,h4,h6,Zg,hl,sD]));try rfl)
   ·simp only[bC];(repeat((conv=>lhs;whnf);simp only[go_sem,simprocAttr,h5,h4,h6,Zg,hl,sD]));exact key
  ·have h4:(12:Int)<(s.size:Int):=by omega
   simp only[h0',h1,decide_true,decide_false,bC,bB];((repeat((conv=>lhs;whnf);simp only[go_sem,simprocAttr,h5,h4]));try rfl)
def ZC (s:ByteArray):Nat→Nat→Bool
 | 0,i=>true
 | m+1,i=>(wX (xj s i)||(decide (i≠0)&&(decide (48≤xj s i)&&decide (xj s i≤57))))&&ZC s m (i+1)
theorem JC (s:ByteArray) : ∀(m i:Nat),i≠0→ZC s m i=YO s m i
 | 0,i,h=>rfl
 | m+1,i,h=>by simp only[YO,ZC,h,JC s m (i+1) (by omega),KA,ne_eq,not_false_eq_true,decide_true,bC]
noncomputable def zOU:FX:=⟨Tryz.f71,zE.of 71,[]⟩
instance ok71_:zOU.ok 71:=FX.mk'
theorem zGD (s:ByteArray) (hs:s.size≤12) : ∀(m i:Nat),i+m=s.size→zT 0 zOU 0 116 0 [.blk 0,.seq 0 15] [(0,.str s),(3,.int .i64 i)] []=some (.bool (ZC s m i),[]):=by
 intro m
 induction m with
 | zero =>
  intro i hi;have h1 : ¬(i:Int)<(s.size:Int):=by omega
  apply zC;(repeat((conv=>lhs;whnf);simp only[go_sem,simprocAttr,h1]));apply zN;simp only[ZC];((repeat((conv=>lhs;whnf);simp only[go_sem,simprocAttr]));try rfl)
 | succ m ih =>
  intro i hi;have h1:(i:Int)<(s.size:Int):=by omega
  have h2:=zh (i:=i) (n:=s.size) (by omega) (by unfold maxLen;omega);have h4:0≤(i:Int)∧(i:Int)<(s.size:Int):=⟨by omega,h1⟩;have key:=ih (i+1) (by omega);apply zC;simp only[ZC]
  cases hl:wX (xj s i)
  ·by_cases c0:i=0
   ·have c0':(i:Int)=0:=by omega
    simp only[c0,ne_eq,not_true,decide_false,bB,sQ];simp only[c0,SZ]at h1 h4 hl c0' ⊢;((repeat((conv=>lhs;whnf);simp only[go_sem,simprocAttr,h1,h4,Zh,hl,sD]));try rfl)
   ·have c0' : ¬(i:Int)=0:=by omega
    by_cases c1:xj s i<48
    ·have c1' : ¬ 48≤xj s i:=by omega
     simp only[c0,c1',ne_eq,not_false_eq_true,decide_true,bC,decide_false,bB,sQ];((repeat((conv=>lhs;whnf);simp only[go_sem,simprocAttr,h1,h2,h4,Zh,hl,bD,c0',c1]));try rfl)
    ·have c1':48≤xj s i:=by omega
     by_cases c2:57<xj s i
     ·have c2' : ¬xj s i≤57:=by omega
      simp only[c0,c1',c2',ne_eq,not_false_eq_true,decide_true,decide_false,bC,sQ,bB];((repeat((conv=>lhs;whnf);simp only[go_sem,simprocAttr,h1,h2,h4,Zh,hl,bD,c0',c1,c2]));try rfl)
     ·have c2':xj s i≤57:=by omega
      simp only[c0,c1',c2',ne_eq,not_false_eq_true,decide_true,bC,sO,sC];(repeat((conv=>lhs;whnf);simp only[go_sem,simprocAttr,h1,h2,h4,Zh,hl,bD,c0',c1,c2]));exact key
  ·simp only[pI,bC];(repeat((conv=>lhs;whnf);simp only[go_sem,simprocAttr,h1,h2,h4,Zh,hl,bD]));exact key
theorem zGE (s:ByteArray):callL Tryz.prog zE 71 [.str s]=some (.bool (yT s)):=by
 refine FX.callL (r:=(.bool (yT s),[])) ok71_ 1000 rfl rfl ?_ rfl;unfold yT;by_cases h0:s.size=0
 ·simp only[h0,Nat.lt_irrefl,decide_false,bB];((repeat((conv=>lhs;whnf);simp only[go_sem,simprocAttr,h0]));try rfl)
 ·have h0':0<s.size:=by omega
  have h5 : ¬(s.size:Int)=0:=by omega
  by_cases h1:s.size≤12
  ·have h4 : ¬(12:Int)<(s.size:Int):=by omega
   have key:=zGD s h1 s.size 0 (by omega);obtain⟨m,hm⟩ : ∃m,s.size=m+1:=⟨s.size-1,by omega⟩;have h7:ZC s s.size 0=(wX (xj s 0)&&YO s s.size 0):=by
    rw[hm];simp only[ZC,YO,KA,JC s m (0+1) (by omega)]
    cases wX (xj s 0) <;> simp
   simp only[h0',h1,decide_true,bC];rw[h7]at key
   cases k1:kw1 s <;> cases k2:kw2 s <;> cases k3:kw3 s <;> cases k4:kw4 s <;>
    (simp only[KB,k1,k2,k3,k4,sO,pJ,pI,bZ,bU,bK,bX,bQ];unfold kw1 kw2 kw3 kw4 at *;((repeat((conv=>lhs;whnf);simp only[go_sem,simprocAttr,h5,h4,k1,k2,k3,k4]));try rfl);try exact key)
  ·have h4:(12:Int)<(s.size:Int):=by omega
   simp only[h0',h1,decide_true,decide_false,bC,bB];((repeat((conv=>lhs;whnf);simp only[go_sem,simprocAttr,h5,h4]));try rfl)
theorem yP (S:zB) (s:ByteArray):zO (callL Tryz.prog zE) S 71 [.str s]=some {v:=.bool (yT s)} := zF (zGE s) (by simp[zi.str])
theorem xI (S:zB) (s:ByteArray):zO (callL Tryz.prog zE) S 108 [.str s]=some {v:=.bool (yT s)} := zF (zIq s) (by simp[zi.str])
end
end Go.Vs
end
section
set_option maxRecDepth 100000
namespace Go.Vs
open Go Go.Proofs
theorem zAE (S:zB) (s:ByteArray) (n:Nat) (h:n≤s.size):zX Tryz.prog 9 S (.str s) none (some (.int .i64 (n:Int))) none=some (.str (s.extract 0 n)):=by
 have b:vA s.size (some (.int .i64 (n:Int)))=some n:=by simp[vA]
 have b0:vA 0 none=some 0:=rfl;have k:uo (tyi Tryz.prog 9)=false:=by kernel_rfl
 simp[zX,zH2,ku,b,b0,h,k]
def primed (s:ByteArray):Bool:=decide (0<s.size)&&decide (xj s (s.size-1)=39)
def Y0 (s:ByteArray):Bool:=yT (if primed s=true then s.extract 0 (s.size-1) else s)
section
attribute [local irreducible] Vs.callL Vs.callRL tyi zO zk zf zQ zW zZ zI zX zA zK zb zV zG zJ zU zs yL zr zL za Vs.gc zH
noncomputable def zSA:FX:=⟨Tryz.f58,zE.of 58,[]⟩
instance ok58_:zSA.ok 58:=FX.mk'
theorem Ju (s:ByteArray) (hs:s.size≤maxLen):callL Tryz.prog zE 58 [.str s]=some (.bool (Y0 s)):=by
 refine FX.callL (r:=(.bool (Y0 s),[])) ok58_ 1000 rfl rfl ?_ rfl;have hM:=xZ;unfold Y0 primed;by_cases h0:0<s.size
 ·have h1:(0:Int)<(s.size:Int):=by omega
  have w1:IntKind.i64.wrap ((s.size:Int)-1)=((s.size-1:Nat):Int):=by rw[bE];omega
  have x1:0≤((s.size-1:Nat):Int)∧((s.size-1:Nat):Int)<s.size:=⟨by omega,by omega⟩;have sl:=fun S=>zAE S s (s.size-1) (by omega);by_cases h2:xj s (s.size-1)=39
  ·simp only[h0,h2,decide_true,sC,if_true];((repeat((conv=>lhs;whnf);simp only[go_sem,simprocAttr,h1,w1,x1,h2,sl,bD,xI]));try rfl)
  ·simp only[h0,h2,decide_true,decide_false,bQ,pB,if_false];((repeat((conv=>lhs;whnf);simp only[go_sem,simprocAttr,h1,w1,x1,h2,bD,xI]));try rfl)
 ·have h1 : ¬(0:Int)<(s.size:Int):=by omega
  simp only[h0,decide_false,bB,pB,if_false];((repeat((conv=>lhs;whnf);simp only[go_sem,simprocAttr,h1,xI]));try rfl)
noncomputable def zSB:FX:=⟨Tryz.f29,zE.of 29,[]⟩
instance ok29_:zSB.ok 29:=FX.mk'
theorem Jv (s:ByteArray) (hs:s.size≤maxLen):callL Tryz.prog zE 29 [.str s]=some (.bool (Y0 s)):=by
 refine FX.callL (r:=(.bool (Y0 s),[])) ok29_ 1000 rfl rfl ?_ rfl;have hM:=xZ;unfold Y0 primed;by_cases h0:0<s.size
 ·have h1:(0:Int)<(s.size:Int):=by omega
  have w1:IntKind.i64.wrap ((s.size:Int)-1)=((s.size-1:Nat):Int):=by rw[bE];omega
  have x1:0≤((s.size-1:Nat):Int)∧((s.size-1:Nat):Int)<s.size:=⟨by omega,by omega⟩;have sl:=fun S=>zAE S s (s.size-1) (by omega);by_cases h2:xj s (s.size-1)=39
  ·simp only[h0,h2,decide_true,sC,if_true];((repeat((conv=>lhs;whnf);simp only[go_sem,simprocAttr,h1,w1,x1,h2,sl,bD,yP]));try rfl)
  ·simp only[h0,h2,decide_true,decide_false,bQ,pB,if_false];((repeat((conv=>lhs;whnf);simp only[go_sem,simprocAttr,h1,w1,x1,h2,bD,yP]));try rfl)
 ·have h1 : ¬(0:Int)<(s.size:Int):=by omega
  simp only[h0,decide_false,bB,pB,if_false];((repeat((conv=>lhs;whnf);simp only[go_sem,simprocAttr,h1,yP]));try rfl)
theorem zSC (S:zB) (s:ByteArray) (hs:s.size≤maxLen):zO (callL Tryz.prog zE) S 58 [.str s]=some {v:=.bool (Y0 s)} := zF (Ju s hs) (by simp[zi.str])
theorem zSD (S:zB) (s:ByteArray) (hs:s.size≤maxLen):zO (callL Tryz.prog zE) S 29 [.str s]=some {v:=.bool (Y0 s)} := zF (Jv s hs) (by simp[zi.str])
end
end Go.Vs
end
section
set_option maxRecDepth 100000
namespace Go.Vs
open Go Go.Proofs
structure RV where
 neg:Bool
 num:List Int
 den:List Int
def RV.cells (v:RV):List PV:=[.bool v.neg,.sl (zD .u32 v.num) false,.sl (zD .u32 v.den) false]
structure RV.ok (v:RV):Prop where
 n:OkD WB v.num
 d:OkD WB v.den
 ln:v.num.length≤maxLen
 ld:v.den.length≤maxLen
structure Bd where
 name:ByteArray
 val:RV
def Bd.cells (b:Bd):List PV:=[.str b.name,.bool b.val.neg,.sl (zD .u32 b.val.num) false,.sl (zD .u32 b.val.den) false]
structure Bd.ok (b:Bd):Prop where
 s:b.name.size≤maxLen
 v:b.val.ok
def bd0:Bd:=⟨⟨#[]⟩,⟨false,[],[]⟩⟩
def ya (L:List Bd):List (List PV):=L.map Bd.cells
@[go_sem] theorem zMm (L:List Bd):(ya L).length=L.length:=nr (by simp[ya])
theorem WP:(tyi Tryz.prog 98).d=.struct [(0,1,false),(1,3,true)]:=by kernel_rfl
@[go_sem] theorem zIr:(tyi Tryz.prog 98).size=4:=nr (by kernel_rfl)
@[go_sem] theorem zGF:(tyi Tryz.prog 98).known=true:=nr (by kernel_rfl)
@[go_sem] theorem zIs:(tyi Tryz.prog 98).zero=some [.str ⟨#[]⟩,.bool false,.sl [] true,.sl [] true]:=nr (by kernel_rfl)
@[go_sem] theorem zPg (n:Nat):zU (tyi Tryz.prog 98) n=some {v:=.mp n 0 0,new:=some ([[.str ⟨#[]⟩,.bool false,.sl [] true,.sl [] true]],none)} := nr (by unfold zU;rw[zIs];rfl)
@[go_sem] theorem zQk (id i off:Nat):zA (tyi Tryz.prog 98) 0 (.mp id i off)=some (.mp id i (off+0)):=by simp[zA,WP]
@[go_sem] theorem zQl (r:List PV):zA (tyi Tryz.prog 98) 0 (.cp r)=some (.cp (r.drop 0)):=by simp[zA,WP]
@[go_sem] theorem zQm (cs:List PV):zK (tyi Tryz.prog 98) 0 (.agg cs)=cs[0]? := by simp[zK,WP]
@[go_sem] theorem zQn (id i off:Nat):zA (tyi Tryz.prog 98) 1 (.mp id i off)=some (.mp id i (off+1)):=by simp[zA,WP]
@[go_sem] theorem zQo (r:List PV):zA (tyi Tryz.prog 98) 1 (.cp r)=some (.cp (r.drop 1)):=by simp[zA,WP]
@[go_sem] theorem zQp (cs:List PV):zK (tyi Tryz.prog 98) 1 (.agg cs)=if 1+3≤cs.length then some (.agg ((cs.drop 1).take 3)) else none:=by simp[zK,WP]
theorem zLM:SlT 35 98 4 72:=⟨by kernel_rfl,by kernel_rfl,by kernel_rfl,by kernel_rfl,by kernel_rfl⟩
@[go_sem] theorem zPh (r:List (List PV)) (ex:Bool):yL (tyi Tryz.prog 35) (.sl r ex)=some (.int .i64 r.length):=nr (zLM.len r ex)
@[go_sem] theorem zUs (S:zB) (L:List Bd) (ex:Bool) (i:Int):zI Tryz.prog 35 S (.sl (ya L) ex) (.int .i64 i)=if 0≤i∧i<L.length then some (.cp (L.getD i.toNat bd0).cells) else none:=nr (zLM.idx (fun _=>rfl) bd0 S L ex i)
@[go_sem] theorem zSE (v:PV) (r:List PV):part (tyi Tryz.prog 9) (v::r)=some v:=by
 have e:(tyi Tryz.prog 9).isAgg=false:=by kernel_rfl
 simp[part,zPR,e]
@[go_sem] theorem zTw (v:PV) (r:List PV):part (tyi Tryz.prog 35) (v::r)=some v:=by
 have e:(tyi Tryz.prog 35).isAgg=false:=by kernel_rfl
 have k:(tyi Tryz.prog 35).known=true:=by kernel_rfl
 simp[part,k,e]
@[go_sem] theorem zTx (v:PV) (r:List PV):part (tyi Tryz.prog 45) (v::r)=some v:=by
 have e:(tyi Tryz.prog 45).isAgg=false:=by kernel_rfl
 have k:(tyi Tryz.prog 45).known=true:=by kernel_rfl
 simp[part,k,e]
@[go_sem] theorem zTy:(tyi Tryz.prog 35).size=1:=nr (by kernel_rfl)
theorem JD:(tyi Tryz.prog 47).d=.struct [(0,1,false),(1,1,false)]:=by kernel_rfl
@[go_sem] theorem zLN:(tyi Tryz.prog 47).size=2:=nr (by kernel_rfl)
@[go_sem] theorem zIt:(tyi Tryz.prog 47).known=true:=nr (by kernel_rfl)
@[go_sem] theorem zSF (id i off:Nat):zA (tyi Tryz.prog 47) 0 (.mp id i off)=some (.mp id i (off+0)):=by simp[zA,JD]
@[go_sem] theorem zSG (r:List PV):zA (tyi Tryz.prog 47) 0 (.cp r)=some (.cp (r.drop 0)):=by simp[zA,JD]
@[go_sem] theorem zSH (cs:List PV):zK (tyi Tryz.prog 47) 0 (.agg cs)=cs[0]? := by simp[zK,JD]
@[go_sem] theorem zSI (id i off:Nat):zA (tyi Tryz.prog 47) 1 (.mp id i off)=some (.mp id i (off+1)):=by simp[zA,JD]
@[go_sem] theorem zSJ (r:List PV):zA (tyi Tryz.prog 47) 1 (.cp r)=some (.cp (r.drop 1)):=by simp[zA,JD]
@[go_sem] theorem zSK (cs:List PV):zK (tyi Tryz.prog 47) 1 (.agg cs)=cs[1]? := by simp[zK,JD]
@[go_sem] theorem zSL (a b:PV) (r:List PV):part (tyi Tryz.prog 47) (a::b::r)=some (.agg [a,b]):=by simp[part,zIt,TI.isAgg,JD,zLN]
@[go_sem] theorem zQq (a b c d:PV) (r:List PV):part (tyi Tryz.prog 98) (a::b::c::d::r)=some (.agg [a,b,c,d]):=by simp[part,zGF,TI.isAgg,WP,zIr]
def RV.fit (v:RV):Bool:=decide (v.num.length≤400)&&decide (v.den.length≤400)&&ug v.neg v.num v.den 4096
section
attribute [local irreducible] Vs.callL Vs.callRL tyi zO zk zf zQ zW zZ zI zX zA zK zb zV zG zJ zU zs yL zr zL za Vs.gc zH
noncomputable def zSM:FX:=⟨Tryz.f61,zE.of 61,[]⟩
instance ok61_:zSM.ok 61:=FX.mk'
theorem zIu (v:RV) (h:v.ok):callL Tryz.prog zE 61 [.agg v.cells,.int .i64 400]=some (.bool v.fit):=by
 have hM:=xZ;have h1:=h.ln;have h2:=h.ld;have cv:=fun S=>zF (S:=S) (Yv v.neg v.num v.den h.n h.d (by omega) (by omega)) (by simp;exact je _ _ _);unfold qE at cv;refine FX.callL (r:=(.bool v.fit,[.arr [[.bool v.neg,.sl (zD .u32 v.num) false,.sl (zD .u32 v.den) false]] none false])) ok61_ 1000 rfl rfl ?_ rfl;unfold RV.fit RV.cells;by_cases c1:v.num.length≤400
 ·have c1':(v.num.length:Int)≤400:=by omega
  by_cases c2:v.den.length≤400
  ·have c2':(v.den.length:Int)≤400:=by omega
   simp only[c1,c2,decide_true,bC];((repeat((conv=>lhs;whnf);simp only[go_sem,simprocAttr,c1',c2',cv]));try rfl)
  ·have c2' : ¬(v.den.length:Int)≤400:=by omega
   simp only[c1,c2,decide_true,decide_false,bC,bB];((repeat((conv=>lhs;whnf);simp only[go_sem,simprocAttr,c1',c2',cv]));try rfl)
 ·have c1' : ¬(v.num.length:Int)≤400:=by omega
  simp only[c1,decide_false,bB];((repeat((conv=>lhs;whnf);simp only[go_sem,simprocAttr,c1']));try rfl)
noncomputable def zSN:FX:=⟨Tryz.f64,zE.of 64,[]⟩
instance ok64_:zSN.ok 64:=FX.mk'
theorem zBR (v:RV) (h:v.ok):callL Tryz.prog zE 64 [.agg v.cells,.int .i64 400]=some (.bool v.fit):=by
 have hM:=xZ;have h1:=h.ln;have h2:=h.ld;have cv:=fun S=>zF (S:=S) (Jt v.neg v.num v.den h.n h.d (by omega) (by omega)) (by simp;exact je _ _ _);unfold qE at cv;refine FX.callL (r:=(.bool v.fit,[.arr [[.bool v.neg,.sl (zD .u32 v.num) false,.sl (zD .u32 v.den) false]] none false])) ok64_ 1000 rfl rfl ?_ rfl;unfold RV.fit RV.cells
 cases cb:ug v.neg v.num v.den 4096
 ·rw[cb]at cv;simp only[bQ];((repeat((conv=>lhs;whnf);simp only[go_sem,simprocAttr,cv]));try rfl)
 ·rw[cb]at cv;by_cases c1:v.num.length≤400
  ·have c1':(v.num.length:Int)≤400:=by omega
   by_cases c2:v.den.length≤400
   ·have c2':(v.den.length:Int)≤400:=by omega
    simp only[c1,c2,decide_true,bC];((repeat((conv=>lhs;whnf);simp only[go_sem,simprocAttr,c1',c2',cv]));try rfl)
   ·have c2' : ¬(v.den.length:Int)≤400:=by omega
    simp only[c1,c2,decide_true,decide_false,bC,bB];((repeat((conv=>lhs;whnf);simp only[go_sem,simprocAttr,c1',c2',cv]));try rfl)
  ·have c1' : ¬(v.num.length:Int)≤400:=by omega
   simp only[c1,decide_false,bB];((repeat((conv=>lhs;whnf);simp only[go_sem,simprocAttr,c1',cv]));try rfl)
theorem Zi (v:RV):zi (.agg v.cells):=je _ _ _
theorem zPi (S:zB) (v:RV) (h:v.ok):zO (callL Tryz.prog zE) S 61 [.agg v.cells,.int .i64 400]=some {v:=.bool v.fit} := zF (zIu v h) (by simp[zi.int];exact Zi v)
theorem zIv (S:zB) (v:RV) (h:v.ok):zO (callL Tryz.prog zE) S 64 [.agg v.cells,.int .i64 400]=some {v:=.bool v.fit} := zF (zBR v h) (by simp[zi.int];exact Zi v)
end
end Go.Vs
end
section
set_option maxRecDepth 100000
namespace Go.Vs
open Go Go.Proofs
inductive Node where
 | mk (op:Int) (name:ByteArray) (neg:Bool) (num den:List Int) (kids:List Node)
namespace Node
def op:Node→Int | mk a _ _ _ _ _=>a
def name:Node→ByteArray | mk _ a _ _ _ _=>a
def neg:Node→Bool | mk _ _ a _ _ _=>a
def num:Node→List Int | mk _ _ _ a _ _=>a
def den:Node→List Int | mk _ _ _ _ a _=>a
def kids:Node→List Node | mk _ _ _ _ _ a=>a
def val (n:Node):RV:=⟨n.neg,n.num,n.den⟩
end Node
def nd0:Node:=.mk 0 ⟨#[]⟩ false [] [] []
instance:Inhabited Node:=⟨nd0⟩
mutual
def Node.cells:Node→List PV
 | .mk a b c d e f=>[.int .i64 a,.str b,.bool c,.sl (zD .u32 d) false,.sl (zD .u32 e) false,.sl (Node.rows f) false]
def Node.rows:List Node→List (List PV)
 | []=>[]
 | n::r=>n.cells::Node.rows r
end
mutual
def Node.ok:Node→Prop
 | .mk a b c d e f=>(-9223372036854775808≤a∧a≤9223372036854775807)∧b.size≤maxLen∧(RV.mk c d e).ok∧f.length≤maxLen∧Node.oks f
def Node.oks:List Node→Prop
 | []=>True
 | n::r=>n.ok∧Node.oks r
end
theorem Node.oks_iff : ∀ {l:List Node},Node.oks l↔∀n∈l,n.ok
 | []=>by simp[Node.oks]
 | n::r=>by simp[Node.oks,Node.oks_iff (l:=r)]
theorem Node.ind' {P:Node→Prop} (h : ∀n,(∀k∈n.kids,P k)→P n) (n:Node):P n :=
 Node.rec (motive_1:=P) (motive_2:=fun l=>∀k∈l,P k) (fun a b c d e f ih=>h (.mk a b c d e f) ih) (by simp)
  (fun n r hn hr k hk=>by
   rcases sU.1 hk with rfl | hk
   ·exact hn
   ·exact hr k hk) n
theorem Node.rows_eq : ∀l,Node.rows l=l.map Node.cells
 | []=>rfl
 | n::r=>by rw[Node.rows,Node.rows_eq r];rfl
theorem Node.cells_eq (n:Node):n.cells=[.int .i64 n.op,.str n.name,.bool n.neg,.sl (zD .u32 n.num) false,.sl (zD .u32 n.den) false,.sl (Node.rows n.kids) false]:=by cases n;rfl
theorem Node.ok.op {n:Node} (h:n.ok) : -9223372036854775808≤n.op∧n.op≤9223372036854775807:=by cases n;exact h.1
theorem Node.ok.name {n:Node} (h:n.ok):n.name.size≤maxLen:=by cases n;exact h.2.1
theorem Node.ok.val {n:Node} (h:n.ok):n.val.ok:=by cases n;exact h.2.2.1
theorem Node.ok.len {n:Node} (h:n.ok):n.kids.length≤maxLen:=by cases n;exact h.2.2.2.1
theorem Node.ok.kids {n:Node} (h:n.ok) : ∀k∈n.kids,k.ok:=by cases n;exact Node.oks_iff.1 h.2.2.2.2
@[go_sem] theorem Node.cells_length (n:Node):n.cells.length=6:=nr (by cases n;rfl)
@[go_sem] theorem Node.cells_cell (n:Node):n.cells.all PV.cell=true:=nr (by cases n;rfl)
theorem Node.plain (n:Node):zi (.agg n.cells):=by cases n;exact⟨rfl,fun _=>rfl⟩
@[go_sem] theorem Node.fz (S:zB) (n:Node):vD S (.agg n.cells)=some (.agg n.cells):=n.plain.2 S
@[go_sem] theorem Node.refs (n:Node):vO n.cells=[]:=nr (by cases n;rfl)
@[go_sem] theorem Node.rows_length (l:List Node):(Node.rows l).length=l.length:=by rw[Node.rows_eq];simp
@[go_sem] theorem Node.rows_ok (l:List Node):yR 6 (Node.rows l)=true:=by rw[Node.rows_eq];exact zFW (enc:=Node.cells) (fun n=>by cases n;rfl) l
@[go_sem] theorem Node.rows_refs : ∀l:List Node,zS (Node.rows l)=[]
 | []=>rfl
 | n::r=>by
  have:=Node.rows_refs r
  show vO n.cells++zS (Node.rows r)=[]
  rw[this,Node.refs];rfl
theorem Y8:(tyi Tryz.prog 30).d=.struct [(0,1,false),(1,1,false),(2,3,true),(5,1,false)]:=by kernel_rfl
@[go_sem] theorem ZD:(tyi Tryz.prog 30).size=6:=nr (by kernel_rfl)
@[go_sem] theorem jJ:(tyi Tryz.prog 30).known=true:=nr (by kernel_rfl)
@[go_sem] theorem zHi:(tyi Tryz.prog 30).zero=some [.int .i64 0,.str ⟨#[]⟩,.bool false,.sl [] true,.sl [] true,.sl [] true]:=nr (by kernel_rfl)
@[go_sem] theorem zn (n:Nat):zU (tyi Tryz.prog 30) n=some {v:=.mp n 0 0,new:=some ([[.int .i64 0,.str ⟨#[]⟩,.bool false,.sl [] true,.sl [] true,.sl [] true]],none)} := nr (by unfold zU;rw[zHi];rfl)
@[go_sem] theorem zSO (l:List (Nat × PV)):zV Tryz.prog 30 l=(qP [(0,1,false),(1,1,false),(2,3,true),(5,1,false)] [.int .i64 0,.str ⟨#[]⟩,.bool false,.sl [] true,.sl [] true,.sl [] true] l).map .agg:=nr (by unfold zV;rw[Y8];dsimp only;unfold zb;rw[Y8,zHi];rfl)
@[go_sem] theorem zTz (id i off:Nat):zA (tyi Tryz.prog 30) 0 (.mp id i off)=some (.mp id i (off+0)):=by simp[zA,Y8]
@[go_sem] theorem zUA (r:List PV):zA (tyi Tryz.prog 30) 0 (.cp r)=some (.cp (r.drop 0)):=by simp[zA,Y8]
@[go_sem] theorem zUB (cs:List PV):zK (tyi Tryz.prog 30) 0 (.agg cs)=cs[0]? := by simp[zK,Y8]
@[go_sem] theorem zUC (id i off:Nat):zA (tyi Tryz.prog 30) 1 (.mp id i off)=some (.mp id i (off+1)):=by simp[zA,Y8]
@[go_sem] theorem zUD (r:List PV):zA (tyi Tryz.prog 30) 1 (.cp r)=some (.cp (r.drop 1)):=by simp[zA,Y8]
@[go_sem] theorem zUE (cs:List PV):zK (tyi Tryz.prog 30) 1 (.agg cs)=cs[1]? := by simp[zK,Y8]
@[go_sem] theorem zUF (id i off:Nat):zA (tyi Tryz.prog 30) 2 (.mp id i off)=some (.mp id i (off+2)):=by simp[zA,Y8]
@[go_sem] theorem zUG (r:List PV):zA (tyi Tryz.prog 30) 2 (.cp r)=some (.cp (r.drop 2)):=by simp[zA,Y8]
@[go_sem] theorem zUH (cs:List PV):zK (tyi Tryz.prog 30) 2 (.agg cs)=if 2+3≤cs.length then some (.agg ((cs.drop 2).take 3)) else none:=by simp[zK,Y8]
@[go_sem] theorem zUI (id i off:Nat):zA (tyi Tryz.prog 30) 3 (.mp id i off)=some (.mp id i (off+5)):=by simp[zA,Y8]
@[go_sem] theorem zUJ (r:List PV):zA (tyi Tryz.prog 30) 3 (.cp r)=some (.cp (r.drop 5)):=by simp[zA,Y8]
@[go_sem] theorem zUK (cs:List PV):zK (tyi Tryz.prog 30) 3 (.agg cs)=cs[5]? := by simp[zK,Y8]
theorem vi:SlT 28 30 6 104:=⟨by kernel_rfl,by kernel_rfl,by kernel_rfl,by kernel_rfl,by kernel_rfl⟩
@[go_sem] theorem zN4 (r:List (List PV)) (ex:Bool):yL (tyi Tryz.prog 28) (.sl r ex)=some (.int .i64 r.length):=nr (vi.len r ex)
@[go_sem] theorem zLO (i o l:Nat) (ex:Bool):yL (tyi Tryz.prog 28) (.msl i o l ex)=some (.int .i64 l):=nr (vi.lenm i o l ex)
@[go_sem] theorem zUL (S:zB) (l:List Node) (ex:Bool) (i:Int):zI Tryz.prog 28 S (.sl (Node.rows l) ex) (.int .i64 i)=if 0≤i∧i<l.length then some (.cp (l.getD i.toNat nd0).cells) else none:=by
 rw[Node.rows_eq];exact vi.idx (fun n=>by cases n;rfl) nd0 S l ex i
@[go_sem] theorem zSP (v:PV) (r:List PV):part (tyi Tryz.prog 28) (v::r)=some v:=by
 have e:(tyi Tryz.prog 28).isAgg=false:=by kernel_rfl
 have k:(tyi Tryz.prog 28).known=true:=by kernel_rfl
 simp[part,k,e]
@[go_sem] theorem vj:(tyi Tryz.prog 28).size=1:=nr (by kernel_rfl)
@[go_sem] theorem wy:(tyi Tryz.prog 28).known=true:=nr (by kernel_rfl)
@[go_sem] theorem zUM (n:Node):part (tyi Tryz.prog 30) n.cells=some (.agg n.cells):=by cases n;simp[Node.cells,part,jJ,TI.isAgg,Y8,ZD]
@[go_sem] theorem Node.drop1 (n:Node):n.cells.drop 1=[.str n.name,.bool n.neg,.sl (zD .u32 n.num) false,.sl (zD .u32 n.den) false,.sl (Node.rows n.kids) false]:=nr (by cases n;rfl)
@[go_sem] theorem Node.drop2 (n:Node):n.cells.drop 2=[.bool n.neg,.sl (zD .u32 n.num) false,.sl (zD .u32 n.den) false,.sl (Node.rows n.kids) false]:=nr (by cases n;rfl)
@[go_sem] theorem Node.drop3 (n:Node):n.cells.drop 3=[.sl (zD .u32 n.num) false,.sl (zD .u32 n.den) false,.sl (Node.rows n.kids) false]:=nr (by cases n;rfl)
@[go_sem] theorem Node.drop4 (n:Node):n.cells.drop 4=[.sl (zD .u32 n.den) false,.sl (Node.rows n.kids) false]:=nr (by cases n;rfl)
@[go_sem] theorem Node.drop5 (n:Node):n.cells.drop 5=[.sl (Node.rows n.kids) false]:=nr (by cases n;rfl)
@[go_sem] theorem Node.part_int (n:Node):part (tyi Tryz.prog 3) n.cells=some (.int .i64 n.op):=by
 have e:(tyi Tryz.prog 3).isAgg=false:=by kernel_rfl
 cases n;simp[Node.cells,part,Kp,e];rfl
@[go_sem] theorem Node.part_rat (n:Node) (r:List PV):part (tyi Tryz.prog 27) (.bool n.neg :: .sl (zD .u32 n.num) false :: .sl (zD .u32 n.den) false::r)=some (.agg n.val.cells):=by
 simp[part,Vo,TI.isAgg,ke,Kk,RV.cells,Node.val]
theorem xP {l:List Node} {i:Nat} (h:i<l.length):l.drop i=l.getD i nd0::l.drop (i+1):=by
 rw[PM h];simp[bN,h]
theorem zu {l:List Node} {i:Nat} (h:i<l.length):l.getD i nd0∈l:=by
 simp[bN,h]
theorem uV {f:FuncId} {n:Node} {v:PV} (S:zB) (h:callL Tryz.prog zE f [.agg n.cells]=some v):zO (callL Tryz.prog zE) S f [.agg n.cells]=some {v} := zF h (by simp[Node.plain])
theorem WQ {f:FuncId} {n m:Node} {v:PV} (S:zB) (h:callL Tryz.prog zE f [.agg n.cells,.agg m.cells]=some v):zO (callL Tryz.prog zE) S f [.agg n.cells,.agg m.cells]=some {v} := zF h (by simp[Node.plain])
end Go.Vs
end
