
import Derived.Test.YtfbkajadbjbfiaaGreatMA10
import Derived.Test.YtfbkajadbjbfiaaGreatMA12
set_option linter.unusedVariables false
set_option linter.unusedSimpArgs false
set_option maxRecDepth 100000
namespace Go.Vs
open Go Go.Proofs
section
theorem ZS {n:Nat} : 2<(words n).length↔18446744073709551616≤n:=by
 have h:=yI WB2 2 n;have e:WB^2=18446744073709551616:=by decide
 rw[e]at h;have:(words n).length=(yX WB n).length:=rfl;omega
theorem yk {m n:Nat} (h:m≤n):(words m).length≤(words n).length:=wm WB2 h
section
attribute [local irreducible] Vs.callL Vs.callRL tyi zQ yE zm zV zk zb zK zf zF zT zl zi zJ zL zj yB yO yD zN zh Vs.gc zH
noncomputable def qC:FX:=⟨Tryz.f104,zD.of 104,[]⟩
instance ok104_:qC.ok 104:=FX.mk'
theorem zBg (fs:List Fr) : ∀(f m n:Nat) (va vb:PV),n≤f→n≤m→(words m).length≤900000→za m va→za n vb →
  ∃(m' n':Nat) (wa wb:PV),za m' wa∧za n' wb∧n'≤m'∧n'<18446744073709551616∧(words m').length≤900000∧Nat.gcd m' n'=Nat.gcd m n∧∀z:PV × zA,zZ 0 qC 0 fs [(0,wa),(1,wb),(24,.undef)] []=some z→zS 0 qC 0 56 0 fs [(0,va),(1,vb),(19,.undef)] []=some z:=by
 intro f
 induction f with
 | zero =>
  intro m n va vb hf hmn hl ha hb;refine⟨m,n,va,vb,ha,hb,hmn,by omega,hl,rfl,fun z hz=>?_⟩;have hl2 : ¬ 2<(words n).length:=fun h=>by have:=ZS.1 h;omega
  have c : ¬(2:Int)<(words n).length:=by omega
  obtain⟨e,rfl,hp⟩:=hb.form;unfold zo at hz ⊢;apply zC;(repeat((conv=>lhs;whnf);simp only[go_sem,simprocAttr,c,hl2]));exact hz
 | succ f ih =>
  intro m n va vb hf hmn hl ha hb;by_cases h2:2<(words n).length
  ·have hn3:=ZS.1 h2;have c:(2:Int)<(words n).length:=by omega
   have hln:=yk hmn;obtain⟨v,hv,hcase⟩:=U8 ha hb hmn hn3 hl;have kl:=fun S=>zE (S:=S) hv (by simp[ha.plain,hb.plain])
   rcases hcase with rfl | ⟨X,Y,rfl,o1,o2,o3⟩
   ·obtain⟨q,r,iq,ir,hd⟩:=kE ha hb (by omega) hl (by omega);have hlt:m % n<n:=sJ _ (by omega);obtain⟨m',n',wa,wb,j1,j2,j3,j4,j5,j6,j7⟩:=ih n (m % n) vb r (by omega) (by omega) (by omega) hb ir;refine⟨m',n',wa,wb,j1,j2,j3,j4,j5,by rw[j6,sW,sW m n,←Nat.gcd_rec],fun z hz=>?_⟩;have key:=j7 z hz;obtain⟨e,rfl,hp⟩:=hb.form;unfold zo at kl hd key ⊢;apply zC;(repeat((conv=>lhs;whnf);simp only[go_sem,simprocAttr,c,h2,kl,hd]));exact key
   ·have hX:=yk o2;obtain⟨m',n',wa,wb,j1,j2,j3,j4,j5,j6,j7⟩:=ih X Y (zc X) (zc Y) (by omega) (by omega) (by omega) (.of X) (.of Y);refine⟨m',n',wa,wb,j1,j2,j3,j4,j5,by rw[j6,o3],fun z hz=>?_⟩;have key:=j7 z hz;obtain⟨e,rfl,hp⟩:=hb.form;unfold zo at kl ⊢;apply zC;(repeat((conv=>lhs;whnf);simp only[go_sem,simprocAttr,c,h2,kl]));exact key
  ·have c : ¬(2:Int)<(words n).length:=by omega
   have hn3:n<18446744073709551616:=Nat.lt_of_not_le fun h=>h2 (ZS.2 h);refine⟨m,n,va,vb,ha,hb,hmn,hn3,hl,rfl,fun z hz=>?_⟩;obtain⟨e,rfl,hp⟩:=hb.form;unfold zo at hz ⊢;apply zC;(repeat((conv=>lhs;whnf);simp only[go_sem,simprocAttr,c,h2]));exact hz
theorem zAM (fs:List Fr) {z:PV × zA} : ∀(f x y:Nat),y≤f→x<18446744073709551616→y<18446744073709551616→zZ 0 qC 2 fs [(12,.int .u64 (Nat.gcd x y)),(14,.undef),(65,.undef)] []=some z→zS 0 qC 2 2040 0 fs [(12,.int .u64 x),(14,.int .u64 y)] []=some z:=by
 intro f
 induction f with
 | zero =>
  intro x y hf hx hy hz;have h0:y=0:=by omega
  subst h0;rw[BM]at hz;apply zC;(repeat((conv=>lhs;whnf);simp only[go_sem,simprocAttr]));exact hz
 | succ f ih =>
  intro x y hf hx hy hz;by_cases h0:y=0
  ·subst h0;rw[BM]at hz;apply zC;(repeat((conv=>lhs;whnf);simp only[go_sem,simprocAttr]));exact hz
  ·have hlt:x % y<y:=sJ _ (by omega);have key:=ih y (x % y) (by omega) hy (by omega) (by rw[sW y,←Nat.gcd_rec,sW];exact hz);have c : ¬(y:Int)=0:=by omega
   have tm:(x:Int).tmod y=((x % y:Nat):Int):=by rw[sO (by omega)];rfl
   have cw:IntKind.u64.wrap ((x % y:Nat):Int)=((x % y:Nat):Int):=by rw[yK];omega
   apply zC;(repeat((conv=>lhs;whnf);simp only[go_sem,simprocAttr,c,h0,tm,cw]));exact key
theorem Yl {m n:Nat} {va vb:PV} (ha:za m va) (hb:za n vb) (hm:(words m).length≤900000) (hn:(words n).length≤900000):callL Tryz.prog zD 104 [va,vb]=some (zc (Nat.gcd m n)):=by
 have cc:=VI ha hb (by omega) (by omega);have tail : ∀(m' n':Nat) (wa wb:PV),za m' wa→za n' wb→n'≤m'→n'<18446744073709551616→(words m').length≤900000→∃S,zZ 0 qC 0 [.blk 0,.seq 0 15] [(0,wa),(1,wb),(24,.undef)] []=some (if n'=0 then .msl 0 0 (words m').length false else zc (Nat.gcd m' n'),if n'=0 then [.arr (zB .u32 (words m')) (some (some 1)) false] else S):=by
  intro m' n' wa wb ia ib hle hn2 hl;have hln:=yk hle;by_cases h0:n'=0
  ·refine⟨[],?_⟩;rw[hZ h0,hZ h0];have l0:(words n').length=0:=zx.2 h0;obtain⟨e1,rfl,p1⟩:=ia.form;obtain⟨e2,rfl,p2⟩:=ib.form;have ap:=fun S=>yb.appNil 0 S (RowsV.sl (S:=S) (zB .u32 (words m')) e1) (ya _ _) (by rw[zI];omega) (by rw[zI];omega);unfold zo;apply zR;((repeat((conv=>lhs;whnf);simp only[go_sem,simprocAttr,l0,ap]));try rfl)
  ·refine⟨[],?_⟩;rw[hI h0,hI h0];have l0:(words n').length≠0:=fun e=>h0 (zx.1 e);have l0' : ¬((words n').length:Int)=0:=by omega
   obtain⟨q,r,iq,ir,hd⟩:=kE ia ib h0 hl (by omega);have hlt:m' % n'<n':=sJ _ (by omega);have f1:=jR ib hn2;have f2:=jR ir (by omega);have hg:Nat.gcd n' (m' % n')=Nat.gcd m' n':=by rw[sW,←Nat.gcd_rec,sW]
   have hgl:Nat.gcd m' n'<18446744073709551616:=by
    have:=HW (by omega) (PG m' n');omega
   have f3:=ud (Nat.gcd m' n') hgl;have key:=zAM [.blk 2,.seq 0 511] (z:=(zc (Nat.gcd m' n'),[])) n' n' (m' % n') (by omega) hn2 (by omega) (by
    rw[hg];apply zR;((repeat((conv=>lhs;whnf);simp only[go_sem,simprocAttr,f3]));try rfl))
   obtain⟨e2,rfl,p2⟩:=ib.form;unfold zo at hd f1 ⊢;apply zR;(repeat((conv=>lhs;whnf);simp only[go_sem,simprocAttr,l0,l0',hd,f1,f2]));exact key
 have main : ∀(m n:Nat) (va vb:PV),za m va→za n vb→n≤m→(words m).length≤900000→∃r:PV × zA,ym r.2 r.1=some (zc (Nat.gcd m n))∧zS 0 qC 0 56 0 [.blk 0,.seq 0 15] [(0,va),(1,vb),(19,.undef)] []=some r:=by
  intro m n va vb ha hb hle hl;obtain⟨m',n',wa,wb,j1,j2,j3,j4,j5,j6,j7⟩:=zBg [.blk 0,.seq 0 15] n m n va vb (bB _) hle hl ha hb;obtain⟨S,ht⟩:=tail m' n' wa wb j1 j2 j3 j4 j5;refine⟨_,?_,j7 _ ht⟩;rw[←j6];by_cases h0:n'=0
  ·rw[hZ h0,hZ h0,h0,BM];exact vL (ex:=false) rfl rfl
  ·rw[hI h0,hI h0];exact xA _ _
 by_cases h:m<n
 ·have c:yU m n<0:=by unfold yU;simp[h]
  obtain⟨r,h1,h2⟩:=main n m vb va hb ha (by omega) hn;rw[sW]at h1;refine FX.callL (r:=r) ok104_ 1000 rfl rfl ?_ h1;(repeat((conv=>lhs;whnf);simp only[go_sem,simprocAttr,cc,c]));exact h2
 ·have c : ¬yU m n<0:=by unfold yU;rw[hI h];split <;> omega
  obtain⟨r,h1,h2⟩:=main m n va vb ha hb (by omega) hm;refine FX.callL (r:=r) ok104_ 1000 rfl rfl ?_ h1;(repeat((conv=>lhs;whnf);simp only[go_sem,simprocAttr,cc,c]));exact h2
end
end
theorem Ym (a b:Int) {d:Nat} (hd:d≠0):mkRat a d+mkRat b d=mkRat (a+b) d:=by
 rw[Rat.mkRat_add_mkRat _ _ hd hd,←aQ,Rat.mkRat_mul_right hd]
theorem VJ {q r:Rat} (h:q.den=r.den):q+r=mkRat (q.num+r.num) q.den:=by
 conv=>lhs;rw[←Rat.mkRat_self q,←Rat.mkRat_self r,←h]
 exact Ym _ _ q.den_nz
theorem Yn {n:Int} {d:Nat} (hd:d≠0):(mkRat n d).num.natAbs=n.natAbs / Nat.gcd n.natAbs d:=by
 rw[Rat.num_mkRat,hI hd,sW];have h:((n.natAbs.gcd d:Nat):Int) ∣ n:=Int.ofNat_dvd_left.2 (Nat.gcd_dvd_left _ _);obtain⟨k,hk⟩:=h;by_cases h0:n.natAbs.gcd d=0
 ·exfalso;exact hd (PU h0)
 ·have e:n / ((n.natAbs.gcd d:Nat):Int)=k:=by
   conv=>lhs;lhs;rw[hk]
   exact Int.mul_ediv_cancel_left _ (by omega)
  rw[e];have e2:n.natAbs=n.natAbs.gcd d*k.natAbs:=by
   conv=>lhs;rw[hk]
   rw[Int.natAbs_mul,Int.natAbs_natCast]
  conv=>rhs;lhs;rw[e2]
  exact (Nat.mul_div_cancel_left _ (by omega)).symm
theorem Yo {n:Int} {d:Nat} (hd:d≠0):(mkRat n d).den=d / Nat.gcd n.natAbs d:=by
 rw[Rat.den_mkRat,hI hd,sW]
theorem JH {n:Int} {d:Nat} (hd:d≠0):(mkRat n d).num<0↔n<0:=by
 rw[←Int.not_le,←Int.not_le,Rat.num_nonneg];rw[←Rat.divInt_ofNat,Rat.divInt_nonneg_iff_of_pos_right (by omega)]
theorem ql (neg:Bool) (n:Nat) {d:Nat} (hd:d≠0):((mkRat (if neg then -(n:Int) else n) d).num<0)↔(neg=true∧n≠0):=by
 rw[JH hd]
 cases neg <;> simp <;> omega
section
def yc (L:List Int):Prop:=L=[]∨L.getD (L.length-1) 0≠0
instance (L:List Int):Decidable (yc L):=inferInstanceAs (Decidable (_∨_))
theorem wn:(tyi Tryz.prog 42).d=.struct [(0,1,false),(1,1,false),(2,1,false)]:=by kernel_rfl
@[go_sem] theorem Yp:(tyi Tryz.prog 42).size=3:=nr (by kernel_rfl)
@[go_sem] theorem ZT:(tyi Tryz.prog 42).known=true:=nr (by kernel_rfl)
@[go_sem] theorem Yq:(tyi Tryz.prog 42).zero=some [.bool false,.sl [] true,.sl [] true]:=nr (by kernel_rfl)
theorem JI:(tyi Tryz.prog 4).known=true:=by kernel_rfl
theorem zEe:(tyi Tryz.prog 4).d=.bool:=by kernel_rfl
theorem zBh:(tyi Tryz.prog 40).known=true:=by kernel_rfl
@[go_sem] theorem zHK (v:PV) (r:List PV):part (tyi Tryz.prog 40) (v::r)=some v:=by simp[part,zBh,TI.isAgg,yb.d]
@[go_sem] theorem zF8 (v:PV) (r:List PV):part (tyi Tryz.prog 4) (v::r)=some v:=by simp[part,JI,TI.isAgg,zEe]
@[go_sem] theorem zGL (a b c:PV) (r:List PV):part (tyi Tryz.prog 42) (a::b::c::r)=some (.agg [a,b,c]):=by simp[part,ZT,TI.isAgg,wn,Yp]
@[go_sem] theorem zHL (id i off:Nat):zF (tyi Tryz.prog 42) 0 (.mp id i off)=some (.mp id i off):=by simp[zF,wn]
@[go_sem] theorem zHM (id i off:Nat):zF (tyi Tryz.prog 42) 1 (.mp id i off)=some (.mp id i (off+1)):=by simp[zF,wn]
@[go_sem] theorem zHN (id i off:Nat):zF (tyi Tryz.prog 42) 2 (.mp id i off)=some (.mp id i (off+2)):=by simp[zF,wn]
@[go_sem] theorem zHO (r:List PV):zF (tyi Tryz.prog 42) 0 (.cp r)=some (.cp r):=by simp[zF,wn]
@[go_sem] theorem zHP (r:List PV):zF (tyi Tryz.prog 42) 1 (.cp r)=some (.cp (r.drop 1)):=by simp[zF,wn]
@[go_sem] theorem zHQ (r:List PV):zF (tyi Tryz.prog 42) 2 (.cp r)=some (.cp (r.drop 2)):=by simp[zF,wn]
section
attribute [local irreducible] Vs.callL Vs.callRL tyi zQ yE zm zV zk zb zK zf zF zT zl zi zJ zL zj yB yO yD zN zh Vs.gc zH
noncomputable def zEf:FX:=⟨Tryz.f115,zD.of 115,[]⟩
instance ok115_:zEf.ok 115:=FX.mk'
theorem Yr (L:List Int) (e:Bool) (hl:L.length≤9223372036854775807) (w:Int):callL Tryz.prog zD 115 [.sl (zB .u32 L) e,.int .i64 w]=some (.bool (decide (L.length≤w)&&decide (yc L))):=by
 refine FX.callL (r:=(.bool (decide (L.length≤w)&&decide (yc L)),[])) ok115_ 1000 rfl rfl ?_ rfl;by_cases c1:(L.length:Int)≤w
 ·by_cases c2:L=[]
  ·subst c2;have ht:yc []:=.inl rfl;have c1':((0:Nat):Int)≤w:=c1;have c1'':(0:Int)≤w:=c1;simp only[c1,ht,decide_true,BE];((repeat((conv=>lhs;whnf);simp only[go_sem,simprocAttr,c1,c1',c1'',HR]));try rfl)
  ·have l0:L.length≠0:=fun h=>c2 (bT h);have l0' : ¬(L.length:Int)=0:=by omega
   have wl:IntKind.i64.wrap ((L.length:Int)-1)=((L.length-1:Nat):Int):=by rw[bA];omega
   have xl:0≤((L.length-1:Nat):Int)∧((L.length-1:Nat):Int)<L.length:=⟨by omega,by omega⟩;by_cases c3:L.getD (L.length-1) 0=0
   ·have ht : ¬yc L:=fun h=>by
     rcases h with h | h
     ·exact c2 h
     ·exact h c3
    simp only[c1,ht,decide_true,decide_false,HD];((repeat((conv=>lhs;whnf);simp only[go_sem,simprocAttr,c1,l0,l0',wl,xl,bD,c3]));try rfl)
   ·have ht:yc L:=.inr c3;simp only[c1,ht,decide_true,BE];((repeat((conv=>lhs;whnf);simp only[go_sem,simprocAttr,c1,l0,l0',wl,xl,bD,c3]));try rfl)
 ·simp only[c1,decide_false,pS];((repeat((conv=>lhs;whnf);simp only[go_sem,simprocAttr,c1]));try rfl)
end
def nv (L:List Int):Nat:=(zG WB L).toNat
theorem U9 (n:Nat):nv (words n)=n:=by unfold nv;rw[yM,bD]
theorem yc.words {L:List Int} (h:yc L) (ho:OkD WB L):L=Vs.words (nv L):=by
 unfold Vs.words nv;refine zDI WB2 ho ?_;intro x r e
 rcases h with h | h
 ·rw[h]at e;have:=congrArg List.length e;simp at this
 ·rw[e]at h;intro h0;apply h;simp[bE,h0]
theorem X7 (n:Nat):yc (words n):=by
 by_cases h:n=0
 ·left;exact (xI WB2).2 h
 ·right;exact jN WB2 h
def vN (neg:Bool) (N D:List Int) (w:Int):Bool :=
 (decide (N.length≤w)&&decide (yc N))&&(decide (D.length≤w)&&decide (yc D)) && !decide (D.length=0) &&
 (if N.length=0 then !neg&&decide (D=[1]) else decide (Nat.gcd (nv N) (nv D)=1))
theorem qm {D:List Int} (h:D.length=1):D=[1]↔D.getD 0 0=1:=by
 obtain⟨x,rfl⟩:=HV.1 h;simp[bE]
theorem vi:words 1=[1]:=by
 unfold words;rw[xW WB2 (by decide)];have:1 / WB=0:=by decide
 rw[this,yH]
 decide
theorem Ua {L:List Int} {e:Bool} (h:e=true→L=[]):zW (.sl (zB .u32 L) e):=by
 cases e with
 | false=>exact zW.sl _
 | true=>rw[h rfl];exact zW.nil
theorem Ub {L:List Int} {e:Bool} (h:e=true→L=[]) (ht:yc L) (ho:OkD WB L):za (nv L) (.sl (zB .u32 L) e):=by
 cases e with
 | false=>left;unfold zc;rw[←ht.words ho]
 | true =>
  have:=h rfl;subst this
  right;exact⟨rfl,rfl⟩
theorem QZ:([1]:List Int).length=1:=rfl
theorem Uc:((([1]:List Int).length:Nat):Int)=1:=rfl
theorem Q0:([1]:List Int).getD 0 0=1:=rfl
def kY (neg:Bool) (N D:List Int):PV:=.agg [.bool neg,.sl (zB .u32 N) false,.sl (zB .u32 D) false]
theorem Ys (neg:Bool) (N D:List Int):zW (kY neg N D):=⟨rfl,fun _=>rfl⟩
def Fz (a a':PV):Prop:=a.refs=[]∧∀S,ym S a=some a'
theorem zW.fz {a:PV} (h:zW a):Fz a a:=h
section
attribute [local irreducible] Vs.callL Vs.callRL tyi zQ yE zm zV zk zb zK zf zF zT zl zi zJ zL zj yB yO yD zN zh Vs.gc zH
noncomputable def zGM:FX:=⟨Tryz.f84,zD.of 84,[]⟩
instance ok84_:zGM.ok 84:=FX.mk'
theorem Yt (neg:Bool) (N D:List Int) (e1 e2:Bool) (hN:OkD WB N) (hD:OkD WB D) (w:Int) (hw:w≤900000) (lN:N.length≤9223372036854775807) (lD:D.length≤9223372036854775807) (f1:e1=true→N=[]) (f2:e2=true→D=[]):callL Tryz.prog zD 84 [.agg [.bool neg,.sl (zB .u32 N) e1,.sl (zB .u32 D) e2],.int .i64 w]=some (.bool (vN neg N D w)):=by
 have p1:=Ua f1;have p2:=Ua f2;have v1:=fun S=>zE (S:=S) (Yr N e1 lN w) (by simp[p1,zW.int]);have v2:=fun S=>zE (S:=S) (Yr D e2 lD w) (by simp[p2,zW.int]);refine FX.callL (r:=(.bool (vN neg N D w),[.arr [[.bool neg,.sl (zB .u32 N) e1,.sl (zB .u32 D) e2]] none false])) ok84_ 1000 rfl rfl ?_ rfl;unfold vN;by_cases b1:(decide ((N.length:Int)≤w)&&decide (yc N))=true
 ·rw[b1]at v1 ⊢;by_cases b2:(decide ((D.length:Int)≤w)&&decide (yc D))=true
  ·rw[b2]at v2 ⊢;simp only[bS,sL]at b1 b2;by_cases d0:D.length=0
   ·simp only[d0,decide_true,HQ,HD,pS];have d0':(D.length:Int)=0:=by omega
    ((repeat((conv=>lhs;whnf);simp only[go_sem,simprocAttr,v1,v2,d0,d0']));try rfl)
   ·have d0' : ¬(D.length:Int)=0:=by omega
    simp only[d0,decide_false,aP,BF,pQ];by_cases n0:N.length=0
    ·have n0':(N.length:Int)=0:=by omega
     rw[hZ n0];cases neg with
     | true=>((repeat((conv=>lhs;whnf);simp only[go_sem,simprocAttr,v1,v2,d0,d0',n0,n0',HQ,pS]));try rfl)
     | false =>
      by_cases d1:D.length=1
      ·have d1':(D.length:Int)=1:=by omega
       by_cases g:D.getD 0 0=1
       ·have e:D=[1]:=(qm d1).2 g;have e':decide (D=[1])=true:=pM e;rw[e'];((repeat((conv=>lhs;whnf);simp only[go_sem,simprocAttr,v1,v2,d0,d0',n0,n0',d1,d1',g,aP,BF]));try rfl)
       ·have e : ¬D=[1]:=fun h=>g ((qm d1).1 h);have e':decide (D=[1])=false:=sA e;rw[e'];((repeat((conv=>lhs;whnf);simp only[go_sem,simprocAttr,v1,v2,d0,d0',n0,n0',d1,d1',g,aP,HD]));try rfl)
      ·have d1' : ¬(D.length:Int)=1:=by omega
       have e':decide (D=[1])=false:=sA (fun h=>d1 (by rw[h];rfl));rw[e'];((repeat((conv=>lhs;whnf);simp only[go_sem,simprocAttr,v1,v2,d0,d0',n0,n0',d1,d1',aP,HD]));try rfl)
    ·have n0' : ¬(N.length:Int)=0:=by omega
     rw[hI n0];have iN:=Ub f1 b1.2 hN;have iD:=Ub f2 b2.2 hD;have hwN:=b1.2.words hN;have hwD:=b2.2.words hD;have hg:=Yl iN iD (by rw[←hwN];omega) (by rw[←hwD];omega);have kg:=fun S=>zE (S:=S) hg (by simp[p1,p2]);have hDp:0<nv D:=by
      have:nv D≠0:=fun h=>by
       rw[hwD,h]at d0;exact d0 (zx.2 rfl)
      omega
     by_cases d1:D.length=1
     ·have d1':(D.length:Int)=1:=by omega
      by_cases g:D.getD 0 0=1
      ·have e:D=[1]:=(qm d1).2 g;have e1:Nat.gcd (nv N) (nv D)=1:=by
        have:nv D=1:=by rw[e];decide
        rw[this,Nat.gcd_one_right]
       rw[pM e1];((repeat((conv=>lhs;whnf);simp only[go_sem,simprocAttr,v1,v2,d0,d0',n0,n0',d1,d1',g]));try rfl)
      ·
       by_cases g1:Nat.gcd (nv N) (nv D)=1
       ·rw[pM g1];have mv:zc (Nat.gcd (nv N) (nv D))=.sl (zB .u32 [1]) false:=by rw[g1];unfold zc;rw[vi]
        rw[mv]at kg;((repeat((conv=>lhs;whnf);simp only[go_sem,simprocAttr,v1,v2,d0,d0',n0,n0',d1,d1',g,kg,QZ,Uc,Q0]));try rfl)
       ·rw[sA g1];generalize Nat.gcd (nv N) (nv D)=gg at *;have mv:zc gg=.sl (zB .u32 (words gg)) false:=rfl;rw[mv]at kg;by_cases l1:(words gg).length=1
        ·have l1':((words gg).length:Int)=1:=by omega
         have gg0:(words gg).getD 0 0=(gg:Int):=by rw[(jQ l1).1];rfl
         have gg1 : ¬(gg:Int)=1:=by omega
         ((repeat((conv=>lhs;whnf);simp only[go_sem,simprocAttr,v1,v2,d0,d0',n0,n0',d1,d1',g,kg,l1,l1',gg0,gg1,g1]));try rfl)
        ·have l1' : ¬((words gg).length:Int)=1:=by omega
         ((repeat((conv=>lhs;whnf);simp only[go_sem,simprocAttr,v1,v2,d0,d0',n0,n0',d1,d1',g,kg,l1,l1']));try rfl)
     ·have d1' : ¬(D.length:Int)=1:=by omega
      by_cases g1:Nat.gcd (nv N) (nv D)=1
      ·rw[pM g1];have mv:zc (Nat.gcd (nv N) (nv D))=.sl (zB .u32 [1]) false:=by rw[g1];unfold zc;rw[vi]
       rw[mv]at kg;((repeat((conv=>lhs;whnf);simp only[go_sem,simprocAttr,v1,v2,d0,d0',n0,n0',d1,d1',kg,QZ,Uc,Q0]));try rfl)
      ·rw[sA g1];generalize Nat.gcd (nv N) (nv D)=gg at *;have mv:zc gg=.sl (zB .u32 (words gg)) false:=rfl;rw[mv]at kg;by_cases l1:(words gg).length=1
       ·have l1':((words gg).length:Int)=1:=by omega
        have gg0:(words gg).getD 0 0=(gg:Int):=by rw[(jQ l1).1];rfl
        have gg1 : ¬(gg:Int)=1:=by omega
        ((repeat((conv=>lhs;whnf);simp only[go_sem,simprocAttr,v1,v2,d0,d0',n0,n0',d1,d1',kg,l1,l1',gg0,gg1,g1]));try rfl)
       ·have l1' : ¬((words gg).length:Int)=1:=by omega
        ((repeat((conv=>lhs;whnf);simp only[go_sem,simprocAttr,v1,v2,d0,d0',n0,n0',d1,d1',kg,l1,l1']));try rfl)
  ·have b2':(decide ((D.length:Int)≤w)&&decide (yc D))=false:=by simpa using b2
   rw[b2']at v2 ⊢;simp only[HD,pS];((repeat((conv=>lhs;whnf);simp only[go_sem,simprocAttr,v1,v2]));try rfl)
 ·have b1':(decide ((N.length:Int)≤w)&&decide (yc N))=false:=by simpa using b1
  rw[b1']at v1 ⊢;simp only[HD,pS];((repeat((conv=>lhs;whnf);simp only[go_sem,simprocAttr,v1,v2]));try rfl)
end
end
def wM (q:Rat):PV:=kY (decide (q.num<0)) (words q.num.natAbs) (words q.den)
theorem wh (q:Rat):zW (wM q):=Ys _ _ _
theorem WL (q:Rat) (w:Int) (h1:(words q.num.natAbs).length≤w) (h2:(words q.den).length≤w):vN (decide (q.num<0)) (words q.num.natAbs) (words q.den) w=true:=by
 have hd:(words q.den).length≠0:=fun h=>q.den_nz (zx.1 h);unfold vN;simp only[pM h1,pM h2,pM (X7 _),hd,decide_false,aP,BE,pQ];by_cases h0:(words q.num.natAbs).length=0
 ·rw[hZ h0];have hz:=zx.1 h0;have hn:q.num=0:=by omega
  have hden:q.den=1:=by
   have:=q.reduced;rw[hz]at this
   simpa using this
  simp[hn,hden,vi]
 ·rw[hI h0,U9,U9];exact pM q.reduced
theorem Yu {neg:Bool} {N D:List Int} {w:Int} (hN:OkD WB N) (hD:OkD WB D):vN neg N D w=true↔∃q:Rat,neg=decide (q.num<0)∧N=words q.num.natAbs∧D=words q.den∧N.length≤w∧D.length≤w:=by
 constructor
 ·intro h;unfold vN at h;simp only[bS,sL,PL,decide_eq_false_iff_not]at h;obtain⟨⟨⟨⟨a1,a2⟩,b1,b2⟩,c⟩,d⟩:=h;have wN:=a2.words hN;have wD:=b2.words hD;have hd:nv D≠0:=fun e=>by rw[wD,e]at c;exact c (zx.2 rfl)
  by_cases h0:N.length=0
  ·rw[hZ h0]at d;simp only[bS,PL,sL]at d;have hNn:=bT h0;refine⟨0,by rw[d.1];rfl,?_,?_,a1,b1⟩
   ·rw[hNn];exact ((xI WB2).2 rfl).symm
   ·rw[d.2];exact vi.symm
  ·rw[hI h0]at d;have d':=BW d;have hn0:nv N≠0:=fun e=>by rw[wN,e]at h0;exact h0 (zx.2 rfl)
   refine⟨⟨if neg then -(nv N:Int) else nv N,nv D,hd,by cases neg <;> simp <;> exact d'⟩,?_,?_,wD,a1,b1⟩
   ·cases neg <;> simp <;> omega
   ·cases neg <;> simpa using wN
 ·rintro⟨q,rfl,rfl,rfl,h1,h2⟩
  exact WL q w h1 h2
def wx (b k:Int):List Int→Int→List Int
 | [],_=>[]
 | d::r,c=>(c+d*k) % b::wx b k r ((c+d*k) / b)
def vO (b k:Int):List Int→Int→Int
 | [],c=>c
 | d::r,c=>vO b k r ((c+d*k) / b)
theorem Yv (b k:Int) : ∀(L:List Int) (c:Int),(wx b k L c).length=L.length
 | [],_=>rfl
 | d::r,c=>by simp[wx,Yv b k r]
theorem WM {b:Nat} (hb:0<b) (k:Int) : ∀(L:List Int) (c:Int),OkD b (wx b k L c)
 | [],_=>.nil _
 | d::r,c=>.cons ⟨aE _ (by omega),sF _ (by omega)⟩ (WM hb k r _)
theorem Yw (b:Nat) (k:Int) : ∀(L:List Int) (c:Int),zG b (wx b k L c)+(b:Int)^L.length*vO b k L c=k*zG b L+c
 | [],c=>by simp[wx,vO,zG]
 | d::r,c=>by
  have ih:=Yw b k r ((c+d*k) / b);have e:=sN (c+d*k) b
  show (c+d*k) % b+b*zG b (wx b k r ((c+d*k) / b))+(b:Int)^(r.length+1)*vO b k r ((c+d*k) / b)=k*(d+b*zG b r)+c
  rw[pO,Int.mul_right_comm,bM _ (b:Int),BG,←bG,ih,bG,bG,HF k (b:Int),bM k d];omega
theorem WN {b:Nat} (hb:0<b) {k m:Int} (hk:0≤k∧k≤m) : ∀(L:List Int) (c:Int),OkD b L→(0≤c∧c<m)→0≤vO b k L c∧vO b k L c<m
 | [],c,_,h=>h
 | d::r,c,ho,h=>by
  have hd:=ho.head;have h0:0≤d*k:=pW hd.1 hk.1;refine WN hb hk r _ ho.tail ⟨pX (by omega) (by omega),?_⟩;rw[HT (by omega)];have h1:d*k≤d*m:=pI hk.2 hd.1;have h2:d*m≤(b-1)*m:=pU (by omega) (by omega);have h3:((b:Int)-1)*m=m*b-m:=by rw[aT,HM,bM]
  omega
def wj (b:Int):List Int→List Int→Int→List Int
 | [],[],c=>if c=0 then [] else [c]
 | x::r,[],c=>(c+x) % b::wj b r [] ((c+x) / b)
 | [],y::s,c=>(c+y) % b::wj b [] s ((c+y) / b)
 | x::r,y::s,c=>(c+x+y) % b::wj b r s ((c+x+y) / b)
theorem qo (b:Nat) : ∀(L M:List Int) (c:Int),zG b (wj b L M c)=zG b L+zG b M+c
 | [],[],c=>by
  unfold wj;split
  ·rename_i h;simp[zG,h]
  ·simp[zG]
 | x::r,[],c=>by
  have ih:=qo b r [] ((c+x) / b);have e:=sN (c+x) b;rw[wj]
  show (c+x) % b+b*zG b (wj b r [] ((c+x) / b))=x+b*zG b r+zG b []+c
  rw[ih,bG,bG];have:zG b []=0:=rfl;rw[this,aD];omega
 | [],y::s,c=>by
  have ih:=qo b [] s ((c+y) / b);have e:=sN (c+y) b;rw[wj]
  show (c+y) % b+b*zG b (wj b [] s ((c+y) / b))=zG b []+(y+b*zG b s)+c
  rw[ih,bG,bG];have:zG b []=0:=rfl;rw[this,aD];omega
 | x::r,y::s,c=>by
  have ih:=qo b r s ((c+x+y) / b);have e:=sN (c+x+y) b;rw[wj]
  show (c+x+y) % b+b*zG b (wj b r s ((c+x+y) / b))=x+b*zG b r+(y+b*zG b s)+c
  rw[ih,bG,bG];omega
def qp (b x:Int):List Int→List Int→Int→List Int
 | y::r,w::s,c=>(c+(w+x*y)) % b::qp b x r s ((c+(w+x*y)) / b)
 | _,_,_=>[]
def ue (b x:Int):List Int→List Int→Int→Int
 | y::r,w::s,c=>ue b x r s ((c+(w+x*y)) / b)
 | _,_,c=>c
theorem Ud (b:Nat) (x:Int) : ∀(B W:List Int) (c:Int),B.length=W.length→zG b (qp b x B W c)+(b:Int)^B.length*ue b x B W c=x*zG b B+zG b W+c
 | [],[],c,_=>by simp[qp,ue,zG]
 | y::r,w::s,c,h=>by
  have ih:=Ud b x r s ((c+(w+x*y)) / b) (by simpa using h);have e:=sN (c+(w+x*y)) b
  show (c+(w+x*y)) % b+b*zG b (qp b x r s ((c+(w+x*y)) / b))+(b:Int)^(r.length+1)*ue b x r s ((c+(w+x*y)) / b)=x*(y+b*zG b r)+(w+b*zG b s)+c
  rw[pO,Int.mul_right_comm,bM _ (b:Int),BG,←bG,ih,bG,bG,bG,HF x (b:Int)];omega
theorem Ue (b x:Int) : ∀(B W:List Int) (c:Int),B.length=W.length→(qp b x B W c).length=B.length
 | [],[],_,_=>rfl
 | y::r,w::s,c,h=>by
  have:=Ue b x r s ((c+(w+x*y)) / b) (by simpa using h);simp[qp,this]
theorem Q1 {b:Nat} (hb:0<b) (x:Int) : ∀(B W:List Int) (c:Int),OkD b (qp b x B W c)
 | [],_,_=>by unfold qp;exact .nil _
 | _::_,[],_=>by unfold qp;exact .nil _
 | y::r,w::s,c=>.cons ⟨aE _ (by omega),sF _ (by omega)⟩ (Q1 hb x r s _)
theorem Uf {b:Nat} (hb:0<b) {x:Int} (hx:0≤x∧x<b) : ∀(B W:List Int) (c:Int),OkD b B→OkD b W→(0≤c∧c<b)→0≤ue b x B W c∧ue b x B W c<b
 | [],_,c,_,_,h=>by unfold ue;exact h
 | _::_,[],c,_,_,h=>by unfold ue;exact h
 | y::r,w::s,c,hB,hW,h=>by
  have hy:=hB.head;have hw:=hW.head;have h0:0≤x*y:=pW hx.1 hy.1;refine Uf hb hx r s _ hB.tail hW.tail ⟨pX (by omega) (by omega),?_⟩;rw[HT (by omega)];have h1:x*y≤x*(b-1):=pI (by omega) hx.1;have h2:x*(b-1)≤(b-1)*(b-1):=pU (by omega) (by omega);have h3:((b:Int)-1)*(b-1)=b*b-2*b+1:=by
   rw[aT,Int.mul_sub,HM,Int.mul_one];omega
  omega
def xS (b k:Int):List Int→Int
 | []=>0
 | a::L=>(xS b k L*b+a) % k
def xf (b k:Int):List Int→List Int
 | []=>[]
 | a::L=>(xS b k L*b+a) / k::xf b k L
theorem ZU {b k:Int} (hk:0<k) : ∀L:List Int,0≤xS b k L∧xS b k L<k
 | []=>⟨aJ 0,hk⟩
 | a::L=>⟨aE _ (by omega),sF _ hk⟩
theorem WO (b:Nat) (k:Int) : ∀L:List Int,zG b L=k*zG b (xf b k L)+xS b k L
 | []=>by simp[xf,xS,zG]
 | a::L=>by
  have ih:=WO b k L;have e:=sN (xS b k L*b+a) k
  show a+b*zG b L=k*((xS b k L*b+a) / k+b*zG b (xf b k L))+(xS b k L*b+a) % k
  rw[ih,bG,bG,HF k (b:Int),bM (b:Int) (xS b k L)];omega
theorem qD (b k:Int) : ∀L:List Int,(xf b k L).length=L.length
 | []=>rfl
 | a::L=>by simp[xf,qD b k L]
theorem WP {b:Nat} {k:Int} (hk:0<k) : ∀L:List Int,OkD b L→OkD b (xf b k L)
 | [],_=>.nil _
 | a::L,h=>by
  have hr:=ZU (b:=b) hk L;have ha:=h.head;have h0:0≤xS b k L*b:=pW hr.1 (by omega);refine .cons ⟨pX (by omega) (by omega),?_⟩ (WP hk L h.tail);rw[HT hk];have h1:xS b k L*b≤(k-1)*b:=pU (by omega) (by omega);have h2:(k-1)*(b:Int)=b*k-b:=by rw[aT,HM,bM]
  omega
section
@[go_sem] theorem zF9 (fs:List (Nat × Nat × Bool)) (cs:List PV):kS fs cs []=some cs:=nr rfl
@[go_sem] theorem zEg (fs:List (Nat × Nat × Bool)) (cs:List PV) (i:Nat) (x:PV) (r:List (Nat × PV)):kS fs cs ((i,x)::r) =
  (fs[i]?).bind fun q=>if x.cells.length=q.2.1∧x.cells.all PV.cell=true∧q.1+q.2.1≤cs.length then kS fs (cs.take q.1++x.cells++cs.drop (q.1+q.2.1)) r else none:=nr (by
 rw[kS]
 cases fs[i]? with
 | none=>rfl
 | some q=>rfl)
@[go_sem] theorem zEh:(tyi Tryz.prog 3).known=true:=nr (by kernel_rfl)
@[go_sem] theorem zHs:(tyi Tryz.prog 3).size=1:=nr (by kernel_rfl)
@[go_sem] theorem zC7 (S:zA) (k:IntKind) (n:Int):zN Tryz.prog 3 123 S (.int k n)=some (.int .u64 (IntKind.u64.wrap n)):=by
 simp[zN,show (tyi Tryz.prog 3).known=true by kernel_rfl,yS,show (tyi Tryz.prog 123).d=.int .u64 by kernel_rfl]
@[go_sem] theorem zC8 (S:zA) (k:IntKind) (n:Int):zN Tryz.prog 3 96 S (.int k n)=some (.int .u32 (IntKind.u32.wrap n)):=by
 simp[zN,show (tyi Tryz.prog 3).known=true by kernel_rfl,yS,show (tyi Tryz.prog 96).d=.int .u32 by kernel_rfl]
@[go_sem] theorem zC9 (S:zA) (k:IntKind) (n:Int):zN Tryz.prog 96 3 S (.int k n)=some (.int .i64 (IntKind.i64.wrap n)):=by
 simp[zN,show (tyi Tryz.prog 96).known=true by kernel_rfl,yS,show (tyi Tryz.prog 3).d=.int .i64 by kernel_rfl]
@[go_sem] theorem zAf (S:zA) (k:IntKind) (n:Int):zN Tryz.prog 123 5 S (.int k n)=some (.int .u8 (IntKind.u8.wrap n)):=by
 simp[zN,show (tyi Tryz.prog 123).known=true by kernel_rfl,yS,show (tyi Tryz.prog 5).d=.int .u8 by kernel_rfl]
@[go_sem] theorem zCa (S:zA) (k:IntKind) (n:Int):zN Tryz.prog 123 3 S (.int k n)=some (.int .i64 (IntKind.i64.wrap n)):=by
 simp[zN,show (tyi Tryz.prog 123).known=true by kernel_rfl,yS,show (tyi Tryz.prog 3).d=.int .i64 by kernel_rfl]
theorem Ug {S:zA} {f:FuncId} {l l':List PV} {ids:List Nat} {v:PV} (hc:callL Tryz.prog zD f l'=some v) (hz:yG (ym S) l=some l') (hr:yq S 8 (l.flatMap PV.refs)=ids) (ha:ids.all (fun i=>decide (i<S.length))=true):zQ (callL Tryz.prog zD) S f l=some {v,fz:=ids} := by
 unfold zQ;rw[hr,ha,hZ rfl,hz];simp only[bC,hc,bJ]
attribute [go_sem] PS BB
end
section
theorem yv:SlT 48 3 1 8:=⟨by kernel_rfl,by kernel_rfl,by kernel_rfl,by kernel_rfl,by kernel_rfl⟩
@[go_sem] theorem zHR (r:List (List PV)) (ex:Bool):yO (tyi Tryz.prog 48) (.sl r ex)=some (.int .i64 r.length):=yv.len r ex
@[go_sem] theorem zGN (i o l:Nat) (ex:Bool):yO (tyi Tryz.prog 48) (.msl i o l ex)=some (.int .i64 l):=yv.lenm i o l ex
@[go_sem] theorem zHS (S:zA) (L:List Int) (ex:Bool) (i:Int):zK Tryz.prog 48 S (.sl (zB .i64 L) ex) (.int .i64 i)=if 0≤i∧i<L.length then some (.cp [.int .i64 (L.getD i.toNat 0)]) else none:=yv.idxk .i64 S L ex i
@[go_sem] theorem zGO (v:PV) (r:List PV):part (tyi Tryz.prog 3) (v::r)=some v:=by
 have e:(tyi Tryz.prog 3).isAgg=false:=by kernel_rfl
 simp[part,zEh,e]
@[go_sem] theorem zFa (id n:Nat) (is:List Nat) (rows:List (List PV)):zJ Tryz.prog 48 id n is rows=if is=List.range n∧zq 1 rows=true∧(rows.all fun r=>r.all PV.cell)=true∧n*1≤16777216 then some {v:=.msl id 0 n true,new:=some (rows,some (some 1))} else none:=yv.buildSlice (by decide) id n is rows
theorem Uh:(tyi Tryz.prog 3).zero=some [.int .i64 0]:=by kernel_rfl
theorem Yx (id n:Nat) (hn:n≤30000000000000):zL Tryz.prog 48 id (.int .i64 n) (.int .i64 n)=some {v:=.msl id 0 n true,new:=some (zB .i64 (List.replicate n 0),some (some 1))} := by
 rw[yv.make Uh id n (by omega) (by omega),kU]
theorem zAN (id:Nat) (m:Int) (hm:0<m∧m≤30000000000000):zL Tryz.prog 48 id (.int .i64 0) (.int .i64 m)=some {v:=.msl id 0 0 false,new:=some ([],some (some 1))} := by
 have hd:decide ((0:Int)=m)=false:=sA (by omega);simp only[zL,yv.d,Uh,bC,yv.b,yv.s];rw[hZ ⟨by omega,by omega,by omega,by omega,rfl,rfl⟩,hd];rfl
abbrev DB:Nat:=10000
theorem DB2:2≤DB:=by decide
def dec (n:Nat):List Int:=yX DB n
def yJ (n:Nat) (e:Bool):PV:=.sl (zB .i64 (dec n)) e
def zg (n:Nat):PV:=yJ n false
theorem xJ (n:Nat):OkD DB (dec n):=Zz DB2 n
theorem xL (n:Nat):zG DB (dec n)=n:=ua DB2 n
theorem xz {n:Nat} : (dec n).length=0↔n=0:=by
 rw[PT];exact xI DB2
def zU (n:Nat) (v:PV):Prop:=v=zg n∨(n=0∧v=.sl [] true)
theorem zU.of (n:Nat):zU n (zg n):=.inl rfl
theorem zU.nil' {n:Nat} (h:n=0):zU n (.sl [] true):=.inr ⟨h,rfl⟩
theorem zU.form {n:Nat} {v:PV} (h:zU n v) : ∃e,v=yJ n e∧zW v:=by
 rcases h with rfl | ⟨rfl,rfl⟩
 ·exact⟨false,rfl,zW.sl _⟩
 ·refine⟨true,?_,zW.nil⟩;unfold yJ;have:dec 0=[]:=(xI DB2).2 rfl;rw[this];rfl
theorem zU.plain {n:Nat} {v:PV} (h:zU n v):zW v:=let ⟨_,_,hp⟩:=h.form;hp
theorem SlT.app1 {t el:TypeId} (h:SlT t el 1 8) (L:List Int) (x:Int) (g:Option Nat) (hg:g=none∨g=some 1) (hl:L.length≤10000000) (ex:Bool):zV Tryz.prog 0 t t [.arr (zB .i64 L) (some g) false,.arr [[.int .i64 x]] (some (some 1)) false] (.msl 0 0 L.length false) (.msl 1 0 1 ex) =
  some {v:=.msl 0 0 (L.length+1) false,S:=[.arr (zB .i64 (L++[x])) (some (some 1)) false,.arr [[.int .i64 x]] (some (some 1)) false],kill:=[0]} := by
 have:=h.app (b:=0) (S:=[.arr (zB .i64 L) (some g) false,.arr [[.int .i64 x]] (some (some 1)) false]) (id:=0) (rows:=zB .i64 L) (new:=zB .i64 [x]) (g:=g) (p:=.msl 1 0 1 ex) rfl (bB _) hg (RowsV.msl 1 (zB .i64 [x]) ex _ _ rfl) (ya _ _) (ya _ _) (by rw[zI,zI];simp;omega) (by rw[zI,zI];simp;omega) (by rw[zY];simp) (by rw[zY];simp);rw[zI]at this;rw[this];simp only[pF,aA,yF,xG,zY,List.any_nil,bH,if_false,pV,uz,yP,vp,uv,qf,jM,pC,zI];rfl
theorem zs:3000000≤maxLen:=by decide
section
attribute [local irreducible] Vs.callL Vs.callRL tyi zQ yE zm zV zk zb zK zf zF zT zl zi zJ zL zj yB yO yD zN zh Vs.gc zH
noncomputable def JJ:FX:=⟨Tryz.f111,zD.of 111,[]⟩
instance ok111_:JJ.ok 111:=FX.mk'
theorem zAO (L:List Int) (hL:L.length≤3000000) (fs:List Fr) {z:PV × zA} : ∀(n:Nat),n≤L.length→(∀m:Nat,m≤L.length→L.take m=xC (L.take n)→zZ 0 JJ 0 fs [(0,.sl (zB .i64 L) false),(3,.int .i64 m),(15,.undef)] []=some z)→zS 0 JJ 0 56 0 fs [(0,.sl (zB .i64 L) false),(3,.int .i64 n)] []=some z:=by
 have hM:=zs;intro n
 induction n with
 | zero =>
  intro hn hz;have key:=hz 0 (by omega) (by simp[xC]);apply zC;(repeat((conv=>lhs;whnf);simp only[go_sem,simprocAttr]));exact key
 | succ n ih =>
  intro hn hz;have ht:L.take (n+1)=L.take n++[L.getD n 0]:=by
   rw[aK];have:L[n]? = some (L.getD n 0):=by rw[bI (by omega)];simp[bE,show n<L.length by omega]
   rw[this];rfl
  have h0:(0:Int)<((n+1:Nat):Int):=by omega
  have w1:IntKind.i64.wrap (((n+1:Nat):Int)-1)=(n:Int):=by rw[bA];omega
  have x1:0≤(n:Int)∧(n:Int)<(L.length:Int):=⟨by omega,by omega⟩;apply zC;by_cases hx:L.getD n 0=0
  ·rw[ht,hx,uM]at hz;have key:=ih (by omega) hz;(repeat((conv=>lhs;whnf);simp only[go_sem,simprocAttr,h0,w1,x1,bD,hx]));exact key
  ·have key:=hz (n+1) hn (by rw[ht,kB hx]);(repeat((conv=>lhs;whnf);simp only[go_sem,simprocAttr,h0,w1,x1,bD,hx]));exact key
theorem zAP (L:List Int) (hL:L.length≤3000000):callL Tryz.prog zD 111 [.sl (zB .i64 L) false]=some (.sl (zB .i64 (xC L)) false):=by
 have key:=zAO L hL [.blk 0,.seq 0 15] (z:=(.sl (zB .i64 (xC L)) false,[])) L.length (bB _) (fun m hle hm=>by
  rw[PN]at hm;have sl:=yv.firsts [] (rows:=zB .i64 L) false m (by rw[zI];omega) (ya .i64 _);rw[Yc,hm]at sl;apply zR;((repeat((conv=>lhs;whnf);simp only[go_sem,simprocAttr,sl]));try rfl))
 refine FX.callL (r:=(.sl (zB .i64 (xC L)) false,[])) ok111_ 1000 rfl rfl ?_ (xA _ _);(repeat((conv=>lhs;whnf);simp only[go_sem,simprocAttr]));exact key
theorem wy {L:List Int} (hL:L.length≤3000000) (h:OkD DB L):callL Tryz.prog zD 111 [.sl (zB .i64 L) false]=some (zg (zG DB L).toNat):=by
 rw[zAP L hL,we DB2 h];rfl
noncomputable def Ui:FX:=⟨Tryz.f89,zD.of 89,[]⟩
instance ok89_:Ui.ok 89:=FX.mk'
theorem Uj (fs:List Fr) {z:PV × zA} : ∀(f:Nat) (c:Nat),c≤f→c<4611686018427387904→∀(D:List Int),D.length+(dec c).length≤3000000→zZ 0 Ui 2 fs [(2,.undef),(7,.msl 0 0 (D++dec c).length false),(34,.undef)] [.arr (zB .i64 (D++dec c)) (some (some 1)) false]=some z →
  zS 0 Ui 2 120 1 fs [(1,.undef),(2,.int .i64 c),(7,.msl 0 0 D.length false),(14,.undef),(15,.undef),(16,.undef),(17,.undef)] [.arr (zB .i64 D) (some (some 1)) false]=some z:=by
 intro f
 induction f with
 | zero =>
  intro c hc hcb D hl hz;have h0:c=0:=by omega
  subst h0;have e:dec 0=[]:=(xI DB2).2 rfl;rw[e,pD]at hz;have key:=hz;apply zC;(repeat((conv=>lhs;whnf);simp only[go_sem,simprocAttr]));exact key
 | succ f ih =>
  intro c hc hcb D hl hz;by_cases h0:c=0
  ·subst h0;have e:dec 0=[]:=(xI DB2).2 rfl;rw[e,pD]at hz;have key:=hz;apply zC;(repeat((conv=>lhs;whnf);simp only[go_sem,simprocAttr]));exact key
  ·have ed:dec c=((c % 10000:Nat):Int)::dec (c / 10000):=xW DB2 h0;have h1:(0:Int)<(c:Int):=by omega
   have h1':0<c:=by omega
   have tm:(c:Int).tmod 10000=((c % 10000:Nat):Int):=by rw[sO (by omega)];rfl
   have td:IntKind.i64.wrap ((c:Int).tdiv 10000)=((c / 10000:Nat):Int):=by
    rw[sG (by omega),bA];omega
   rw[ed]at hz hl;have ap:=yv.app1 D ((c % 10000:Nat):Int) (some 1) (.inr rfl) (by simp only[bP]at hl;omega) true;have key:=ih (c / 10000) (by omega) (by omega) (D++[((c % 10000:Nat):Int)]) (by simp only[bP]at hl;simp;omega) (by simpa using hz);rw[bO,sZ]at key;apply zC;(repeat((conv=>lhs;whnf);simp only[go_sem,simprocAttr,h1,h1',tm,td,ap,zY]));exact key
theorem JK (A:List Int) (e:Bool) (hA:OkD DB A) (hl:A.length≤1000000) (k:Int) (hk:0≤k∧k≤65536) (fs:List Fr) {z:PV × zA} (c0:Int) (hz:zZ 0 Ui 0 fs [(1,.undef),(2,.int .i64 (vO 10000 k A c0)),(7,.msl 0 0 A.length false),(14,.undef),(15,.undef),(16,.undef),(17,.undef)] [.arr (zB .i64 (wx 10000 k A c0)) (some (some 1)) false]=some z) :
  ∀(m i:Nat),i+m=A.length→∀(D:List Int) (c:Int),D.length=i→(0≤c∧c<65536)→D++wx 10000 k (A.drop i) c=wx 10000 k A c0→vO 10000 k (A.drop i) c=vO 10000 k A c0 →
  zS 0 Ui 0 116 1 fs [(1,.int .i64 k),(2,.int .i64 c),(7,.msl 0 0 D.length false),(14,.sl (zB .i64 A) e),(15,.int .i64 A.length),(16,.int .i64 i)] [.arr (zB .i64 D) (some (some 1)) false]=some z:=by
 have hM:=zs;intro m
 induction m with
 | zero =>
  intro i hi D c hD hc hs ht;have h1 : ¬(i:Int)<(A.length:Int):=by omega
  have hd:A.drop i=[]:=pA (by omega);rw[hd]at hs ht;simp only[wx,vO,pD]at hs ht;subst ht;have key:=hz;rw[←hs]at key;have hDA:D.length=A.length:=by omega
  rw[←hDA]at key;apply zC;(repeat((conv=>lhs;whnf);simp only[go_sem,simprocAttr,h1]));exact key
 | succ m ih =>
  intro i hi D c hD hc hs ht;have h1:(i:Int)<(A.length:Int):=by omega
  have w1:=xF (i:=i) (n:=A.length) (by omega) (by omega);have x1:0≤(i:Int)∧(i:Int)<(A.length:Int):=⟨by omega,h1⟩;have ha:=hA.getD (by decide) i;have ha':A.getD i 0<10000:=ha.2;have hd:=yA A (k:=i) (by omega);rw[hd]at hs ht;have p0:0≤A.getD i 0*k:=pW ha.1 hk.1;have p1:A.getD i 0*k≤9999*65536:=by
   have a1:A.getD i 0*k≤A.getD i 0*65536:=pI hk.2 ha.1;omega
  have q1:0≤(c+A.getD i 0*k) / 10000∧(c+A.getD i 0*k) / 10000<65536:=by omega
  have key:=ih (i+1) (by omega) (D++[(c+A.getD i 0*k) % 10000]) ((c+A.getD i 0*k) / 10000) (by simp[hD]) q1 (by simpa [wx] using hs) (by simpa [vO] using ht);rw[bO,sZ]at key;have m1:IntKind.i64.wrap (A.getD i 0*k)=A.getD i 0*k:=by rw[bA];omega
  have m2:IntKind.i64.wrap (c+A.getD i 0*k)=c+A.getD i 0*k:=by rw[bA];omega
  have tm:(c+A.getD i 0*k).tmod 10000=(c+A.getD i 0*k) % 10000:=sO (by omega);have td:IntKind.i64.wrap ((c+A.getD i 0*k).tdiv 10000)=(c+A.getD i 0*k) / 10000:=by
   rw[sG (by omega),bA];omega
  have ap:=yv.app1 D ((c+A.getD i 0*k) % 10000) (some 1) (.inr rfl) (by omega) true;apply zC;(repeat((conv=>lhs;whnf);simp only[go_sem,simprocAttr,h1,x1,bD,m1,m2,tm,td,ap,w1,zY]));exact key
theorem VK (n:Nat) (e:Bool) (k c:Nat) (hk:k≤65536) (hc:c<65536) (hn:(dec n).length≤1000000):callL Tryz.prog zD 89 [yJ n e,.int .i64 k,.int .i64 c]=some (zg (n*k+c)):=by
 have hM:=zs;have hF:=Yw DB k (dec n) c;have hFl:=Yv 10000 k (dec n) c;have hFo:OkD DB (wx 10000 k (dec n) c):=WM (by decide) k (dec n) c;have hC:=WN (b:=DB) (by decide) (k:=k) (m:=65536) ⟨by omega,by omega⟩ (dec n) c (xJ n) ⟨by omega,by omega⟩;have e0:((DB:Nat):Int)=10000:=rfl;rw[e0]at hF hC;generalize hG:wx 10000 k (dec n) c=G at *;obtain⟨C,hCC⟩ : ∃C:Nat,vO 10000 k (dec n) c=C:=⟨(vO 10000 k (dec n) c).toNat,by omega⟩;rw[hCC]at hF hC;have hdl:(dec C).length≤2:=(yI DB2 2 C).2 (by show C<10000^2;omega);have hok:OkD DB (G++dec C):=hFo.append (xJ C);have hv:(zG DB (G++dec C)).toNat=n*k+c:=by
  rw[zX,xL,hFl,e0,hF,xL];have:((n*k+c:Nat):Int)=(k:Int)*n+c:=by rw[HK,pL,bM]
  omega
 have ct:=wy (by simp;omega) hok;rw[hv]at ct;have c1:=ys (S:=[.arr (zB .i64 (G++dec C)) (some (some 1)) false]) (id:=0) (n:=(G++dec C).length) (ex:=false) ct rfl rfl (by simp);have w1:IntKind.i64.wrap (((dec n).length:Int)+2)=(((dec n).length+2:Nat):Int):=by rw[bA];omega
 have mk:=fun id=>zAN id (((dec n).length+2:Nat):Int) ⟨by omega,by omega⟩;have key:=JK (dec n) e (xJ n) hn k ⟨by omega,by omega⟩ [.blk 0,.seq 0 15] (z:=(zg (n*k+c),[.arr (zB .i64 (G++dec C)) (some (some 1)) true])) c (by
  have k2:=Uj [.blk 2,.seq 0 31] (z:=(zg (n*k+c),[.arr (zB .i64 (G++dec C)) (some (some 1)) true])) C C (bB _) (by omega) G (by omega) (by
   apply zR;((repeat((conv=>lhs;whnf);simp only[go_sem,simprocAttr,c1]));try rfl))
  rw[hFl]at k2;rw[hG,hCC];apply zR;(repeat((conv=>lhs;whnf);simp only[go_sem,simprocAttr]));exact k2) (dec n).length 0 (by omega) [] c rfl ⟨by omega,by omega⟩ rfl rfl
 refine FX.callL (r:=(zg (n*k+c),[.arr (zB .i64 (G++dec C)) (some (some 1)) true])) ok89_ 1000 rfl rfl ?_ (xA _ _);unfold yJ at *;(repeat((conv=>lhs;whnf);simp only[go_sem,simprocAttr,w1,mk]));exact key
end
end
section
def zEi (k:IntKind) (a b:Int):Int:=k.wrap (BitVec.ofInt k.bits a &&& BitVec.ofInt k.bits b).toNat
@[go_sem ↓] theorem zFb (k:IntKind) (a b:Int):k.wrap (BitVec.ofInt k.bits a &&& BitVec.ofInt k.bits b).toNat=zEi k a b:=rfl
theorem zBi {w:Int} (h:0≤w∧w<4294967296):zEi .u32 w 65535=w % 65536:=by
 obtain⟨a,rfl⟩ : ∃a:Nat,w=a:=⟨w.toNat,by omega⟩
 show IntKind.u32.wrap (((BitVec.ofInt 32 (a:Int) &&& BitVec.ofInt 32 ((65535:Nat):Int)).toNat:Nat):Int)=_
 rw[BitVec.toNat_and,BJ,BJ,BK,BK,sE (by omega),sE (by omega)];have e:=Nat.and_two_pow_sub_one_eq_mod a 16;have e2:(2:Nat)^16-1=65535:=by decide
 rw[e2]at e;rw[e,bU];omega
theorem jS {n:Nat} {v:PV} (h:zU n v) (k c:Nat) (hk:k≤65536) (hc:c<65536) (hn:(dec n).length≤1000000) (S:zA):zQ (callL Tryz.prog zD) S 89 [v,.int .i64 k,.int .i64 c]=some {v:=zg (n*k+c)} := by
 obtain⟨e,rfl,hp⟩:=h.form;exact zE (S:=S) (VK n e k c hk hc hn) (by simp[hp,zW.int])
theorem Uk {N h k:Nat} (hN:(dec N).length≤k) (hh:h<65536):(dec (N*65536+h)).length≤k+2:=by
 refine (yI DB2 (k+2) _).2 ?_;have a2:=(yI DB2 k N).1 hN;have a3:DB^(k+2)=DB^k*100000000:=by rw[aC,show DB^2=100000000 from by decide]
 rw[a3];generalize DB^k=Q at *;omega
theorem zAQ {b:Nat} (hb:2≤b) {L:List Int} (h:OkD b L):(yX b (zG b L).toNat).length≤L.length:=by
 rw[←we hb h];exact kA L
theorem uf {n k:Nat} (h:(words n).length≤k):(dec n).length≤3*k:=by
 refine (yI DB2 (3*k) n).2 ?_;have h1:=(yI WB2 k n).1 h;have h2:DB^(3*k)=(DB^3)^k:=HL _ _ _;rw[h2];exact aV h1 (Nat.pow_le_pow_left (by decide) k)
theorem WQ {n k:Nat} (h:(dec n).length≤k):(words n).length≤k:=by
 refine (yI WB2 k n).2 ?_;exact aV ((yI DB2 k n).1 h) (Nat.pow_le_pow_left (by decide) k)
theorem wO {m n:Nat} (h:m≤n):(dec m).length≤(dec n).length:=wm DB2 h
theorem VL (L:List Int) (h:OkD WB L) (i:Nat):0≤zG WB (L.drop i):=zv (h.drop i)
section
attribute [local irreducible] Vs.callL Vs.callRL tyi zQ yE zm zV zk zb zK zf zF zT zl zi zJ zL zj yB yO yD zN zh Vs.gc zH
noncomputable def zBj:FX:=⟨Tryz.f58,zD.of 58,[]⟩
instance ok58_:zBj.ok 58:=FX.mk'
theorem zDP (A:List Int) (e:Bool) (hA:OkD WB A) (hl:A.length≤100000) (fs:List Fr) {z:PV × zA} (hz:zZ 0 zBj 0 fs [(0,.undef),(3,zg (zG WB A).toNat),(4,.undef),(10,.undef)] [.arr [] (some (some 1)) true]=some z) :
  ∀(i:Nat),i≤A.length→zS 0 zBj 0 116 1 fs [(0,.sl (zB .u32 A) e),(3,zg (zG WB (A.drop i)).toNat),(4,.int .i64 ((i:Int)-1))] [.arr [] (some (some 1)) true]=some z:=by
 have hM:=zs;intro i
 induction i with
 | zero =>
  intro hi;apply zC;(repeat((conv=>lhs;whnf);simp only[go_sem,simprocAttr]));exact hz
 | succ i ih =>
  intro hi;have key:=ih (by omega);have ed:=yA A (k:=i) (by omega);have ha:=hA.getD (by decide) i;have ha':A.getD i 0<4294967296:=ha.2;have hv0:=VL A hA (i+1);have ev:zG WB (A.drop i)=A.getD i 0+4294967296*zG WB (A.drop (i+1)):=by rw[ed];rfl
  have hdl:(dec (zG WB (A.drop (i+1))).toNat).length≤300000:=by
   refine uf (k:=100000) ?_;have:=zAQ WB2 (hA.drop (i+1));have h2:(A.drop (i+1)).length≤100000:=by simp;omega
   exact bF this h2
  obtain⟨N,hN⟩ : ∃N:Nat,zG WB (A.drop (i+1))=N:=⟨(zG WB (A.drop (i+1))).toNat,by omega⟩;obtain⟨w,hw⟩ : ∃w:Nat,A.getD i 0=w:=⟨(A.getD i 0).toNat,by omega⟩;rw[hw,hN]at ev;rw[ev]at key;rw[hw]at ha';rw[hN,bD]at hdl ⊢;have s1:=jS (zU.of N) 65536 (w / 65536) (by omega) (by omega) (by omega);have hdl2:(dec (N*65536+w / 65536)).length≤300002:=Uk hdl (by omega);have s2:=jS (zU.of (N*65536+w / 65536)) 65536 (w % 65536) (by omega) (by omega) (by omega);have e2:(N*65536+w / 65536)*65536+w % 65536=((w:Int)+4294967296*N).toNat:=by omega
  rw[e2]at s2;have x1:0≤((i+1:Nat):Int)-1∧((i+1:Nat):Int)-1<(A.length:Int):=⟨by omega,by omega⟩;have h0:(0:Int)≤((i+1:Nat):Int)-1:=by omega
  have ti:(((i+1:Nat):Int)-1).toNat=i:=by omega
  have c1:IntKind.i64.wrap ((w:Int) / 65536)=((w / 65536:Nat):Int):=by rw[bA];omega
  have c2:zEi .u32 (w:Int) 65535=((w % 65536:Nat):Int):=by rw[zBi ⟨by omega,ha'⟩];omega
  have c3:IntKind.i64.wrap ((w % 65536:Nat):Int)=((w % 65536:Nat):Int):=by rw[bA];omega
  have w1:IntKind.i64.wrap (((i+1:Nat):Int)-1-1)=(i:Int)-1:=by rw[bA];omega
  have k5:((65536:Nat):Int)=65536:=rfl;rw[k5]at s1 s2;unfold zg yJ at *;apply zC;(repeat((conv=>lhs;whnf);simp only[go_sem,simprocAttr,x1,h0,ti,hw,c1,c2,c3,s1,s2,w1]));exact key
theorem zDQ (n:Nat) (e:Bool) (hn:(words n).length≤100000):callL Tryz.prog zD 58 [zo n e]=some (zg n):=by
 have key:=zDP (words n) e (yC n) hn [.blk 0,.seq 0 15] (z:=(zg n,[.arr [] (some (some 1)) true])) (by
  rw[yM,bD];unfold zg yJ;apply zR;((repeat((conv=>lhs;whnf);simp only[go_sem,simprocAttr]));try rfl)) (words n).length (bB _)
 rw[sU]at key;have e0:zg (zG WB []).toNat=.sl [] false:=by
  show zg 0=_
  unfold zg yJ dec;rw[yH];rfl
 rw[e0]at key;have w1:IntKind.i64.wrap (((words n).length:Int)-1)=((words n).length:Int)-1:=by rw[bA];omega
 refine FX.callL (r:=(zg n,[.arr [] (some (some 1)) true])) ok58_ 1000 rfl rfl ?_ (xA _ _);unfold zo;(repeat((conv=>lhs;whnf);simp only[go_sem,simprocAttr,w1]));exact key
end
end
section
theorem Yy {b:Nat} (hb:0<b) {A B:List Int} (hA:OkD b A) (hB:OkD b B) (hl:A.length=B.length) {k:Nat} (hk:k<A.length) (hs:A.drop (k+1)=B.drop (k+1)) (hlt:A.getD k 0<B.getD k 0):zG b A<zG b B:=by
 have eA:zG b A=_:=(congrArg (zG b) (kC A hk)).trans (zX b _ _);have eB:zG b B=_:=(congrArg (zG b) (kC B (k:=k) (by omega))).trans (zX b _ _);rw[eA,eB,hs];have ha:=hA.getD hb k;have hb':=hB.getD hb k;have h:=UV (hA.take k) (hB.take k) (by simp;omega) ha.1 ha.2 hb'.1 hb'.2 hlt;have e:(A.take k++[A.getD k 0]).length=(B.take k++[B.getD k 0]).length:=by simp;omega
 rw[e];omega
section
attribute [local irreducible] Vs.callL Vs.callRL tyi zQ yE zm zV zk zb zK zf zF zT zl zi zJ zL zj yB yO yD zN zh Vs.gc zH
noncomputable def Ul:FX:=⟨Tryz.f90,zD.of 90,[]⟩
instance ok90_:Ul.ok 90:=FX.mk'
theorem JL (fs:List Fr) {z:PV × zA} : ∀(f c:Nat),c≤f→c<4611686018427387904→∀(D:List Int),D.length+(dec c).length≤1000000→zZ 0 Ul 0 fs [(0,.undef),(3,.msl 0 0 (D++dec c).length false),(6,.undef)] [.arr (zB .i64 (D++dec c)) (some (some 1)) false]=some z →
  zS 0 Ul 0 56 1 fs [(0,.int .i64 c),(3,.msl 0 0 D.length false)] [.arr (zB .i64 D) (some (some 1)) false]=some z:=by
 have base : ∀(D:List Int),zZ 0 Ul 0 fs [(0,.undef),(3,.msl 0 0 (D++dec 0).length false),(6,.undef)] [.arr (zB .i64 (D++dec 0)) (some (some 1)) false]=some z →
   zS 0 Ul 0 56 1 fs [(0,.int .i64 (0:Nat)),(3,.msl 0 0 D.length false)] [.arr (zB .i64 D) (some (some 1)) false]=some z:=by
  intro D hz;have e:dec 0=[]:=(xI DB2).2 rfl;rw[e,pD]at hz;apply zC;(repeat((conv=>lhs;whnf);simp only[go_sem,simprocAttr]));exact hz
 intro f
 induction f with
 | zero =>
  intro c hc hcb D hl hz;have h0:c=0:=by omega
  subst h0;exact base D hz
 | succ f ih =>
  intro c hc hcb D hl hz;by_cases h0:c=0
  ·subst h0;exact base D hz
  ·have ed:dec c=((c % 10000:Nat):Int)::dec (c / 10000):=xW DB2 h0;have h1:(0:Int)<(c:Int):=by omega
   have h1':0<c:=by omega
   have tm:(c:Int).tmod 10000=((c % 10000:Nat):Int):=by rw[sO (by omega)];rfl
   have td:IntKind.i64.wrap ((c:Int).tdiv 10000)=((c / 10000:Nat):Int):=by
    rw[sG (by omega),bA];omega
   rw[ed]at hz hl;have ap:=yv.app1 D ((c % 10000:Nat):Int) (some 1) (.inr rfl) (by simp only[bP]at hl;omega) true;have key:=ih (c / 10000) (by omega) (by omega) (D++[((c % 10000:Nat):Int)]) (by simp only[bP]at hl;simp;omega) (by simpa using hz);rw[bO,sZ]at key;apply zC;(repeat((conv=>lhs;whnf);simp only[go_sem,simprocAttr,h1,h1',tm,td,ap,zY]));exact key
theorem Yz (n:Nat) (hn:n<4611686018427387904):callL Tryz.prog zD 90 [.int .i64 n]=some (zg n):=by
 have hl:(dec n).length≤5:=(yI DB2 5 n).2 (aV hn (by decide));have key:=JL [.blk 0,.seq 0 15] (z:=(.msl 0 0 (dec n).length false,[.arr (zB .i64 (dec n)) (some (some 1)) false])) n n (bB _) hn [] (by simp;omega) (by
  apply zR;((repeat((conv=>lhs;whnf);simp only[go_sem,simprocAttr]));try rfl))
 refine FX.callL (r:=(.msl 0 0 (dec n).length false,[.arr (zB .i64 (dec n)) (some (some 1)) false])) ok90_ 1000 rfl rfl ?_ (vL rfl rfl);(repeat((conv=>lhs;whnf);simp only[go_sem,simprocAttr]));exact key
noncomputable def zDy:FX:=⟨Tryz.f75,zD.of 75,[]⟩
instance ok75_:zDy.ok 75:=FX.mk'
theorem JM (A B:List Int) (e1 e2:Bool) (hA:OkD DB A) (hB:OkD DB B) (hl:A.length=B.length) (hm:A.length≤3000000) : ∀(k:Nat) (i:Int),i=(k:Int)-1→k≤A.length→A.drop k=B.drop k→zS 0 zDy 0 116 0 [.blk 0,.seq 0 15] [(0,.sl (zB .i64 A) e1),(1,.sl (zB .i64 B) e2),(5,.int .i64 i)] []=some (.int .i64 (jW (zG DB A) (zG DB B)),[]):=by
 have hM:=zs;intro k
 induction k with
 | zero =>
  intro i hi hk hs;have c : ¬ 0≤i:=by omega
  have e:A=B:=by simpa using hs
  subst e;have z:jW (zG DB A) (zG DB A)=0:=by unfold jW;rw[hI (by omega),hI (by omega)]
  rw[z];apply zC;(repeat((conv=>lhs;whnf);simp only[go_sem,simprocAttr,c]));apply zR;((repeat((conv=>lhs;whnf);simp only[go_sem,simprocAttr]));try rfl)
 | succ k ih =>
  intro i hi hk hs;have hi':i=(k:Int):=by omega
  subst hi';have c:(0:Int)≤(k:Int):=by omega
  have x1:0≤(k:Int)∧(k:Int)<(A.length:Int):=⟨by omega,by omega⟩;have x2:0≤(k:Int)∧(k:Int)<(B.length:Int):=⟨by omega,by omega⟩;have w:IntKind.i64.wrap ((k:Int)-1)=(k:Int)-1:=by rw[bA];omega
  apply zC;by_cases h1:A.getD k 0=B.getD k 0
  ·have key:=ih _ rfl (by omega) (by rw[yA A (by omega),yA B (by omega),h1,hs]);(repeat((conv=>lhs;whnf);simp only[go_sem,simprocAttr,c,x1,x2,bD,h1,w]));exact key
  ·by_cases h2:A.getD k 0<B.getD k 0
   ·have hv:=Yy (by decide) hA hB hl (k:=k) (by omega) hs h2;have z:jW (zG DB A) (zG DB B) = -1:=by unfold jW;rw[hZ hv]
    rw[z];((repeat((conv=>lhs;whnf);simp only[go_sem,simprocAttr,c,x1,x2,bD,h1,h2]));try rfl)
   ·have hv:=Yy (by decide) hB hA hl.symm (k:=k) (by omega) hs.symm (by omega);have z:jW (zG DB A) (zG DB B)=1:=by unfold jW;rw[hI (by omega),hZ hv]
    rw[z];((repeat((conv=>lhs;whnf);simp only[go_sem,simprocAttr,c,x1,x2,bD,h1,h2]));try rfl)
theorem XA (m n:Nat) (e1 e2:Bool) (hm:(dec m).length≤3000000) (hn:(dec n).length≤3000000):callL Tryz.prog zD 75 [yJ m e1,yJ n e2]=some (.int .i64 (yU m n)):=by
 have hM:=zs;unfold yJ;by_cases hl:(dec m).length=(dec n).length
 ·have key:=JM (dec m) (dec n) e1 e2 (xJ m) (xJ n) hl hm (dec m).length ((dec m).length-1) rfl (bB _) (by rw[sU,hl,sU]);rw[xL,xL,WG]at key;have w:IntKind.i64.wrap (((dec m).length:Int)-1)=((dec m).length:Int)-1:=by rw[bA];omega
  have c:((dec m).length:Int)=((dec n).length:Int):=by omega
  rw[c]at w;rw[c]at key;refine FX.callL (r:=(.int .i64 (yU m n),[])) ok75_ 1000 rfl rfl ?_ rfl;(repeat((conv=>lhs;whnf);simp only[go_sem,simprocAttr,c,w]));exact key
 ·have c : ¬((dec m).length:Int)=((dec n).length:Int):=by omega
  by_cases h2:(dec m).length<(dec n).length
  ·have hmn:m<n:=by
    by_cases h:m<n
    ·exact h
    ·have:=wO (show n≤m by omega);omega
   have z:yU m n = -1:=by unfold yU;rw[hZ hmn]
   rw[z];have c2:((dec m).length:Int)<((dec n).length:Int):=by omega
   refine FX.callL (r:=(.int .i64 (-1),[])) ok75_ 1000 rfl rfl ?_ rfl;((repeat((conv=>lhs;whnf);simp only[go_sem,simprocAttr,c,c2]));try rfl)
  ·have hmn:n<m:=by
    by_cases h:n<m
    ·exact h
    ·have:=wO (show m≤n by omega);omega
   have z:yU m n=1:=by unfold yU;rw[hI (by omega),hZ hmn]
   rw[z];have c2 : ¬((dec m).length:Int)<((dec n).length:Int):=by omega
   refine FX.callL (r:=(.int .i64 1,[])) ok75_ 1000 rfl rfl ?_ rfl;((repeat((conv=>lhs;whnf);simp only[go_sem,simprocAttr,c,c2]));try rfl)
theorem jT {m n:Nat} {a b:PV} (ha:zU m a) (hb:zU n b) (hm:(dec m).length≤3000000) (hn:(dec n).length≤3000000) (S:zA):zQ (callL Tryz.prog zD) S 75 [a,b]=some {v:=.int .i64 (yU m n)} := by
 obtain⟨e1,rfl,h1⟩:=ha.form;obtain⟨e2,rfl,h2⟩:=hb.form;exact zE (S:=S) (XA m n e1 e2 hm hn) (by simp[h1,h2])
theorem YD (n:Nat) (h:n<4611686018427387904) (S:zA):zQ (callL Tryz.prog zD) S 90 [.int .i64 n]=some {v:=zg n} := zE (S:=S) (Yz n h) (by simp[zW.int])
noncomputable def JN:FX:=⟨Tryz.f114,zD.of 114,[]⟩
instance ok114_:JN.ok 114:=FX.mk'
theorem Um (A:List Int) (e:Bool) (hA:OkD DB A) (hl:A.length≤4) (fs:List Fr) {z:PV × zA} (hz:zZ 0 JN 0 fs [(0,.undef),(4,.int .i64 (zG DB A)),(5,.undef),(13,.undef)] []=some z) :
  ∀(i:Nat),i≤A.length→zS 0 JN 0 244 0 fs [(0,.sl (zB .i64 A) e),(4,.int .i64 (zG DB (A.drop i))),(5,.int .i64 ((i:Int)-1))] []=some z:=by
 intro i
 induction i with
 | zero =>
  intro hi;rw[pH];apply zC;(repeat((conv=>lhs;whnf);simp only[go_sem,simprocAttr]));exact hz
 | succ i ih =>
  intro hi;have key:=ih (by omega);have ed:=yA A (k:=i) (by omega);have ha:=hA.getD (by decide) i;have ha':A.getD i 0<10000:=ha.2;have hv0:=zv (hA.drop (i+1));have ev:zG DB (A.drop i)=A.getD i 0+10000*zG DB (A.drop (i+1)):=by rw[ed];rfl
  have hv1:zG DB (A.drop (i+1))<1000000000000:=by
   have h1:=xr (hA.drop (i+1));have h2:(A.drop (i+1)).length≤3:=by simp;omega
   have h3:((DB:Nat):Int)^(A.drop (i+1)).length≤1000000000000:=by
    generalize (A.drop (i+1)).length=q at h2
    match q,h2 with
    | 0,_=>decide
    | 1,_=>decide
    | 2,_=>decide
    | 3,_=>decide
   omega
  rw[ev]at key;have x1:0≤((i+1:Nat):Int)-1∧((i+1:Nat):Int)-1<(A.length:Int):=⟨by omega,by omega⟩;have h0:(0:Int)≤((i+1:Nat):Int)-1:=by omega
  have ti:(((i+1:Nat):Int)-1).toNat=i:=by omega
  have w1:IntKind.i64.wrap (((i+1:Nat):Int)-1-1)=(i:Int)-1:=by rw[bA];omega
  have w2:IntKind.i64.wrap (zG DB (A.drop (i+1))*10000)=zG DB (A.drop (i+1))*10000:=by rw[bA];omega
  have w3:IntKind.i64.wrap (zG DB (A.drop (i+1))*10000+A.getD i 0)=A.getD i 0+10000*zG DB (A.drop (i+1)):=by rw[bA];omega
  apply zC;(repeat((conv=>lhs;whnf);simp only[go_sem,simprocAttr,x1,h0,ti,w1,w2,w3]));exact key
theorem Un (n:Nat) (e:Bool) (hn:(dec n).length≤3000000):callL Tryz.prog zD 114 [yJ n e]=some (if n<10000000000000000 then .tup [.int .i64 n,.bool true] else .tup [.int .i64 0,.bool false]):=by
 have hM:=zs;have hd:(dec n).length≤4↔n<10000000000000000:=by
  have:=yI DB2 4 n;exact this
 unfold yJ;by_cases h:n<10000000000000000
 ·rw[hZ h];have hl:=hd.2 h;have c : ¬(4:Int)<(dec n).length:=by omega
  have c' : ¬ 4<(dec n).length:=by omega
  have key:=Um (dec n) e (xJ n) hl [.blk 0,.seq 0 31] (z:=(.tup [.int .i64 n,.bool true],[])) (by
   rw[xL];apply zR;((repeat((conv=>lhs;whnf);simp only[go_sem,simprocAttr]));try rfl)) (dec n).length (bB _)
  rw[sU]at key;have w1:IntKind.i64.wrap (((dec n).length:Int)-1)=((dec n).length:Int)-1:=by rw[bA];omega
  refine FX.callL (r:=(.tup [.int .i64 n,.bool true],[])) ok114_ 1000 rfl rfl ?_ rfl;(repeat((conv=>lhs;whnf);simp only[go_sem,simprocAttr,c,c',w1]));exact key
 ·rw[hI h];have hl : ¬(dec n).length≤4:=fun e=>h (hd.1 e);have c:(4:Int)<(dec n).length:=by omega
  have c':4<(dec n).length:=by omega
  refine FX.callL (r:=(.tup [.int .i64 0,.bool false],[])) ok114_ 1000 rfl rfl ?_ rfl;((repeat((conv=>lhs;whnf);simp only[go_sem,simprocAttr,c,c']));try rfl)
end
end
section
theorem zBk {S:zA} {vs:List PV} (h : ∀v∈vs,yZ S v=some v):ym S (.tup vs)=some (.tup vs):=by
 show (yG (yZ S) vs).map PV.tup=_
 rw[qh (g:=fun v=>v) h];simp
theorem zEj (S:zA) (r:List (List PV)):yZ S (.sl r false)=some (.sl r false):=xA S r
theorem Q2 {L:List Int} {i m:Nat} (v:Int) (hi:i=m):(List.replicate (m+1) (0:Int)++L).set i v=List.replicate m 0++(v::L):=by
 subst hi;rw[PD,aG,pT,hI (by simp)];simp
section
attribute [local irreducible] Vs.callL Vs.callRL tyi zQ yE zm zV zk zb zK zf zF zT zl zi zJ zL zj yB yO yD zN zh Vs.gc zH
noncomputable def JO:FX:=⟨Tryz.f117,zD.of 117,[]⟩
instance ok117_:JO.ok 117:=FX.mk'
theorem JP (A:List Int) (e:Bool) (hA:OkD DB A) (hl:A.length≤1000000) (k:Int) (hk:1≤k∧k≤65536) (fs:List Fr) {z:PV × zA} (hz:zZ 0 JO 0 fs [(0,.undef),(1,.undef),(6,.msl 0 0 A.length true),(7,.int .i64 (xS DB k A)),(8,.undef),(16,.undef)] [.arr (zB .i64 (xf DB k A)) (some (some 1)) false]=some z) :
  ∀(i:Nat),i≤A.length→zS 0 JO 0 244 1 fs [(0,.sl (zB .i64 A) e),(1,.int .i64 k),(6,.msl 0 0 A.length true),(7,.int .i64 (xS DB k (A.drop i))),(8,.int .i64 ((i:Int)-1))] [.arr (zB .i64 (List.replicate i 0++xf DB k (A.drop i))) (some (some 1)) false]=some z:=by
 intro i
 induction i with
 | zero =>
  intro hi;rw[pH,HE,pC];apply zC;(repeat((conv=>lhs;whnf);simp only[go_sem,simprocAttr]));exact hz
 | succ i ih =>
  intro hi;have key:=ih (by omega);have ed:=yA A (k:=i) (by omega);have ha:=hA.getD (by decide) i;have ha':A.getD i 0<10000:=ha.2;have hr:=ZU (b:=DB) (k:=k) (by omega) (A.drop (i+1));have eR:xS DB k (A.drop i)=(xS DB k (A.drop (i+1))*10000+A.getD i 0) % k:=by rw[ed];rfl
  have eF:xf DB k (A.drop i)=(xS DB k (A.drop (i+1))*10000+A.getD i 0) / k::xf DB k (A.drop (i+1)):=by rw[ed];rfl
  rw[eR,eF]at key;have hfl:(xf DB k (A.drop (i+1))).length=A.length-(i+1):=by rw[qD];simp
  generalize xS DB k (A.drop (i+1))=R at *;generalize xf DB k (A.drop (i+1))=F at *;have x1:0≤((i+1:Nat):Int)-1∧((i+1:Nat):Int)-1<(A.length:Int):=⟨by omega,by omega⟩;have h0:(0:Int)≤((i+1:Nat):Int)-1:=by omega
  have ti:(((i+1:Nat):Int)-1).toNat=i:=by omega
  have ei:((i+1:Nat):Int)-1=(i:Int):=by omega
  have w1:IntKind.i64.wrap ((i:Int)-1)=(i:Int)-1:=by rw[bA];omega
  have w2:IntKind.i64.wrap (R*10000)=R*10000:=by rw[bA];omega
  have w3:IntKind.i64.wrap (R*10000+A.getD i 0)=R*10000+A.getD i 0:=by rw[bA];omega
  have hT:0≤R*10000+A.getD i 0∧R*10000+A.getD i 0<700000000:=by omega
  have kne : ¬k=0:=by omega
  have hq0:0≤(R*10000+A.getD i 0) / k:=pX (by omega) (by omega);have hq1:(R*10000+A.getD i 0) / k≤R*10000+A.getD i 0:=BL _ (by omega);have td:IntKind.i64.wrap ((R*10000+A.getD i 0).tdiv k)=(R*10000+A.getD i 0) / k:=by
   rw[sG (by omega),bA];omega
  have tm:(R*10000+A.getD i 0).tmod k=(R*10000+A.getD i 0) % k:=sO (by omega);have xm:=yv.idxmk .i64 (S:=[.arr (zB .i64 (List.replicate (i+1) 0++F)) (some (some 1)) false]) (id:=0) (off:=0) (n:=A.length) (ex:=true) (L:=List.replicate (i+1) 0++F) i rfl (by simp;omega) (by omega);have len:i<(List.replicate (i+1) (0:Int)++F).length:=by simp;omega
  have len1:((zB .i64 (List.replicate (i+1) 0++F)).getD i []).length=1:=by rw[zy _ _ len];rfl
  have set : ∀v:Int,(zB .i64 (List.replicate (i+1) 0++F)).set i [.int .i64 v]=zB .i64 (List.replicate i 0++(v::F)):=fun v=>by rw[yR,Q2 v rfl]
  rw[ei]at *;have x1':0≤(i:Int)∧(i:Int)<(A.length:Int):=⟨by omega,by omega⟩;apply zC;(repeat((conv=>lhs;whnf);simp only[go_sem,simprocAttr,x1',h0,bD,w1,w2,w3,td,tm,kne,xm,len,len1,set,zI,zY]));exact key
theorem JQ (n:Nat) (e:Bool) (k:Nat) (hk:1≤k∧k≤65536) (hn:(dec n).length≤1000000):callL Tryz.prog zD 117 [yJ n e,.int .i64 k]=some (.tup [zg (n / k),.int .i64 (n % k:Nat)]):=by
 have hM:=zs;have hv:=WO DB k (dec n);have hr:=ZU (b:=DB) (k:=k) (by omega) (dec n);have hF:=WP (b:=DB) (k:=k) (by omega) (dec n) (xJ n);have hFl:=qD DB k (dec n);rw[xL]at hv;have hF0:=zv hF;obtain⟨R,hR⟩ : ∃R:Nat,xS DB k (dec n)=R:=⟨(xS DB k (dec n)).toNat,by omega⟩;obtain⟨Q,hQ⟩ : ∃Q:Nat,zG DB (xf DB k (dec n))=Q:=⟨(zG DB (xf DB k (dec n))).toNat,by omega⟩;rw[hR]at hv hr;rw[hQ]at hv;have hnat:n=k*Q+R:=by
  have:((k*Q+R:Nat):Int)=(k:Int)*Q+R:=by rw[HK,pL]
  omega
 have hRk:R<k:=by omega
 have hq:n / k=Q:=by rw[hnat,Nat.mul_add_div (by omega),aI hRk,sC]
 have hm:n % k=R:=by rw[hnat,Nat.mul_add_mod,sE hRk]
 have ct:=wy (by omega) hF;rw[hQ,bD]at ct;have c1:=ys (S:=[.arr (zB .i64 (xf DB k (dec n))) (some (some 1)) false]) (id:=0) (n:=(dec n).length) (ex:=true) ct rfl hFl (by simp);have mk:=fun id=>Yx id (dec n).length (by omega);have w1:IntKind.i64.wrap (((dec n).length:Int)-1)=((dec n).length:Int)-1:=by rw[bA];omega
 have key:=JP (dec n) e (xJ n) hn k ⟨by omega,by omega⟩ [.blk 0,.seq 0 31] (z:=(.tup [zg Q,.int .i64 R],[.arr (zB .i64 (xf DB k (dec n))) (some (some 1)) true])) (by
  rw[hR];apply zR;((repeat((conv=>lhs;whnf);simp only[go_sem,simprocAttr,c1]));try rfl)) (dec n).length (bB _)
 rw[sU]at key;have e0:xf DB k []=[]:=rfl;have e1:xS DB k []=0:=rfl;rw[e0,e1,pD]at key;rw[hq,hm];refine FX.callL (r:=(.tup [zg Q,.int .i64 R],[.arr (zB .i64 (xf DB k (dec n))) (some (some 1)) true])) ok117_ 1000 rfl rfl ?_ (zBk (by simp only[BD,List.not_mem_nil,or_false,forall_eq_or_imp,forall_eq];exact⟨zEj _ _,rfl⟩));unfold yJ;(repeat((conv=>lhs;whnf);simp only[go_sem,simprocAttr,w1,mk]));exact key
theorem WR {n:Nat} {v:PV} (h:zU n v) (k:Nat) (hk:1≤k∧k≤65536) (hn:(dec n).length≤1000000) (S:zA):zQ (callL Tryz.prog zD) S 117 [v,.int .i64 k]=some {v:=.tup [zg (n / k),.int .i64 (n % k:Nat)]} := by
 obtain⟨e,rfl,hp⟩:=h.form;exact zE (S:=S) (JQ n e k hk hn) (by simp[hp,zW.int])
end
end
end Go.Vs
