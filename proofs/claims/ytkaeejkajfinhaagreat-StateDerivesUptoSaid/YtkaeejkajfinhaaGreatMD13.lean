
import Derived.Test.YtkaeejkajfinhaaGreatMD10
import Derived.Test.YtkaeejkajfinhaaGreatMD12
set_option linter.unusedVariables false
set_option linter.unusedSimpArgs false
set_option maxRecDepth 100000
namespace Go.Vs
open Go Go.Proofs
section
theorem Vu {n:Nat} : 2<(words n).length↔18446744073709551616≤n:=by
 have h:=xS WB2 2 n;have e:WB^2=18446744073709551616:=by decide
 rw[e]at h;have:(words n).length=(xy WB n).length:=rfl;omega
theorem vM {m n:Nat} (h:m≤n):(words m).length≤(words n).length:=vE WB2 h
section
attribute [local irreducible] Vs.callL Vs.callRL tyi zO zn zg zR zY za zI zZ zA zK ze zX zG zJ zW zr yJ zq zL zf Vs.gc zH
noncomputable def WQ:FX:=⟨Tryz.f168,zD.of 168,[]⟩
instance ok168_:WQ.ok 168:=FX.mk'
theorem zLG (fs:List Fr) : ∀(f m n:Nat) (va vb:PV),n≤f→n≤m→(words m).length≤900000→yI m va→yI n vb →
  ∃(m' n':Nat) (wa wb:PV),yI m' wa∧yI n' wb∧n'≤m'∧n'<18446744073709551616∧(words m').length≤900000∧Nat.gcd m' n'=Nat.gcd m n∧∀z:PV × zB,yB 0 WQ 0 fs [(0,wa),(1,wb),(24,.undef)] []=some z→zU 0 WQ 0 56 0 fs [(0,va),(1,vb),(19,.undef)] []=some z:=by
 intro f
 induction f with
 | zero =>
  intro m n va vb hf hmn hl ha hb;refine⟨m,n,va,vb,ha,hb,hmn,by omega,hl,rfl,fun z hz=>?_⟩;have hl2 : ¬ 2<(words n).length:=fun h=>by have:=Vu.1 h;omega
  have c : ¬(2:Int)<(words n).length:=by omega
  obtain⟨e,rfl,hp⟩:=hb.form;unfold yD at hz ⊢;apply zC;(repeat((conv=>lhs;whnf);simp only[go_sem,simprocAttr,c,hl2]));exact hz
 | succ f ih =>
  intro m n va vb hf hmn hl ha hb;by_cases h2:2<(words n).length
  ·have hn3:=Vu.1 h2;have c:(2:Int)<(words n).length:=by omega
   have hln:=vM hmn;obtain⟨v,hv,hcase⟩:=zDf ha hb hmn hn3 hl;have kl:=fun S=>zF (S:=S) hv (by simp[ha.plain,hb.plain])
   rcases hcase with rfl | ⟨X,Y,rfl,o1,o2,o3⟩
   ·obtain⟨q,r,iq,ir,hd⟩:=YU ha hb (by omega) hl (by omega);have hlt:m % n<n:=aV _ (by omega);obtain⟨m',n',wa,wb,j1,j2,j3,j4,j5,j6,j7⟩:=ih n (m % n) vb r (by omega) (by omega) (by omega) hb ir;refine⟨m',n',wa,wb,j1,j2,j3,j4,j5,by rw[j6,HI,HI m n,←Nat.gcd_rec],fun z hz=>?_⟩;have key:=j7 z hz;obtain⟨e,rfl,hp⟩:=hb.form;unfold yD at kl hd key ⊢;apply zC;(repeat((conv=>lhs;whnf);simp only[go_sem,simprocAttr,c,h2,kl,hd]));exact key
   ·have hX:=vM o2;obtain⟨m',n',wa,wb,j1,j2,j3,j4,j5,j6,j7⟩:=ih X Y (yM X) (yM Y) (by omega) (by omega) (by omega) (.of X) (.of Y);refine⟨m',n',wa,wb,j1,j2,j3,j4,j5,by rw[j6,o3],fun z hz=>?_⟩;have key:=j7 z hz;obtain⟨e,rfl,hp⟩:=hb.form;unfold yD at kl ⊢;apply zC;(repeat((conv=>lhs;whnf);simp only[go_sem,simprocAttr,c,h2,kl]));exact key
  ·have c : ¬(2:Int)<(words n).length:=by omega
   have hn3:n<18446744073709551616:=Nat.lt_of_not_le fun h=>h2 (Vu.2 h);refine⟨m,n,va,vb,ha,hb,hmn,hn3,hl,rfl,fun z hz=>?_⟩;obtain⟨e,rfl,hp⟩:=hb.form;unfold yD at hz ⊢;apply zC;(repeat((conv=>lhs;whnf);simp only[go_sem,simprocAttr,c,h2]));exact hz
theorem zIx (fs:List Fr) {z:PV × zB} : ∀(f x y:Nat),y≤f→x<18446744073709551616→y<18446744073709551616→yB 0 WQ 2 fs [(12,.int .u64 (Nat.gcd x y)),(14,.undef),(65,.undef)] []=some z→zU 0 WQ 2 2040 0 fs [(12,.int .u64 x),(14,.int .u64 y)] []=some z:=by
 intro f
 induction f with
 | zero =>
  intro x y hf hx hy hz;have h0:y=0:=by omega
  subst h0;rw[PX]at hz;apply zC;(repeat((conv=>lhs;whnf);simp only[go_sem,simprocAttr]));exact hz
 | succ f ih =>
  intro x y hf hx hy hz;by_cases h0:y=0
  ·subst h0;rw[PX]at hz;apply zC;(repeat((conv=>lhs;whnf);simp only[go_sem,simprocAttr]));exact hz
  ·have hlt:x % y<y:=aV _ (by omega);have key:=ih y (x % y) (by omega) hy (by omega) (by rw[HI y,←Nat.gcd_rec,HI];exact hz);have c : ¬(y:Int)=0:=by omega
   have tm:(x:Int).tmod y=((x % y:Nat):Int):=by rw[HA (by omega)];rfl
   have cw:IntKind.u64.wrap ((x % y:Nat):Int)=((x % y:Nat):Int):=by rw[xL];omega
   apply zC;(repeat((conv=>lhs;whnf);simp only[go_sem,simprocAttr,c,h0,tm,cw]));exact key
theorem zDg {m n:Nat} {va vb:PV} (ha:yI m va) (hb:yI n vb) (hm:(words m).length≤900000) (hn:(words n).length≤900000):callL Tryz.prog zD 168 [va,vb]=some (yM (Nat.gcd m n)):=by
 have cc:=zBY ha hb (by omega) (by omega);have tail : ∀(m' n':Nat) (wa wb:PV),yI m' wa→yI n' wb→n'≤m'→n'<18446744073709551616→(words m').length≤900000→∃S,yB 0 WQ 0 [.blk 0,.seq 0 15] [(0,wa),(1,wb),(24,.undef)] []=some (if n'=0 then .msl 0 0 (words m').length false else yM (Nat.gcd m' n'),if n'=0 then [.arr (zE .u32 (words m')) (some (some 1)) false] else S):=by
  intro m' n' wa wb ia ib hle hn2 hl;have hln:=vM hle;by_cases h0:n'=0
  ·refine⟨[],?_⟩;rw[bA h0,bA h0];have l0:(words n').length=0:=xE.2 h0;obtain⟨e1,rfl,p1⟩:=ia.form;obtain⟨e2,rfl,p2⟩:=ib.form;have ap:=fun S=>wC.appNil 0 S (RowsV.sl (S:=S) (zE .u32 (words m')) e1) (xp _ _) (by rw[zQ];omega) (by rw[zQ];omega);unfold yD;apply zN;((repeat((conv=>lhs;whnf);simp only[go_sem,simprocAttr,l0,ap]));try rfl)
  ·refine⟨[],?_⟩;rw[hZ h0,hZ h0];have l0:(words n').length≠0:=fun e=>h0 (xE.1 e);have l0' : ¬((words n').length:Int)=0:=by omega
   obtain⟨q,r,iq,ir,hd⟩:=YU ia ib h0 hl (by omega);have hlt:m' % n'<n':=aV _ (by omega);have f1:=X4 ib hn2;have f2:=X4 ir (by omega);have hg:Nat.gcd n' (m' % n')=Nat.gcd m' n':=by rw[HI,←Nat.gcd_rec,HI]
   have hgl:Nat.gcd m' n'<18446744073709551616:=by
    have:=PG (by omega) (SN m' n');omega
   have f3:=Zs (Nat.gcd m' n') hgl;have key:=zIx [.blk 2,.seq 0 511] (z:=(yM (Nat.gcd m' n'),[])) n' n' (m' % n') (by omega) hn2 (by omega) (by
    rw[hg];apply zN;((repeat((conv=>lhs;whnf);simp only[go_sem,simprocAttr,f3]));try rfl))
   obtain⟨e2,rfl,p2⟩:=ib.form;unfold yD at hd f1 ⊢;apply zN;(repeat((conv=>lhs;whnf);simp only[go_sem,simprocAttr,l0,l0',hd,f1,f2]));exact key
 have main : ∀(m n:Nat) (va vb:PV),yI m va→yI n vb→n≤m→(words m).length≤900000→∃r:PV × zB,vI r.2 r.1=some (yM (Nat.gcd m n))∧zU 0 WQ 0 56 0 [.blk 0,.seq 0 15] [(0,va),(1,vb),(19,.undef)] []=some r:=by
  intro m n va vb ha hb hle hl;obtain⟨m',n',wa,wb,j1,j2,j3,j4,j5,j6,j7⟩:=zLG [.blk 0,.seq 0 15] n m n va vb (bF _) hle hl ha hb;obtain⟨S,ht⟩:=tail m' n' wa wb j1 j2 j3 j4 j5;refine⟨_,?_,j7 _ ht⟩;rw[←j6];by_cases h0:n'=0
  ·rw[bA h0,bA h0,h0,PX];exact uV (ex:=false) rfl rfl
  ·rw[hZ h0,hZ h0];exact wr _ _
 by_cases h:m<n
 ·have c:xt m n<0:=by unfold xt;simp[h]
  obtain⟨r,h1,h2⟩:=main n m vb va hb ha (by omega) hn;rw[HI]at h1;refine FX.callL (r:=r) ok168_ 1000 rfl rfl ?_ h1;(repeat((conv=>lhs;whnf);simp only[go_sem,simprocAttr,cc,c]));exact h2
 ·have c : ¬xt m n<0:=by unfold xt;rw[hZ h];split <;> omega
  obtain⟨r,h1,h2⟩:=main m n va vb ha hb (by omega) hm;refine FX.callL (r:=r) ok168_ 1000 rfl rfl ?_ h1;(repeat((conv=>lhs;whnf);simp only[go_sem,simprocAttr,cc,c]));exact h2
end
end
theorem Kr (a b:Int) {d:Nat} (hd:d≠0):mkRat a d+mkRat b d=mkRat (a+b) d:=by
 rw[Rat.mkRat_add_mkRat _ _ hd hd,←BC,Rat.mkRat_mul_right hd]
theorem zBZ {q r:Rat} (h:q.den=r.den):q+r=mkRat (q.num+r.num) q.den:=by
 conv=>lhs;rw[←Rat.mkRat_self q,←Rat.mkRat_self r,←h]
 exact Kr _ _ q.den_nz
theorem Ks {n:Int} {d:Nat} (hd:d≠0):(mkRat n d).num.natAbs=n.natAbs / Nat.gcd n.natAbs d:=by
 rw[Rat.num_mkRat,hZ hd,HI];have h:((n.natAbs.gcd d:Nat):Int) ∣ n:=Int.ofNat_dvd_left.2 (Nat.gcd_dvd_left _ _);obtain⟨k,hk⟩:=h;by_cases h0:n.natAbs.gcd d=0
 ·exfalso;exact hd (AF h0)
 ·have e:n / ((n.natAbs.gcd d:Nat):Int)=k:=by
   conv=>lhs;lhs;rw[hk]
   exact Int.mul_ediv_cancel_left _ (by omega)
  rw[e];have e2:n.natAbs=n.natAbs.gcd d*k.natAbs:=by
   conv=>lhs;rw[hk]
   rw[Int.natAbs_mul,Int.natAbs_natCast]
  conv=>rhs;lhs;rw[e2]
  exact (Nat.mul_div_cancel_left _ (by omega)).symm
theorem Kt {n:Int} {d:Nat} (hd:d≠0):(mkRat n d).den=d / Nat.gcd n.natAbs d:=by
 rw[Rat.den_mkRat,hZ hd,HI]
theorem zFx {n:Int} {d:Nat} (hd:d≠0):(mkRat n d).num<0↔n<0:=by
 rw[←Int.not_le,←Int.not_le,Rat.num_nonneg];rw[←Rat.divInt_ofNat,Rat.divInt_nonneg_iff_of_pos_right (by omega)]
theorem VC (neg:Bool) (n:Nat) {d:Nat} (hd:d≠0):((mkRat (if neg then -(n:Int) else n) d).num<0)↔(neg=true∧n≠0):=by
 rw[zFx hd]
 cases neg <;> simp <;> omega
theorem YV {q:Rat} (h:q≠0):q⁻¹.num=(if q.num<0 then -(q.den:Int) else q.den)∧q⁻¹.den=q.num.natAbs:=by
 have h0:q.num≠0:=fun e=>h (Rat.num_eq_zero.1 e);rw[Rat.num_inv,Rat.den_inv,hZ h0];refine⟨?_,rfl⟩
 split
 ·rename_i hl;rw[Int.sign_eq_neg_one_of_neg hl];omega
 ·rw[Int.sign_eq_one_of_pos (by omega)];omega
section
def xd (L:List Int):Prop:=L=[]∨L.getD (L.length-1) 0≠0
instance (L:List Int):Decidable (xd L):=inferInstanceAs (Decidable (_∨_))
theorem jC:(tyi Tryz.prog 27).d=.struct [(0,1,false),(1,1,false),(2,1,false)]:=by kernel_rfl
@[go_sem] theorem Ku:(tyi Tryz.prog 27).size=3:=nr (by kernel_rfl)
@[go_sem] theorem Vv:(tyi Tryz.prog 27).known=true:=nr (by kernel_rfl)
@[go_sem] theorem zDh:(tyi Tryz.prog 27).zero=some [.bool false,.sl [] true,.sl [] true]:=nr (by kernel_rfl)
theorem zFy:(tyi Tryz.prog 4).known=true:=by kernel_rfl
theorem zPM:(tyi Tryz.prog 4).d=.bool:=by kernel_rfl
theorem zLH:(tyi Tryz.prog 25).known=true:=by kernel_rfl
@[go_sem] theorem zT3 (v:PV) (r:List PV):part (tyi Tryz.prog 25) (v::r)=some v:=by simp[part,zLH,TI.isAgg,wC.d]
@[go_sem] theorem zQ6 (v:PV) (r:List PV):part (tyi Tryz.prog 4) (v::r)=some v:=by simp[part,zFy,TI.isAgg,zPM]
@[go_sem] theorem zR4 (a b c:PV) (r:List PV):part (tyi Tryz.prog 27) (a::b::c::r)=some (.agg [a,b,c]):=by simp[part,Vv,TI.isAgg,jC,Ku]
@[go_sem] theorem zT4 (id i off:Nat):zA (tyi Tryz.prog 27) 0 (.mp id i off)=some (.mp id i off):=by simp[zA,jC]
@[go_sem] theorem zT5 (id i off:Nat):zA (tyi Tryz.prog 27) 1 (.mp id i off)=some (.mp id i (off+1)):=by simp[zA,jC]
@[go_sem] theorem zT6 (id i off:Nat):zA (tyi Tryz.prog 27) 2 (.mp id i off)=some (.mp id i (off+2)):=by simp[zA,jC]
@[go_sem] theorem zT7 (r:List PV):zA (tyi Tryz.prog 27) 0 (.cp r)=some (.cp r):=by simp[zA,jC]
@[go_sem] theorem zT8 (r:List PV):zA (tyi Tryz.prog 27) 1 (.cp r)=some (.cp (r.drop 1)):=by simp[zA,jC]
@[go_sem] theorem zT9 (r:List PV):zA (tyi Tryz.prog 27) 2 (.cp r)=some (.cp (r.drop 2)):=by simp[zA,jC]
section
attribute [local irreducible] Vs.callL Vs.callRL tyi zO zn zg zR zY za zI zZ zA zK ze zX zG zJ zW zr yJ zq zL zf Vs.gc zH
noncomputable def zPN:FX:=⟨Tryz.f171,zD.of 171,[]⟩
instance ok171_:zPN.ok 171:=FX.mk'
theorem Kv (L:List Int) (e:Bool) (hl:L.length≤9223372036854775807) (w:Int):callL Tryz.prog zD 171 [.sl (zE .u32 L) e,.int .i64 w]=some (.bool (decide (L.length≤w)&&decide (xd L))):=by
 refine FX.callL (r:=(.bool (decide (L.length≤w)&&decide (xd L)),[])) ok171_ 1000 rfl rfl ?_ rfl;by_cases c1:(L.length:Int)≤w
 ·by_cases c2:L=[]
  ·subst c2;have ht:xd []:=.inl rfl;have c1':((0:Nat):Int)≤w:=c1;have c1'':(0:Int)≤w:=c1;simp only[c1,ht,decide_true,sH];((repeat((conv=>lhs;whnf);simp only[go_sem,simprocAttr,c1,c1',c1'',bV]));try rfl)
  ·have l0:L.length≠0:=fun h=>c2 (pL h);have l0' : ¬(L.length:Int)=0:=by omega
   have wl:IntKind.i64.wrap ((L.length:Int)-1)=((L.length-1:Nat):Int):=by rw[bE];omega
   have xl:0≤((L.length-1:Nat):Int)∧((L.length-1:Nat):Int)<L.length:=⟨by omega,by omega⟩;by_cases c3:L.getD (L.length-1) 0=0
   ·have ht : ¬xd L:=fun h=>by
     rcases h with h | h
     ·exact c2 h
     ·exact h c3
    simp only[c1,ht,decide_true,decide_false,bQ];((repeat((conv=>lhs;whnf);simp only[go_sem,simprocAttr,c1,l0,l0',wl,xl,bD,c3]));try rfl)
   ·have ht:xd L:=.inr c3;simp only[c1,ht,decide_true,sH];((repeat((conv=>lhs;whnf);simp only[go_sem,simprocAttr,c1,l0,l0',wl,xl,bD,c3]));try rfl)
 ·simp only[c1,decide_false,bB];((repeat((conv=>lhs;whnf);simp only[go_sem,simprocAttr,c1]));try rfl)
end
def nv (L:List Int):Nat:=(zM WB L).toNat
theorem VD (n:Nat):nv (words n)=n:=by unfold nv;rw[xU,bD]
theorem xd.words {L:List Int} (h:xd L) (ho:OkD WB L):L=Vs.words (nv L):=by
 unfold Vs.words nv;refine zNV WB2 ho ?_;intro x r e
 rcases h with h | h
 ·rw[h]at e;have:=congrArg List.length e;simp at this
 ·rw[e]at h;intro h0;apply h;simp[bM,h0]
theorem QE (n:Nat):xd (words n):=by
 by_cases h:n=0
 ·left;exact (vL WB2).2 h
 ·right;exact XZ WB2 h
def um (neg:Bool) (N D:List Int) (w:Int):Bool :=
 (decide (N.length≤w)&&decide (xd N))&&(decide (D.length≤w)&&decide (xd D)) && !decide (D.length=0) &&
 (if N.length=0 then !neg&&decide (D=[1]) else decide (Nat.gcd (nv N) (nv D)=1))
theorem YW {D:List Int} (h:D.length=1):D=[1]↔D.getD 0 0=1:=by
 obtain⟨x,rfl⟩:=BT.1 h;simp[bM]
theorem jP:words 1=[1]:=by
 unfold words;rw[vp WB2 (by decide)];have:1 / WB=0:=by decide
 rw[this,xI]
 decide
theorem zDi {L:List Int} {e:Bool} (h:e=true→L=[]):zh (.sl (zE .u32 L) e):=by
 cases e with
 | false=>exact zh.sl _
 | true=>rw[h rfl];exact zh.nil
theorem zDj {L:List Int} {e:Bool} (h:e=true→L=[]) (ht:xd L) (ho:OkD WB L):yI (nv L) (.sl (zE .u32 L) e):=by
 cases e with
 | false=>left;unfold yM;rw[←ht.words ho]
 | true =>
  have:=h rfl;subst this
  right;exact⟨rfl,rfl⟩
theorem zIA:([1]:List Int).length=1:=rfl
theorem zDk:((([1]:List Int).length:Nat):Int)=1:=rfl
theorem zIB:([1]:List Int).getD 0 0=1:=rfl
def ku (neg:Bool) (N D:List Int):PV:=.agg [.bool neg,.sl (zE .u32 N) false,.sl (zE .u32 D) false]
theorem ju (neg:Bool) (N D:List Int):zh (ku neg N D):=⟨rfl,fun _=>rfl⟩
def Fz (a a':PV):Prop:=a.refs=[]∧∀S,vI S a=some a'
theorem zh.fz {a:PV} (h:zh a):Fz a a:=h
theorem Fz.rat (neg:Bool) (N D:List (List PV)) (e1 e2:Bool):Fz (.agg [.bool neg,.sl N e1,.sl D e2]) (.agg [.bool neg,.sl N false,.sl D false]):=⟨rfl,fun _=>rfl⟩
theorem zIy {S:zB} {f:FuncId} {a a' b b' v:PV} (h:callL Tryz.prog zD f [a',b']=some v) (fa:Fz a a') (fb:Fz b b'):zO (callL Tryz.prog zD) S f [a,b]=some {v} := by
 simp[zO,BN,fa.1,fb.1,XY,xf,fa.2,fb.2,h]
section
attribute [local irreducible] Vs.callL Vs.callRL tyi zO zn zg zR zY za zI zZ zA zK ze zX zG zJ zW zr yJ zq zL zf Vs.gc zH
noncomputable def zPO:FX:=⟨Tryz.f147,zD.of 147,[]⟩
instance ok147_:zPO.ok 147:=FX.mk'
theorem Kw (neg:Bool) (N D:List Int) (e1 e2:Bool) (hN:OkD WB N) (hD:OkD WB D) (w:Int) (hw:w≤900000) (lN:N.length≤9223372036854775807) (lD:D.length≤9223372036854775807) (f1:e1=true→N=[]) (f2:e2=true→D=[]):callL Tryz.prog zD 147 [.agg [.bool neg,.sl (zE .u32 N) e1,.sl (zE .u32 D) e2],.int .i64 w]=some (.bool (um neg N D w)):=by
 have p1:=zDi f1;have p2:=zDi f2;have v1:=fun S=>zF (S:=S) (Kv N e1 lN w) (by simp[p1,zh.int]);have v2:=fun S=>zF (S:=S) (Kv D e2 lD w) (by simp[p2,zh.int]);refine FX.callL (r:=(.bool (um neg N D w),[.arr [[.bool neg,.sl (zE .u32 N) e1,.sl (zE .u32 D) e2]] none false])) ok147_ 1000 rfl rfl ?_ rfl;unfold um;by_cases b1:(decide ((N.length:Int)≤w)&&decide (xd N))=true
 ·rw[b1]at v1 ⊢;by_cases b2:(decide ((D.length:Int)≤w)&&decide (xd D))=true
  ·rw[b2]at v2 ⊢;simp only[bP,bR]at b1 b2;by_cases d0:D.length=0
   ·simp only[d0,decide_true,bT,bQ,bB];have d0':(D.length:Int)=0:=by omega
    ((repeat((conv=>lhs;whnf);simp only[go_sem,simprocAttr,v1,v2,d0,d0']));try rfl)
   ·have d0' : ¬(D.length:Int)=0:=by omega
    simp only[d0,decide_false,bK,pD,bC];by_cases n0:N.length=0
    ·have n0':(N.length:Int)=0:=by omega
     rw[bA n0];cases neg with
     | true=>((repeat((conv=>lhs;whnf);simp only[go_sem,simprocAttr,v1,v2,d0,d0',n0,n0',bT,bB]));try rfl)
     | false =>
      by_cases d1:D.length=1
      ·have d1':(D.length:Int)=1:=by omega
       by_cases g:D.getD 0 0=1
       ·have e:D=[1]:=(YW d1).2 g;have e':decide (D=[1])=true:=bH e;rw[e'];((repeat((conv=>lhs;whnf);simp only[go_sem,simprocAttr,v1,v2,d0,d0',n0,n0',d1,d1',g,bK,pD]));try rfl)
       ·have e : ¬D=[1]:=fun h=>g ((YW d1).1 h);have e':decide (D=[1])=false:=bI e;rw[e'];((repeat((conv=>lhs;whnf);simp only[go_sem,simprocAttr,v1,v2,d0,d0',n0,n0',d1,d1',g,bK,bQ]));try rfl)
      ·have d1' : ¬(D.length:Int)=1:=by omega
       have e':decide (D=[1])=false:=bI (fun h=>d1 (by rw[h];rfl));rw[e'];((repeat((conv=>lhs;whnf);simp only[go_sem,simprocAttr,v1,v2,d0,d0',n0,n0',d1,d1',bK,bQ]));try rfl)
    ·have n0' : ¬(N.length:Int)=0:=by omega
     rw[hZ n0];have iN:=zDj f1 b1.2 hN;have iD:=zDj f2 b2.2 hD;have hwN:=b1.2.words hN;have hwD:=b2.2.words hD;have hg:=zDg iN iD (by rw[←hwN];omega) (by rw[←hwD];omega);have kg:=fun S=>zF (S:=S) hg (by simp[p1,p2]);have hDp:0<nv D:=by
      have:nv D≠0:=fun h=>by
       rw[hwD,h]at d0;exact d0 (xE.2 rfl)
      omega
     by_cases d1:D.length=1
     ·have d1':(D.length:Int)=1:=by omega
      by_cases g:D.getD 0 0=1
      ·have e:D=[1]:=(YW d1).2 g;have e1:Nat.gcd (nv N) (nv D)=1:=by
        have:nv D=1:=by rw[e];decide
        rw[this,Nat.gcd_one_right]
       rw[bH e1];((repeat((conv=>lhs;whnf);simp only[go_sem,simprocAttr,v1,v2,d0,d0',n0,n0',d1,d1',g]));try rfl)
      ·
       by_cases g1:Nat.gcd (nv N) (nv D)=1
       ·rw[bH g1];have mv:yM (Nat.gcd (nv N) (nv D))=.sl (zE .u32 [1]) false:=by rw[g1];unfold yM;rw[jP]
        rw[mv]at kg;((repeat((conv=>lhs;whnf);simp only[go_sem,simprocAttr,v1,v2,d0,d0',n0,n0',d1,d1',g,kg,zIA,zDk,zIB]));try rfl)
       ·rw[bI g1];generalize Nat.gcd (nv N) (nv D)=gg at *;have mv:yM gg=.sl (zE .u32 (words gg)) false:=rfl;rw[mv]at kg;by_cases l1:(words gg).length=1
        ·have l1':((words gg).length:Int)=1:=by omega
         have gg0:(words gg).getD 0 0=(gg:Int):=by rw[(Vr l1).1];rfl
         have gg1 : ¬(gg:Int)=1:=by omega
         ((repeat((conv=>lhs;whnf);simp only[go_sem,simprocAttr,v1,v2,d0,d0',n0,n0',d1,d1',g,kg,l1,l1',gg0,gg1,g1]));try rfl)
        ·have l1' : ¬((words gg).length:Int)=1:=by omega
         ((repeat((conv=>lhs;whnf);simp only[go_sem,simprocAttr,v1,v2,d0,d0',n0,n0',d1,d1',g,kg,l1,l1']));try rfl)
     ·have d1' : ¬(D.length:Int)=1:=by omega
      by_cases g1:Nat.gcd (nv N) (nv D)=1
      ·rw[bH g1];have mv:yM (Nat.gcd (nv N) (nv D))=.sl (zE .u32 [1]) false:=by rw[g1];unfold yM;rw[jP]
       rw[mv]at kg;((repeat((conv=>lhs;whnf);simp only[go_sem,simprocAttr,v1,v2,d0,d0',n0,n0',d1,d1',kg,zIA,zDk,zIB]));try rfl)
      ·rw[bI g1];generalize Nat.gcd (nv N) (nv D)=gg at *;have mv:yM gg=.sl (zE .u32 (words gg)) false:=rfl;rw[mv]at kg;by_cases l1:(words gg).length=1
       ·have l1':((words gg).length:Int)=1:=by omega
        have gg0:(words gg).getD 0 0=(gg:Int):=by rw[(Vr l1).1];rfl
        have gg1 : ¬(gg:Int)=1:=by omega
        ((repeat((conv=>lhs;whnf);simp only[go_sem,simprocAttr,v1,v2,d0,d0',n0,n0',d1,d1',kg,l1,l1',gg0,gg1,g1]));try rfl)
       ·have l1' : ¬((words gg).length:Int)=1:=by omega
        ((repeat((conv=>lhs;whnf);simp only[go_sem,simprocAttr,v1,v2,d0,d0',n0,n0',d1,d1',kg,l1,l1']));try rfl)
  ·have b2':(decide ((D.length:Int)≤w)&&decide (xd D))=false:=by simpa using b2
   rw[b2']at v2 ⊢;simp only[bQ,bB];((repeat((conv=>lhs;whnf);simp only[go_sem,simprocAttr,v1,v2]));try rfl)
 ·have b1':(decide ((N.length:Int)≤w)&&decide (xd N))=false:=by simpa using b1
  rw[b1']at v1 ⊢;simp only[bQ,bB];((repeat((conv=>lhs;whnf);simp only[go_sem,simprocAttr,v1,v2]));try rfl)
noncomputable def zPP:FX:=⟨Tryz.f109,zD.of 109,[]⟩
instance ok109_:zPP.ok 109:=FX.mk'
theorem XE (neg:Bool) (N D:List Int) (hN:OkD WB N) (hD:OkD WB D) (lN:N.length≤9223372036854775807) (lD:D.length≤9223372036854775807):callL Tryz.prog zD 109 [ku neg N D]=some (.bool (um neg N D 4096)):=by
 have v:=fun S=>zF (S:=S) (Kw neg N D false false hN hD 4096 (by decide) lN lD (by simp) (by simp)) (by simp[zh.int];exact ju neg N D);refine FX.callL (r:=(.bool (um neg N D 4096),[.arr [[.bool neg,.sl (zE .u32 N) false,.sl (zE .u32 D) false]] none false])) ok109_ 1000 rfl rfl ?_ rfl;unfold ku;((repeat((conv=>lhs;whnf);simp only[go_sem,simprocAttr,v]));try rfl)
end
end
def xY (q:Rat):PV:=ku (decide (q.num<0)) (words q.num.natAbs) (words q.den)
theorem uK (q:Rat):zh (xY q):=ju _ _ _
theorem zIz (q:Rat) (w:Int) (h1:(words q.num.natAbs).length≤w) (h2:(words q.den).length≤w):um (decide (q.num<0)) (words q.num.natAbs) (words q.den) w=true:=by
 have hd:(words q.den).length≠0:=fun h=>q.den_nz (xE.1 h);unfold um;simp only[bH h1,bH h2,bH (QE _),hd,decide_false,bK,sH,bC];by_cases h0:(words q.num.natAbs).length=0
 ·rw[bA h0];have hz:=xE.1 h0;have hn:q.num=0:=by omega
  have hden:q.den=1:=by
   have:=q.reduced;rw[hz]at this
   simpa using this
  simp[hn,hden,jP]
 ·rw[hZ h0,VD,VD];exact bH q.reduced
theorem zFz {neg:Bool} {N D:List Int} {w:Int} (hN:OkD WB N) (hD:OkD WB D):um neg N D w=true↔∃q:Rat,neg=decide (q.num<0)∧N=words q.num.natAbs∧D=words q.den∧N.length≤w∧D.length≤w:=by
 constructor
 ·intro h;unfold um at h;simp only[bP,bR,BI,decide_eq_false_iff_not]at h;obtain⟨⟨⟨⟨a1,a2⟩,b1,b2⟩,c⟩,d⟩:=h;have wN:=a2.words hN;have wD:=b2.words hD;have hd:nv D≠0:=fun e=>by rw[wD,e]at c;exact c (xE.2 rfl)
  by_cases h0:N.length=0
  ·rw[bA h0]at d;simp only[bP,BI,bR]at d;have hNn:=pL h0;refine⟨0,by rw[d.1];rfl,?_,?_,a1,b1⟩
   ·rw[hNn];exact ((vL WB2).2 rfl).symm
   ·rw[d.2];exact jP.symm
  ·rw[hZ h0]at d;have d':=HK d;have hn0:nv N≠0:=fun e=>by rw[wN,e]at h0;exact h0 (xE.2 rfl)
   refine⟨⟨if neg then -(nv N:Int) else nv N,nv D,hd,by cases neg <;> simp <;> exact d'⟩,?_,?_,wD,a1,b1⟩
   ·cases neg <;> simp <;> omega
   ·cases neg <;> simpa using wN
 ·rintro⟨q,rfl,rfl,rfl,h1,h2⟩
  exact zIz q w h1 h2
def jQ (b k:Int):List Int→Int→List Int
 | [],_=>[]
 | d::r,c=>(c+d*k) % b::jQ b k r ((c+d*k) / b)
def jv (b k:Int):List Int→Int→Int
 | [],c=>c
 | d::r,c=>jv b k r ((c+d*k) / b)
theorem Kx (b k:Int) : ∀(L:List Int) (c:Int),(jQ b k L c).length=L.length
 | [],_=>rfl
 | d::r,c=>by simp[jQ,Kx b k r]
theorem zAP {b:Nat} (hb:0<b) (k:Int) : ∀(L:List Int) (c:Int),OkD b (jQ b k L c)
 | [],_=>.nil _
 | d::r,c=>.cons ⟨HN _ (by omega),aQ _ (by omega)⟩ (zAP hb k r _)
theorem Ky (b:Nat) (k:Int) : ∀(L:List Int) (c:Int),zM b (jQ b k L c)+(b:Int)^L.length*jv b k L c=k*zM b L+c
 | [],c=>by simp[jQ,jv,zM]
 | d::r,c=>by
  have ih:=Ky b k r ((c+d*k) / b);have e:=aZ (c+d*k) b
  show (c+d*k) % b+b*zM b (jQ b k r ((c+d*k) / b))+(b:Int)^(r.length+1)*jv b k r ((c+d*k) / b)=k*(d+b*zM b r)+c
  rw[aA,Int.mul_right_comm,pK _ (b:Int),PQ,←bW,ih,bW,bW,BK k (b:Int),pK k d];omega
theorem zAQ {b:Nat} (hb:0<b) {k m:Int} (hk:0≤k∧k≤m) : ∀(L:List Int) (c:Int),OkD b L→(0≤c∧c<m)→0≤jv b k L c∧jv b k L c<m
 | [],c,_,h=>h
 | d::r,c,ho,h=>by
  have hd:=ho.head;have h0:0≤d*k:=aH hd.1 hk.1;refine zAQ hb hk r _ ho.tail ⟨aI (by omega) (by omega),?_⟩;rw[PE (by omega)];have h1:d*k≤d*m:=sL hk.2 hd.1;have h2:d*m≤(b-1)*m:=aE (by omega) (by omega);have h3:((b:Int)-1)*m=m*b-m:=by rw[BE,BU,pK]
  omega
def kx (b:Int):List Int→List Int→Int→List Int
 | [],[],c=>if c=0 then [] else [c]
 | x::r,[],c=>(c+x) % b::kx b r [] ((c+x) / b)
 | [],y::s,c=>(c+y) % b::kx b [] s ((c+y) / b)
 | x::r,y::s,c=>(c+x+y) % b::kx b r s ((c+x+y) / b)
theorem VE (b:Nat) : ∀(L M:List Int) (c:Int),zM b (kx b L M c)=zM b L+zM b M+c
 | [],[],c=>by
  unfold kx;split
  ·rename_i h;simp[zM,h]
  ·simp[zM]
 | x::r,[],c=>by
  have ih:=VE b r [] ((c+x) / b);have e:=aZ (c+x) b;rw[kx]
  show (c+x) % b+b*zM b (kx b r [] ((c+x) / b))=x+b*zM b r+zM b []+c
  rw[ih,bW,bW];have:zM b []=0:=rfl;rw[this,HM];omega
 | [],y::s,c=>by
  have ih:=VE b [] s ((c+y) / b);have e:=aZ (c+y) b;rw[kx]
  show (c+y) % b+b*zM b (kx b [] s ((c+y) / b))=zM b []+(y+b*zM b s)+c
  rw[ih,bW,bW];have:zM b []=0:=rfl;rw[this,HM];omega
 | x::r,y::s,c=>by
  have ih:=VE b r s ((c+x+y) / b);have e:=aZ (c+x+y) b;rw[kx]
  show (c+x+y) % b+b*zM b (kx b r s ((c+x+y) / b))=x+b*zM b r+(y+b*zM b s)+c
  rw[ih,bW,bW];omega
def VF (b x:Int):List Int→List Int→Int→List Int
 | y::r,w::s,c=>(c+(w+x*y)) % b::VF b x r s ((c+(w+x*y)) / b)
 | _,_,_=>[]
def Zt (b x:Int):List Int→List Int→Int→Int
 | y::r,w::s,c=>Zt b x r s ((c+(w+x*y)) / b)
 | _,_,c=>c
theorem zDl (b:Nat) (x:Int) : ∀(B W:List Int) (c:Int),B.length=W.length→zM b (VF b x B W c)+(b:Int)^B.length*Zt b x B W c=x*zM b B+zM b W+c
 | [],[],c,_=>by simp[VF,Zt,zM]
 | y::r,w::s,c,h=>by
  have ih:=zDl b x r s ((c+(w+x*y)) / b) (by simpa using h);have e:=aZ (c+(w+x*y)) b
  show (c+(w+x*y)) % b+b*zM b (VF b x r s ((c+(w+x*y)) / b))+(b:Int)^(r.length+1)*Zt b x r s ((c+(w+x*y)) / b)=x*(y+b*zM b r)+(w+b*zM b s)+c
  rw[aA,Int.mul_right_comm,pK _ (b:Int),PQ,←bW,ih,bW,bW,bW,BK x (b:Int)];omega
theorem zDm (b x:Int) : ∀(B W:List Int) (c:Int),B.length=W.length→(VF b x B W c).length=B.length
 | [],[],_,_=>rfl
 | y::r,w::s,c,h=>by
  have:=zDm b x r s ((c+(w+x*y)) / b) (by simpa using h);simp[VF,this]
theorem zIC {b:Nat} (hb:0<b) (x:Int) : ∀(B W:List Int) (c:Int),OkD b (VF b x B W c)
 | [],_,_=>by unfold VF;exact .nil _
 | _::_,[],_=>by unfold VF;exact .nil _
 | y::r,w::s,c=>.cons ⟨HN _ (by omega),aQ _ (by omega)⟩ (zIC hb x r s _)
theorem zDn {b:Nat} (hb:0<b) {x:Int} (hx:0≤x∧x<b) : ∀(B W:List Int) (c:Int),OkD b B→OkD b W→(0≤c∧c<b)→0≤Zt b x B W c∧Zt b x B W c<b
 | [],_,c,_,_,h=>by unfold Zt;exact h
 | _::_,[],c,_,_,h=>by unfold Zt;exact h
 | y::r,w::s,c,hB,hW,h=>by
  have hy:=hB.head;have hw:=hW.head;have h0:0≤x*y:=aH hx.1 hy.1;refine zDn hb hx r s _ hB.tail hW.tail ⟨aI (by omega) (by omega),?_⟩;rw[PE (by omega)];have h1:x*y≤x*(b-1):=sL (by omega) hx.1;have h2:x*(b-1)≤(b-1)*(b-1):=aE (by omega) (by omega);have h3:((b:Int)-1)*(b-1)=b*b-2*b+1:=by
   rw[BE,Int.mul_sub,BU,Int.mul_one];omega
  omega
def vf (b k:Int):List Int→Int
 | []=>0
 | a::L=>(vf b k L*b+a) % k
def uL (b k:Int):List Int→List Int
 | []=>[]
 | a::L=>(vf b k L*b+a) / k::uL b k L
theorem Vw {b k:Int} (hk:0<k) : ∀L:List Int,0≤vf b k L∧vf b k L<k
 | []=>⟨HS 0,hk⟩
 | a::L=>⟨HN _ (by omega),aQ _ hk⟩
theorem zAR (b:Nat) (k:Int) : ∀L:List Int,zM b L=k*zM b (uL b k L)+vf b k L
 | []=>by simp[uL,vf,zM]
 | a::L=>by
  have ih:=zAR b k L;have e:=aZ (vf b k L*b+a) k
  show a+b*zM b L=k*((vf b k L*b+a) / k+b*zM b (uL b k L))+(vf b k L*b+a) % k
  rw[ih,bW,bW,BK k (b:Int),pK (b:Int) (vf b k L)];omega
theorem WR (b k:Int) : ∀L:List Int,(uL b k L).length=L.length
 | []=>rfl
 | a::L=>by simp[uL,WR b k L]
theorem zAS {b:Nat} {k:Int} (hk:0<k) : ∀L:List Int,OkD b L→OkD b (uL b k L)
 | [],_=>.nil _
 | a::L,h=>by
  have hr:=Vw (b:=b) hk L;have ha:=h.head;have h0:0≤vf b k L*b:=aH hr.1 (by omega);refine .cons ⟨aI (by omega) (by omega),?_⟩ (zAS hk L h.tail);rw[PE hk];have h1:vf b k L*b≤(k-1)*b:=aE (by omega) (by omega);have h2:(k-1)*(b:Int)=b*k-b:=by rw[BE,BU,pK]
  omega
section
@[go_sem] theorem zQ7 (fs:List (Nat × Nat × Bool)) (cs:List PV):qd fs cs []=some cs:=nr rfl
@[go_sem] theorem zPQ (fs:List (Nat × Nat × Bool)) (cs:List PV) (i:Nat) (x:PV) (r:List (Nat × PV)):qd fs cs ((i,x)::r) =
  (fs[i]?).bind fun q=>if x.cells.length=q.2.1∧x.cells.all PV.cell=true∧q.1+q.2.1≤cs.length then qd fs (cs.take q.1++x.cells++cs.drop (q.1+q.2.1)) r else none:=nr (by
 rw[qd]
 cases fs[i]? with
 | none=>rfl
 | some q=>rfl)
@[go_sem] theorem zTa:(tyi Tryz.prog 4).known=true:=nr (by kernel_rfl)
@[go_sem] theorem zTb:(tyi Tryz.prog 4).size=1:=nr (by kernel_rfl)
@[go_sem] theorem Kz:(tyi Tryz.prog 3).known=true:=nr (by kernel_rfl)
@[go_sem] theorem zLI:(tyi Tryz.prog 3).size=1:=nr (by kernel_rfl)
@[go_sem] theorem zPR:(tyi Tryz.prog 9).known=true:=nr (by kernel_rfl)
@[go_sem] theorem zUd:(tyi Tryz.prog 9).size=1:=nr (by kernel_rfl)
@[go_sem] theorem zMp (S:zB) (k:IntKind) (n:Int):zL Tryz.prog 3 161 S (.int k n)=some (.int .u64 (IntKind.u64.wrap n)):=by
 simp[zL,show (tyi Tryz.prog 3).known=true by kernel_rfl,xN,show (tyi Tryz.prog 161).d=.int .u64 by kernel_rfl]
@[go_sem] theorem zMq (S:zB) (k:IntKind) (n:Int):zL Tryz.prog 3 126 S (.int k n)=some (.int .u32 (IntKind.u32.wrap n)):=by
 simp[zL,show (tyi Tryz.prog 3).known=true by kernel_rfl,xN,show (tyi Tryz.prog 126).d=.int .u32 by kernel_rfl]
@[go_sem] theorem zMr (S:zB) (k:IntKind) (n:Int):zL Tryz.prog 126 3 S (.int k n)=some (.int .i64 (IntKind.i64.wrap n)):=by
 simp[zL,show (tyi Tryz.prog 126).known=true by kernel_rfl,xN,show (tyi Tryz.prog 3).d=.int .i64 by kernel_rfl]
@[go_sem] theorem zKG (S:zB) (k:IntKind) (n:Int):zL Tryz.prog 161 5 S (.int k n)=some (.int .u8 (IntKind.u8.wrap n)):=by
 simp[zL,show (tyi Tryz.prog 161).known=true by kernel_rfl,xN,show (tyi Tryz.prog 5).d=.int .u8 by kernel_rfl]
@[go_sem] theorem zMs (S:zB) (k:IntKind) (n:Int):zL Tryz.prog 161 3 S (.int k n)=some (.int .i64 (IntKind.i64.wrap n)):=by
 simp[zL,show (tyi Tryz.prog 161).known=true by kernel_rfl,xN,show (tyi Tryz.prog 3).d=.int .i64 by kernel_rfl]
theorem JA {S:zB} {f:FuncId} {l l':List PV} {ids:List Nat} {v:PV} (hc:callL Tryz.prog zD f l'=some v) (hz:xf (vI S) l=some l') (hr:wV S 8 (l.flatMap PV.refs)=ids) (ha:ids.all (fun i=>decide (i<S.length))=true):zO (callL Tryz.prog zD) S f l=some {v,fz:=ids} := by
 unfold zO;rw[hr,ha,bA rfl,hz];simp only[bG,hc,pE]
attribute [go_sem] SU PL
end
section
theorem wY:SlT 60 3 1 8:=⟨by kernel_rfl,by kernel_rfl,by kernel_rfl,by kernel_rfl,by kernel_rfl⟩
@[go_sem] theorem zTc (r:List (List PV)) (ex:Bool):yJ (tyi Tryz.prog 60) (.sl r ex)=some (.int .i64 r.length):=wY.len r ex
@[go_sem] theorem zR5 (i o l:Nat) (ex:Bool):yJ (tyi Tryz.prog 60) (.msl i o l ex)=some (.int .i64 l):=wY.lenm i o l ex
@[go_sem] theorem zTd (S:zB) (L:List Int) (ex:Bool) (i:Int):zI Tryz.prog 60 S (.sl (zE .i64 L) ex) (.int .i64 i)=if 0≤i∧i<L.length then some (.cp [.int .i64 (L.getD i.toNat 0)]) else none:=wY.idxk .i64 S L ex i
@[go_sem] theorem part_int (v:PV) (r:List PV):part (tyi Tryz.prog 3) (v::r)=some v:=by
 have e:(tyi Tryz.prog 3).isAgg=false:=by kernel_rfl
 simp[part,Kz,e]
@[go_sem] theorem zQ8 (id n:Nat) (is:List Nat) (rows:List (List PV)):zG Tryz.prog 60 id n is rows=if is=List.range n∧yO 1 rows=true∧(rows.all fun r=>r.all PV.cell)=true∧n*1≤16777216 then some {v:=.msl id 0 n true,new:=some (rows,some (some 1))} else none:=wY.buildSlice (by decide) id n is rows
theorem zDo:(tyi Tryz.prog 3).zero=some [.int .i64 0]:=by kernel_rfl
theorem JB (id n:Nat) (hn:n≤30000000000000):zJ Tryz.prog 60 id (.int .i64 n) (.int .i64 n)=some {v:=.msl id 0 n true,new:=some (zE .i64 (List.replicate n 0),some (some 1))} := by
 rw[wY.make zDo id n (by omega) (by omega),Yb]
theorem zJA (id:Nat) (m:Int) (hm:0<m∧m≤30000000000000):zJ Tryz.prog 60 id (.int .i64 0) (.int .i64 m)=some {v:=.msl id 0 0 false,new:=some ([],some (some 1))} := by
 have hd:decide ((0:Int)=m)=false:=bI (by omega);simp only[zJ,wY.d,zDo,bG,wY.b,wY.s];rw[bA ⟨by omega,by omega,by omega,by omega,rfl,rfl⟩,hd];rfl
abbrev DB:Nat:=10000
theorem DB2:2≤DB:=by decide
def dec (n:Nat):List Int:=xy DB n
def yN (n:Nat) (e:Bool):PV:=.sl (zE .i64 (dec n)) e
def zu (n:Nat):PV:=yN n false
theorem vN (n:Nat):OkD DB (dec n):=Uy DB2 n
theorem vR (n:Nat):zM DB (dec n)=n:=Zp DB2 n
theorem kU {n:Nat} : (dec n).length=0↔n=0:=by
 rw[AD];exact vL DB2
def zs (n:Nat) (v:PV):Prop:=v=zu n∨(n=0∧v=.sl [] true)
theorem zs.of (n:Nat):zs n (zu n):=.inl rfl
theorem zs.nil' {n:Nat} (h:n=0):zs n (.sl [] true):=.inr ⟨h,rfl⟩
theorem zs.form {n:Nat} {v:PV} (h:zs n v) : ∃e,v=yN n e∧zh v:=by
 rcases h with rfl | ⟨rfl,rfl⟩
 ·exact⟨false,rfl,zh.sl _⟩
 ·refine⟨true,?_,zh.nil⟩;unfold yN;have:dec 0=[]:=(vL DB2).2 rfl;rw[this];rfl
theorem zs.plain {n:Nat} {v:PV} (h:zs n v):zh v:=let ⟨_,_,hp⟩:=h.form;hp
theorem SlT.app1 {t el:TypeId} (h:SlT t el 1 8) (L:List Int) (x:Int) (g:Option Nat) (hg:g=none∨g=some 1) (hl:L.length≤10000000) (ex:Bool):zR Tryz.prog 0 t t [.arr (zE .i64 L) (some g) false,.arr [[.int .i64 x]] (some (some 1)) false] (.msl 0 0 L.length false) (.msl 1 0 1 ex) =
  some {v:=.msl 0 0 (L.length+1) false,S:=[.arr (zE .i64 (L++[x])) (some (some 1)) false,.arr [[.int .i64 x]] (some (some 1)) false],kill:=[0]} := by
 have:=h.app (b:=0) (S:=[.arr (zE .i64 L) (some g) false,.arr [[.int .i64 x]] (some (some 1)) false]) (id:=0) (rows:=zE .i64 L) (new:=zE .i64 [x]) (g:=g) (p:=.msl 1 0 1 ex) rfl (bF _) hg (RowsV.msl 1 (zE .i64 [x]) ex _ _ rfl) (xp _ _) (xp _ _) (by rw[zQ,zQ];simp;omega) (by rw[zQ,zQ];simp;omega) (by rw[zm];simp) (by rw[zm];simp);rw[zQ]at this;rw[this];simp only[sD,HZ,yu,vZ,zm,BZ,bZ,if_false,aG,qk,yq,wQ,yR,jM,yy,pG,zQ];rfl
theorem yj:3000000≤maxLen:=by decide
section
attribute [local irreducible] Vs.callL Vs.callRL tyi zO zn zg zR zY za zI zZ zA zK ze zX zG zJ zW zr yJ zq zL zf Vs.gc zH
noncomputable def zGA:FX:=⟨Tryz.f153,zD.of 153,[]⟩
instance ok153_:zGA.ok 153:=FX.mk'
theorem zJB (L:List Int) (hL:L.length≤3000000) (fs:List Fr) {z:PV × zB} : ∀(n:Nat),n≤L.length→(∀m:Nat,m≤L.length→L.take m=wx (L.take n)→yB 0 zGA 0 fs [(0,.sl (zE .i64 L) false),(3,.int .i64 m),(15,.undef)] []=some z)→zU 0 zGA 0 56 0 fs [(0,.sl (zE .i64 L) false),(3,.int .i64 n)] []=some z:=by
 have hM:=yj;intro n
 induction n with
 | zero =>
  intro hn hz;have key:=hz 0 (by omega) (by simp[wx]);apply zC;(repeat((conv=>lhs;whnf);simp only[go_sem,simprocAttr]));exact key
 | succ n ih =>
  intro hn hz;have ht:L.take (n+1)=L.take n++[L.getD n 0]:=by
   rw[BR];have:L[n]? = some (L.getD n 0):=by rw[pR (by omega)];simp[bM,show n<L.length by omega]
   rw[this];rfl
  have h0:(0:Int)<((n+1:Nat):Int):=by omega
  have w1:IntKind.i64.wrap (((n+1:Nat):Int)-1)=(n:Int):=by rw[bE];omega
  have x1:0≤(n:Int)∧(n:Int)<(L.length:Int):=⟨by omega,by omega⟩;apply zC;by_cases hx:L.getD n 0=0
  ·rw[ht,hx,ZP]at hz;have key:=ih (by omega) hz;(repeat((conv=>lhs;whnf);simp only[go_sem,simprocAttr,h0,w1,x1,bD,hx]));exact key
  ·have key:=hz (n+1) hn (by rw[ht,YR hx]);(repeat((conv=>lhs;whnf);simp only[go_sem,simprocAttr,h0,w1,x1,bD,hx]));exact key
theorem zJC (L:List Int) (hL:L.length≤3000000):callL Tryz.prog zD 153 [.sl (zE .i64 L) false]=some (.sl (zE .i64 (wx L)) false):=by
 have key:=zJB L hL [.blk 0,.seq 0 15] (z:=(.sl (zE .i64 (wx L)) false,[])) L.length (bF _) (fun m hle hm=>by
  rw[SF]at hm;have sl:=wY.firsts [] (rows:=zE .i64 L) false m (by rw[zQ];omega) (xp .i64 _);rw[Ki,hm]at sl;apply zN;((repeat((conv=>lhs;whnf);simp only[go_sem,simprocAttr,sl]));try rfl))
 refine FX.callL (r:=(.sl (zE .i64 (wx L)) false,[])) ok153_ 1000 rfl rfl ?_ (wr _ _);(repeat((conv=>lhs;whnf);simp only[go_sem,simprocAttr]));exact key
theorem jR {L:List Int} (hL:L.length≤3000000) (h:OkD DB L):callL Tryz.prog zD 153 [.sl (zE .i64 L) false]=some (zu (zM DB L).toNat):=by
 rw[zJC L hL,kt DB2 h];rfl
noncomputable def JC:FX:=⟨Tryz.f160,zD.of 160,[]⟩
instance ok160_:JC.ok 160:=FX.mk'
theorem zDp (fs:List Fr) {z:PV × zB} : ∀(f:Nat) (c:Nat),c≤f→c<4611686018427387904→∀(D:List Int),D.length+(dec c).length≤3000000→yB 0 JC 2 fs [(2,.undef),(7,.msl 0 0 (D++dec c).length false),(34,.undef)] [.arr (zE .i64 (D++dec c)) (some (some 1)) false]=some z →
  zU 0 JC 2 120 1 fs [(1,.undef),(2,.int .i64 c),(7,.msl 0 0 D.length false),(14,.undef),(15,.undef),(16,.undef),(17,.undef)] [.arr (zE .i64 D) (some (some 1)) false]=some z:=by
 intro f
 induction f with
 | zero =>
  intro c hc hcb D hl hz;have h0:c=0:=by omega
  subst h0;have e:dec 0=[]:=(vL DB2).2 rfl;rw[e,pX]at hz;have key:=hz;apply zC;(repeat((conv=>lhs;whnf);simp only[go_sem,simprocAttr]));exact key
 | succ f ih =>
  intro c hc hcb D hl hz;by_cases h0:c=0
  ·subst h0;have e:dec 0=[]:=(vL DB2).2 rfl;rw[e,pX]at hz;have key:=hz;apply zC;(repeat((conv=>lhs;whnf);simp only[go_sem,simprocAttr]));exact key
  ·have ed:dec c=((c % 10000:Nat):Int)::dec (c / 10000):=vp DB2 h0;have h1:(0:Int)<(c:Int):=by omega
   have h1':0<c:=by omega
   have tm:(c:Int).tmod 10000=((c % 10000:Nat):Int):=by rw[HA (by omega)];rfl
   have td:IntKind.i64.wrap ((c:Int).tdiv 10000)=((c / 10000:Nat):Int):=by
    rw[aR (by omega),bE];omega
   rw[ed]at hz hl;have ap:=wY.app1 D ((c % 10000:Nat):Int) (some 1) (.inr rfl) (by simp only[bL]at hl;omega) true;have key:=ih (c / 10000) (by omega) (by omega) (D++[((c % 10000:Nat):Int)]) (by simp only[bL]at hl;simp;omega) (by simpa using hz);rw[bN,aM]at key;apply zC;(repeat((conv=>lhs;whnf);simp only[go_sem,simprocAttr,h1,h1',tm,td,ap,zm]));exact key
theorem zGB (A:List Int) (e:Bool) (hA:OkD DB A) (hl:A.length≤1000000) (k:Int) (hk:0≤k∧k≤65536) (fs:List Fr) {z:PV × zB} (c0:Int) (hz:yB 0 JC 0 fs [(1,.undef),(2,.int .i64 (jv 10000 k A c0)),(7,.msl 0 0 A.length false),(14,.undef),(15,.undef),(16,.undef),(17,.undef)] [.arr (zE .i64 (jQ 10000 k A c0)) (some (some 1)) false]=some z) :
  ∀(m i:Nat),i+m=A.length→∀(D:List Int) (c:Int),D.length=i→(0≤c∧c<65536)→D++jQ 10000 k (A.drop i) c=jQ 10000 k A c0→jv 10000 k (A.drop i) c=jv 10000 k A c0 →
  zU 0 JC 0 116 1 fs [(1,.int .i64 k),(2,.int .i64 c),(7,.msl 0 0 D.length false),(14,.sl (zE .i64 A) e),(15,.int .i64 A.length),(16,.int .i64 i)] [.arr (zE .i64 D) (some (some 1)) false]=some z:=by
 have hM:=yj;intro m
 induction m with
 | zero =>
  intro i hi D c hD hc hs ht;have h1 : ¬(i:Int)<(A.length:Int):=by omega
  have hd:A.drop i=[]:=bU (by omega);rw[hd]at hs ht;simp only[jQ,jv,pX]at hs ht;subst ht;have key:=hz;rw[←hs]at key;have hDA:D.length=A.length:=by omega
  rw[←hDA]at key;apply zC;(repeat((conv=>lhs;whnf);simp only[go_sem,simprocAttr,h1]));exact key
 | succ m ih =>
  intro i hi D c hD hc hs ht;have h1:(i:Int)<(A.length:Int):=by omega
  have w1:=zi (i:=i) (n:=A.length) (by omega) (by omega);have x1:0≤(i:Int)∧(i:Int)<(A.length:Int):=⟨by omega,h1⟩;have ha:=hA.getD (by decide) i;have ha':A.getD i 0<10000:=ha.2;have hd:=xA A (k:=i) (by omega);rw[hd]at hs ht;have p0:0≤A.getD i 0*k:=aH ha.1 hk.1;have p1:A.getD i 0*k≤9999*65536:=by
   have a1:A.getD i 0*k≤A.getD i 0*65536:=sL hk.2 ha.1;omega
  have q1:0≤(c+A.getD i 0*k) / 10000∧(c+A.getD i 0*k) / 10000<65536:=by omega
  have key:=ih (i+1) (by omega) (D++[(c+A.getD i 0*k) % 10000]) ((c+A.getD i 0*k) / 10000) (by simp[hD]) q1 (by simpa [jQ] using hs) (by simpa [jv] using ht);rw[bN,aM]at key;have m1:IntKind.i64.wrap (A.getD i 0*k)=A.getD i 0*k:=by rw[bE];omega
  have m2:IntKind.i64.wrap (c+A.getD i 0*k)=c+A.getD i 0*k:=by rw[bE];omega
  have tm:(c+A.getD i 0*k).tmod 10000=(c+A.getD i 0*k) % 10000:=HA (by omega);have td:IntKind.i64.wrap ((c+A.getD i 0*k).tdiv 10000)=(c+A.getD i 0*k) / 10000:=by
   rw[aR (by omega),bE];omega
  have ap:=wY.app1 D ((c+A.getD i 0*k) % 10000) (some 1) (.inr rfl) (by omega) true;apply zC;(repeat((conv=>lhs;whnf);simp only[go_sem,simprocAttr,h1,x1,bD,m1,m2,tm,td,ap,w1,zm]));exact key
theorem zB0 (n:Nat) (e:Bool) (k c:Nat) (hk:k≤65536) (hc:c<65536) (hn:(dec n).length≤1000000):callL Tryz.prog zD 160 [yN n e,.int .i64 k,.int .i64 c]=some (zu (n*k+c)):=by
 have hM:=yj;have hF:=Ky DB k (dec n) c;have hFl:=Kx 10000 k (dec n) c;have hFo:OkD DB (jQ 10000 k (dec n) c):=zAP (by decide) k (dec n) c;have hC:=zAQ (b:=DB) (by decide) (k:=k) (m:=65536) ⟨by omega,by omega⟩ (dec n) c (vN n) ⟨by omega,by omega⟩;have e0:((DB:Nat):Int)=10000:=rfl;rw[e0]at hF hC;generalize hG:jQ 10000 k (dec n) c=G at *;obtain⟨C,hCC⟩ : ∃C:Nat,jv 10000 k (dec n) c=C:=⟨(jv 10000 k (dec n) c).toNat,by omega⟩;rw[hCC]at hF hC;have hdl:(dec C).length≤2:=(xS DB2 2 C).2 (by show C<10000^2;omega);have hok:OkD DB (G++dec C):=hFo.append (vN C);have hv:(zM DB (G++dec C)).toNat=n*k+c:=by
  rw[zw,vR,hFl,e0,hF,vR];have:((n*k+c:Nat):Int)=(k:Int)*n+c:=by rw[BQ,sR,pK]
  omega
 have ct:=jR (by simp;omega) hok;rw[hv]at ct;have c1:=wW (S:=[.arr (zE .i64 (G++dec C)) (some (some 1)) false]) (id:=0) (n:=(G++dec C).length) (ex:=false) ct rfl rfl (by simp);have w1:IntKind.i64.wrap (((dec n).length:Int)+2)=(((dec n).length+2:Nat):Int):=by rw[bE];omega
 have mk:=fun id=>zJA id (((dec n).length+2:Nat):Int) ⟨by omega,by omega⟩;have key:=zGB (dec n) e (vN n) hn k ⟨by omega,by omega⟩ [.blk 0,.seq 0 15] (z:=(zu (n*k+c),[.arr (zE .i64 (G++dec C)) (some (some 1)) true])) c (by
  have k2:=zDp [.blk 2,.seq 0 31] (z:=(zu (n*k+c),[.arr (zE .i64 (G++dec C)) (some (some 1)) true])) C C (bF _) (by omega) G (by omega) (by
   apply zN;((repeat((conv=>lhs;whnf);simp only[go_sem,simprocAttr,c1]));try rfl))
  rw[hFl]at k2;rw[hG,hCC];apply zN;(repeat((conv=>lhs;whnf);simp only[go_sem,simprocAttr]));exact k2) (dec n).length 0 (by omega) [] c rfl ⟨by omega,by omega⟩ rfl rfl
 refine FX.callL (r:=(zu (n*k+c),[.arr (zE .i64 (G++dec C)) (some (some 1)) true])) ok160_ 1000 rfl rfl ?_ (wr _ _);unfold yN at *;(repeat((conv=>lhs;whnf);simp only[go_sem,simprocAttr,w1,mk]));exact key
end
end
section
def zPS (k:IntKind) (a b:Int):Int:=k.wrap (BitVec.ofInt k.bits a &&& BitVec.ofInt k.bits b).toNat
@[go_sem ↓] theorem zQ9 (k:IntKind) (a b:Int):k.wrap (BitVec.ofInt k.bits a &&& BitVec.ofInt k.bits b).toNat=zPS k a b:=rfl
theorem zLJ {w:Int} (h:0≤w∧w<4294967296):zPS .u32 w 65535=w % 65536:=by
 obtain⟨a,rfl⟩ : ∃a:Nat,w=a:=⟨w.toNat,by omega⟩
 show IntKind.u32.wrap (((BitVec.ofInt 32 (a:Int) &&& BitVec.ofInt 32 ((65535:Nat):Int)).toNat:Nat):Int)=_
 rw[BitVec.toNat_and,PS,PS,PT,PT,aP (by omega),aP (by omega)];have e:=Nat.and_two_pow_sub_one_eq_mod a 16;have e2:(2:Nat)^16-1=65535:=by decide
 rw[e2]at e;rw[e,pV];omega
theorem X5 {n:Nat} {v:PV} (h:zs n v) (k c:Nat) (hk:k≤65536) (hc:c<65536) (hn:(dec n).length≤1000000) (S:zB):zO (callL Tryz.prog zD) S 160 [v,.int .i64 k,.int .i64 c]=some {v:=zu (n*k+c)} := by
 obtain⟨e,rfl,hp⟩:=h.form;exact zF (S:=S) (zB0 n e k c hk hc hn) (by simp[hp,zh.int])
theorem zDq {N h k:Nat} (hN:(dec N).length≤k) (hh:h<65536):(dec (N*65536+h)).length≤k+2:=by
 refine (xS DB2 (k+2) _).2 ?_;have a2:=(xS DB2 k N).1 hN;have a3:DB^(k+2)=DB^k*100000000:=by rw[HL,show DB^2=100000000 from by decide]
 rw[a3];generalize DB^k=Q at *;omega
theorem zJD {b:Nat} (hb:2≤b) {L:List Int} (h:OkD b L):(xy b (zM b L).toNat).length≤L.length:=by
 rw[←kt hb h];exact YQ L
theorem Zu {n k:Nat} (h:(words n).length≤k):(dec n).length≤3*k:=by
 refine (xS DB2 (3*k) n).2 ?_;have h1:=(xS WB2 k n).1 h;have h2:DB^(3*k)=(DB^3)^k:=BS _ _ _;rw[h2];exact HC h1 (Nat.pow_le_pow_left (by decide) k)
theorem zAT {n k:Nat} (h:(dec n).length≤k):(words n).length≤k:=by
 refine (xS WB2 k n).2 ?_;exact HC ((xS DB2 k n).1 h) (Nat.pow_le_pow_left (by decide) k)
theorem kV {m n:Nat} (h:m≤n):(dec m).length≤(dec n).length:=vE DB2 h
theorem zB1 (L:List Int) (h:OkD WB L) (i:Nat):0≤zM WB (L.drop i):=yn (h.drop i)
section
attribute [local irreducible] Vs.callL Vs.callRL tyi zO zn zg zR zY za zI zZ zA zK ze zX zG zJ zW zr yJ zq zL zf Vs.gc zH
noncomputable def zGC:FX:=⟨Tryz.f135,zD.of 135,[]⟩
instance ok135_:zGC.ok 135:=FX.mk'
theorem zN2 (A:List Int) (e:Bool) (hA:OkD WB A) (hl:A.length≤100000) (fs:List Fr) {z:PV × zB} (hz:yB 0 zGC 0 fs [(0,.undef),(3,zu (zM WB A).toNat),(4,.undef),(10,.undef)] [.arr [] (some (some 1)) true]=some z) :
  ∀(i:Nat),i≤A.length→zU 0 zGC 0 116 1 fs [(0,.sl (zE .u32 A) e),(3,zu (zM WB (A.drop i)).toNat),(4,.int .i64 ((i:Int)-1))] [.arr [] (some (some 1)) true]=some z:=by
 have hM:=yj;intro i
 induction i with
 | zero =>
  intro hi;apply zC;(repeat((conv=>lhs;whnf);simp only[go_sem,simprocAttr]));exact hz
 | succ i ih =>
  intro hi;have key:=ih (by omega);have ed:=xA A (k:=i) (by omega);have ha:=hA.getD (by decide) i;have ha':A.getD i 0<4294967296:=ha.2;have hv0:=zB1 A hA (i+1);have ev:zM WB (A.drop i)=A.getD i 0+4294967296*zM WB (A.drop (i+1)):=by rw[ed];rfl
  have hdl:(dec (zM WB (A.drop (i+1))).toNat).length≤300000:=by
   refine Zu (k:=100000) ?_;have:=zJD WB2 (hA.drop (i+1));have h2:(A.drop (i+1)).length≤100000:=by simp;omega
   exact bO this h2
  obtain⟨N,hN⟩ : ∃N:Nat,zM WB (A.drop (i+1))=N:=⟨(zM WB (A.drop (i+1))).toNat,by omega⟩;obtain⟨w,hw⟩ : ∃w:Nat,A.getD i 0=w:=⟨(A.getD i 0).toNat,by omega⟩;rw[hw,hN]at ev;rw[ev]at key;rw[hw]at ha';rw[hN,bD]at hdl ⊢;have s1:=X5 (zs.of N) 65536 (w / 65536) (by omega) (by omega) (by omega);have hdl2:(dec (N*65536+w / 65536)).length≤300002:=zDq hdl (by omega);have s2:=X5 (zs.of (N*65536+w / 65536)) 65536 (w % 65536) (by omega) (by omega) (by omega);have e2:(N*65536+w / 65536)*65536+w % 65536=((w:Int)+4294967296*N).toNat:=by omega
  rw[e2]at s2;have x1:0≤((i+1:Nat):Int)-1∧((i+1:Nat):Int)-1<(A.length:Int):=⟨by omega,by omega⟩;have h0:(0:Int)≤((i+1:Nat):Int)-1:=by omega
  have ti:(((i+1:Nat):Int)-1).toNat=i:=by omega
  have c1:IntKind.i64.wrap ((w:Int) / 65536)=((w / 65536:Nat):Int):=by rw[bE];omega
  have c2:zPS .u32 (w:Int) 65535=((w % 65536:Nat):Int):=by rw[zLJ ⟨by omega,ha'⟩];omega
  have c3:IntKind.i64.wrap ((w % 65536:Nat):Int)=((w % 65536:Nat):Int):=by rw[bE];omega
  have w1:IntKind.i64.wrap (((i+1:Nat):Int)-1-1)=(i:Int)-1:=by rw[bE];omega
  have k5:((65536:Nat):Int)=65536:=rfl;rw[k5]at s1 s2;unfold zu yN at *;apply zC;(repeat((conv=>lhs;whnf);simp only[go_sem,simprocAttr,x1,h0,ti,hw,c1,c2,c3,s1,s2,w1]));exact key
theorem zN3 (n:Nat) (e:Bool) (hn:(words n).length≤100000):callL Tryz.prog zD 135 [yD n e]=some (zu n):=by
 have key:=zN2 (words n) e (xG n) hn [.blk 0,.seq 0 15] (z:=(zu n,[.arr [] (some (some 1)) true])) (by
  rw[xU,bD];unfold zu yN;apply zN;((repeat((conv=>lhs;whnf);simp only[go_sem,simprocAttr]));try rfl)) (words n).length (bF _)
 rw[HT]at key;have e0:zu (zM WB []).toNat=.sl [] false:=by
  show zu 0=_
  unfold zu yN dec;rw[xI];rfl
 rw[e0]at key;have w1:IntKind.i64.wrap (((words n).length:Int)-1)=((words n).length:Int)-1:=by rw[bE];omega
 refine FX.callL (r:=(zu n,[.arr [] (some (some 1)) true])) ok135_ 1000 rfl rfl ?_ (wr _ _);unfold yD;(repeat((conv=>lhs;whnf);simp only[go_sem,simprocAttr,w1]));exact key
end
end
section
theorem JD {b:Nat} (hb:0<b) {A B:List Int} (hA:OkD b A) (hB:OkD b B) (hl:A.length=B.length) {k:Nat} (hk:k<A.length) (hs:A.drop (k+1)=B.drop (k+1)) (hlt:A.getD k 0<B.getD k 0):zM b A<zM b B:=by
 have eA:zM b A=_:=(congrArg (zM b) (YS A hk)).trans (zw b _ _);have eB:zM b B=_:=(congrArg (zM b) (YS B (k:=k) (by omega))).trans (zw b _ _);rw[eA,eB,hs];have ha:=hA.getD hb k;have hb':=hB.getD hb k;have h:=zD3 (hA.take k) (hB.take k) (by simp;omega) ha.1 ha.2 hb'.1 hb'.2 hlt;have e:(A.take k++[A.getD k 0]).length=(B.take k++[B.getD k 0]).length:=by simp;omega
 rw[e];omega
section
attribute [local irreducible] Vs.callL Vs.callRL tyi zO zn zg zR zY za zI zZ zA zK ze zX zG zJ zW zr yJ zq zL zf Vs.gc zH
noncomputable def zDr:FX:=⟨Tryz.f74,zD.of 74,[]⟩
instance ok74_:zDr.ok 74:=FX.mk'
theorem zGD (fs:List Fr) {z:PV × zB} : ∀(f c:Nat),c≤f→c<4611686018427387904→∀(D:List Int),D.length+(dec c).length≤1000000→yB 0 zDr 0 fs [(0,.undef),(3,.msl 0 0 (D++dec c).length false),(6,.undef)] [.arr (zE .i64 (D++dec c)) (some (some 1)) false]=some z →
  zU 0 zDr 0 56 1 fs [(0,.int .i64 c),(3,.msl 0 0 D.length false)] [.arr (zE .i64 D) (some (some 1)) false]=some z:=by
 have base : ∀(D:List Int),yB 0 zDr 0 fs [(0,.undef),(3,.msl 0 0 (D++dec 0).length false),(6,.undef)] [.arr (zE .i64 (D++dec 0)) (some (some 1)) false]=some z →
   zU 0 zDr 0 56 1 fs [(0,.int .i64 (0:Nat)),(3,.msl 0 0 D.length false)] [.arr (zE .i64 D) (some (some 1)) false]=some z:=by
  intro D hz;have e:dec 0=[]:=(vL DB2).2 rfl;rw[e,pX]at hz;apply zC;(repeat((conv=>lhs;whnf);simp only[go_sem,simprocAttr]));exact hz
 intro f
 induction f with
 | zero =>
  intro c hc hcb D hl hz;have h0:c=0:=by omega
  subst h0;exact base D hz
 | succ f ih =>
  intro c hc hcb D hl hz;by_cases h0:c=0
  ·subst h0;exact base D hz
  ·have ed:dec c=((c % 10000:Nat):Int)::dec (c / 10000):=vp DB2 h0;have h1:(0:Int)<(c:Int):=by omega
   have h1':0<c:=by omega
   have tm:(c:Int).tmod 10000=((c % 10000:Nat):Int):=by rw[HA (by omega)];rfl
   have td:IntKind.i64.wrap ((c:Int).tdiv 10000)=((c / 10000:Nat):Int):=by
    rw[aR (by omega),bE];omega
   rw[ed]at hz hl;have ap:=wY.app1 D ((c % 10000:Nat):Int) (some 1) (.inr rfl) (by simp only[bL]at hl;omega) true;have key:=ih (c / 10000) (by omega) (by omega) (D++[((c % 10000:Nat):Int)]) (by simp only[bL]at hl;simp;omega) (by simpa using hz);rw[bN,aM]at key;apply zC;(repeat((conv=>lhs;whnf);simp only[go_sem,simprocAttr,h1,h1',tm,td,ap,zm]));exact key
theorem zGE (n:Nat) (hn:n<4611686018427387904):callL Tryz.prog zD 74 [.int .i64 n]=some (zu n):=by
 have hl:(dec n).length≤5:=(xS DB2 5 n).2 (HC hn (by decide));have key:=zGD [.blk 0,.seq 0 15] (z:=(.msl 0 0 (dec n).length false,[.arr (zE .i64 (dec n)) (some (some 1)) false])) n n (bF _) hn [] (by simp;omega) (by
  apply zN;((repeat((conv=>lhs;whnf);simp only[go_sem,simprocAttr]));try rfl))
 refine FX.callL (r:=(.msl 0 0 (dec n).length false,[.arr (zE .i64 (dec n)) (some (some 1)) false])) ok74_ 1000 rfl rfl ?_ (uV rfl rfl);(repeat((conv=>lhs;whnf);simp only[go_sem,simprocAttr]));exact key
noncomputable def zLK:FX:=⟨Tryz.f149,zD.of 149,[]⟩
instance ok149_:zLK.ok 149:=FX.mk'
theorem zGF (A B:List Int) (e1 e2:Bool) (hA:OkD DB A) (hB:OkD DB B) (hl:A.length=B.length) (hm:A.length≤3000000) : ∀(k:Nat) (i:Int),i=(k:Int)-1→k≤A.length→A.drop k=B.drop k→zU 0 zLK 0 116 0 [.blk 0,.seq 0 15] [(0,.sl (zE .i64 A) e1),(1,.sl (zE .i64 B) e2),(5,.int .i64 i)] []=some (.int .i64 (ul (zM DB A) (zM DB B)),[]):=by
 have hM:=yj;intro k
 induction k with
 | zero =>
  intro i hi hk hs;have c : ¬ 0≤i:=by omega
  have e:A=B:=by simpa using hs
  subst e;have z:ul (zM DB A) (zM DB A)=0:=by unfold ul;rw[hZ (by omega),hZ (by omega)]
  rw[z];apply zC;(repeat((conv=>lhs;whnf);simp only[go_sem,simprocAttr,c]));apply zN;((repeat((conv=>lhs;whnf);simp only[go_sem,simprocAttr]));try rfl)
 | succ k ih =>
  intro i hi hk hs;have hi':i=(k:Int):=by omega
  subst hi';have c:(0:Int)≤(k:Int):=by omega
  have x1:0≤(k:Int)∧(k:Int)<(A.length:Int):=⟨by omega,by omega⟩;have x2:0≤(k:Int)∧(k:Int)<(B.length:Int):=⟨by omega,by omega⟩;have w:IntKind.i64.wrap ((k:Int)-1)=(k:Int)-1:=by rw[bE];omega
  apply zC;by_cases h1:A.getD k 0=B.getD k 0
  ·have key:=ih _ rfl (by omega) (by rw[xA A (by omega),xA B (by omega),h1,hs]);(repeat((conv=>lhs;whnf);simp only[go_sem,simprocAttr,c,x1,x2,bD,h1,w]));exact key
  ·by_cases h2:A.getD k 0<B.getD k 0
   ·have hv:=JD (by decide) hA hB hl (k:=k) (by omega) hs h2;have z:ul (zM DB A) (zM DB B) = -1:=by unfold ul;rw[bA hv]
    rw[z];((repeat((conv=>lhs;whnf);simp only[go_sem,simprocAttr,c,x1,x2,bD,h1,h2]));try rfl)
   ·have hv:=JD (by decide) hB hA hl.symm (k:=k) (by omega) hs.symm (by omega);have z:ul (zM DB A) (zM DB B)=1:=by unfold ul;rw[hZ (by omega),bA hv]
    rw[z];((repeat((conv=>lhs;whnf);simp only[go_sem,simprocAttr,c,x1,x2,bD,h1,h2]));try rfl)
theorem JE (m n:Nat) (e1 e2:Bool) (hm:(dec m).length≤3000000) (hn:(dec n).length≤3000000):callL Tryz.prog zD 149 [yN m e1,yN n e2]=some (.int .i64 (xt m n)):=by
 have hM:=yj;unfold yN;by_cases hl:(dec m).length=(dec n).length
 ·have key:=zGF (dec m) (dec n) e1 e2 (vN m) (vN n) hl hm (dec m).length ((dec m).length-1) rfl (bF _) (by rw[HT,hl,HT]);rw[vR,vR,zAK]at key;have w:IntKind.i64.wrap (((dec m).length:Int)-1)=((dec m).length:Int)-1:=by rw[bE];omega
  have c:((dec m).length:Int)=((dec n).length:Int):=by omega
  rw[c]at w;rw[c]at key;refine FX.callL (r:=(.int .i64 (xt m n),[])) ok149_ 1000 rfl rfl ?_ rfl;(repeat((conv=>lhs;whnf);simp only[go_sem,simprocAttr,c,w]));exact key
 ·have c : ¬((dec m).length:Int)=((dec n).length:Int):=by omega
  by_cases h2:(dec m).length<(dec n).length
  ·have hmn:m<n:=by
    by_cases h:m<n
    ·exact h
    ·have:=kV (show n≤m by omega);omega
   have z:xt m n = -1:=by unfold xt;rw[bA hmn]
   rw[z];have c2:((dec m).length:Int)<((dec n).length:Int):=by omega
   refine FX.callL (r:=(.int .i64 (-1),[])) ok149_ 1000 rfl rfl ?_ rfl;((repeat((conv=>lhs;whnf);simp only[go_sem,simprocAttr,c,c2]));try rfl)
  ·have hmn:n<m:=by
    by_cases h:n<m
    ·exact h
    ·have:=kV (show m≤n by omega);omega
   have z:xt m n=1:=by unfold xt;rw[hZ (by omega),bA hmn]
   rw[z];have c2 : ¬((dec m).length:Int)<((dec n).length:Int):=by omega
   refine FX.callL (r:=(.int .i64 1,[])) ok149_ 1000 rfl rfl ?_ rfl;((repeat((conv=>lhs;whnf);simp only[go_sem,simprocAttr,c,c2]));try rfl)
theorem X6 {m n:Nat} {a b:PV} (ha:zs m a) (hb:zs n b) (hm:(dec m).length≤3000000) (hn:(dec n).length≤3000000) (S:zB):zO (callL Tryz.prog zD) S 149 [a,b]=some {v:=.int .i64 (xt m n)} := by
 obtain⟨e1,rfl,h1⟩:=ha.form;obtain⟨e2,rfl,h2⟩:=hb.form;exact zF (S:=S) (JE m n e1 e2 hm hn) (by simp[h1,h2])
theorem KC (n:Nat) (h:n<4611686018427387904) (S:zB):zO (callL Tryz.prog zD) S 74 [.int .i64 n]=some {v:=zu n} := zF (S:=S) (zGE n h) (by simp[zh.int])
noncomputable def zGG:FX:=⟨Tryz.f172,zD.of 172,[]⟩
instance ok172_:zGG.ok 172:=FX.mk'
theorem zDs (A:List Int) (e:Bool) (hA:OkD DB A) (hl:A.length≤4) (fs:List Fr) {z:PV × zB} (hz:yB 0 zGG 0 fs [(0,.undef),(4,.int .i64 (zM DB A)),(5,.undef),(13,.undef)] []=some z) :
  ∀(i:Nat),i≤A.length→zU 0 zGG 0 244 0 fs [(0,.sl (zE .i64 A) e),(4,.int .i64 (zM DB (A.drop i))),(5,.int .i64 ((i:Int)-1))] []=some z:=by
 intro i
 induction i with
 | zero =>
  intro hi;rw[bY];apply zC;(repeat((conv=>lhs;whnf);simp only[go_sem,simprocAttr]));exact hz
 | succ i ih =>
  intro hi;have key:=ih (by omega);have ed:=xA A (k:=i) (by omega);have ha:=hA.getD (by decide) i;have ha':A.getD i 0<10000:=ha.2;have hv0:=yn (hA.drop (i+1));have ev:zM DB (A.drop i)=A.getD i 0+10000*zM DB (A.drop (i+1)):=by rw[ed];rfl
  have hv1:zM DB (A.drop (i+1))<1000000000000:=by
   have h1:=uc (hA.drop (i+1));have h2:(A.drop (i+1)).length≤3:=by simp;omega
   have h3:((DB:Nat):Int)^(A.drop (i+1)).length≤1000000000000:=by
    generalize (A.drop (i+1)).length=q at h2
    match q,h2 with
    | 0,_=>decide
    | 1,_=>decide
    | 2,_=>decide
    | 3,_=>decide
   omega
  rw[ev]at key;have x1:0≤((i+1:Nat):Int)-1∧((i+1:Nat):Int)-1<(A.length:Int):=⟨by omega,by omega⟩;have h0:(0:Int)≤((i+1:Nat):Int)-1:=by omega
  have ti:(((i+1:Nat):Int)-1).toNat=i:=by omega
  have w1:IntKind.i64.wrap (((i+1:Nat):Int)-1-1)=(i:Int)-1:=by rw[bE];omega
  have w2:IntKind.i64.wrap (zM DB (A.drop (i+1))*10000)=zM DB (A.drop (i+1))*10000:=by rw[bE];omega
  have w3:IntKind.i64.wrap (zM DB (A.drop (i+1))*10000+A.getD i 0)=A.getD i 0+10000*zM DB (A.drop (i+1)):=by rw[bE];omega
  apply zC;(repeat((conv=>lhs;whnf);simp only[go_sem,simprocAttr,x1,h0,ti,w1,w2,w3]));exact key
theorem zDt (n:Nat) (e:Bool) (hn:(dec n).length≤3000000):callL Tryz.prog zD 172 [yN n e]=some (if n<10000000000000000 then .tup [.int .i64 n,.bool true] else .tup [.int .i64 0,.bool false]):=by
 have hM:=yj;have hd:(dec n).length≤4↔n<10000000000000000:=by
  have:=xS DB2 4 n;exact this
 unfold yN;by_cases h:n<10000000000000000
 ·rw[bA h];have hl:=hd.2 h;have c : ¬(4:Int)<(dec n).length:=by omega
  have c' : ¬ 4<(dec n).length:=by omega
  have key:=zDs (dec n) e (vN n) hl [.blk 0,.seq 0 31] (z:=(.tup [.int .i64 n,.bool true],[])) (by
   rw[vR];apply zN;((repeat((conv=>lhs;whnf);simp only[go_sem,simprocAttr]));try rfl)) (dec n).length (bF _)
  rw[HT]at key;have w1:IntKind.i64.wrap (((dec n).length:Int)-1)=((dec n).length:Int)-1:=by rw[bE];omega
  refine FX.callL (r:=(.tup [.int .i64 n,.bool true],[])) ok172_ 1000 rfl rfl ?_ rfl;(repeat((conv=>lhs;whnf);simp only[go_sem,simprocAttr,c,c',w1]));exact key
 ·rw[hZ h];have hl : ¬(dec n).length≤4:=fun e=>h (hd.1 e);have c:(4:Int)<(dec n).length:=by omega
  have c':4<(dec n).length:=by omega
  refine FX.callL (r:=(.tup [.int .i64 0,.bool false],[])) ok172_ 1000 rfl rfl ?_ rfl;((repeat((conv=>lhs;whnf);simp only[go_sem,simprocAttr,c,c']));try rfl)
end
end
end Go.Vs
