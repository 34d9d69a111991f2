
import Derived.Test.YtkaeejkajfinhaaGreatMT17
import Derived.Test.YtkaeejkajfinhaaGreatMT19
set_option linter.unusedVariables false
set_option linter.unusedSimpArgs false
set_option maxRecDepth 100000
namespace Go.Vs
open Go Go.Proofs
section
theorem zBs (n:Node):(n.within 4000 60).1=n.small:=by
 have hw:=JF n 4000 60 (by omega) (by omega)
 cases h:(n.within 4000 60).1
 ·have:=hw.1;rw[h]at this
  cases h2:n.small
  ·rfl
  ·exfalso
   simp only[Node.small,bO,pC]at h2;have:=this.2 (by omega);cases this
 ·have:=hw.1.1 h;simp only[Node.small];rw[bG (show n.count≤4000 by omega),bG (show n.depth≤60 by omega)];rfl
theorem JT:zV Tryz.prog 112 []=some (.agg [.bool false,.bool false,.bool false]):=by
 unfold zV;rw[Y1];dsimp only;unfold zb;rw[Y1,zLU];rfl
section
attribute [local irreducible] Vs.callL Vs.callRL tyi zO zk zf zQ zW zZ zI zX zA zK zb zV zG zJ zU zs yL zr zL za Vs.gc zH
noncomputable def zS7:FX:=⟨Tryz.f37,zE.of 37,[]⟩
instance ok37_:zS7.ok 37:=FX.mk'
theorem zEL (n:Node) (hn:n.ok) (sort:Int):callL Tryz.prog zE 37 [.agg n.cells,.int .i64 sort]=some (.int .i64 (n.check sort)):=by
 obtain⟨G,hG⟩:=zDy n hn 60 4000 (by omega) (by omega) [n.cells] (yU n) [] .nil;have hc:=xd (by kernel_rfl) hG (by simp[jv]) (VL (yU n) rfl .nil).closed (by simp[xz,yF,yb,uH,Node.refs,wK,jC,jv]);rw[zBs]at hc;unfold wSt st2 at hc;rw[pF]at hc;unfold Node.check;by_cases h1:sort<1
 ·rw[bA (.inl h1)];apply FX.callV ok37_ 1000 rfl rfl
  ·((repeat((conv=>lhs;whnf);simp only[go_sem,simprocAttr,h1]));try rfl)
  ·rfl
 by_cases h2:3<sort
 ·rw[bA (.inr h2)];apply FX.callV ok37_ 1000 rfl rfl
  ·((repeat((conv=>lhs;whnf);simp only[go_sem,simprocAttr,h1,h2]));try rfl)
  ·rfl
 rw[hZ (by omega)]
 cases hsm:n.small
 ·rw[hsm]at hc;rw[bA rfl];apply FX.callV ok37_ 1000 rfl rfl
  ·((repeat((conv=>lhs;whnf);simp only[go_sem,simprocAttr,h1,h2,X2,jk,hc]));try rfl)
  ·rfl
 ·rw[hsm]at hc;have hcount:n.count≤4000:=by
   simp only[Node.small,bO,pC]at hsm;exact hsm.1
  have hf:=fun S=>JM S (zEK n hn (by omega) false false false);rw[hZ (by simp)];by_cases h3:zm n.op=sort
  ·rw[hZ (by simpa using h3)]
   cases hfm:n.formed false false false
   ·rw[hfm]at hf;rw[bA rfl];apply FX.callV ok37_ 1000 rfl rfl
    ·((repeat((conv=>lhs;whnf);simp only[go_sem,simprocAttr,h1,h2,X2,jk,hc,Vx,h3,hf,JT]));try rfl)
    ·rfl
   ·rw[hfm]at hf;rw[hZ (by simp)];apply FX.callV ok37_ 1000 rfl rfl
    ·((repeat((conv=>lhs;whnf);simp only[go_sem,simprocAttr,h1,h2,X2,jk,hc,Vx,h3,hf,JT]));try rfl)
    ·rfl
  ·rw[bA h3];apply FX.callV ok37_ 1000 rfl rfl
   ·((repeat((conv=>lhs;whnf);simp only[go_sem,simprocAttr,h1,h2,X2,jk,hc,Vx,h3]));try rfl)
   ·rfl
theorem jO (S:zB) (n:Node) (hn:n.ok) (sort:Int):zO (callL Tryz.prog zE) S 37 [.agg n.cells,.int .i64 sort]=some {v:=.int .i64 (n.check sort)} := zF (zEL n hn sort) (by simp[Node.plain,zi.int])
end
end
section
def Node.wellRest (n:Node) (t f:Bool):Bool := !((t&&decide (n.op=12))||((t||f)&&decide (n.op=3)))&&(if n.op=54 then ju n t f else n.wellKids t f)
theorem zJO (n:Node) (s:Int) (t f:Bool):n.well s t f=((decide (zm n.op=s)&&(decide (yi n.op=yT n.name)&&(yi n.op||yl n.name)))&&((if n.op=1 then vk n.neg n.num n.den else (!n.neg&&(decide (n.num.length=0)&&decide (n.den.length=0))))&&n.wellRest t f)):=by
 rw[Node.well_eq];rfl
section
attribute [local irreducible] Vs.callL Vs.callRL tyi zO zk zf zQ zW zZ zI zX zA zK zb zV zG zJ zU zs yL zr zL za Vs.gc zH
theorem jP (n:Node) (hn:n.ok) (t f:Bool) (s:List Int) (hd : ∀d∈s,0≤d∧d≤100) (ih:Zn n) (h2:n.op=8∨n.op=9→s.length=2) (h3:n.op=39→s.length=1) (hl:s.length=n.kids.length) :
  ∃S',zT 0 zHl 0 8180 1 [.blk 0,.seq 0 1023] [(2,.bool t),(3,.bool f),(4,.mp 0 0 0),(9,.str (uC s)),(10,.int .i64 0)] [.arr [n.cells] none false]=some (.bool (Node.wells n.kids s (t||decide (n.op=12)) (f||decide (n.op=39))&&xN n.op n.kids),S') :=
 zJN n hn t f s hl hd ih (fun h=>by rw[←hl];exact h2 h) (fun h=>by rw[←hl];exact h3 h) n.kids.length 0 (by omega)
theorem zG5 (n:Node) (hn:n.ok) (s:Int) (t f:Bool) (ih:Zn n) (hs:zm n.op=s) (hneg:n.neg=false) (hnum : ¬ 0<(n.num.length:Int)) (hden : ¬ 0<(n.den.length:Int)) (hh:yi n.op=true) (hm:yT n.name=true) (h1 : ¬n.op=1) (h3 : ¬n.op=3) (h12 : ¬n.op=12) (h54 : ¬n.op=54) (h10 : ¬n.op=10) (h37 : ¬n.op=37):callL Tryz.prog zE 87 [.agg n.cells,.int .i64 s,.bool t,.bool f]=some (.bool (n.wellRest t f)):=by
 have e:n.wellRest t f=(decide ((zP n.op).length=n.kids.length)&&(Node.wells n.kids (zP n.op) (t||decide (n.op=12)) (f||decide (n.op=39))&&xN n.op n.kids)):=by
  have es:ym n.op n.kids.length=zP n.op:=by simp[ym,h10,h37]
  simp only[Node.wellRest,Node.wellKids,es,hZ h54,h12,h3,decide_false,bQ,sQ,bK,bC]
 rw[e];clear e;by_cases hl:(zP n.op).length=n.kids.length
 ·have hq:((zP n.op).length:Int)=(n.kids.length:Int):=by omega
  obtain⟨S',k⟩:=jP n hn t f (zP n.op) (Yz _) ih (fun ho=>by rcases ho with ho | ho <;> rw[ho] <;> rfl) (fun ho=>by rw[ho];rfl) hl;rw[bG hl,bC];generalize (Node.wells n.kids (zP n.op) (t||decide (n.op=12)) (f||decide (n.op=39))&&xN n.op n.kids)=R at k ⊢
  cases t <;> cases f <;> (apply FX.callB2 ok87_ 1000 rfl rfl;(repeat((conv=>lhs;whnf);simp only[go_sem,simprocAttr,yX,yY,yP,xg,yM,hh,hm,hs,h1,h3,h12,h54,h10,h37,hl,hq,hneg,hnum,hden]));exact k)
 ·have hq : ¬((zP n.op).length:Int)=(n.kids.length:Int):=by omega
  rw[bH hl,bB]
  cases t <;> cases f <;> (apply FX.callB2 ok87_ 1000 rfl rfl;((repeat((conv=>lhs;whnf);simp only[go_sem,simprocAttr,yX,yY,yP,xg,yM,hh,hm,hs,h1,h3,h12,h54,h10,h37,hl,hq,hneg,hnum,hden]));try rfl))
theorem zJP (n:Node) (hn:n.ok) (s:Int) (t f:Bool) (ih:Zn n) (hs:zm n.op=s) (hneg:n.neg=false) (hnum : ¬ 0<(n.num.length:Int)) (hden : ¬ 0<(n.den.length:Int)) (hh:yi n.op=false) (hm:yT n.name=false) (hq0:yl n.name=true) (h1 : ¬n.op=1) (h3 : ¬n.op=3) (h12 : ¬n.op=12) (h54 : ¬n.op=54) (h10 : ¬n.op=10) (h37 : ¬n.op=37):callL Tryz.prog zE 87 [.agg n.cells,.int .i64 s,.bool t,.bool f]=some (.bool (n.wellRest t f)):=by
 have e:n.wellRest t f=(decide ((zP n.op).length=n.kids.length)&&(Node.wells n.kids (zP n.op) (t||decide (n.op=12)) (f||decide (n.op=39))&&xN n.op n.kids)):=by
  have es:ym n.op n.kids.length=zP n.op:=by simp[ym,h10,h37]
  simp only[Node.wellRest,Node.wellKids,es,hZ h54,h12,h3,decide_false,bQ,sQ,bK,bC]
 rw[e];clear e;unfold yl at hq0;by_cases hl:(zP n.op).length=n.kids.length
 ·have hq:((zP n.op).length:Int)=(n.kids.length:Int):=by omega
  obtain⟨S',k⟩:=jP n hn t f (zP n.op) (Yz _) ih (fun ho=>by rcases ho with ho | ho <;> rw[ho] <;> rfl) (fun ho=>by rw[ho];rfl) hl;rw[bG hl,bC];generalize (Node.wells n.kids (zP n.op) (t||decide (n.op=12)) (f||decide (n.op=39))&&xN n.op n.kids)=R at k ⊢
  cases t <;> cases f <;> (apply FX.callB2 ok87_ 1000 rfl rfl;(repeat((conv=>lhs;whnf);simp only[go_sem,simprocAttr,yX,yY,yP,xg,yM,hh,hm,hq0,hs,h1,h3,h12,h54,h10,h37,hl,hq,hneg,hnum,hden]));exact k)
 ·have hq : ¬((zP n.op).length:Int)=(n.kids.length:Int):=by omega
  rw[bH hl,bB]
  cases t <;> cases f <;> (apply FX.callB2 ok87_ 1000 rfl rfl;((repeat((conv=>lhs;whnf);simp only[go_sem,simprocAttr,yX,yY,yP,xg,yM,hh,hm,hq0,hs,h1,h3,h12,h54,h10,h37,hl,hq,hneg,hnum,hden]));try rfl))
theorem zLZ (n:Node) (hn:n.ok) (s:Int) (t f:Bool) (ih:Zn n) (hs:zm n.op=s) (hnat:vk n.neg n.num n.den=true) (hm:yT n.name=false) (hq0:yl n.name=true) (h:n.op=1):callL Tryz.prog zE 87 [.agg n.cells,.int .i64 s,.bool t,.bool f]=some (.bool (n.wellRest t f)):=by
 have hh:yi 1=false:=rfl;have hk:zP 1=[]:=rfl;have hso:zm 1=s:=by rw[←h];exact hs
 have es:ym n.op n.kids.length=[]:=by rw[h];simp[ym];try rfl
 have cn:=fun S=>JI S n hn;rw[hnat]at cn;unfold yl at hq0;have e:n.wellRest t f=(true&&(decide (([]:List Int).length=n.kids.length)&&(Node.wells n.kids [] (t||decide (n.op=12)) (f||decide (n.op=39))&&xN n.op n.kids))):=by
  unfold Node.wellRest Node.wellKids;rw[es,h];simp
 rw[e];clear e;have k7:=jP n hn t f [] (by simp) ih (fun ho=>by omega) (fun ho=>by omega);rw[h]at k7 ⊢;by_cases hl:([]:List Int).length=n.kids.length
 ·have hl':n.kids.length=0:=by simpa using hl.symm
  have hq:(n.kids.length:Int)=0:=by omega
  obtain⟨S',k⟩:=k7 hl;rw[bG hl,bC];clear k7;generalize (Node.wells n.kids [] (t||decide ((1:Int)=12)) (f||decide ((1:Int)=39))&&xN 1 n.kids)=R at k ⊢
  cases t <;> cases f
  ·apply FX.callB2 ok87_ 1000 rfl rfl;(repeat((conv=>lhs;whnf);simp only[go_sem,simprocAttr,yX,yY,yP,xg,yM,hm,hq0,h,hh,hk,hso,hl',hq,Int.reduceEq,bV,bL,cn]));exact k
  ·apply FX.callB2 ok87_ 1000 rfl rfl;(repeat((conv=>lhs;whnf);simp only[go_sem,simprocAttr,yX,yY,yP,xg,yM,hm,hq0,h,hh,hk,hso,hl',hq,Int.reduceEq,bV,bL,cn]));exact k
  ·apply FX.callB2 ok87_ 1000 rfl rfl;(repeat((conv=>lhs;whnf);simp only[go_sem,simprocAttr,yX,yY,yP,xg,yM,hm,hq0,h,hh,hk,hso,hl',hq,Int.reduceEq,bV,bL,cn]));exact k
  ·apply FX.callB2 ok87_ 1000 rfl rfl;(repeat((conv=>lhs;whnf);simp only[go_sem,simprocAttr,yX,yY,yP,xg,yM,hm,hq0,h,hh,hk,hso,hl',hq,Int.reduceEq,bV,bL,cn]));exact k
 ·have hr : ¬((0:Nat):Int)=(n.kids.length:Int):=by intro x;apply hl;simp only[bV,bL];omega
  have hq : ¬(0:Int)=(n.kids.length:Int):=by omega
  rw[bH hl,bB,bQ]
  cases t <;> cases f <;> (apply FX.callB2 ok87_ 1000 rfl rfl;((repeat((conv=>lhs;whnf);simp only[go_sem,simprocAttr,yX,yY,yP,xg,yM,hm,hq0,h,hh,hk,hso,hq,hr,Int.reduceEq,bV,bL,cn]));try rfl))
theorem zG6 (n:Node) (hn:n.ok) (s:Int) (t f:Bool) (ih:Zn n) (hs:zm n.op=s) (hneg:n.neg=false) (hnum : ¬ 0<(n.num.length:Int)) (hden : ¬ 0<(n.den.length:Int)) (hm:yT n.name=true) (h:n.op=3):callL Tryz.prog zE 87 [.agg n.cells,.int .i64 s,.bool t,.bool f]=some (.bool (n.wellRest t f)):=by
 have hh:yi 3=true:=rfl;have hk:zP 3=[]:=rfl;have hso:zm 3=s:=by rw[←h];exact hs
 have es:ym n.op n.kids.length=[]:=by rw[h];simp[ym];try rfl
 have e:n.wellRest t f=(!(t||f)&&(decide (([]:List Int).length=n.kids.length)&&(Node.wells n.kids [] (t||decide (n.op=12)) (f||decide (n.op=39))&&xN n.op n.kids))):=by
  unfold Node.wellRest Node.wellKids;rw[es,h];simp
 rw[e];clear e;have k7:=jP n hn t f [] (by simp) ih (fun ho=>by omega) (fun ho=>by omega);rw[h]at k7 ⊢;by_cases hl:([]:List Int).length=n.kids.length
 ·have hl':n.kids.length=0:=by simpa using hl.symm
  have hq:(n.kids.length:Int)=0:=by omega
  obtain⟨S',k⟩:=k7 hl;rw[bG hl,bC];clear k7;generalize (Node.wells n.kids [] (t||decide ((3:Int)=12)) (f||decide ((3:Int)=39))&&xN 3 n.kids)=R at k ⊢
  cases t <;> cases f
  ·apply FX.callB2 ok87_ 1000 rfl rfl;(repeat((conv=>lhs;whnf);simp only[go_sem,simprocAttr,yX,yY,yP,xg,yM,hm,h,hh,hk,hso,hl',hq,Int.reduceEq,bV,bL,hneg,hnum,hden]));exact k
  ·apply FX.callB2 ok87_ 1000 rfl rfl;((repeat((conv=>lhs;whnf);simp only[go_sem,simprocAttr,yX,yY,yP,xg,yM,hm,h,hh,hk,hso,hl',hq,Int.reduceEq,bV,bL,hneg,hnum,hden]));try rfl)
  ·apply FX.callB2 ok87_ 1000 rfl rfl;((repeat((conv=>lhs;whnf);simp only[go_sem,simprocAttr,yX,yY,yP,xg,yM,hm,h,hh,hk,hso,hl',hq,Int.reduceEq,bV,bL,hneg,hnum,hden]));try rfl)
  ·apply FX.callB2 ok87_ 1000 rfl rfl;((repeat((conv=>lhs;whnf);simp only[go_sem,simprocAttr,yX,yY,yP,xg,yM,hm,h,hh,hk,hso,hl',hq,Int.reduceEq,bV,bL,hneg,hnum,hden]));try rfl)
 ·have hr : ¬((0:Nat):Int)=(n.kids.length:Int):=by intro x;apply hl;simp only[bV,bL];omega
  have hq : ¬(0:Int)=(n.kids.length:Int):=by omega
  rw[bH hl,bB,bQ]
  cases t <;> cases f <;> (apply FX.callB2 ok87_ 1000 rfl rfl;((repeat((conv=>lhs;whnf);simp only[go_sem,simprocAttr,yX,yY,yP,xg,yM,hm,h,hh,hk,hso,hq,hr,Int.reduceEq,bV,bL,hneg,hnum,hden]));try rfl))
theorem zJQ (n:Node) (hn:n.ok) (s:Int) (t f:Bool) (ih:Zn n) (hs:zm n.op=s) (hneg:n.neg=false) (hnum : ¬ 0<(n.num.length:Int)) (hden : ¬ 0<(n.den.length:Int)) (hm:yT n.name=false) (hq0:yl n.name=true) (h:n.op=12):callL Tryz.prog zE 87 [.agg n.cells,.int .i64 s,.bool t,.bool f]=some (.bool (n.wellRest t f)):=by
 have hh:yi 12=false:=rfl;have hk:zP 12=[1]:=rfl;have hso:zm 12=s:=by rw[←h];exact hs
 have es:ym n.op n.kids.length=[1]:=by rw[h];simp[ym];try rfl
 unfold yl at hq0;have e:n.wellRest t f=(!t&&(decide (([1]:List Int).length=n.kids.length)&&(Node.wells n.kids [1] (t||decide (n.op=12)) (f||decide (n.op=39))&&xN n.op n.kids))):=by
  unfold Node.wellRest Node.wellKids;rw[es,h];simp
 rw[e];clear e;have k7:=jP n hn t f [1] (by simp) ih (fun ho=>by omega) (fun ho=>by omega);rw[h]at k7 ⊢;by_cases hl:([1]:List Int).length=n.kids.length
 ·have hl':n.kids.length=1:=by simpa using hl.symm
  have hq:(n.kids.length:Int)=1:=by omega
  obtain⟨S',k⟩:=k7 hl;rw[bG hl,bC];clear k7;generalize (Node.wells n.kids [1] (t||decide ((12:Int)=12)) (f||decide ((12:Int)=39))&&xN 12 n.kids)=R at k ⊢
  cases t <;> cases f
  ·apply FX.callB2 ok87_ 1000 rfl rfl;(repeat((conv=>lhs;whnf);simp only[go_sem,simprocAttr,yX,yY,yP,xg,yM,hm,hq0,h,hh,hk,hso,hl',hq,Int.reduceEq,bV,bL,hneg,hnum,hden]));exact k
  ·apply FX.callB2 ok87_ 1000 rfl rfl;(repeat((conv=>lhs;whnf);simp only[go_sem,simprocAttr,yX,yY,yP,xg,yM,hm,hq0,h,hh,hk,hso,hl',hq,Int.reduceEq,bV,bL,hneg,hnum,hden]));exact k
  ·apply FX.callB2 ok87_ 1000 rfl rfl;((repeat((conv=>lhs;whnf);simp only[go_sem,simprocAttr,yX,yY,yP,xg,yM,hm,hq0,h,hh,hk,hso,hl',hq,Int.reduceEq,bV,bL,hneg,hnum,hden]));try rfl)
  ·apply FX.callB2 ok87_ 1000 rfl rfl;((repeat((conv=>lhs;whnf);simp only[go_sem,simprocAttr,yX,yY,yP,xg,yM,hm,hq0,h,hh,hk,hso,hl',hq,Int.reduceEq,bV,bL,hneg,hnum,hden]));try rfl)
 ·have hr : ¬((1:Nat):Int)=(n.kids.length:Int):=by intro x;apply hl;simp only[bV,bL];omega
  have hq : ¬(1:Int)=(n.kids.length:Int):=by omega
  rw[bH hl,bB,bQ]
  cases t <;> cases f <;> (apply FX.callB2 ok87_ 1000 rfl rfl;((repeat((conv=>lhs;whnf);simp only[go_sem,simprocAttr,yX,yY,yP,xg,yM,hm,hq0,h,hh,hk,hso,hq,hr,Int.reduceEq,bV,bL,hneg,hnum,hden]));try rfl))
theorem zG7 (n:Node) (hn:n.ok) (s:Int) (t f:Bool) (ih:Zn n) (hs:zm n.op=s) (hneg:n.neg=false) (hnum : ¬ 0<(n.num.length:Int)) (hden : ¬ 0<(n.den.length:Int)) (hm:yT n.name=false) (hq0:yl n.name=true) (h:n.op=54):callL Tryz.prog zE 87 [.agg n.cells,.int .i64 s,.bool t,.bool f]=some (.bool (n.wellRest t f)):=by
 have hh:yi 54=false:=rfl;have hso:zm 54=s:=by rw[←h];exact hs
 have e:n.wellRest t f=ju n t f:=by
  unfold Node.wellRest;rw[h];simp
 rw[e];unfold yl at hq0;have hc:=fun S=>zF (S:=S) (zG4 n hn t f ih) (by simp[Node.plain,zi.bool])
 cases t <;> cases f <;> (apply FX.callB2 ok87_ 1000 rfl rfl;((repeat((conv=>lhs;whnf);simp only[go_sem,simprocAttr,yX,yY,yP,xg,yM,hm,hq0,h,hh,hso,hc,Int.reduceEq,hneg,hnum,hden]));try rfl))
theorem zBt (n:Node) (hn:n.ok) (s:Int) (t f:Bool) (ih:Zn n) (hs:zm n.op=s) (hneg:n.neg=false) (hnum : ¬ 0<(n.num.length:Int)) (hden : ¬ 0<(n.den.length:Int)) (hm:yT n.name=true) (h:n.op=10):callL Tryz.prog zE 87 [.agg n.cells,.int .i64 s,.bool t,.bool f]=some (.bool (n.wellRest t f)):=by
 have hh:yi 10=true:=rfl;have hk:zP 10=[]:=rfl;have hso:zm 10=s:=by rw[←h];exact hs
 have e:n.wellRest t f=n.wellKids t f:=by
  unfold Node.wellRest;rw[h];simp
 rw[e];unfold Node.wellKids;by_cases h1:n.kids.length=1
 ·have h1':(n.kids.length:Int)=1:=by omega
  have es:ym n.op n.kids.length=[1]:=by rw[h];simp[ym,h1]
  obtain⟨S',k⟩:=jP n hn t f [1] (by simp) ih (fun ho=>by omega) (fun ho=>by omega) h1.symm;have hd:uC [1]=⟨#[49]⟩:=rfl;have hds:(⟨#[49]⟩:ByteArray).size=1:=rfl;rw[hd]at k;rw[es];rw[h]at k ⊢;have hl:([1]:List Int).length=n.kids.length:=h1.symm;rw[bG hl,bC];generalize (Node.wells n.kids [1] (t||decide ((10:Int)=12)) (f||decide ((10:Int)=39))&&xN 10 n.kids)=R at k ⊢
  cases t <;> cases f <;> (apply FX.callB2 ok87_ 1000 rfl rfl;(repeat((conv=>lhs;whnf);simp only[go_sem,simprocAttr,yX,yY,yP,xg,yM,hm,h,hh,hk,hso,h1,h1',hds,Int.reduceEq,hneg,hnum,hden]));exact k)
 ·have h1' : ¬(n.kids.length:Int)=1:=by omega
  have es:ym n.op n.kids.length=[]:=by rw[h];simp[ym,h1,hk]
  rw[es];by_cases h0:n.kids.length=0
  ·have h0':(n.kids.length:Int)=0:=by omega
   obtain⟨S',k⟩:=jP n hn t f [] (by simp) ih (fun ho=>by omega) (fun ho=>by omega) h0.symm;rw[h]at k ⊢;have hl:([]:List Int).length=n.kids.length:=h0.symm;rw[bG hl,bC];generalize (Node.wells n.kids [] (t||decide ((10:Int)=12)) (f||decide ((10:Int)=39))&&xN 10 n.kids)=R at k ⊢
   cases t <;> cases f <;> (apply FX.callB2 ok87_ 1000 rfl rfl;(repeat((conv=>lhs;whnf);simp only[go_sem,simprocAttr,yX,yY,yP,xg,yM,hm,h,hh,hk,hso,h0,h0',Int.reduceEq,bV,hneg,hnum,hden]));exact k)
  ·have hr : ¬((0:Nat):Int)=(n.kids.length:Int):=by omega
   have hq : ¬(0:Int)=(n.kids.length:Int):=by omega
   have hl : ¬([]:List Int).length=n.kids.length:=fun e=>h0 e.symm;rw[bH hl,bB]
   cases t <;> cases f <;> (apply FX.callB2 ok87_ 1000 rfl rfl;((repeat((conv=>lhs;whnf);simp only[go_sem,simprocAttr,yX,yY,yP,xg,yM,hm,h,hh,hk,hso,h1',hq,hr,Int.reduceEq,bV,hneg,hnum,hden]));try rfl))
theorem zBu (n:Node) (hn:n.ok) (s:Int) (t f:Bool) (ih:Zn n) (hs:zm n.op=s) (hneg:n.neg=false) (hnum : ¬ 0<(n.num.length:Int)) (hden : ¬ 0<(n.den.length:Int)) (hm:yT n.name=true) (h:n.op=37):callL Tryz.prog zE 87 [.agg n.cells,.int .i64 s,.bool t,.bool f]=some (.bool (n.wellRest t f)):=by
 have hh:yi 37=true:=rfl;have hk:zP 37=[]:=rfl;have hso:zm 37=s:=by rw[←h];exact hs
 have e:n.wellRest t f=n.wellKids t f:=by
  unfold Node.wellRest;rw[h];simp
 rw[e];unfold Node.wellKids;by_cases h1:n.kids.length=1
 ·have h1':(n.kids.length:Int)=1:=by omega
  have es:ym n.op n.kids.length=[1]:=by rw[h];simp[ym,h1]
  obtain⟨S',k⟩:=jP n hn t f [1] (by simp) ih (fun ho=>by omega) (fun ho=>by omega) h1.symm;have hd:uC [1]=⟨#[49]⟩:=rfl;have hds:(⟨#[49]⟩:ByteArray).size=1:=rfl;rw[hd]at k;rw[es];rw[h]at k ⊢;have hl:([1]:List Int).length=n.kids.length:=h1.symm;rw[bG hl,bC];generalize (Node.wells n.kids [1] (t||decide ((37:Int)=12)) (f||decide ((37:Int)=39))&&xN 37 n.kids)=R at k ⊢
  cases t <;> cases f <;> (apply FX.callB2 ok87_ 1000 rfl rfl;(repeat((conv=>lhs;whnf);simp only[go_sem,simprocAttr,yX,yY,yP,xg,yM,hm,h,hh,hk,hso,h1,h1',hds,Int.reduceEq,hneg,hnum,hden]));exact k)
 ·have h1' : ¬(n.kids.length:Int)=1:=by omega
  have es:ym n.op n.kids.length=[]:=by rw[h];simp[ym,h1,hk]
  rw[es];by_cases h0:n.kids.length=0
  ·have h0':(n.kids.length:Int)=0:=by omega
   obtain⟨S',k⟩:=jP n hn t f [] (by simp) ih (fun ho=>by omega) (fun ho=>by omega) h0.symm;rw[h]at k ⊢;have hl:([]:List Int).length=n.kids.length:=h0.symm;rw[bG hl,bC];generalize (Node.wells n.kids [] (t||decide ((37:Int)=12)) (f||decide ((37:Int)=39))&&xN 37 n.kids)=R at k ⊢
   cases t <;> cases f <;> (apply FX.callB2 ok87_ 1000 rfl rfl;(repeat((conv=>lhs;whnf);simp only[go_sem,simprocAttr,yX,yY,yP,xg,yM,hm,h,hh,hk,hso,h0,h0',Int.reduceEq,bV,hneg,hnum,hden]));exact k)
  ·have hr : ¬((0:Nat):Int)=(n.kids.length:Int):=by omega
   have hq : ¬(0:Int)=(n.kids.length:Int):=by omega
   have hl : ¬([]:List Int).length=n.kids.length:=fun e=>h0 e.symm;rw[bH hl,bB]
   cases t <;> cases f <;> (apply FX.callB2 ok87_ 1000 rfl rfl;((repeat((conv=>lhs;whnf);simp only[go_sem,simprocAttr,yX,yY,yP,xg,yM,hm,h,hh,hk,hso,h1',hq,hr,Int.reduceEq,bV,hneg,hnum,hden]));try rfl))
end
end
section
section
attribute [local irreducible] Vs.callL Vs.callRL tyi zO zk zf zQ zW zZ zI zX zA zK zb zV zG zJ zU zs yL zr zL za Vs.gc zH
theorem zJR : ∀n:Node,n.ok→∀s t f,callL Tryz.prog zE 87 [.agg n.cells,.int .i64 s,.bool t,.bool f]=some (.bool (n.well s t f)):=by
 refine Node.ind' fun n ih0 hn s t f=>?_;have ih:Zn n:=fun k hk=>ih0 k hk (hn.kids k hk);rw[zJO];by_cases hs:zm n.op=s
 case neg =>
  rw[bH hs,bB,bB];apply FX.callB2 ok87_ 1000 rfl rfl;((repeat((conv=>lhs;whnf);simp only[go_sem,simprocAttr,yX,hs]));try rfl)
 rw[bG hs,bC]
 cases hh:yi n.op
 ·cases hm:yT n.name
  case true =>
   have e:decide (false=true)=false:=rfl;rw[e,bB,bB];apply FX.callB2 ok87_ 1000 rfl rfl;((repeat((conv=>lhs;whnf);simp only[go_sem,simprocAttr,yX,hs,yY,hh,yP,hm]));try rfl)
  have e:decide (false=false)=true:=rfl;rw[e,bC,bZ]
  cases hq:yl n.name
  ·unfold yl at hq;rw[bB];apply FX.callB2 ok87_ 1000 rfl rfl;((repeat((conv=>lhs;whnf);simp only[go_sem,simprocAttr,yX,hs,yY,hh,yP,hm,hq]));try rfl)
  rw[bC];by_cases h1:n.op=1
  ·rw[bA h1]
   cases hnat:vk n.neg n.num n.den
   ·have cn:=fun S=>JI S n hn;rw[hnat]at cn;unfold yl at hq;rw[h1]at hh hs;rw[bB];apply FX.callB2 ok87_ 1000 rfl rfl;((repeat((conv=>lhs;whnf);simp only[go_sem,simprocAttr,yX,hs,yY,h1,hh,yP,hm,hq,cn,Int.reduceEq]));try rfl)
   ·rw[bC];exact zLZ n hn s t f ih hs hnat hm hq h1
  rw[hZ h1];have hq':=hq;unfold yl at hq'
  cases hneg:n.neg
  ·by_cases hnum0:n.num.length=0
   ·have hnum : ¬ 0<(n.num.length:Int):=by omega
    by_cases hden0:n.den.length=0
    ·have hden : ¬ 0<(n.den.length:Int):=by omega
     rw[bG hnum0,bG hden0,bK,sC,sC,bC];have h10 : ¬n.op=10:=fun h=>by rw[h]at hh;cases hh
     have h37 : ¬n.op=37:=fun h=>by rw[h]at hh;cases hh
     have h3 : ¬n.op=3:=fun h=>by rw[h]at hh;cases hh
     by_cases h12:n.op=12
     ·exact zJQ n hn s t f ih hs hneg hnum hden hm hq h12
     by_cases h54:n.op=54
     ·exact zG7 n hn s t f ih hs hneg hnum hden hm hq h54
     ·exact zJP n hn s t f ih hs hneg hnum hden hh hm hq h1 h3 h12 h54 h10 h37
    ·have hden:0<(n.den.length:Int):=by omega
     rw[bG hnum0,bH hden0,bQ,bQ,bB];apply FX.callB2 ok87_ 1000 rfl rfl;((repeat((conv=>lhs;whnf);simp only[go_sem,simprocAttr,yX,hs,yY,hh,yP,hm,hq',h1,hneg,hnum,hden]));try rfl)
   ·have hnum:0<(n.num.length:Int):=by omega
    rw[bH hnum0,bB,bQ,bB];apply FX.callB2 ok87_ 1000 rfl rfl;((repeat((conv=>lhs;whnf);simp only[go_sem,simprocAttr,yX,hs,yY,hh,yP,hm,hq',h1,hneg,hnum]));try rfl)
  ·rw[bU,bB,bB];apply FX.callB2 ok87_ 1000 rfl rfl;((repeat((conv=>lhs;whnf);simp only[go_sem,simprocAttr,yX,hs,yY,hh,yP,hm,hq',h1,hneg]));try rfl)
 ·cases hm:yT n.name
  ·have e:decide (true=false)=false:=rfl;rw[e,bB,bB];apply FX.callB2 ok87_ 1000 rfl rfl;((repeat((conv=>lhs;whnf);simp only[go_sem,simprocAttr,yX,hs,yY,hh,yP,hm]));try rfl)
  have e:decide (true=true)=true:=rfl;rw[e,bC,pI,bC];have h1 : ¬n.op=1:=fun h=>by rw[h]at hh;cases hh
  rw[hZ h1]
  cases hneg:n.neg
  ·by_cases hnum0:n.num.length=0
   ·have hnum : ¬ 0<(n.num.length:Int):=by omega
    by_cases hden0:n.den.length=0
    ·have hden : ¬ 0<(n.den.length:Int):=by omega
     rw[bG hnum0,bG hden0,bK,sC,sC,bC];have h12 : ¬n.op=12:=fun h=>by rw[h]at hh;cases hh
     have h54 : ¬n.op=54:=fun h=>by rw[h]at hh;cases hh
     by_cases h10:n.op=10
     ·exact zBt n hn s t f ih hs hneg hnum hden hm h10
     by_cases h37:n.op=37
     ·exact zBu n hn s t f ih hs hneg hnum hden hm h37
     by_cases h3:n.op=3
     ·exact zG6 n hn s t f ih hs hneg hnum hden hm h3
     ·exact zG5 n hn s t f ih hs hneg hnum hden hh hm h1 h3 h12 h54 h10 h37
    ·have hden:0<(n.den.length:Int):=by omega
     rw[bG hnum0,bH hden0,bQ,bQ,bB];apply FX.callB2 ok87_ 1000 rfl rfl;((repeat((conv=>lhs;whnf);simp only[go_sem,simprocAttr,yX,hs,yY,hh,yP,hm,h1,hneg,hnum,hden]));try rfl)
   ·have hnum:0<(n.num.length:Int):=by omega
    rw[bH hnum0,bB,bQ,bB];apply FX.callB2 ok87_ 1000 rfl rfl;((repeat((conv=>lhs;whnf);simp only[go_sem,simprocAttr,yX,hs,yY,hh,yP,hm,h1,hneg,hnum]));try rfl)
  ·rw[bU,bB,bB];apply FX.callB2 ok87_ 1000 rfl rfl;((repeat((conv=>lhs;whnf);simp only[go_sem,simprocAttr,yX,hs,yY,hh,yP,hm,h1,hneg]));try rfl)
noncomputable def zS8:FX:=⟨Tryz.f44,zE.of 44,[]⟩
instance ok44_:zS8.ok 44:=FX.mk'
theorem zEM (n:Node) (hn:n.ok) (sort:Int):callL Tryz.prog zE 44 [.agg n.cells,.int .i64 sort]=some (.int .i64 (n.checkRef sort)):=by
 refine FX.callL (r:=(.int .i64 (n.checkRef sort),[.arr [n.cells] none false])) ok44_ 1000 rfl rfl ?_ rfl;have hs:=fun S=>uV S (XZ n hn);have hl:=fun S=>uV S (zDv n hn);have hw:=fun S=>VQ S (zJR n hn sort false false);unfold Node.checkRef;by_cases h1:sort<1
 ·rw[bA (.inl h1)];((repeat((conv=>lhs;whnf);simp only[go_sem,simprocAttr,h1]));try rfl)
 by_cases h2:3<sort
 ·rw[bA (.inr h2)];((repeat((conv=>lhs;whnf);simp only[go_sem,simprocAttr,h1,h2]));try rfl)
 rw[hZ (by omega)];by_cases h3:4000<n.size
 ·rw[bA (.inl h3)];((repeat((conv=>lhs;whnf);simp only[go_sem,simprocAttr,h1,h2,hs,h3]));try rfl)
 by_cases h4:60<n.levels
 ·rw[bA (.inr h4)];((repeat((conv=>lhs;whnf);simp only[go_sem,simprocAttr,h1,h2,hs,h3,hl,h4]));try rfl)
 rw[hZ (by omega)];by_cases h5:zm n.op=sort
 ·rw[hZ (by simpa using h5)]
  cases hv:n.well sort false false
  ·rw[hv]at hw;rw[bA rfl];((repeat((conv=>lhs;whnf);simp only[go_sem,simprocAttr,h1,h2,hs,h3,hl,h4,yX,h5,hw]));try rfl)
  ·rw[hv]at hw;rw[hZ (by simp)];((repeat((conv=>lhs;whnf);simp only[go_sem,simprocAttr,h1,h2,hs,h3,hl,h4,yX,h5,hw]));try rfl)
 ·rw[bA h5];((repeat((conv=>lhs;whnf);simp only[go_sem,simprocAttr,h1,h2,hs,h3,hl,h4,yX,h5]));try rfl)
theorem qH (S:zB) (n:Node) (hn:n.ok) (hc:n.count≤1000000000) (sort:Int):zO (callL Tryz.prog zE) S 44 [.agg n.cells,.int .i64 sort]=some {v:=.int .i64 (n.check sort)} := by
 have h:=zEM n hn sort;rw[zGI n hn hc]at h;exact zF h (by simp[Node.plain,zi.int])
end
end
section
mutual
def Node.has (p:Int→Bool):Node→Bool
 | .mk o _ _ _ _ f=>p o||Node.hass p f
def Node.hass (p:Int→Bool):List Node→Bool
 | []=>false
 | n::r=>n.has p||Node.hass p r
end
theorem Node.has_eq (p:Int→Bool) (n:Node):n.has p=(p n.op||Node.hass p n.kids):=by cases n;rfl
theorem Node.hass_any (p:Int→Bool) : ∀l:List Node,Node.hass p l=l.any (Node.has p)
 | []=>rfl
 | n::r=>by rw[Node.hass,Node.hass_any p r,BB]
def yO (o:Int):Bool:=decide (o=10)||decide (o=11)||decide (o=37)||decide (o=38)||decide (o=61)||decide (o=62)||decide (o=56)
def yN (o:Int):Bool:=decide (o=33)||decide (o=34)||decide (o=35)||decide (o=36)||decide (o=39)
def xD (q o:Int):Bool:=decide (o=q)
def xu (ops:List Int) (o:Int):Bool:=ops.any fun q=>decide (o=q)
def JU:Node:=.mk 13 ⟨#[]⟩ false [] [] []
def Node.sym (n:Node):Node:=if yO n.op=true then .mk n.op n.name false [] [] (if (n.op=10∨n.op=37)∧n.kids.length≠0 then [JU] else []) else nd0
section
attribute [local irreducible] Vs.callL Vs.callRL tyi zO zk zf zQ zW zZ zI zX zA zK zb zV zG zJ zU zs yL zr zL za Vs.gc zH
noncomputable def zS9:FX:=⟨Tryz.f84,zE.of 84,[]⟩
instance ok84_:zS9.ok 84:=FX.mk'
theorem zEN (n:Node):callL Tryz.prog zE 84 [.agg n.cells]=some (.bool (yO n.op)):=by
 unfold yO;by_cases e10:n.op=10
 ·have e:(decide (n.op=10)||decide (n.op=11)||decide (n.op=37)||decide (n.op=38)||decide (n.op=61)||decide (n.op=62)||decide (n.op=56))=true:=by rw[e10];rfl
  rw[e];apply FX.callB2 ok84_ 1000 rfl rfl;((repeat((conv=>lhs;whnf);simp only[go_sem,simprocAttr,e10]));try rfl)
 by_cases e11:n.op=11
 ·have e:(decide (n.op=10)||decide (n.op=11)||decide (n.op=37)||decide (n.op=38)||decide (n.op=61)||decide (n.op=62)||decide (n.op=56))=true:=by rw[e11];rfl
  rw[e];apply FX.callB2 ok84_ 1000 rfl rfl;((repeat((conv=>lhs;whnf);simp only[go_sem,simprocAttr,e11]));try rfl)
 by_cases e37:n.op=37
 ·have e:(decide (n.op=10)||decide (n.op=11)||decide (n.op=37)||decide (n.op=38)||decide (n.op=61)||decide (n.op=62)||decide (n.op=56))=true:=by rw[e37];rfl
  rw[e];apply FX.callB2 ok84_ 1000 rfl rfl;((repeat((conv=>lhs;whnf);simp only[go_sem,simprocAttr,e37]));try rfl)
 by_cases e38:n.op=38
 ·have e:(decide (n.op=10)||decide (n.op=11)||decide (n.op=37)||decide (n.op=38)||decide (n.op=61)||decide (n.op=62)||decide (n.op=56))=true:=by rw[e38];rfl
  rw[e];apply FX.callB2 ok84_ 1000 rfl rfl;((repeat((conv=>lhs;whnf);simp only[go_sem,simprocAttr,e38]));try rfl)
 by_cases e61:n.op=61
 ·have e:(decide (n.op=10)||decide (n.op=11)||decide (n.op=37)||decide (n.op=38)||decide (n.op=61)||decide (n.op=62)||decide (n.op=56))=true:=by rw[e61];rfl
  rw[e];apply FX.callB2 ok84_ 1000 rfl rfl;((repeat((conv=>lhs;whnf);simp only[go_sem,simprocAttr,e61]));try rfl)
 by_cases e62:n.op=62
 ·have e:(decide (n.op=10)||decide (n.op=11)||decide (n.op=37)||decide (n.op=38)||decide (n.op=61)||decide (n.op=62)||decide (n.op=56))=true:=by rw[e62];rfl
  rw[e];apply FX.callB2 ok84_ 1000 rfl rfl;((repeat((conv=>lhs;whnf);simp only[go_sem,simprocAttr,e62]));try rfl)
 by_cases e56:n.op=56
 ·have e:(decide (n.op=10)||decide (n.op=11)||decide (n.op=37)||decide (n.op=38)||decide (n.op=61)||decide (n.op=62)||decide (n.op=56))=true:=by rw[e56];rfl
  rw[e];apply FX.callB2 ok84_ 1000 rfl rfl;((repeat((conv=>lhs;whnf);simp only[go_sem,simprocAttr,e56]));try rfl)
 simp only[e10,e11,e37,e38,e61,e62,e56,decide_false,sQ];apply FX.callB2 ok84_ 1000 rfl rfl;((repeat((conv=>lhs;whnf);simp only[go_sem,simprocAttr,e10,e11,e37,e38,e61,e62,e56]));try rfl)
theorem vl (S:zB) (n:Node):zO (callL Tryz.prog zE) S 84 [.agg n.cells]=some {v:=.bool (yO n.op)} := uV S (zEN n)
noncomputable def zO2:FX:=⟨Tryz.f46,zE.of 46,[]⟩
instance ok46_:zO2.ok 46:=FX.mk'
theorem zBv (n:Node) (hn:n.ok) (ih : ∀k∈n.kids,callL Tryz.prog zE 46 [.agg k.cells]=some (.bool (k.has yO))) : ∀(m i:Nat),i+m=n.kids.length →
  ∃S',zT 0 zO2 0 116 1 [.blk 0,.seq 0 15] [(1,.mp 0 0 0),(3,.int .i64 i)] [.arr [n.cells] none false]=some (.bool (Node.hass yO (n.kids.drop i)),S'):=by
 intro m
 induction m with
 | zero =>
  intro i hi;have h1 : ¬(i:Int)<(n.kids.length:Int):=by omega
  rw[bW (by omega)];apply Exists.intro;apply zC;(repeat((conv=>lhs;whnf);simp only[go_sem,simprocAttr,h1]));apply zN;unfold Node.hass;((repeat((conv=>lhs;whnf);simp only[go_sem,simprocAttr]));try rfl)
 | succ m hm =>
  intro i hi;have h1:(i:Int)<(n.kids.length:Int):=by omega
  have h2:=zh (i:=i) (n:=n.kids.length) (by omega) hn.len;have h4:0≤(i:Int)∧(i:Int)<(n.kids.length:Int):=⟨by omega,h1⟩;have h5:=fun S=>uV S (ih _ (zu (l:=n.kids) (i:=i) (by omega)));obtain⟨S',key⟩:=hm (i+1) (by omega);have h7:Node.hass yO (n.kids.drop i)=((n.kids.getD i nd0).has yO||Node.hass yO (n.kids.drop (i+1))):=by rw[xP (l:=n.kids) (i:=i) (by omega)];rfl
  rw[h7]
  cases hd:(n.kids.getD i nd0).has yO
  case true =>
   rw[hd]at h5;rw[pI];apply Exists.intro;apply zC;((repeat((conv=>lhs;whnf);simp only[go_sem,simprocAttr,h1,h2,h4,h5]));try rfl)
  case false =>
   rw[hd]at h5;rw[bZ];refine⟨S',?_⟩;apply zC;(repeat((conv=>lhs;whnf);simp only[go_sem,simprocAttr,h1,h2,h4,h5]));exact key
theorem zBw : ∀n:Node,n.ok→callL Tryz.prog zE 46 [.agg n.cells]=some (.bool (n.has yO)):=by
 refine Node.ind' fun n ih hn=>?_;obtain⟨S',h⟩:=zBv n hn (fun k hk'=>ih k hk' (hn.kids k hk')) n.kids.length 0 (by omega);rw[pA]at h;rw[Node.has_eq]
 cases e:yO n.op
 ·rw[bZ];apply FX.callB2 ok46_ 1000 rfl rfl;(repeat((conv=>lhs;whnf);simp only[go_sem,simprocAttr,vl,e]));exact h
 ·rw[pI];apply FX.callB2 ok46_ 1000 rfl rfl;((repeat((conv=>lhs;whnf);simp only[go_sem,simprocAttr,vl,e]));try rfl)
theorem X5 (S:zB) (n:Node) (h:n.ok):zO (callL Tryz.prog zE) S 46 [.agg n.cells]=some {v:=.bool (n.has yO)} := uV S (zBw n h)
noncomputable def zO3:FX:=⟨Tryz.f45,zE.of 45,[]⟩
instance ok45_:zO3.ok 45:=FX.mk'
theorem zG8 (n:Node) (hn:n.ok) (ih : ∀k∈n.kids,callL Tryz.prog zE 45 [.agg k.cells]=some (.bool (k.has yN))) : ∀(m i:Nat),i+m=n.kids.length →
  ∃S',zT 0 zO3 0 116 1 [.blk 0,.seq 0 15] [(1,.mp 0 0 0),(3,.int .i64 i)] [.arr [n.cells] none false]=some (.bool (Node.hass yN (n.kids.drop i)),S'):=by
 intro m
 induction m with
 | zero =>
  intro i hi;have h1 : ¬(i:Int)<(n.kids.length:Int):=by omega
  rw[bW (by omega)];apply Exists.intro;apply zC;(repeat((conv=>lhs;whnf);simp only[go_sem,simprocAttr,h1]));apply zN;unfold Node.hass;((repeat((conv=>lhs;whnf);simp only[go_sem,simprocAttr]));try rfl)
 | succ m hm =>
  intro i hi;have h1:(i:Int)<(n.kids.length:Int):=by omega
  have h2:=zh (i:=i) (n:=n.kids.length) (by omega) hn.len;have h4:0≤(i:Int)∧(i:Int)<(n.kids.length:Int):=⟨by omega,h1⟩;have h5:=fun S=>uV S (ih _ (zu (l:=n.kids) (i:=i) (by omega)));obtain⟨S',key⟩:=hm (i+1) (by omega);have h7:Node.hass yN (n.kids.drop i)=((n.kids.getD i nd0).has yN||Node.hass yN (n.kids.drop (i+1))):=by rw[xP (l:=n.kids) (i:=i) (by omega)];rfl
  rw[h7]
  cases hd:(n.kids.getD i nd0).has yN
  case true =>
   rw[hd]at h5;rw[pI];apply Exists.intro;apply zC;((repeat((conv=>lhs;whnf);simp only[go_sem,simprocAttr,h1,h2,h4,h5]));try rfl)
  case false =>
   rw[hd]at h5;rw[bZ];refine⟨S',?_⟩;apply zC;(repeat((conv=>lhs;whnf);simp only[go_sem,simprocAttr,h1,h2,h4,h5]));exact key
theorem zG9 : ∀n:Node,n.ok→callL Tryz.prog zE 45 [.agg n.cells]=some (.bool (n.has yN)):=by
 refine Node.ind' fun n ih hn=>?_;obtain⟨S',h⟩:=zG8 n hn (fun k hk'=>ih k hk' (hn.kids k hk')) n.kids.length 0 (by omega);rw[pA]at h;rw[Node.has_eq];by_cases e33:n.op=33
 ·have e:yN n.op=true:=by rw[e33];rfl
  rw[e,pI];apply FX.callB2 ok45_ 1000 rfl rfl;((repeat((conv=>lhs;whnf);simp only[go_sem,simprocAttr,e33]));try rfl)
 by_cases e34:n.op=34
 ·have e:yN n.op=true:=by rw[e34];rfl
  rw[e,pI];apply FX.callB2 ok45_ 1000 rfl rfl;((repeat((conv=>lhs;whnf);simp only[go_sem,simprocAttr,e34]));try rfl)
 by_cases e35:n.op=35
 ·have e:yN n.op=true:=by rw[e35];rfl
  rw[e,pI];apply FX.callB2 ok45_ 1000 rfl rfl;((repeat((conv=>lhs;whnf);simp only[go_sem,simprocAttr,e35]));try rfl)
 by_cases e36:n.op=36
 ·have e:yN n.op=true:=by rw[e36];rfl
  rw[e,pI];apply FX.callB2 ok45_ 1000 rfl rfl;((repeat((conv=>lhs;whnf);simp only[go_sem,simprocAttr,e36]));try rfl)
 by_cases e39:n.op=39
 ·have e:yN n.op=true:=by rw[e39];rfl
  rw[e,pI];apply FX.callB2 ok45_ 1000 rfl rfl;((repeat((conv=>lhs;whnf);simp only[go_sem,simprocAttr,e39]));try rfl)
 have e:yN n.op=false:=by simp only[yN,e33,e34,e35,e36,e39,decide_false,sQ]
 rw[e,bZ];apply FX.callB2 ok45_ 1000 rfl rfl;(repeat((conv=>lhs;whnf);simp only[go_sem,simprocAttr,e33,e34,e35,e36,e39]));exact h
theorem ZL (S:zB) (n:Node) (h:n.ok):zO (callL Tryz.prog zE) S 45 [.agg n.cells]=some {v:=.bool (n.has yN)} := uV S (zG9 n h)
noncomputable def zO4:FX:=⟨Tryz.f47,zE.of 47,[]⟩
instance ok47_:zO4.ok 47:=FX.mk'
theorem zEO (n:Node) (hn:n.ok) (q:Int) (ih : ∀k∈n.kids,callL Tryz.prog zE 47 [.agg k.cells,.int .i64 q]=some (.bool (k.has (xD q)))) : ∀(m i:Nat),i+m=n.kids.length →
  ∃S',zT 0 zO4 0 116 1 [.blk 0,.seq 0 15] [(1,.int .i64 q),(2,.mp 0 0 0),(5,.int .i64 i)] [.arr [n.cells] none false]=some (.bool (Node.hass (xD q) (n.kids.drop i)),S'):=by
 intro m
 induction m with
 | zero =>
  intro i hi;have h1 : ¬(i:Int)<(n.kids.length:Int):=by omega
  rw[bW (by omega)];apply Exists.intro;apply zC;(repeat((conv=>lhs;whnf);simp only[go_sem,simprocAttr,h1]));apply zN;unfold Node.hass;((repeat((conv=>lhs;whnf);simp only[go_sem,simprocAttr]));try rfl)
 | succ m hm =>
  intro i hi;have h1:(i:Int)<(n.kids.length:Int):=by omega
  have h2:=zh (i:=i) (n:=n.kids.length) (by omega) hn.len;have h4:0≤(i:Int)∧(i:Int)<(n.kids.length:Int):=⟨by omega,h1⟩;have h5:=fun S=>zF (S:=S) (ih _ (zu (l:=n.kids) (i:=i) (by omega))) (by simp[Node.plain,zi.int]);obtain⟨S',key⟩:=hm (i+1) (by omega);have h7:Node.hass (xD q) (n.kids.drop i)=((n.kids.getD i nd0).has (xD q)||Node.hass (xD q) (n.kids.drop (i+1))):=by rw[xP (l:=n.kids) (i:=i) (by omega)];rfl
  rw[h7]
  cases hd:(n.kids.getD i nd0).has (xD q)
  case true =>
   rw[hd]at h5;rw[pI];apply Exists.intro;apply zC;((repeat((conv=>lhs;whnf);simp only[go_sem,simprocAttr,h1,h2,h4,h5]));try rfl)
  case false =>
   rw[hd]at h5;rw[bZ];refine⟨S',?_⟩;apply zC;(repeat((conv=>lhs;whnf);simp only[go_sem,simprocAttr,h1,h2,h4,h5]));exact key
theorem zEP (q:Int) : ∀n:Node,n.ok→callL Tryz.prog zE 47 [.agg n.cells,.int .i64 q]=some (.bool (n.has (xD q))):=by
 refine Node.ind' fun n ih hn=>?_;obtain⟨S',h⟩:=zEO n hn q (fun k hk'=>ih k hk' (hn.kids k hk')) n.kids.length 0 (by omega);rw[pA]at h;rw[Node.has_eq];unfold xD at *;by_cases e:n.op=q
 ·rw[bG e,pI];apply FX.callB2 ok47_ 1000 rfl rfl;((repeat((conv=>lhs;whnf);simp only[go_sem,simprocAttr,e]));try rfl)
 ·rw[bH e,bZ];apply FX.callB2 ok47_ 1000 rfl rfl;(repeat((conv=>lhs;whnf);simp only[go_sem,simprocAttr,e]));exact h
theorem uJ (S:zB) (q:Int) (n:Node) (h:n.ok):zO (callL Tryz.prog zE) S 47 [.agg n.cells,.int .i64 q]=some {v:=.bool (n.has (xD q))} := zF (zEP q n h) (by simp[Node.plain,zi.int])
noncomputable def zAJ:FX:=⟨Tryz.f40,zE.of 40,[]⟩
instance ok40_:zAJ.ok 40:=FX.mk'
theorem zGa (n:Node) (ops:List Int) (hl:ops.length≤1000) : ∀(m i:Nat),i+m=ops.length →
  (xu (ops.drop i) n.op=true→∃S',zT 0 zAJ 0 52 1 [.blk 0,.seq 0 7] [(1,.sl (zD .i64 ops) false),(2,.mp 0 0 0),(9,.sl (zD .i64 ops) false),(10,.int .i64 ops.length),(11,.int .i64 i)] [.arr [n.cells] none false]=some (.bool true,S')) ∧
  (xu (ops.drop i) n.op=false→∀z,yD 0 zAJ 0 [.blk 0,.seq 0 7] [(1,.sl (zD .i64 ops) false),(2,.mp 0 0 0),(9,.undef),(10,.undef),(11,.undef),(12,.undef)] [.arr [n.cells] none false]=some z →
   zT 0 zAJ 0 52 1 [.blk 0,.seq 0 7] [(1,.sl (zD .i64 ops) false),(2,.mp 0 0 0),(9,.sl (zD .i64 ops) false),(10,.int .i64 ops.length),(11,.int .i64 i)] [.arr [n.cells] none false]=some z):=by
 intro m
 induction m with
 | zero =>
  intro i hi;have h1 : ¬(i:Int)<(ops.length:Int):=by omega
  rw[bW (by omega)];refine⟨fun h=>(by cases h),fun _ z hz=>?_⟩;apply zC;(repeat((conv=>lhs;whnf);simp only[go_sem,simprocAttr,h1]));exact hz
 | succ m hm =>
  intro i hi;have h1:(i:Int)<(ops.length:Int):=by omega
  have h2:=zh (i:=i) (n:=ops.length) (by omega) (by unfold maxLen;omega);have h4:0≤(i:Int)∧(i:Int)<(ops.length:Int):=⟨by omega,h1⟩;have e:ops.drop i=ops.getD i 0::ops.drop (i+1):=by
   rw[PM (by omega)];simp[bN,show i<ops.length by omega]
  obtain⟨k1,k2⟩:=hm (i+1) (by omega);rw[e];unfold xu at *;rw[BB];by_cases c:n.op=ops.getD i 0
  ·refine⟨fun _=>?_,fun h=>by simp[c]at h⟩;apply Exists.intro;apply zC;((repeat((conv=>lhs;whnf);simp only[go_sem,simprocAttr,h1,h4,X3,bD,c]));try rfl)
  ·rw[bH c,bZ];refine⟨fun h=>?_,fun h z hz=>?_⟩
   ·obtain⟨S',k⟩:=k1 h;refine⟨S',yv ok40_.good 1000 ?_⟩;(repeat((conv=>lhs;whnf);simp only[go_sem,simprocAttr,h1,h2,h4,X3,bD,c]));exact k
   ·apply zC;(repeat((conv=>lhs;whnf);simp only[go_sem,simprocAttr,h1,h2,h4,X3,bD,c]));exact k2 h z hz
theorem zJS (n:Node) (hn:n.ok) (ops:List Int) (ih : ∀k∈n.kids,callL Tryz.prog zE 40 [.agg k.cells,.sl (zD .i64 ops) false]=some (.bool (k.has (xu ops)))) : ∀(m i:Nat),i+m=n.kids.length →
  ∃S',zT 0 zAJ 2 116 1 [.blk 2,.seq 0 15] [(1,.sl (zD .i64 ops) false),(21,.sl (Node.rows n.kids) false),(22,.int .i64 n.kids.length),(23,.int .i64 i)] [.arr [n.cells] none false]=some (.bool (Node.hass (xu ops) (n.kids.drop i)),S'):=by
 intro m
 induction m with
 | zero =>
  intro i hi;have h1 : ¬(i:Int)<(n.kids.length:Int):=by omega
  rw[bW (by omega)];apply Exists.intro;apply zC;(repeat((conv=>lhs;whnf);simp only[go_sem,simprocAttr,h1]));apply zN;unfold Node.hass;((repeat((conv=>lhs;whnf);simp only[go_sem,simprocAttr]));try rfl)
 | succ m hm =>
  intro i hi;have h1:(i:Int)<(n.kids.length:Int):=by omega
  have h2:=zh (i:=i) (n:=n.kids.length) (by omega) hn.len;have h4:0≤(i:Int)∧(i:Int)<(n.kids.length:Int):=⟨by omega,h1⟩;have h5:=fun S=>zF (S:=S) (ih _ (zu (l:=n.kids) (i:=i) (by omega))) (by simp[Node.plain,zi.sl]);obtain⟨S',key⟩:=hm (i+1) (by omega);have h7:Node.hass (xu ops) (n.kids.drop i)=((n.kids.getD i nd0).has (xu ops)||Node.hass (xu ops) (n.kids.drop (i+1))):=by rw[xP (l:=n.kids) (i:=i) (by omega)];rfl
  rw[h7]
  cases hd:(n.kids.getD i nd0).has (xu ops)
  case true =>
   rw[hd]at h5;rw[pI];apply Exists.intro;apply zC;((repeat((conv=>lhs;whnf);simp only[go_sem,simprocAttr,h1,h2,h4,h5]));try rfl)
  case false =>
   rw[hd]at h5;rw[bZ];refine⟨S',?_⟩;apply zC;(repeat((conv=>lhs;whnf);simp only[go_sem,simprocAttr,h1,h2,h4,h5]));exact key
theorem zJT (ops:List Int) (hl:ops.length≤1000) : ∀n:Node,n.ok→callL Tryz.prog zE 40 [.agg n.cells,.sl (zD .i64 ops) false]=some (.bool (n.has (xu ops))):=by
 refine Node.ind' fun n ih hn=>?_;obtain⟨S',h⟩:=zJS n hn ops (fun k hk'=>ih k hk' (hn.kids k hk')) n.kids.length 0 (by omega);obtain⟨k1,k2⟩:=zGa n ops hl ops.length 0 (by omega);rw[pA]at h k1 k2;rw[Node.has_eq]
 cases e:xu ops n.op
 ·rw[bZ];have:zT 0 zAJ 0 52 1 [.blk 0,.seq 0 7] [(1,.sl (zD .i64 ops) false),(2,.mp 0 0 0),(9,.sl (zD .i64 ops) false),(10,.int .i64 ops.length),(11,.int .i64 (0:Nat))] [.arr [n.cells] none false]=some (.bool (Node.hass (xu ops) n.kids),S'):=by
   refine k2 e _ ?_;apply zN;(repeat((conv=>lhs;whnf);simp only[go_sem,simprocAttr]));exact h
  apply FX.callB2 ok40_ 1000 rfl rfl;(repeat((conv=>lhs;whnf);simp only[go_sem,simprocAttr]));exact this
 ·rw[pI];obtain⟨S2,k⟩:=k1 e;apply FX.callB2 ok40_ 1000 rfl rfl;(repeat((conv=>lhs;whnf);simp only[go_sem,simprocAttr]));exact k
end
end
section
theorem jl (a:Int):ue a a=0:=by simp[ue]
theorem YQ {a b:Int} (h : ¬a=b):ue a b=WR (decide (a<b)):=by
 unfold ue WR;by_cases c:a<b
 ·simp[c]
 ·have:b<a:=by omega
  simp[c,this]
theorem xi (x:Int):qk 0 x=x:=by simp[qk]
theorem qX {x:Int} (h:x≠0) (y:Int):qk x y=x:=by simp[qk,h]
theorem X6 (b:Bool):WR b≠0:=by cases b <;> simp[WR]
theorem ZX (b:Bool) (y:Int):qk (WR b) y=WR b:=qX (X6 b) y
theorem zAK {m n:Nat} (h:m<n) (hn:n≤maxLen):IntKind.i64.wrap ((m:Int)-1)=(m:Int)-1:=by
 have:=xZ;rw[bE];omega
theorem zAL {a b:List Node} {i:Nat} (ha:i<a.length) (hb:i<b.length):Node.cmps (a.drop i) (b.drop i)=qk ((a.getD i nd0).cmp (b.getD i nd0)) (Node.cmps (a.drop (i+1)) (b.drop (i+1))):=by
 rw[xP ha,xP hb];rfl
theorem JV:WR true = -1:=rfl
theorem JW:WR false=1:=rfl
section
attribute [local irreducible] Vs.callL Vs.callRL tyi zO zk zf zQ zW zZ zI zX zA zK zb zV zG zJ zU zs yL zr zL za Vs.gc zH
noncomputable def zPr:FX:=⟨Tryz.f125,zE.of 125,[]⟩
instance ok125_:zPr.ok 125:=FX.mk'
theorem zGb (b:Bool):callL Tryz.prog zE 125 [.bool b]=some (.int .i64 (WR b)):=by
 refine FX.callL (r:=(.int .i64 (WR b),[])) ok125_ 1000 rfl rfl ?_ rfl;cases b
 ·rw[JW];((repeat((conv=>lhs;whnf);simp only[go_sem,simprocAttr]));try rfl)
 ·rw[JV];((repeat((conv=>lhs;whnf);simp only[go_sem,simprocAttr]));try rfl)
theorem ZM (S:zB) (b:Bool):zO (callL Tryz.prog zE) S 125 [.bool b]=some {v:=.int .i64 (WR b)} := zF (zGb b) (by simp[zi.bool])
noncomputable def zPs:FX:=⟨Tryz.f127,zE.of 127,[]⟩
instance ok127_:zPs.ok 127:=FX.mk'
theorem zGc (a b:Int):callL Tryz.prog zE 127 [.int .i64 a,.int .i64 b]=some (.int .i64 (ue a b)):=by
 refine FX.callL (r:=(.int .i64 (ue a b),[])) ok127_ 1000 rfl rfl ?_ rfl;unfold ue;by_cases h1:a<b
 ·simp only[h1,if_true];((repeat((conv=>lhs;whnf);simp only[go_sem,simprocAttr,h1]));try rfl)
 ·by_cases h2:b<a
  ·simp only[h1,h2,if_true,if_false];((repeat((conv=>lhs;whnf);simp only[go_sem,simprocAttr,h1,h2]));try rfl)
  ·simp only[h1,h2,if_false];((repeat((conv=>lhs;whnf);simp only[go_sem,simprocAttr,h1,h2]));try rfl)
theorem qY (S:zB) (a b:Int):zO (callL Tryz.prog zE) S 127 [.int .i64 a,.int .i64 b]=some {v:=.int .i64 (ue a b)} := zF (zGc a b) (by simp[zi.int])
noncomputable def zL0:FX:=⟨Tryz.f126,zE.of 126,[]⟩
instance ok126_:zL0.ok 126:=FX.mk'
theorem zEQ (a b:List Int) (hl:a.length=b.length) (ha:a.length≤maxLen) : ∀m,m≤a.length →
  zT 0 zL0 0 116 0 [.blk 0,.seq 0 15] [(0,.sl (zD .u32 a) false),(1,.sl (zD .u32 b) false),(5,.int .i64 ((m:Int)-1))] []=some (.int .i64 (jK a b m),[]):=by
 intro m
 induction m with
 | zero =>
  intro hm;have h1 : ¬(0:Int)≤((0:Nat):Int)-1:=by omega
  apply zC;(repeat((conv=>lhs;whnf);simp only[go_sem,simprocAttr,h1]));apply zN;unfold jK;((repeat((conv=>lhs;whnf);simp only[go_sem,simprocAttr]));try rfl)
 | succ m ih =>
  intro hm;have e1:((m+1:Nat):Int)-1=(m:Int):=by omega
  have h1:(0:Int)≤(m:Int):=by omega
  have h2:(m:Int)<(a.length:Int):=by omega
  have h3:(m:Int)<(b.length:Int):=by omega
  have w:=zAK (m:=m) (n:=a.length) (by omega) ha;have key:=ih (by omega);rw[e1];apply zC;unfold jK;by_cases c:a.getD m 0=b.getD m 0
  ·rw[c,jl,xi];(repeat((conv=>lhs;whnf);simp only[go_sem,simprocAttr,h1,h2,h3,bD,c,w]));exact key
  ·rw[YQ c,ZX];((repeat((conv=>lhs;whnf);simp only[go_sem,simprocAttr,h1,h2,h3,bD,c,ZM]));try rfl)
theorem zER (a b:List Int) (ha:a.length≤maxLen) (hb:b.length≤maxLen):callL Tryz.prog zE 126 [.sl (zD .u32 a) false,.sl (zD .u32 b) false]=some (.int .i64 (wL a b)):=by
 refine FX.callL (r:=(.int .i64 (wL a b),[])) ok126_ 1000 rfl rfl ?_ rfl;unfold wL;by_cases hl:a.length=b.length
 ·have h1:(a.length:Int)=(b.length:Int):=by omega
  have h2:IntKind.i64.wrap ((b.length:Int)-1)=(b.length:Int)-1:=by
   have:=xZ;rw[bE];omega
  have h3:=zEQ a b hl ha a.length (bF _);rw[h1]at h3;rw[h1,jl,xi];(repeat((conv=>lhs;whnf);simp only[go_sem,simprocAttr,h1,h2]));exact h3
 ·have h1 : ¬(a.length:Int)=(b.length:Int):=by omega
  rw[YQ h1,ZX];((repeat((conv=>lhs;whnf);simp only[go_sem,simprocAttr,h1,ZM]));try rfl)
theorem zES (S:zB) (a b:List Int) (ha:a.length≤maxLen) (hb:b.length≤maxLen):zO (callL Tryz.prog zE) S 126 [.sl (zD .u32 a) false,.sl (zD .u32 b) false]=some {v:=.int .i64 (wL a b)} := zF (zER a b ha hb) (by simp[zi.sl])
noncomputable def zL1:FX:=⟨Tryz.f128,zE.of 128,[]⟩
instance ok128_:zL1.ok 128:=FX.mk'
theorem zET (a b:List Int) (hl:a.length=b.length) (ha:a.length≤maxLen) : ∀m,m≤a.length →
  zT 0 zL1 0 116 0 [.blk 0,.seq 0 15] [(0,.sl (zD .u32 a) false),(1,.sl (zD .u32 b) false),(5,.int .i64 ((m:Int)-1))] []=some (.int .i64 (jK a b m),[]):=by
 intro m
 induction m with
 | zero =>
  intro hm;have h1 : ¬(0:Int)≤((0:Nat):Int)-1:=by omega
  apply zC;(repeat((conv=>lhs;whnf);simp only[go_sem,simprocAttr,h1]));apply zN;unfold jK;((repeat((conv=>lhs;whnf);simp only[go_sem,simprocAttr]));try rfl)
 | succ m ih =>
  intro hm;have e1:((m+1:Nat):Int)-1=(m:Int):=by omega
  have h1:(0:Int)≤(m:Int):=by omega
  have h2:(m:Int)<(a.length:Int):=by omega
  have h3:(m:Int)<(b.length:Int):=by omega
  have w:=zAK (m:=m) (n:=a.length) (by omega) ha;have key:=ih (by omega);rw[e1];apply zC;unfold jK;by_cases c:a.getD m 0=b.getD m 0
  ·rw[c,jl,xi];(repeat((conv=>lhs;whnf);simp only[go_sem,simprocAttr,h1,h2,h3,bD,c,w]));exact key
  ·rw[YQ c,ZX];by_cases d:a.getD m 0<b.getD m 0
   ·rw[bG d,JV];((repeat((conv=>lhs;whnf);simp only[go_sem,simprocAttr,h1,h2,h3,bD,c,d]));try rfl)
   ·rw[bH d,JW];((repeat((conv=>lhs;whnf);simp only[go_sem,simprocAttr,h1,h2,h3,bD,c,d]));try rfl)
theorem zEU (a b:List Int) (ha:a.length≤maxLen) (hb:b.length≤maxLen):callL Tryz.prog zE 128 [.sl (zD .u32 a) false,.sl (zD .u32 b) false]=some (.int .i64 (wL a b)):=by
 refine FX.callL (r:=(.int .i64 (wL a b),[])) ok128_ 1000 rfl rfl ?_ rfl;unfold wL;by_cases hl:a.length=b.length
 ·have h1:(a.length:Int)=(b.length:Int):=by omega
  have h2:IntKind.i64.wrap ((b.length:Int)-1)=(b.length:Int)-1:=by
   have:=xZ;rw[bE];omega
  have h3:=zET a b hl ha a.length (bF _);rw[h1]at h3;rw[h1,jl,xi];(repeat((conv=>lhs;whnf);simp only[go_sem,simprocAttr,h1,h2]));exact h3
 ·have h1 : ¬(a.length:Int)=(b.length:Int):=by omega
  rw[YQ h1,ZX];by_cases d:(a.length:Int)<(b.length:Int)
  ·rw[bG d,JV];((repeat((conv=>lhs;whnf);simp only[go_sem,simprocAttr,h1,d]));try rfl)
  ·rw[bH d,JW];((repeat((conv=>lhs;whnf);simp only[go_sem,simprocAttr,h1,d]));try rfl)
theorem zEV (S:zB) (a b:List Int) (ha:a.length≤maxLen) (hb:b.length≤maxLen):zO (callL Tryz.prog zE) S 128 [.sl (zD .u32 a) false,.sl (zD .u32 b) false]=some {v:=.int .i64 (wL a b)} := zF (zEU a b ha hb) (by simp[zi.sl])
noncomputable def zO5:FX:=⟨Tryz.f80,zE.of 80,[]⟩
instance ok80_:zO5.ok 80:=FX.mk'
theorem zBx (a b:Node) (ha:a.ok) (hl:a.kids.length=b.kids.length) (ih : ∀k∈a.kids,∀m∈b.kids,callL Tryz.prog zE 80 [.agg k.cells,.agg m.cells]=some (.int .i64 (k.cmp m))) : ∀(m i:Nat),i+m=a.kids.length →
  zT 0 zO5 1 1012 2 [.blk 1,.seq 0 127] [(2,.mp 0 0 0),(3,.mp 1 0 0),(82,.int .i64 a.kids.length),(83,.int .i64 i)] [.arr [a.cells] none false,.arr [b.cells] none false] =
   some (.int .i64 (Node.cmps (a.kids.drop i) (b.kids.drop i)),[.arr [a.cells] none false,.arr [b.cells] none false]):=by
 intro m
 induction m with
 | zero =>
  intro i hi;have h1 : ¬(i:Int)<(a.kids.length:Int):=by omega
  rw[bW (l:=a.kids) (by omega)];apply zC;(repeat((conv=>lhs;whnf);simp only[go_sem,simprocAttr,h1]));apply zN;unfold Node.cmps;((repeat((conv=>lhs;whnf);simp only[go_sem,simprocAttr]));try rfl)
 | succ m hm =>
  intro i hi;have h1:(i:Int)<(a.kids.length:Int):=by omega
  have h1':(i:Int)<(b.kids.length:Int):=by omega
  have h2:=zh (i:=i) (n:=a.kids.length) (by omega) ha.len;have h4:(0:Int)≤(i:Int):=by omega
  have h5:=fun S=>WQ S (ih _ (zu (l:=a.kids) (i:=i) (by omega)) _ (zu (l:=b.kids) (i:=i) (by omega)));have key:=hm (i+1) (by omega);rw[zAL (a:=a.kids) (b:=b.kids) (i:=i) (by omega) (by omega)];apply zC;by_cases c:(a.kids.getD i nd0).cmp (b.kids.getD i nd0)=0
  ·rw[c]at h5;rw[c,xi];(repeat((conv=>lhs;whnf);simp only[go_sem,simprocAttr,h1,h1',h2,h4,h5]));exact key
  ·rw[qX c];((repeat((conv=>lhs;whnf);simp only[go_sem,simprocAttr,h1,h1',h2,h4,h5,c]));try rfl)
theorem VS : ∀a:Node,a.ok→∀b:Node,b.ok→callL Tryz.prog zE 80 [.agg a.cells,.agg b.cells]=some (.int .i64 (a.cmp b)):=by
 refine Node.ind' fun a ih ha b hb=>?_;refine FX.callL (r:=(.int .i64 (a.cmp b),[.arr [a.cells] none false,.arr [b.cells] none false])) ok80_ 1000 rfl rfl ?_ rfl;have hn:=fun S=>zES S a.num b.num ha.val.ln hb.val.ln;have hd:=fun S=>zES S a.den b.den ha.val.ld hb.val.ld;rw[Node.cmp_eq];by_cases c1:a.op=b.op
 case neg =>
  rw[YQ c1,ZX];((repeat((conv=>lhs;whnf);simp only[go_sem,simprocAttr,c1,ZM]));try rfl)
 rw[c1,jl,xi];unfold Vu
 cases c2:a.name.toList == b.name.toList
 ·have c2':a.name.toList≠b.name.toList:=by simpa using c2
  rw[bA c2',ZX];((repeat((conv=>lhs;whnf);simp only[go_sem,simprocAttr,c1,c2,ZM]));try rfl)
 have c2' : ¬a.name.toList≠b.name.toList:=by simpa using c2
 rw[hZ c2',xi];unfold Vv
 cases c3:a.neg == b.neg
 ·have c3':a.neg≠b.neg:=by simpa using c3
  rw[bA c3',ZX];((repeat((conv=>lhs;whnf);simp only[go_sem,simprocAttr,c1,c2,c3,ZM]));try rfl)
 have c3' : ¬a.neg≠b.neg:=by simpa using c3
 rw[hZ c3',xi];by_cases c4:wL a.num b.num=0
 case neg =>
  rw[qX c4];((repeat((conv=>lhs;whnf);simp only[go_sem,simprocAttr,c1,c2,c3,ZM,hn,c4]));try rfl)
 rw[c4,xi];by_cases c5:wL a.den b.den=0
 case neg =>
  rw[qX c5];((repeat((conv=>lhs;whnf);simp only[go_sem,simprocAttr,c1,c2,c3,ZM,hn,c4,hd,c5]));try rfl)
 rw[c5,xi];by_cases hl:a.kids.length=b.kids.length
 ·have h:=zBx a b ha hl (fun k hk m hm=>ih k hk (ha.kids k hk) m (hb.kids m hm)) a.kids.length 0 (by omega);simp only[pA]at h;have h1:(a.kids.length:Int)=(b.kids.length:Int):=by omega
  rw[h1]at h;rw[h1,jl,xi];(repeat((conv=>lhs;whnf);simp only[go_sem,simprocAttr,c1,c2,c3,hn,c4,hd,c5,h1]));exact h
 ·have h1 : ¬(a.kids.length:Int)=(b.kids.length:Int):=by omega
  rw[YQ h1,ZX];((repeat((conv=>lhs;whnf);simp only[go_sem,simprocAttr,c1,c2,c3,ZM,hn,c4,hd,c5,h1]));try rfl)
noncomputable def zO6:FX:=⟨Tryz.f85,zE.of 85,[]⟩
instance ok85_:zO6.ok 85:=FX.mk'
theorem QI (a b:Node) (ha:a.ok) (hl:a.kids.length=b.kids.length) (ih : ∀k∈a.kids,∀m∈b.kids,callL Tryz.prog zE 85 [.agg k.cells,.agg m.cells]=some (.int .i64 (k.cmp m))) : ∀(m i:Nat),i+m=a.kids.length →
  zT 0 zO6 0 4084 2 [.blk 0,.seq 0 511] [(2,.mp 0 0 0),(3,.mp 1 0 0),(9,.int .i64 i)] [.arr [a.cells] none false,.arr [b.cells] none false] =
   some (.int .i64 (Node.cmps (a.kids.drop i) (b.kids.drop i)),[.arr [a.cells] none false,.arr [b.cells] none false]):=by
 intro m
 induction m with
 | zero =>
  intro i hi;have h1 : ¬(i:Int)<(a.kids.length:Int):=by omega
  rw[bW (l:=a.kids) (by omega)];apply zC;(repeat((conv=>lhs;whnf);simp only[go_sem,simprocAttr,h1]));apply zN;unfold Node.cmps;((repeat((conv=>lhs;whnf);simp only[go_sem,simprocAttr]));try rfl)
 | succ m hm =>
  intro i hi;have h1:(i:Int)<(a.kids.length:Int):=by omega
  have h1':(i:Int)<(b.kids.length:Int):=by omega
  have h2:=zh (i:=i) (n:=a.kids.length) (by omega) ha.len;have h4:(0:Int)≤(i:Int):=by omega
  have h5:=fun S=>WQ S (ih _ (zu (l:=a.kids) (i:=i) (by omega)) _ (zu (l:=b.kids) (i:=i) (by omega)));have key:=hm (i+1) (by omega);rw[zAL (a:=a.kids) (b:=b.kids) (i:=i) (by omega) (by omega)];apply zC;by_cases c:(a.kids.getD i nd0).cmp (b.kids.getD i nd0)=0
  ·rw[c]at h5;rw[c,xi];(repeat((conv=>lhs;whnf);simp only[go_sem,simprocAttr,h1,h1',h2,h4,h5]));exact key
  ·rw[qX c];((repeat((conv=>lhs;whnf);simp only[go_sem,simprocAttr,h1,h1',h2,h4,h5,c]));try rfl)
theorem QJ : ∀a:Node,a.ok→∀b:Node,b.ok→callL Tryz.prog zE 85 [.agg a.cells,.agg b.cells]=some (.int .i64 (a.cmp b)):=by
 refine Node.ind' fun a ih ha b hb=>?_;refine FX.callL (r:=(.int .i64 (a.cmp b),[.arr [a.cells] none false,.arr [b.cells] none false])) ok85_ 1000 rfl rfl ?_ rfl;have hn:=fun S=>zEV S a.num b.num ha.val.ln hb.val.ln;have hd:=fun S=>zEV S a.den b.den ha.val.ld hb.val.ld;have z0 : ¬(WR true=0):=X6 true;have z1 : ¬(WR false=0):=X6 false;rw[Node.cmp_eq];by_cases c1:ue a.op b.op=0
 case neg =>
  rw[qX c1];((repeat((conv=>lhs;whnf);simp only[go_sem,simprocAttr,c1,qY]));try rfl)
 rw[c1,xi];unfold Vu
 cases c2:a.name.toList == b.name.toList
 ·have c2':a.name.toList≠b.name.toList:=by simpa using c2
  rw[bA c2',ZX]
  cases d:Op.bytesLess a.name.toList b.name.toList
  ·rw[JW];((repeat((conv=>lhs;whnf);simp only[go_sem,simprocAttr,c1,qY,c2,d]));try rfl)
  ·rw[JV];((repeat((conv=>lhs;whnf);simp only[go_sem,simprocAttr,c1,qY,c2,d]));try rfl)
 have c2' : ¬a.name.toList≠b.name.toList:=by simpa using c2
 rw[hZ c2',xi];unfold Vv
 cases c3:a.neg == b.neg
 ·have c3':a.neg≠b.neg:=by simpa using c3
  rw[bA c3',ZX]
  cases da:a.neg <;> cases d:b.neg
  ·exact absurd (by rw[da,d]) c3'
  ·rw[da,d]at c3;rw[JV];((repeat((conv=>lhs;whnf);simp only[go_sem,simprocAttr,c1,qY,c2,da,d,c3]));try rfl)
  ·rw[da,d]at c3;rw[JW];((repeat((conv=>lhs;whnf);simp only[go_sem,simprocAttr,c1,qY,c2,da,d,c3]));try rfl)
  ·exact absurd (by rw[da,d]) c3'
 have c3' : ¬a.neg≠b.neg:=by simpa using c3
 rw[hZ c3',xi];by_cases c4:wL a.num b.num=0
 case neg =>
  rw[qX c4];((repeat((conv=>lhs;whnf);simp only[go_sem,simprocAttr,c1,qY,c2,c3,hn,c4]));try rfl)
 rw[c4,xi];by_cases c5:wL a.den b.den=0
 case neg =>
  rw[qX c5];((repeat((conv=>lhs;whnf);simp only[go_sem,simprocAttr,c1,qY,c2,c3,hn,c4,hd,c5]));try rfl)
 rw[c5,xi];by_cases hl:a.kids.length=b.kids.length
 ·have h:=QI a b ha hl (fun k hk m hm=>ih k hk (ha.kids k hk) m (hb.kids m hm)) a.kids.length 0 (by omega);simp only[pA]at h;have h1:(a.kids.length:Int)=(b.kids.length:Int):=by omega
  have h2:ue (a.kids.length:Int) (b.kids.length:Int)=0:=by rw[h1,jl]
  rw[h2,xi];(repeat((conv=>lhs;whnf);simp only[go_sem,simprocAttr,c1,qY,c2,c3,hn,c4,hd,c5,h2]));exact h
 ·have h1 : ¬(a.kids.length:Int)=(b.kids.length:Int):=by omega
  have h2 : ¬ue (a.kids.length:Int) (b.kids.length:Int)=0:=by rw[YQ h1];exact X6 _
  rw[qX h2];((repeat((conv=>lhs;whnf);simp only[go_sem,simprocAttr,c1,qY,c2,c3,hn,c4,hd,c5,h2]));try rfl)
noncomputable def zSa:FX:=⟨Tryz.f39,zE.of 39,[]⟩
instance ok39_:zSa.ok 39:=FX.mk'
theorem zEW (a b:Node) (ha:a.ok) (hb:b.ok):callL Tryz.prog zE 39 [.agg a.cells,.agg b.cells]=some (.bool (decide (a.cmp b=0))):=by
 refine FX.callL (r:=(.bool (decide (a.cmp b=0)),[.arr [a.cells] none false,.arr [b.cells] none false])) ok39_ 1000 rfl rfl ?_ rfl;have h:=fun S=>WQ S (VS a ha b hb);((repeat((conv=>lhs;whnf);simp only[go_sem,simprocAttr,h]));try rfl)
theorem jQ (S:zB) (a b:Node) (ha:a.ok) (hb:b.ok):zO (callL Tryz.prog zE) S 39 [.agg a.cells,.agg b.cells]=some {v:=.bool (decide (a.cmp b=0))} := WQ S (zEW a b ha hb)
noncomputable def zSb:FX:=⟨Tryz.f43,zE.of 43,[]⟩
instance ok43_:zSb.ok 43:=FX.mk'
theorem U1 (a b:Node) (ha:a.ok) (hb:b.ok):callL Tryz.prog zE 43 [.agg a.cells,.agg b.cells]=some (.bool (decide (a.cmp b=0))):=by
 refine FX.callL (r:=(.bool (decide (a.cmp b=0)),[.arr [a.cells] none false,.arr [b.cells] none false])) ok43_ 1000 rfl rfl ?_ rfl;have h:=fun S=>WQ S (QJ a ha b hb);((repeat((conv=>lhs;whnf);simp only[go_sem,simprocAttr,h]));try rfl)
theorem zEX (S:zB) (a b:Node) (ha:a.ok) (hb:b.ok):zO (callL Tryz.prog zE) S 43 [.agg a.cells,.agg b.cells]=some {v:=.bool (decide (a.cmp b=0))} := WQ S (U1 a b ha hb)
end
end
end Go.Vs
