
import Derived.Test.YtkaeejkajfinhaaGreatMV17
import Derived.Test.YtkaeejkajfinhaaGreatMV19
set_option linter.unusedVariables false
set_option linter.unusedSimpArgs false
set_option maxRecDepth 100000
namespace Go.Vs
open Go Go.Proofs
section
theorem zB7 (n:Node):(n.within 4000 60).1=n.small:=by
 have hw:=Kf n 4000 60 (by omega) (by omega)
 cases h:(n.within 4000 60).1
 ·have:=hw.1;rw[h]at this
  cases h2:n.small
  ·rfl
  ·exfalso
   simp only[Node.small,bO,pA]at h2;have:=this.2 (by omega);cases this
 ·have:=hw.1.1 h;simp only[Node.small];rw[bG (show n.count≤4000 by omega),bG (show n.depth≤60 by omega)];rfl
theorem Kt:zV Tryz.prog 112 []=some (.agg [.bool false,.bool false,.bool false]):=by
 unfold zV;rw[YQ];dsimp only;unfold zb;rw[YQ,zKq];rfl
section
attribute [local irreducible] Vs.callL Vs.callRL tyi zO zl zf zR zW za zI zY zA zK zb zV zG zJ zU zn yI zm zL ze Vs.gc zH
noncomputable def zRa:FX:=⟨Tryz.f37,zE.of 37,[]⟩
instance ok37_:zRa.ok 37:=FX.mk'
theorem zDr (n:Node) (hn:n.ok) (sort:Int):callL Tryz.prog zE 37 [.agg n.cells,.int .i64 sort]=some (.int .i64 (n.check sort)):=by
 obtain⟨G,hG⟩:=zDe n hn 60 4000 (by omega) (by omega) [n.cells] (yZ n) [] .nil;have hc:=wC (by kernel_rfl) hG (by simp[jo]) (Wr (yZ n) rfl .nil).closed (by simp[wU,yQ,yt,kr,Node.refs,vM,kq,jo]);rw[zB7]at hc;unfold wSt st2 at hc;rw[pG]at hc;unfold Node.check;by_cases h1:sort<1
 ·rw[bA (.inl h1)];apply FX.callV ok37_ 1000 rfl rfl
  ·((repeat((conv=>lhs;whnf);simp only[go_sem,simprocAttr,h1]));try rfl)
  ·rfl
 by_cases h2:3<sort
 ·rw[bA (.inr h2)];apply FX.callV ok37_ 1000 rfl rfl
  ·((repeat((conv=>lhs;whnf);simp only[go_sem,simprocAttr,h1,h2]));try rfl)
  ·rfl
 rw[hZ (by omega)]
 cases hsm:n.small
 ·rw[hsm]at hc;rw[bA rfl];apply FX.callV ok37_ 1000 rfl rfl
  ·((repeat((conv=>lhs;whnf);simp only[go_sem,simprocAttr,h1,h2,XL,jd,hc]));try rfl)
  ·rfl
 ·rw[hsm]at hc;have hcount:n.count≤4000:=by
   simp only[Node.small,bO,pA]at hsm;exact hsm.1
  have hf:=fun S=>Km S (zDq n hn (by omega) false false false);rw[hZ (by simp)];by_cases h3:zu n.op=sort
  ·rw[hZ (by simpa using h3)]
   cases hfm:n.formed false false false
   ·rw[hfm]at hf;rw[bA rfl];apply FX.callV ok37_ 1000 rfl rfl
    ·((repeat((conv=>lhs;whnf);simp only[go_sem,simprocAttr,h1,h2,XL,jd,hc,Vb,h3,hf,Kt]));try rfl)
    ·rfl
   ·rw[hfm]at hf;rw[hZ (by simp)];apply FX.callV ok37_ 1000 rfl rfl
    ·((repeat((conv=>lhs;whnf);simp only[go_sem,simprocAttr,h1,h2,XL,jd,hc,Vb,h3,hf,Kt]));try rfl)
    ·rfl
  ·rw[bA h3];apply FX.callV ok37_ 1000 rfl rfl
   ·((repeat((conv=>lhs;whnf);simp only[go_sem,simprocAttr,h1,h2,XL,jd,hc,Vb,h3]));try rfl)
   ·rfl
theorem jG (S:zB) (n:Node) (hn:n.ok) (sort:Int):zO (callL Tryz.prog zE) S 37 [.agg n.cells,.int .i64 sort]=some {v:=.int .i64 (n.check sort)} := zF (zDr n hn sort) (by simp[Node.plain,zh.int])
end
end
section
def Node.wellRest (n:Node) (t f:Bool):Bool := !((t&&decide (n.op=12))||((t||f)&&decide (n.op=3)))&&(if n.op=54 then jn n t f else n.wellKids t f)
theorem zIr (n:Node) (s:Int) (t f:Bool):n.well s t f=((decide (zu n.op=s)&&(decide (ya n.op=yP n.name)&&(ya n.op||yd n.name)))&&((if n.op=1 then vh n.neg n.num n.den else (!n.neg&&(decide (n.num.length=0)&&decide (n.den.length=0))))&&n.wellRest t f)):=by
 rw[Node.well_eq];rfl
section
attribute [local irreducible] Vs.callL Vs.callRL tyi zO zl zf zR zW za zI zY zA zK zb zV zG zJ zU zn yI zm zL ze Vs.gc zH
theorem jH (n:Node) (hn:n.ok) (t f:Bool) (s:List Int) (hd : ∀d∈s,0≤d∧d≤100) (ih:Ze n) (h2:n.op=8∨n.op=9→s.length=2) (h3:n.op=39→s.length=1) (hl:s.length=n.kids.length) :
  ∃S',zS 0 zH1 0 8180 1 [.blk 0,.seq 0 1023] [(2,.bool t),(3,.bool f),(4,.mp 0 0 0),(9,.str (uB s)),(10,.int .i64 0)] [.arr [n.cells] none false]=some (.bool (Node.wells n.kids s (t||decide (n.op=12)) (f||decide (n.op=39))&&xK n.op n.kids),S') :=
 zIq n hn t f s hl hd ih (fun h=>by rw[←hl];exact h2 h) (fun h=>by rw[←hl];exact h3 h) n.kids.length 0 (by omega)
theorem zGN (n:Node) (hn:n.ok) (s:Int) (t f:Bool) (ih:Ze n) (hs:zu n.op=s) (hneg:n.neg=false) (hnum : ¬ 0<(n.num.length:Int)) (hden : ¬ 0<(n.den.length:Int)) (hh:ya n.op=true) (hm:yP n.name=true) (h1 : ¬n.op=1) (h3 : ¬n.op=3) (h12 : ¬n.op=12) (h54 : ¬n.op=54) (h10 : ¬n.op=10) (h37 : ¬n.op=37):callL Tryz.prog zE 87 [.agg n.cells,.int .i64 s,.bool t,.bool f]=some (.bool (n.wellRest t f)):=by
 have e:n.wellRest t f=(decide ((zP n.op).length=n.kids.length)&&(Node.wells n.kids (zP n.op) (t||decide (n.op=12)) (f||decide (n.op=39))&&xK n.op n.kids)):=by
  have es:yi n.op n.kids.length=zP n.op:=by simp[yi,h10,h37]
  simp only[Node.wellRest,Node.wellKids,es,hZ h54,h12,h3,decide_false,bQ,sO,bJ,bC]
 rw[e];clear e;by_cases hl:(zP n.op).length=n.kids.length
 ·have hq:((zP n.op).length:Int)=(n.kids.length:Int):=by omega
  obtain⟨S',k⟩:=jH n hn t f (zP n.op) (Ym _) ih (fun ho=>by rcases ho with ho | ho <;> rw[ho] <;> rfl) (fun ho=>by rw[ho];rfl) hl;rw[bG hl,bC];generalize (Node.wells n.kids (zP n.op) (t||decide (n.op=12)) (f||decide (n.op=39))&&xK n.op n.kids)=R at k ⊢
  cases t <;> cases f <;> (apply FX.callB2 ok87_ 1000 rfl rfl;(repeat((conv=>lhs;whnf);simp only[go_sem,simprocAttr,yS,yT,yK,xc,yJ,hh,hm,hs,h1,h3,h12,h54,h10,h37,hl,hq,hneg,hnum,hden]));exact k)
 ·have hq : ¬((zP n.op).length:Int)=(n.kids.length:Int):=by omega
  rw[bH hl,bB]
  cases t <;> cases f <;> (apply FX.callB2 ok87_ 1000 rfl rfl;((repeat((conv=>lhs;whnf);simp only[go_sem,simprocAttr,yS,yT,yK,xc,yJ,hh,hm,hs,h1,h3,h12,h54,h10,h37,hl,hq,hneg,hnum,hden]));try rfl))
theorem zIs (n:Node) (hn:n.ok) (s:Int) (t f:Bool) (ih:Ze n) (hs:zu n.op=s) (hneg:n.neg=false) (hnum : ¬ 0<(n.num.length:Int)) (hden : ¬ 0<(n.den.length:Int)) (hh:ya n.op=false) (hm:yP n.name=false) (hq0:yd n.name=true) (h1 : ¬n.op=1) (h3 : ¬n.op=3) (h12 : ¬n.op=12) (h54 : ¬n.op=54) (h10 : ¬n.op=10) (h37 : ¬n.op=37):callL Tryz.prog zE 87 [.agg n.cells,.int .i64 s,.bool t,.bool f]=some (.bool (n.wellRest t f)):=by
 have e:n.wellRest t f=(decide ((zP n.op).length=n.kids.length)&&(Node.wells n.kids (zP n.op) (t||decide (n.op=12)) (f||decide (n.op=39))&&xK n.op n.kids)):=by
  have es:yi n.op n.kids.length=zP n.op:=by simp[yi,h10,h37]
  simp only[Node.wellRest,Node.wellKids,es,hZ h54,h12,h3,decide_false,bQ,sO,bJ,bC]
 rw[e];clear e;unfold yd at hq0;by_cases hl:(zP n.op).length=n.kids.length
 ·have hq:((zP n.op).length:Int)=(n.kids.length:Int):=by omega
  obtain⟨S',k⟩:=jH n hn t f (zP n.op) (Ym _) ih (fun ho=>by rcases ho with ho | ho <;> rw[ho] <;> rfl) (fun ho=>by rw[ho];rfl) hl;rw[bG hl,bC];generalize (Node.wells n.kids (zP n.op) (t||decide (n.op=12)) (f||decide (n.op=39))&&xK n.op n.kids)=R at k ⊢
  cases t <;> cases f <;> (apply FX.callB2 ok87_ 1000 rfl rfl;(repeat((conv=>lhs;whnf);simp only[go_sem,simprocAttr,yS,yT,yK,xc,yJ,hh,hm,hq0,hs,h1,h3,h12,h54,h10,h37,hl,hq,hneg,hnum,hden]));exact k)
 ·have hq : ¬((zP n.op).length:Int)=(n.kids.length:Int):=by omega
  rw[bH hl,bB]
  cases t <;> cases f <;> (apply FX.callB2 ok87_ 1000 rfl rfl;((repeat((conv=>lhs;whnf);simp only[go_sem,simprocAttr,yS,yT,yK,xc,yJ,hh,hm,hq0,hs,h1,h3,h12,h54,h10,h37,hl,hq,hneg,hnum,hden]));try rfl))
theorem zKv (n:Node) (hn:n.ok) (s:Int) (t f:Bool) (ih:Ze n) (hs:zu n.op=s) (hnat:vh n.neg n.num n.den=true) (hm:yP n.name=false) (hq0:yd n.name=true) (h:n.op=1):callL Tryz.prog zE 87 [.agg n.cells,.int .i64 s,.bool t,.bool f]=some (.bool (n.wellRest t f)):=by
 have hh:ya 1=false:=rfl;have hk:zP 1=[]:=rfl;have hso:zu 1=s:=by rw[←h];exact hs
 have es:yi n.op n.kids.length=[]:=by rw[h];simp[yi];try rfl
 have cn:=fun S=>Ki S n hn;rw[hnat]at cn;unfold yd at hq0;have e:n.wellRest t f=(true&&(decide (([]:List Int).length=n.kids.length)&&(Node.wells n.kids [] (t||decide (n.op=12)) (f||decide (n.op=39))&&xK n.op n.kids))):=by
  unfold Node.wellRest Node.wellKids;rw[es,h];simp
 rw[e];clear e;have k7:=jH n hn t f [] (by simp) ih (fun ho=>by omega) (fun ho=>by omega);rw[h]at k7 ⊢;by_cases hl:([]:List Int).length=n.kids.length
 ·have hl':n.kids.length=0:=by simpa using hl.symm
  have hq:(n.kids.length:Int)=0:=by omega
  obtain⟨S',k⟩:=k7 hl;rw[bG hl,bC];clear k7;generalize (Node.wells n.kids [] (t||decide ((1:Int)=12)) (f||decide ((1:Int)=39))&&xK 1 n.kids)=R at k ⊢
  cases t <;> cases f
  ·apply FX.callB2 ok87_ 1000 rfl rfl;(repeat((conv=>lhs;whnf);simp only[go_sem,simprocAttr,yS,yT,yK,xc,yJ,hm,hq0,h,hh,hk,hso,hl',hq,Int.reduceEq,bU,bK,cn]));exact k
  ·apply FX.callB2 ok87_ 1000 rfl rfl;(repeat((conv=>lhs;whnf);simp only[go_sem,simprocAttr,yS,yT,yK,xc,yJ,hm,hq0,h,hh,hk,hso,hl',hq,Int.reduceEq,bU,bK,cn]));exact k
  ·apply FX.callB2 ok87_ 1000 rfl rfl;(repeat((conv=>lhs;whnf);simp only[go_sem,simprocAttr,yS,yT,yK,xc,yJ,hm,hq0,h,hh,hk,hso,hl',hq,Int.reduceEq,bU,bK,cn]));exact k
  ·apply FX.callB2 ok87_ 1000 rfl rfl;(repeat((conv=>lhs;whnf);simp only[go_sem,simprocAttr,yS,yT,yK,xc,yJ,hm,hq0,h,hh,hk,hso,hl',hq,Int.reduceEq,bU,bK,cn]));exact k
 ·have hr : ¬((0:Nat):Int)=(n.kids.length:Int):=by intro x;apply hl;simp only[bU,bK];omega
  have hq : ¬(0:Int)=(n.kids.length:Int):=by omega
  rw[bH hl,bB,bQ]
  cases t <;> cases f <;> (apply FX.callB2 ok87_ 1000 rfl rfl;((repeat((conv=>lhs;whnf);simp only[go_sem,simprocAttr,yS,yT,yK,xc,yJ,hm,hq0,h,hh,hk,hso,hq,hr,Int.reduceEq,bU,bK,cn]));try rfl))
theorem zGO (n:Node) (hn:n.ok) (s:Int) (t f:Bool) (ih:Ze n) (hs:zu n.op=s) (hneg:n.neg=false) (hnum : ¬ 0<(n.num.length:Int)) (hden : ¬ 0<(n.den.length:Int)) (hm:yP n.name=true) (h:n.op=3):callL Tryz.prog zE 87 [.agg n.cells,.int .i64 s,.bool t,.bool f]=some (.bool (n.wellRest t f)):=by
 have hh:ya 3=true:=rfl;have hk:zP 3=[]:=rfl;have hso:zu 3=s:=by rw[←h];exact hs
 have es:yi n.op n.kids.length=[]:=by rw[h];simp[yi];try rfl
 have e:n.wellRest t f=(!(t||f)&&(decide (([]:List Int).length=n.kids.length)&&(Node.wells n.kids [] (t||decide (n.op=12)) (f||decide (n.op=39))&&xK n.op n.kids))):=by
  unfold Node.wellRest Node.wellKids;rw[es,h];simp
 rw[e];clear e;have k7:=jH n hn t f [] (by simp) ih (fun ho=>by omega) (fun ho=>by omega);rw[h]at k7 ⊢;by_cases hl:([]:List Int).length=n.kids.length
 ·have hl':n.kids.length=0:=by simpa using hl.symm
  have hq:(n.kids.length:Int)=0:=by omega
  obtain⟨S',k⟩:=k7 hl;rw[bG hl,bC];clear k7;generalize (Node.wells n.kids [] (t||decide ((3:Int)=12)) (f||decide ((3:Int)=39))&&xK 3 n.kids)=R at k ⊢
  cases t <;> cases f
  ·apply FX.callB2 ok87_ 1000 rfl rfl;(repeat((conv=>lhs;whnf);simp only[go_sem,simprocAttr,yS,yT,yK,xc,yJ,hm,h,hh,hk,hso,hl',hq,Int.reduceEq,bU,bK,hneg,hnum,hden]));exact k
  ·apply FX.callB2 ok87_ 1000 rfl rfl;((repeat((conv=>lhs;whnf);simp only[go_sem,simprocAttr,yS,yT,yK,xc,yJ,hm,h,hh,hk,hso,hl',hq,Int.reduceEq,bU,bK,hneg,hnum,hden]));try rfl)
  ·apply FX.callB2 ok87_ 1000 rfl rfl;((repeat((conv=>lhs;whnf);simp only[go_sem,simprocAttr,yS,yT,yK,xc,yJ,hm,h,hh,hk,hso,hl',hq,Int.reduceEq,bU,bK,hneg,hnum,hden]));try rfl)
  ·apply FX.callB2 ok87_ 1000 rfl rfl;((repeat((conv=>lhs;whnf);simp only[go_sem,simprocAttr,yS,yT,yK,xc,yJ,hm,h,hh,hk,hso,hl',hq,Int.reduceEq,bU,bK,hneg,hnum,hden]));try rfl)
 ·have hr : ¬((0:Nat):Int)=(n.kids.length:Int):=by intro x;apply hl;simp only[bU,bK];omega
  have hq : ¬(0:Int)=(n.kids.length:Int):=by omega
  rw[bH hl,bB,bQ]
  cases t <;> cases f <;> (apply FX.callB2 ok87_ 1000 rfl rfl;((repeat((conv=>lhs;whnf);simp only[go_sem,simprocAttr,yS,yT,yK,xc,yJ,hm,h,hh,hk,hso,hq,hr,Int.reduceEq,bU,bK,hneg,hnum,hden]));try rfl))
theorem zIt (n:Node) (hn:n.ok) (s:Int) (t f:Bool) (ih:Ze n) (hs:zu n.op=s) (hneg:n.neg=false) (hnum : ¬ 0<(n.num.length:Int)) (hden : ¬ 0<(n.den.length:Int)) (hm:yP n.name=false) (hq0:yd n.name=true) (h:n.op=12):callL Tryz.prog zE 87 [.agg n.cells,.int .i64 s,.bool t,.bool f]=some (.bool (n.wellRest t f)):=by
 have hh:ya 12=false:=rfl;have hk:zP 12=[1]:=rfl;have hso:zu 12=s:=by rw[←h];exact hs
 have es:yi n.op n.kids.length=[1]:=by rw[h];simp[yi];try rfl
 unfold yd at hq0;have e:n.wellRest t f=(!t&&(decide (([1]:List Int).length=n.kids.length)&&(Node.wells n.kids [1] (t||decide (n.op=12)) (f||decide (n.op=39))&&xK n.op n.kids))):=by
  unfold Node.wellRest Node.wellKids;rw[es,h];simp
 rw[e];clear e;have k7:=jH n hn t f [1] (by simp) ih (fun ho=>by omega) (fun ho=>by omega);rw[h]at k7 ⊢;by_cases hl:([1]:List Int).length=n.kids.length
 ·have hl':n.kids.length=1:=by simpa using hl.symm
  have hq:(n.kids.length:Int)=1:=by omega
  obtain⟨S',k⟩:=k7 hl;rw[bG hl,bC];clear k7;generalize (Node.wells n.kids [1] (t||decide ((12:Int)=12)) (f||decide ((12:Int)=39))&&xK 12 n.kids)=R at k ⊢
  cases t <;> cases f
  ·apply FX.callB2 ok87_ 1000 rfl rfl;(repeat((conv=>lhs;whnf);simp only[go_sem,simprocAttr,yS,yT,yK,xc,yJ,hm,hq0,h,hh,hk,hso,hl',hq,Int.reduceEq,bU,bK,hneg,hnum,hden]));exact k
  ·apply FX.callB2 ok87_ 1000 rfl rfl;(repeat((conv=>lhs;whnf);simp only[go_sem,simprocAttr,yS,yT,yK,xc,yJ,hm,hq0,h,hh,hk,hso,hl',hq,Int.reduceEq,bU,bK,hneg,hnum,hden]));exact k
  ·apply FX.callB2 ok87_ 1000 rfl rfl;((repeat((conv=>lhs;whnf);simp only[go_sem,simprocAttr,yS,yT,yK,xc,yJ,hm,hq0,h,hh,hk,hso,hl',hq,Int.reduceEq,bU,bK,hneg,hnum,hden]));try rfl)
  ·apply FX.callB2 ok87_ 1000 rfl rfl;((repeat((conv=>lhs;whnf);simp only[go_sem,simprocAttr,yS,yT,yK,xc,yJ,hm,hq0,h,hh,hk,hso,hl',hq,Int.reduceEq,bU,bK,hneg,hnum,hden]));try rfl)
 ·have hr : ¬((1:Nat):Int)=(n.kids.length:Int):=by intro x;apply hl;simp only[bU,bK];omega
  have hq : ¬(1:Int)=(n.kids.length:Int):=by omega
  rw[bH hl,bB,bQ]
  cases t <;> cases f <;> (apply FX.callB2 ok87_ 1000 rfl rfl;((repeat((conv=>lhs;whnf);simp only[go_sem,simprocAttr,yS,yT,yK,xc,yJ,hm,hq0,h,hh,hk,hso,hq,hr,Int.reduceEq,bU,bK,hneg,hnum,hden]));try rfl))
theorem zGP (n:Node) (hn:n.ok) (s:Int) (t f:Bool) (ih:Ze n) (hs:zu n.op=s) (hneg:n.neg=false) (hnum : ¬ 0<(n.num.length:Int)) (hden : ¬ 0<(n.den.length:Int)) (hm:yP n.name=false) (hq0:yd n.name=true) (h:n.op=54):callL Tryz.prog zE 87 [.agg n.cells,.int .i64 s,.bool t,.bool f]=some (.bool (n.wellRest t f)):=by
 have hh:ya 54=false:=rfl;have hso:zu 54=s:=by rw[←h];exact hs
 have e:n.wellRest t f=jn n t f:=by
  unfold Node.wellRest;rw[h];simp
 rw[e];unfold yd at hq0;have hc:=fun S=>zF (S:=S) (zGM n hn t f ih) (by simp[Node.plain,zh.bool])
 cases t <;> cases f <;> (apply FX.callB2 ok87_ 1000 rfl rfl;((repeat((conv=>lhs;whnf);simp only[go_sem,simprocAttr,yS,yT,yK,xc,yJ,hm,hq0,h,hh,hso,hc,Int.reduceEq,hneg,hnum,hden]));try rfl))
theorem zB8 (n:Node) (hn:n.ok) (s:Int) (t f:Bool) (ih:Ze n) (hs:zu n.op=s) (hneg:n.neg=false) (hnum : ¬ 0<(n.num.length:Int)) (hden : ¬ 0<(n.den.length:Int)) (hm:yP n.name=true) (h:n.op=10):callL Tryz.prog zE 87 [.agg n.cells,.int .i64 s,.bool t,.bool f]=some (.bool (n.wellRest t f)):=by
 have hh:ya 10=true:=rfl;have hk:zP 10=[]:=rfl;have hso:zu 10=s:=by rw[←h];exact hs
 have e:n.wellRest t f=n.wellKids t f:=by
  unfold Node.wellRest;rw[h];simp
 rw[e];unfold Node.wellKids;by_cases h1:n.kids.length=1
 ·have h1':(n.kids.length:Int)=1:=by omega
  have es:yi n.op n.kids.length=[1]:=by rw[h];simp[yi,h1]
  obtain⟨S',k⟩:=jH n hn t f [1] (by simp) ih (fun ho=>by omega) (fun ho=>by omega) h1.symm;have hd:uB [1]=⟨#[49]⟩:=rfl;have hds:(⟨#[49]⟩:ByteArray).size=1:=rfl;rw[hd]at k;rw[es];rw[h]at k ⊢;have hl:([1]:List Int).length=n.kids.length:=h1.symm;rw[bG hl,bC];generalize (Node.wells n.kids [1] (t||decide ((10:Int)=12)) (f||decide ((10:Int)=39))&&xK 10 n.kids)=R at k ⊢
  cases t <;> cases f <;> (apply FX.callB2 ok87_ 1000 rfl rfl;(repeat((conv=>lhs;whnf);simp only[go_sem,simprocAttr,yS,yT,yK,xc,yJ,hm,h,hh,hk,hso,h1,h1',hds,Int.reduceEq,hneg,hnum,hden]));exact k)
 ·have h1' : ¬(n.kids.length:Int)=1:=by omega
  have es:yi n.op n.kids.length=[]:=by rw[h];simp[yi,h1,hk]
  rw[es];by_cases h0:n.kids.length=0
  ·have h0':(n.kids.length:Int)=0:=by omega
   obtain⟨S',k⟩:=jH n hn t f [] (by simp) ih (fun ho=>by omega) (fun ho=>by omega) h0.symm;rw[h]at k ⊢;have hl:([]:List Int).length=n.kids.length:=h0.symm;rw[bG hl,bC];generalize (Node.wells n.kids [] (t||decide ((10:Int)=12)) (f||decide ((10:Int)=39))&&xK 10 n.kids)=R at k ⊢
   cases t <;> cases f <;> (apply FX.callB2 ok87_ 1000 rfl rfl;(repeat((conv=>lhs;whnf);simp only[go_sem,simprocAttr,yS,yT,yK,xc,yJ,hm,h,hh,hk,hso,h0,h0',Int.reduceEq,bU,hneg,hnum,hden]));exact k)
  ·have hr : ¬((0:Nat):Int)=(n.kids.length:Int):=by omega
   have hq : ¬(0:Int)=(n.kids.length:Int):=by omega
   have hl : ¬([]:List Int).length=n.kids.length:=fun e=>h0 e.symm;rw[bH hl,bB]
   cases t <;> cases f <;> (apply FX.callB2 ok87_ 1000 rfl rfl;((repeat((conv=>lhs;whnf);simp only[go_sem,simprocAttr,yS,yT,yK,xc,yJ,hm,h,hh,hk,hso,h1',hq,hr,Int.reduceEq,bU,hneg,hnum,hden]));try rfl))
theorem zB9 (n:Node) (hn:n.ok) (s:Int) (t f:Bool) (ih:Ze n) (hs:zu n.op=s) (hneg:n.neg=false) (hnum : ¬ 0<(n.num.length:Int)) (hden : ¬ 0<(n.den.length:Int)) (hm:yP n.name=true) (h:n.op=37):callL Tryz.prog zE 87 [.agg n.cells,.int .i64 s,.bool t,.bool f]=some (.bool (n.wellRest t f)):=by
 have hh:ya 37=true:=rfl;have hk:zP 37=[]:=rfl;have hso:zu 37=s:=by rw[←h];exact hs
 have e:n.wellRest t f=n.wellKids t f:=by
  unfold Node.wellRest;rw[h];simp
 rw[e];unfold Node.wellKids;by_cases h1:n.kids.length=1
 ·have h1':(n.kids.length:Int)=1:=by omega
  have es:yi n.op n.kids.length=[1]:=by rw[h];simp[yi,h1]
  obtain⟨S',k⟩:=jH n hn t f [1] (by simp) ih (fun ho=>by omega) (fun ho=>by omega) h1.symm;have hd:uB [1]=⟨#[49]⟩:=rfl;have hds:(⟨#[49]⟩:ByteArray).size=1:=rfl;rw[hd]at k;rw[es];rw[h]at k ⊢;have hl:([1]:List Int).length=n.kids.length:=h1.symm;rw[bG hl,bC];generalize (Node.wells n.kids [1] (t||decide ((37:Int)=12)) (f||decide ((37:Int)=39))&&xK 37 n.kids)=R at k ⊢
  cases t <;> cases f <;> (apply FX.callB2 ok87_ 1000 rfl rfl;(repeat((conv=>lhs;whnf);simp only[go_sem,simprocAttr,yS,yT,yK,xc,yJ,hm,h,hh,hk,hso,h1,h1',hds,Int.reduceEq,hneg,hnum,hden]));exact k)
 ·have h1' : ¬(n.kids.length:Int)=1:=by omega
  have es:yi n.op n.kids.length=[]:=by rw[h];simp[yi,h1,hk]
  rw[es];by_cases h0:n.kids.length=0
  ·have h0':(n.kids.length:Int)=0:=by omega
   obtain⟨S',k⟩:=jH n hn t f [] (by simp) ih (fun ho=>by omega) (fun ho=>by omega) h0.symm;rw[h]at k ⊢;have hl:([]:List Int).length=n.kids.length:=h0.symm;rw[bG hl,bC];generalize (Node.wells n.kids [] (t||decide ((37:Int)=12)) (f||decide ((37:Int)=39))&&xK 37 n.kids)=R at k ⊢
   cases t <;> cases f <;> (apply FX.callB2 ok87_ 1000 rfl rfl;(repeat((conv=>lhs;whnf);simp only[go_sem,simprocAttr,yS,yT,yK,xc,yJ,hm,h,hh,hk,hso,h0,h0',Int.reduceEq,bU,hneg,hnum,hden]));exact k)
  ·have hr : ¬((0:Nat):Int)=(n.kids.length:Int):=by omega
   have hq : ¬(0:Int)=(n.kids.length:Int):=by omega
   have hl : ¬([]:List Int).length=n.kids.length:=fun e=>h0 e.symm;rw[bH hl,bB]
   cases t <;> cases f <;> (apply FX.callB2 ok87_ 1000 rfl rfl;((repeat((conv=>lhs;whnf);simp only[go_sem,simprocAttr,yS,yT,yK,xc,yJ,hm,h,hh,hk,hso,h1',hq,hr,Int.reduceEq,bU,hneg,hnum,hden]));try rfl))
end
end
section
section
attribute [local irreducible] Vs.callL Vs.callRL tyi zO zl zf zR zW za zI zY zA zK zb zV zG zJ zU zn yI zm zL ze Vs.gc zH
theorem zIu : ∀n:Node,n.ok→∀s t f,callL Tryz.prog zE 87 [.agg n.cells,.int .i64 s,.bool t,.bool f]=some (.bool (n.well s t f)):=by
 refine Node.ind' fun n ih0 hn s t f=>?_;have ih:Ze n:=fun k hk=>ih0 k hk (hn.kids k hk);rw[zIr];by_cases hs:zu n.op=s
 case neg =>
  rw[bH hs,bB,bB];apply FX.callB2 ok87_ 1000 rfl rfl;((repeat((conv=>lhs;whnf);simp only[go_sem,simprocAttr,yS,hs]));try rfl)
 rw[bG hs,bC]
 cases hh:ya n.op
 ·cases hm:yP n.name
  case true =>
   have e:decide (false=true)=false:=rfl;rw[e,bB,bB];apply FX.callB2 ok87_ 1000 rfl rfl;((repeat((conv=>lhs;whnf);simp only[go_sem,simprocAttr,yS,hs,yT,hh,yK,hm]));try rfl)
  have e:decide (false=false)=true:=rfl;rw[e,bC,bW]
  cases hq:yd n.name
  ·unfold yd at hq;rw[bB];apply FX.callB2 ok87_ 1000 rfl rfl;((repeat((conv=>lhs;whnf);simp only[go_sem,simprocAttr,yS,hs,yT,hh,yK,hm,hq]));try rfl)
  rw[bC];by_cases h1:n.op=1
  ·rw[bA h1]
   cases hnat:vh n.neg n.num n.den
   ·have cn:=fun S=>Ki S n hn;rw[hnat]at cn;unfold yd at hq;rw[h1]at hh hs;rw[bB];apply FX.callB2 ok87_ 1000 rfl rfl;((repeat((conv=>lhs;whnf);simp only[go_sem,simprocAttr,yS,hs,yT,h1,hh,yK,hm,hq,cn,Int.reduceEq]));try rfl)
   ·rw[bC];exact zKv n hn s t f ih hs hnat hm hq h1
  rw[hZ h1];have hq':=hq;unfold yd at hq'
  cases hneg:n.neg
  ·by_cases hnum0:n.num.length=0
   ·have hnum : ¬ 0<(n.num.length:Int):=by omega
    by_cases hden0:n.den.length=0
    ·have hden : ¬ 0<(n.den.length:Int):=by omega
     rw[bG hnum0,bG hden0,bJ,sC,sC,bC];have h10 : ¬n.op=10:=fun h=>by rw[h]at hh;cases hh
     have h37 : ¬n.op=37:=fun h=>by rw[h]at hh;cases hh
     have h3 : ¬n.op=3:=fun h=>by rw[h]at hh;cases hh
     by_cases h12:n.op=12
     ·exact zIt n hn s t f ih hs hneg hnum hden hm hq h12
     by_cases h54:n.op=54
     ·exact zGP n hn s t f ih hs hneg hnum hden hm hq h54
     ·exact zIs n hn s t f ih hs hneg hnum hden hh hm hq h1 h3 h12 h54 h10 h37
    ·have hden:0<(n.den.length:Int):=by omega
     rw[bG hnum0,bH hden0,bQ,bQ,bB];apply FX.callB2 ok87_ 1000 rfl rfl;((repeat((conv=>lhs;whnf);simp only[go_sem,simprocAttr,yS,hs,yT,hh,yK,hm,hq',h1,hneg,hnum,hden]));try rfl)
   ·have hnum:0<(n.num.length:Int):=by omega
    rw[bH hnum0,bB,bQ,bB];apply FX.callB2 ok87_ 1000 rfl rfl;((repeat((conv=>lhs;whnf);simp only[go_sem,simprocAttr,yS,hs,yT,hh,yK,hm,hq',h1,hneg,hnum]));try rfl)
  ·rw[bS,bB,bB];apply FX.callB2 ok87_ 1000 rfl rfl;((repeat((conv=>lhs;whnf);simp only[go_sem,simprocAttr,yS,hs,yT,hh,yK,hm,hq',h1,hneg]));try rfl)
 ·cases hm:yP n.name
  ·have e:decide (true=false)=false:=rfl;rw[e,bB,bB];apply FX.callB2 ok87_ 1000 rfl rfl;((repeat((conv=>lhs;whnf);simp only[go_sem,simprocAttr,yS,hs,yT,hh,yK,hm]));try rfl)
  have e:decide (true=true)=true:=rfl;rw[e,bC,pI,bC];have h1 : ¬n.op=1:=fun h=>by rw[h]at hh;cases hh
  rw[hZ h1]
  cases hneg:n.neg
  ·by_cases hnum0:n.num.length=0
   ·have hnum : ¬ 0<(n.num.length:Int):=by omega
    by_cases hden0:n.den.length=0
    ·have hden : ¬ 0<(n.den.length:Int):=by omega
     rw[bG hnum0,bG hden0,bJ,sC,sC,bC];have h12 : ¬n.op=12:=fun h=>by rw[h]at hh;cases hh
     have h54 : ¬n.op=54:=fun h=>by rw[h]at hh;cases hh
     by_cases h10:n.op=10
     ·exact zB8 n hn s t f ih hs hneg hnum hden hm h10
     by_cases h37:n.op=37
     ·exact zB9 n hn s t f ih hs hneg hnum hden hm h37
     by_cases h3:n.op=3
     ·exact zGO n hn s t f ih hs hneg hnum hden hm h3
     ·exact zGN n hn s t f ih hs hneg hnum hden hh hm h1 h3 h12 h54 h10 h37
    ·have hden:0<(n.den.length:Int):=by omega
     rw[bG hnum0,bH hden0,bQ,bQ,bB];apply FX.callB2 ok87_ 1000 rfl rfl;((repeat((conv=>lhs;whnf);simp only[go_sem,simprocAttr,yS,hs,yT,hh,yK,hm,h1,hneg,hnum,hden]));try rfl)
   ·have hnum:0<(n.num.length:Int):=by omega
    rw[bH hnum0,bB,bQ,bB];apply FX.callB2 ok87_ 1000 rfl rfl;((repeat((conv=>lhs;whnf);simp only[go_sem,simprocAttr,yS,hs,yT,hh,yK,hm,h1,hneg,hnum]));try rfl)
  ·rw[bS,bB,bB];apply FX.callB2 ok87_ 1000 rfl rfl;((repeat((conv=>lhs;whnf);simp only[go_sem,simprocAttr,yS,hs,yT,hh,yK,hm,h1,hneg]));try rfl)
noncomputable def zRb:FX:=⟨Tryz.f44,zE.of 44,[]⟩
instance ok44_:zRb.ok 44:=FX.mk'
theorem zDs (n:Node) (hn:n.ok) (sort:Int):callL Tryz.prog zE 44 [.agg n.cells,.int .i64 sort]=some (.int .i64 (n.checkRef sort)):=by
 refine FX.callL (r:=(.int .i64 (n.checkRef sort),[.arr [n.cells] none false])) ok44_ 1000 rfl rfl ?_ rfl;have hs:=fun S=>uR S (XK n hn);have hl:=fun S=>uR S (zDb n hn);have hw:=fun S=>Ww S (zIu n hn sort false false);unfold Node.checkRef;by_cases h1:sort<1
 ·rw[bA (.inl h1)];((repeat((conv=>lhs;whnf);simp only[go_sem,simprocAttr,h1]));try rfl)
 by_cases h2:3<sort
 ·rw[bA (.inr h2)];((repeat((conv=>lhs;whnf);simp only[go_sem,simprocAttr,h1,h2]));try rfl)
 rw[hZ (by omega)];by_cases h3:4000<n.size
 ·rw[bA (.inl h3)];((repeat((conv=>lhs;whnf);simp only[go_sem,simprocAttr,h1,h2,hs,h3]));try rfl)
 by_cases h4:60<n.levels
 ·rw[bA (.inr h4)];((repeat((conv=>lhs;whnf);simp only[go_sem,simprocAttr,h1,h2,hs,h3,hl,h4]));try rfl)
 rw[hZ (by omega)];by_cases h5:zu n.op=sort
 ·rw[hZ (by simpa using h5)]
  cases hv:n.well sort false false
  ·rw[hv]at hw;rw[bA rfl];((repeat((conv=>lhs;whnf);simp only[go_sem,simprocAttr,h1,h2,hs,h3,hl,h4,yS,h5,hw]));try rfl)
  ·rw[hv]at hw;rw[hZ (by simp)];((repeat((conv=>lhs;whnf);simp only[go_sem,simprocAttr,h1,h2,hs,h3,hl,h4,yS,h5,hw]));try rfl)
 ·rw[bA h5];((repeat((conv=>lhs;whnf);simp only[go_sem,simprocAttr,h1,h2,hs,h3,hl,h4,yS,h5]));try rfl)
theorem jy (S:zB) (n:Node) (hn:n.ok) (hc:n.count≤1000000000) (sort:Int):zO (callL Tryz.prog zE) S 44 [.agg n.cells,.int .i64 sort]=some {v:=.int .i64 (n.check sort)} := by
 have h:=zDs n hn sort;rw[zFq n hn hc]at h;exact zF h (by simp[Node.plain,zh.int])
end
end
section
mutual
def Node.has (p:Int→Bool):Node→Bool
 | .mk o _ _ _ _ f=>p o||Node.hass p f
def Node.hass (p:Int→Bool):List Node→Bool
 | []=>false
 | n::r=>n.has p||Node.hass p r
end
theorem Node.has_eq (p:Int→Bool) (n:Node):n.has p=(p n.op||Node.hass p n.kids):=by cases n;rfl
theorem Node.hass_any (p:Int→Bool) : ∀l:List Node,Node.hass p l=l.any (Node.has p)
 | []=>rfl
 | n::r=>by rw[Node.hass,Node.hass_any p r,BA]
def yO (o:Int):Bool:=decide (o=10)||decide (o=11)||decide (o=37)||decide (o=38)||decide (o=61)||decide (o=62)||decide (o=56)
def ye (o:Int):Bool:=decide (o=33)||decide (o=34)||decide (o=35)||decide (o=36)||decide (o=39)
def yy (q o:Int):Bool:=decide (o=q)
def xn (ops:List Int) (o:Int):Bool:=ops.any fun q=>decide (o=q)
def Ku:Node:=.mk 13 ⟨#[]⟩ false [] [] []
def Node.sym (n:Node):Node:=if yO n.op=true then .mk n.op n.name false [] [] (if (n.op=10∨n.op=37)∧n.kids.length≠0 then [Ku] else []) else nd0
section
attribute [local irreducible] Vs.callL Vs.callRL tyi zO zl zf zR zW za zI zY zA zK zb zV zG zJ zU zn yI zm zL ze Vs.gc zH
noncomputable def zRc:FX:=⟨Tryz.f84,zE.of 84,[]⟩
instance ok84_:zRc.ok 84:=FX.mk'
theorem zDt (n:Node):callL Tryz.prog zE 84 [.agg n.cells]=some (.bool (yO n.op)):=by
 unfold yO;by_cases e10:n.op=10
 ·have e:(decide (n.op=10)||decide (n.op=11)||decide (n.op=37)||decide (n.op=38)||decide (n.op=61)||decide (n.op=62)||decide (n.op=56))=true:=by rw[e10];rfl
  rw[e];apply FX.callB2 ok84_ 1000 rfl rfl;((repeat((conv=>lhs;whnf);simp only[go_sem,simprocAttr,e10]));try rfl)
 by_cases e11:n.op=11
 ·have e:(decide (n.op=10)||decide (n.op=11)||decide (n.op=37)||decide (n.op=38)||decide (n.op=61)||decide (n.op=62)||decide (n.op=56))=true:=by rw[e11];rfl
  rw[e];apply FX.callB2 ok84_ 1000 rfl rfl;((repeat((conv=>lhs;whnf);simp only[go_sem,simprocAttr,e11]));try rfl)
 by_cases e37:n.op=37
 ·have e:(decide (n.op=10)||decide (n.op=11)||decide (n.op=37)||decide (n.op=38)||decide (n.op=61)||decide (n.op=62)||decide (n.op=56))=true:=by rw[e37];rfl
  rw[e];apply FX.callB2 ok84_ 1000 rfl rfl;((repeat((conv=>lhs;whnf);simp only[go_sem,simprocAttr,e37]));try rfl)
 by_cases e38:n.op=38
 ·have e:(decide (n.op=10)||decide (n.op=11)||decide (n.op=37)||decide (n.op=38)||decide (n.op=61)||decide (n.op=62)||decide (n.op=56))=true:=by rw[e38];rfl
  rw[e];apply FX.callB2 ok84_ 1000 rfl rfl;((repeat((conv=>lhs;whnf);simp only[go_sem,simprocAttr,e38]));try rfl)
 by_cases e61:n.op=61
 ·have e:(decide (n.op=10)||decide (n.op=11)||decide (n.op=37)||decide (n.op=38)||decide (n.op=61)||decide (n.op=62)||decide (n.op=56))=true:=by rw[e61];rfl
  rw[e];apply FX.callB2 ok84_ 1000 rfl rfl;((repeat((conv=>lhs;whnf);simp only[go_sem,simprocAttr,e61]));try rfl)
 by_cases e62:n.op=62
 ·have e:(decide (n.op=10)||decide (n.op=11)||decide (n.op=37)||decide (n.op=38)||decide (n.op=61)||decide (n.op=62)||decide (n.op=56))=true:=by rw[e62];rfl
  rw[e];apply FX.callB2 ok84_ 1000 rfl rfl;((repeat((conv=>lhs;whnf);simp only[go_sem,simprocAttr,e62]));try rfl)
 by_cases e56:n.op=56
 ·have e:(decide (n.op=10)||decide (n.op=11)||decide (n.op=37)||decide (n.op=38)||decide (n.op=61)||decide (n.op=62)||decide (n.op=56))=true:=by rw[e56];rfl
  rw[e];apply FX.callB2 ok84_ 1000 rfl rfl;((repeat((conv=>lhs;whnf);simp only[go_sem,simprocAttr,e56]));try rfl)
 simp only[e10,e11,e37,e38,e61,e62,e56,decide_false,sO];apply FX.callB2 ok84_ 1000 rfl rfl;((repeat((conv=>lhs;whnf);simp only[go_sem,simprocAttr,e10,e11,e37,e38,e61,e62,e56]));try rfl)
theorem vi (S:zB) (n:Node):zO (callL Tryz.prog zE) S 84 [.agg n.cells]=some {v:=.bool (yO n.op)} := uR S (zDt n)
noncomputable def zNh:FX:=⟨Tryz.f46,zE.of 46,[]⟩
instance ok46_:zNh.ok 46:=FX.mk'
theorem zBa (n:Node) (hn:n.ok) (ih : ∀k∈n.kids,callL Tryz.prog zE 46 [.agg k.cells]=some (.bool (k.has yO))) : ∀(m i:Nat),i+m=n.kids.length →
  ∃S',zS 0 zNh 0 116 1 [.blk 0,.seq 0 15] [(1,.mp 0 0 0),(3,.int .i64 i)] [.arr [n.cells] none false]=some (.bool (Node.hass yO (n.kids.drop i)),S'):=by
 intro m
 induction m with
 | zero =>
  intro i hi;have h1 : ¬(i:Int)<(n.kids.length:Int):=by omega
  rw[bT (by omega)];apply Exists.intro;apply zC;(repeat((conv=>lhs;whnf);simp only[go_sem,simprocAttr,h1]));apply zN;unfold Node.hass;((repeat((conv=>lhs;whnf);simp only[go_sem,simprocAttr]));try rfl)
 | succ m hm =>
  intro i hi;have h1:(i:Int)<(n.kids.length:Int):=by omega
  have h2:=zg (i:=i) (n:=n.kids.length) (by omega) hn.len;have h4:0≤(i:Int)∧(i:Int)<(n.kids.length:Int):=⟨by omega,h1⟩;have h5:=fun S=>uR S (ih _ (yA (l:=n.kids) (i:=i) (by omega)));obtain⟨S',key⟩:=hm (i+1) (by omega);have h7:Node.hass yO (n.kids.drop i)=((n.kids.getD i nd0).has yO||Node.hass yO (n.kids.drop (i+1))):=by rw[xM (l:=n.kids) (i:=i) (by omega)];rfl
  rw[h7]
  cases hd:(n.kids.getD i nd0).has yO
  case true =>
   rw[hd]at h5;rw[pI];apply Exists.intro;apply zC;((repeat((conv=>lhs;whnf);simp only[go_sem,simprocAttr,h1,h2,h4,h5]));try rfl)
  case false =>
   rw[hd]at h5;rw[bW];refine⟨S',?_⟩;apply zC;(repeat((conv=>lhs;whnf);simp only[go_sem,simprocAttr,h1,h2,h4,h5]));exact key
theorem zBb : ∀n:Node,n.ok→callL Tryz.prog zE 46 [.agg n.cells]=some (.bool (n.has yO)):=by
 refine Node.ind' fun n ih hn=>?_;obtain⟨S',h⟩:=zBa n hn (fun k hk'=>ih k hk' (hn.kids k hk')) n.kids.length 0 (by omega);rw[bX]at h;rw[Node.has_eq]
 cases e:yO n.op
 ·rw[bW];apply FX.callB2 ok46_ 1000 rfl rfl;(repeat((conv=>lhs;whnf);simp only[go_sem,simprocAttr,vi,e]));exact h
 ·rw[pI];apply FX.callB2 ok46_ 1000 rfl rfl;((repeat((conv=>lhs;whnf);simp only[go_sem,simprocAttr,vi,e]));try rfl)
theorem XO (S:zB) (n:Node) (h:n.ok):zO (callL Tryz.prog zE) S 46 [.agg n.cells]=some {v:=.bool (n.has yO)} := uR S (zBb n h)
noncomputable def zNi:FX:=⟨Tryz.f45,zE.of 45,[]⟩
instance ok45_:zNi.ok 45:=FX.mk'
theorem zGQ (n:Node) (hn:n.ok) (ih : ∀k∈n.kids,callL Tryz.prog zE 45 [.agg k.cells]=some (.bool (k.has ye))) : ∀(m i:Nat),i+m=n.kids.length →
  ∃S',zS 0 zNi 0 116 1 [.blk 0,.seq 0 15] [(1,.mp 0 0 0),(3,.int .i64 i)] [.arr [n.cells] none false]=some (.bool (Node.hass ye (n.kids.drop i)),S'):=by
 intro m
 induction m with
 | zero =>
  intro i hi;have h1 : ¬(i:Int)<(n.kids.length:Int):=by omega
  rw[bT (by omega)];apply Exists.intro;apply zC;(repeat((conv=>lhs;whnf);simp only[go_sem,simprocAttr,h1]));apply zN;unfold Node.hass;((repeat((conv=>lhs;whnf);simp only[go_sem,simprocAttr]));try rfl)
 | succ m hm =>
  intro i hi;have h1:(i:Int)<(n.kids.length:Int):=by omega
  have h2:=zg (i:=i) (n:=n.kids.length) (by omega) hn.len;have h4:0≤(i:Int)∧(i:Int)<(n.kids.length:Int):=⟨by omega,h1⟩;have h5:=fun S=>uR S (ih _ (yA (l:=n.kids) (i:=i) (by omega)));obtain⟨S',key⟩:=hm (i+1) (by omega);have h7:Node.hass ye (n.kids.drop i)=((n.kids.getD i nd0).has ye||Node.hass ye (n.kids.drop (i+1))):=by rw[xM (l:=n.kids) (i:=i) (by omega)];rfl
  rw[h7]
  cases hd:(n.kids.getD i nd0).has ye
  case true =>
   rw[hd]at h5;rw[pI];apply Exists.intro;apply zC;((repeat((conv=>lhs;whnf);simp only[go_sem,simprocAttr,h1,h2,h4,h5]));try rfl)
  case false =>
   rw[hd]at h5;rw[bW];refine⟨S',?_⟩;apply zC;(repeat((conv=>lhs;whnf);simp only[go_sem,simprocAttr,h1,h2,h4,h5]));exact key
theorem zGR : ∀n:Node,n.ok→callL Tryz.prog zE 45 [.agg n.cells]=some (.bool (n.has ye)):=by
 refine Node.ind' fun n ih hn=>?_;obtain⟨S',h⟩:=zGQ n hn (fun k hk'=>ih k hk' (hn.kids k hk')) n.kids.length 0 (by omega);rw[bX]at h;rw[Node.has_eq];by_cases e33:n.op=33
 ·have e:ye n.op=true:=by rw[e33];rfl
  rw[e,pI];apply FX.callB2 ok45_ 1000 rfl rfl;((repeat((conv=>lhs;whnf);simp only[go_sem,simprocAttr,e33]));try rfl)
 by_cases e34:n.op=34
 ·have e:ye n.op=true:=by rw[e34];rfl
  rw[e,pI];apply FX.callB2 ok45_ 1000 rfl rfl;((repeat((conv=>lhs;whnf);simp only[go_sem,simprocAttr,e34]));try rfl)
 by_cases e35:n.op=35
 ·have e:ye n.op=true:=by rw[e35];rfl
  rw[e,pI];apply FX.callB2 ok45_ 1000 rfl rfl;((repeat((conv=>lhs;whnf);simp only[go_sem,simprocAttr,e35]));try rfl)
 by_cases e36:n.op=36
 ·have e:ye n.op=true:=by rw[e36];rfl
  rw[e,pI];apply FX.callB2 ok45_ 1000 rfl rfl;((repeat((conv=>lhs;whnf);simp only[go_sem,simprocAttr,e36]));try rfl)
 by_cases e39:n.op=39
 ·have e:ye n.op=true:=by rw[e39];rfl
  rw[e,pI];apply FX.callB2 ok45_ 1000 rfl rfl;((repeat((conv=>lhs;whnf);simp only[go_sem,simprocAttr,e39]));try rfl)
 have e:ye n.op=false:=by simp only[ye,e33,e34,e35,e36,e39,decide_false,sO]
 rw[e,bW];apply FX.callB2 ok45_ 1000 rfl rfl;(repeat((conv=>lhs;whnf);simp only[go_sem,simprocAttr,e33,e34,e35,e36,e39]));exact h
theorem Wx (S:zB) (n:Node) (h:n.ok):zO (callL Tryz.prog zE) S 45 [.agg n.cells]=some {v:=.bool (n.has ye)} := uR S (zGR n h)
noncomputable def zNj:FX:=⟨Tryz.f47,zE.of 47,[]⟩
instance ok47_:zNj.ok 47:=FX.mk'
theorem zDu (n:Node) (hn:n.ok) (q:Int) (ih : ∀k∈n.kids,callL Tryz.prog zE 47 [.agg k.cells,.int .i64 q]=some (.bool (k.has (yy q)))) : ∀(m i:Nat),i+m=n.kids.length →
  ∃S',zS 0 zNj 0 116 1 [.blk 0,.seq 0 15] [(1,.int .i64 q),(2,.mp 0 0 0),(5,.int .i64 i)] [.arr [n.cells] none false]=some (.bool (Node.hass (yy q) (n.kids.drop i)),S'):=by
 intro m
 induction m with
 | zero =>
  intro i hi;have h1 : ¬(i:Int)<(n.kids.length:Int):=by omega
  rw[bT (by omega)];apply Exists.intro;apply zC;(repeat((conv=>lhs;whnf);simp only[go_sem,simprocAttr,h1]));apply zN;unfold Node.hass;((repeat((conv=>lhs;whnf);simp only[go_sem,simprocAttr]));try rfl)
 | succ m hm =>
  intro i hi;have h1:(i:Int)<(n.kids.length:Int):=by omega
  have h2:=zg (i:=i) (n:=n.kids.length) (by omega) hn.len;have h4:0≤(i:Int)∧(i:Int)<(n.kids.length:Int):=⟨by omega,h1⟩;have h5:=fun S=>zF (S:=S) (ih _ (yA (l:=n.kids) (i:=i) (by omega))) (by simp[Node.plain,zh.int]);obtain⟨S',key⟩:=hm (i+1) (by omega);have h7:Node.hass (yy q) (n.kids.drop i)=((n.kids.getD i nd0).has (yy q)||Node.hass (yy q) (n.kids.drop (i+1))):=by rw[xM (l:=n.kids) (i:=i) (by omega)];rfl
  rw[h7]
  cases hd:(n.kids.getD i nd0).has (yy q)
  case true =>
   rw[hd]at h5;rw[pI];apply Exists.intro;apply zC;((repeat((conv=>lhs;whnf);simp only[go_sem,simprocAttr,h1,h2,h4,h5]));try rfl)
  case false =>
   rw[hd]at h5;rw[bW];refine⟨S',?_⟩;apply zC;(repeat((conv=>lhs;whnf);simp only[go_sem,simprocAttr,h1,h2,h4,h5]));exact key
theorem zDv (q:Int) : ∀n:Node,n.ok→callL Tryz.prog zE 47 [.agg n.cells,.int .i64 q]=some (.bool (n.has (yy q))):=by
 refine Node.ind' fun n ih hn=>?_;obtain⟨S',h⟩:=zDu n hn q (fun k hk'=>ih k hk' (hn.kids k hk')) n.kids.length 0 (by omega);rw[bX]at h;rw[Node.has_eq];unfold yy at *;by_cases e:n.op=q
 ·rw[bG e,pI];apply FX.callB2 ok47_ 1000 rfl rfl;((repeat((conv=>lhs;whnf);simp only[go_sem,simprocAttr,e]));try rfl)
 ·rw[bH e,bW];apply FX.callB2 ok47_ 1000 rfl rfl;(repeat((conv=>lhs;whnf);simp only[go_sem,simprocAttr,e]));exact h
theorem uF (S:zB) (q:Int) (n:Node) (h:n.ok):zO (callL Tryz.prog zE) S 47 [.agg n.cells,.int .i64 q]=some {v:=.bool (n.has (yy q))} := zF (zDv q n h) (by simp[Node.plain,zh.int])
noncomputable def Qn:FX:=⟨Tryz.f40,zE.of 40,[]⟩
instance ok40_:Qn.ok 40:=FX.mk'
theorem zGS (n:Node) (ops:List Int) (hl:ops.length≤1000) : ∀(m i:Nat),i+m=ops.length →
  (xn (ops.drop i) n.op=true→∃S',zS 0 Qn 0 52 1 [.blk 0,.seq 0 7] [(1,.sl (zD .i64 ops) false),(2,.mp 0 0 0),(9,.sl (zD .i64 ops) false),(10,.int .i64 ops.length),(11,.int .i64 i)] [.arr [n.cells] none false]=some (.bool true,S')) ∧
  (xn (ops.drop i) n.op=false→∀z,yB 0 Qn 0 [.blk 0,.seq 0 7] [(1,.sl (zD .i64 ops) false),(2,.mp 0 0 0),(9,.undef),(10,.undef),(11,.undef),(12,.undef)] [.arr [n.cells] none false]=some z →
   zS 0 Qn 0 52 1 [.blk 0,.seq 0 7] [(1,.sl (zD .i64 ops) false),(2,.mp 0 0 0),(9,.sl (zD .i64 ops) false),(10,.int .i64 ops.length),(11,.int .i64 i)] [.arr [n.cells] none false]=some z):=by
 intro m
 induction m with
 | zero =>
  intro i hi;have h1 : ¬(i:Int)<(ops.length:Int):=by omega
  rw[bT (by omega)];refine⟨fun h=>(by cases h),fun _ z hz=>?_⟩;apply zC;(repeat((conv=>lhs;whnf);simp only[go_sem,simprocAttr,h1]));exact hz
 | succ m hm =>
  intro i hi;have h1:(i:Int)<(ops.length:Int):=by omega
  have h2:=zg (i:=i) (n:=ops.length) (by omega) (by unfold maxLen;omega);have h4:0≤(i:Int)∧(i:Int)<(ops.length:Int):=⟨by omega,h1⟩;have e:ops.drop i=ops.getD i 0::ops.drop (i+1):=by
   rw[PK (by omega)];simp[bL,show i<ops.length by omega]
  obtain⟨k1,k2⟩:=hm (i+1) (by omega);rw[e];unfold xn at *;rw[BA];by_cases c:n.op=ops.getD i 0
  ·refine⟨fun _=>?_,fun h=>by simp[c]at h⟩;apply Exists.intro;apply zC;((repeat((conv=>lhs;whnf);simp only[go_sem,simprocAttr,h1,h4,XM,bD,c]));try rfl)
  ·rw[bH c,bW];refine⟨fun h=>?_,fun h z hz=>?_⟩
   ·obtain⟨S',k⟩:=k1 h;refine⟨S',ys ok40_.good 1000 ?_⟩;(repeat((conv=>lhs;whnf);simp only[go_sem,simprocAttr,h1,h2,h4,XM,bD,c]));exact k
   ·apply zC;(repeat((conv=>lhs;whnf);simp only[go_sem,simprocAttr,h1,h2,h4,XM,bD,c]));exact k2 h z hz
theorem zIv (n:Node) (hn:n.ok) (ops:List Int) (ih : ∀k∈n.kids,callL Tryz.prog zE 40 [.agg k.cells,.sl (zD .i64 ops) false]=some (.bool (k.has (xn ops)))) : ∀(m i:Nat),i+m=n.kids.length →
  ∃S',zS 0 Qn 2 116 1 [.blk 2,.seq 0 15] [(1,.sl (zD .i64 ops) false),(21,.sl (Node.rows n.kids) false),(22,.int .i64 n.kids.length),(23,.int .i64 i)] [.arr [n.cells] none false]=some (.bool (Node.hass (xn ops) (n.kids.drop i)),S'):=by
 intro m
 induction m with
 | zero =>
  intro i hi;have h1 : ¬(i:Int)<(n.kids.length:Int):=by omega
  rw[bT (by omega)];apply Exists.intro;apply zC;(repeat((conv=>lhs;whnf);simp only[go_sem,simprocAttr,h1]));apply zN;unfold Node.hass;((repeat((conv=>lhs;whnf);simp only[go_sem,simprocAttr]));try rfl)
 | succ m hm =>
  intro i hi;have h1:(i:Int)<(n.kids.length:Int):=by omega
  have h2:=zg (i:=i) (n:=n.kids.length) (by omega) hn.len;have h4:0≤(i:Int)∧(i:Int)<(n.kids.length:Int):=⟨by omega,h1⟩;have h5:=fun S=>zF (S:=S) (ih _ (yA (l:=n.kids) (i:=i) (by omega))) (by simp[Node.plain,zh.sl]);obtain⟨S',key⟩:=hm (i+1) (by omega);have h7:Node.hass (xn ops) (n.kids.drop i)=((n.kids.getD i nd0).has (xn ops)||Node.hass (xn ops) (n.kids.drop (i+1))):=by rw[xM (l:=n.kids) (i:=i) (by omega)];rfl
  rw[h7]
  cases hd:(n.kids.getD i nd0).has (xn ops)
  case true =>
   rw[hd]at h5;rw[pI];apply Exists.intro;apply zC;((repeat((conv=>lhs;whnf);simp only[go_sem,simprocAttr,h1,h2,h4,h5]));try rfl)
  case false =>
   rw[hd]at h5;rw[bW];refine⟨S',?_⟩;apply zC;(repeat((conv=>lhs;whnf);simp only[go_sem,simprocAttr,h1,h2,h4,h5]));exact key
theorem zIw (ops:List Int) (hl:ops.length≤1000) : ∀n:Node,n.ok→callL Tryz.prog zE 40 [.agg n.cells,.sl (zD .i64 ops) false]=some (.bool (n.has (xn ops))):=by
 refine Node.ind' fun n ih hn=>?_;obtain⟨S',h⟩:=zIv n hn ops (fun k hk'=>ih k hk' (hn.kids k hk')) n.kids.length 0 (by omega);obtain⟨k1,k2⟩:=zGS n ops hl ops.length 0 (by omega);rw[bX]at h k1 k2;rw[Node.has_eq]
 cases e:xn ops n.op
 ·rw[bW];have:zS 0 Qn 0 52 1 [.blk 0,.seq 0 7] [(1,.sl (zD .i64 ops) false),(2,.mp 0 0 0),(9,.sl (zD .i64 ops) false),(10,.int .i64 ops.length),(11,.int .i64 (0:Nat))] [.arr [n.cells] none false]=some (.bool (Node.hass (xn ops) n.kids),S'):=by
   refine k2 e _ ?_;apply zN;(repeat((conv=>lhs;whnf);simp only[go_sem,simprocAttr]));exact h
  apply FX.callB2 ok40_ 1000 rfl rfl;(repeat((conv=>lhs;whnf);simp only[go_sem,simprocAttr]));exact this
 ·rw[pI];obtain⟨S2,k⟩:=k1 e;apply FX.callB2 ok40_ 1000 rfl rfl;(repeat((conv=>lhs;whnf);simp only[go_sem,simprocAttr]));exact k
end
end
section
theorem je (a:Int):uZ a a=0:=by simp[uZ]
theorem YF {a b:Int} (h : ¬a=b):uZ a b=WA (decide (a<b)):=by
 unfold uZ WA;by_cases c:a<b
 ·simp[c]
 ·have:b<a:=by omega
  simp[c,this]
theorem xe (x:Int):qZ 0 x=x:=by simp[qZ]
theorem qP {x:Int} (h:x≠0) (y:Int):qZ x y=x:=by simp[qZ,h]
theorem XP (b:Bool):WA b≠0:=by cases b <;> simp[WA]
theorem ZO (b:Bool) (y:Int):qZ (WA b) y=WA b:=qP (XP b) y
theorem Qo {m n:Nat} (h:m<n) (hn:n≤maxLen):IntKind.i64.wrap ((m:Int)-1)=(m:Int)-1:=by
 have:=xV;rw[bE];omega
theorem Qp {a b:List Node} {i:Nat} (ha:i<a.length) (hb:i<b.length):Node.cmps (a.drop i) (b.drop i)=qZ ((a.getD i nd0).cmp (b.getD i nd0)) (Node.cmps (a.drop (i+1)) (b.drop (i+1))):=by
 rw[xM ha,xM hb];rfl
theorem Kv:WA true = -1:=rfl
theorem Kw:WA false=1:=rfl
section
attribute [local irreducible] Vs.callL Vs.callRL tyi zO zl zf zR zW za zI zY zA zK zb zV zG zJ zU zn yI zm zL ze Vs.gc zH
noncomputable def zPA:FX:=⟨Tryz.f125,zE.of 125,[]⟩
instance ok125_:zPA.ok 125:=FX.mk'
theorem zGT (b:Bool):callL Tryz.prog zE 125 [.bool b]=some (.int .i64 (WA b)):=by
 refine FX.callL (r:=(.int .i64 (WA b),[])) ok125_ 1000 rfl rfl ?_ rfl;cases b
 ·rw[Kw];((repeat((conv=>lhs;whnf);simp only[go_sem,simprocAttr]));try rfl)
 ·rw[Kv];((repeat((conv=>lhs;whnf);simp only[go_sem,simprocAttr]));try rfl)
theorem ZD (S:zB) (b:Bool):zO (callL Tryz.prog zE) S 125 [.bool b]=some {v:=.int .i64 (WA b)} := zF (zGT b) (by simp[zh.bool])
noncomputable def zPB:FX:=⟨Tryz.f127,zE.of 127,[]⟩
instance ok127_:zPB.ok 127:=FX.mk'
theorem zGU (a b:Int):callL Tryz.prog zE 127 [.int .i64 a,.int .i64 b]=some (.int .i64 (uZ a b)):=by
 refine FX.callL (r:=(.int .i64 (uZ a b),[])) ok127_ 1000 rfl rfl ?_ rfl;unfold uZ;by_cases h1:a<b
 ·simp only[h1,if_true];((repeat((conv=>lhs;whnf);simp only[go_sem,simprocAttr,h1]));try rfl)
 ·by_cases h2:b<a
  ·simp only[h1,h2,if_true,if_false];((repeat((conv=>lhs;whnf);simp only[go_sem,simprocAttr,h1,h2]));try rfl)
  ·simp only[h1,h2,if_false];((repeat((conv=>lhs;whnf);simp only[go_sem,simprocAttr,h1,h2]));try rfl)
theorem qQ (S:zB) (a b:Int):zO (callL Tryz.prog zE) S 127 [.int .i64 a,.int .i64 b]=some {v:=.int .i64 (uZ a b)} := zF (zGU a b) (by simp[zh.int])
noncomputable def zKw:FX:=⟨Tryz.f126,zE.of 126,[]⟩
instance ok126_:zKw.ok 126:=FX.mk'
theorem zDw (a b:List Int) (hl:a.length=b.length) (ha:a.length≤maxLen) : ∀m,m≤a.length →
  zS 0 zKw 0 116 0 [.blk 0,.seq 0 15] [(0,.sl (zD .u32 a) false),(1,.sl (zD .u32 b) false),(5,.int .i64 ((m:Int)-1))] []=some (.int .i64 (jC a b m),[]):=by
 intro m
 induction m with
 | zero =>
  intro hm;have h1 : ¬(0:Int)≤((0:Nat):Int)-1:=by omega
  apply zC;(repeat((conv=>lhs;whnf);simp only[go_sem,simprocAttr,h1]));apply zN;unfold jC;((repeat((conv=>lhs;whnf);simp only[go_sem,simprocAttr]));try rfl)
 | succ m ih =>
  intro hm;have e1:((m+1:Nat):Int)-1=(m:Int):=by omega
  have h1:(0:Int)≤(m:Int):=by omega
  have h2:(m:Int)<(a.length:Int):=by omega
  have h3:(m:Int)<(b.length:Int):=by omega
  have w:=Qo (m:=m) (n:=a.length) (by omega) ha;have key:=ih (by omega);rw[e1];apply zC;unfold jC;by_cases c:a.getD m 0=b.getD m 0
  ·rw[c,je,xe];(repeat((conv=>lhs;whnf);simp only[go_sem,simprocAttr,h1,h2,h3,bD,c,w]));exact key
  ·rw[YF c,ZO];((repeat((conv=>lhs;whnf);simp only[go_sem,simprocAttr,h1,h2,h3,bD,c,ZD]));try rfl)
theorem zDx (a b:List Int) (ha:a.length≤maxLen) (hb:b.length≤maxLen):callL Tryz.prog zE 126 [.sl (zD .u32 a) false,.sl (zD .u32 b) false]=some (.int .i64 (wE a b)):=by
 refine FX.callL (r:=(.int .i64 (wE a b),[])) ok126_ 1000 rfl rfl ?_ rfl;unfold wE;by_cases hl:a.length=b.length
 ·have h1:(a.length:Int)=(b.length:Int):=by omega
  have h2:IntKind.i64.wrap ((b.length:Int)-1)=(b.length:Int)-1:=by
   have:=xV;rw[bE];omega
  have h3:=zDw a b hl ha a.length (bF _);rw[h1]at h3;rw[h1,je,xe];(repeat((conv=>lhs;whnf);simp only[go_sem,simprocAttr,h1,h2]));exact h3
 ·have h1 : ¬(a.length:Int)=(b.length:Int):=by omega
  rw[YF h1,ZO];((repeat((conv=>lhs;whnf);simp only[go_sem,simprocAttr,h1,ZD]));try rfl)
theorem zDy (S:zB) (a b:List Int) (ha:a.length≤maxLen) (hb:b.length≤maxLen):zO (callL Tryz.prog zE) S 126 [.sl (zD .u32 a) false,.sl (zD .u32 b) false]=some {v:=.int .i64 (wE a b)} := zF (zDx a b ha hb) (by simp[zh.sl])
noncomputable def zKx:FX:=⟨Tryz.f128,zE.of 128,[]⟩
instance ok128_:zKx.ok 128:=FX.mk'
theorem zDz (a b:List Int) (hl:a.length=b.length) (ha:a.length≤maxLen) : ∀m,m≤a.length →
  zS 0 zKx 0 116 0 [.blk 0,.seq 0 15] [(0,.sl (zD .u32 a) false),(1,.sl (zD .u32 b) false),(5,.int .i64 ((m:Int)-1))] []=some (.int .i64 (jC a b m),[]):=by
 intro m
 induction m with
 | zero =>
  intro hm;have h1 : ¬(0:Int)≤((0:Nat):Int)-1:=by omega
  apply zC;(repeat((conv=>lhs;whnf);simp only[go_sem,simprocAttr,h1]));apply zN;unfold jC;((repeat((conv=>lhs;whnf);simp only[go_sem,simprocAttr]));try rfl)
 | succ m ih =>
  intro hm;have e1:((m+1:Nat):Int)-1=(m:Int):=by omega
  have h1:(0:Int)≤(m:Int):=by omega
  have h2:(m:Int)<(a.length:Int):=by omega
  have h3:(m:Int)<(b.length:Int):=by omega
  have w:=Qo (m:=m) (n:=a.length) (by omega) ha;have key:=ih (by omega);rw[e1];apply zC;unfold jC;by_cases c:a.getD m 0=b.getD m 0
  ·rw[c,je,xe];(repeat((conv=>lhs;whnf);simp only[go_sem,simprocAttr,h1,h2,h3,bD,c,w]));exact key
  ·rw[YF c,ZO];by_cases d:a.getD m 0<b.getD m 0
   ·rw[bG d,Kv];((repeat((conv=>lhs;whnf);simp only[go_sem,simprocAttr,h1,h2,h3,bD,c,d]));try rfl)
   ·rw[bH d,Kw];((repeat((conv=>lhs;whnf);simp only[go_sem,simprocAttr,h1,h2,h3,bD,c,d]));try rfl)
theorem zEA (a b:List Int) (ha:a.length≤maxLen) (hb:b.length≤maxLen):callL Tryz.prog zE 128 [.sl (zD .u32 a) false,.sl (zD .u32 b) false]=some (.int .i64 (wE a b)):=by
 refine FX.callL (r:=(.int .i64 (wE a b),[])) ok128_ 1000 rfl rfl ?_ rfl;unfold wE;by_cases hl:a.length=b.length
 ·have h1:(a.length:Int)=(b.length:Int):=by omega
  have h2:IntKind.i64.wrap ((b.length:Int)-1)=(b.length:Int)-1:=by
   have:=xV;rw[bE];omega
  have h3:=zDz a b hl ha a.length (bF _);rw[h1]at h3;rw[h1,je,xe];(repeat((conv=>lhs;whnf);simp only[go_sem,simprocAttr,h1,h2]));exact h3
 ·have h1 : ¬(a.length:Int)=(b.length:Int):=by omega
  rw[YF h1,ZO];by_cases d:(a.length:Int)<(b.length:Int)
  ·rw[bG d,Kv];((repeat((conv=>lhs;whnf);simp only[go_sem,simprocAttr,h1,d]));try rfl)
  ·rw[bH d,Kw];((repeat((conv=>lhs;whnf);simp only[go_sem,simprocAttr,h1,d]));try rfl)
theorem zEB (S:zB) (a b:List Int) (ha:a.length≤maxLen) (hb:b.length≤maxLen):zO (callL Tryz.prog zE) S 128 [.sl (zD .u32 a) false,.sl (zD .u32 b) false]=some {v:=.int .i64 (wE a b)} := zF (zEA a b ha hb) (by simp[zh.sl])
noncomputable def zNk:FX:=⟨Tryz.f80,zE.of 80,[]⟩
instance ok80_:zNk.ok 80:=FX.mk'
theorem zBc (a b:Node) (ha:a.ok) (hl:a.kids.length=b.kids.length) (ih : ∀k∈a.kids,∀m∈b.kids,callL Tryz.prog zE 80 [.agg k.cells,.agg m.cells]=some (.int .i64 (k.cmp m))) : ∀(m i:Nat),i+m=a.kids.length →
  zS 0 zNk 1 1012 2 [.blk 1,.seq 0 127] [(2,.mp 0 0 0),(3,.mp 1 0 0),(82,.int .i64 a.kids.length),(83,.int .i64 i)] [.arr [a.cells] none false,.arr [b.cells] none false] =
   some (.int .i64 (Node.cmps (a.kids.drop i) (b.kids.drop i)),[.arr [a.cells] none false,.arr [b.cells] none false]):=by
 intro m
 induction m with
 | zero =>
  intro i hi;have h1 : ¬(i:Int)<(a.kids.length:Int):=by omega
  rw[bT (l:=a.kids) (by omega)];apply zC;(repeat((conv=>lhs;whnf);simp only[go_sem,simprocAttr,h1]));apply zN;unfold Node.cmps;((repeat((conv=>lhs;whnf);simp only[go_sem,simprocAttr]));try rfl)
 | succ m hm =>
  intro i hi;have h1:(i:Int)<(a.kids.length:Int):=by omega
  have h1':(i:Int)<(b.kids.length:Int):=by omega
  have h2:=zg (i:=i) (n:=a.kids.length) (by omega) ha.len;have h4:(0:Int)≤(i:Int):=by omega
  have h5:=fun S=>Xz S (ih _ (yA (l:=a.kids) (i:=i) (by omega)) _ (yA (l:=b.kids) (i:=i) (by omega)));have key:=hm (i+1) (by omega);rw[Qp (a:=a.kids) (b:=b.kids) (i:=i) (by omega) (by omega)];apply zC;by_cases c:(a.kids.getD i nd0).cmp (b.kids.getD i nd0)=0
  ·rw[c]at h5;rw[c,xe];(repeat((conv=>lhs;whnf);simp only[go_sem,simprocAttr,h1,h1',h2,h4,h5]));exact key
  ·rw[qP c];((repeat((conv=>lhs;whnf);simp only[go_sem,simprocAttr,h1,h1',h2,h4,h5,c]));try rfl)
theorem Wy : ∀a:Node,a.ok→∀b:Node,b.ok→callL Tryz.prog zE 80 [.agg a.cells,.agg b.cells]=some (.int .i64 (a.cmp b)):=by
 refine Node.ind' fun a ih ha b hb=>?_;refine FX.callL (r:=(.int .i64 (a.cmp b),[.arr [a.cells] none false,.arr [b.cells] none false])) ok80_ 1000 rfl rfl ?_ rfl;have hn:=fun S=>zDy S a.num b.num ha.val.ln hb.val.ln;have hd:=fun S=>zDy S a.den b.den ha.val.ld hb.val.ld;rw[Node.cmp_eq];by_cases c1:a.op=b.op
 case neg =>
  rw[YF c1,ZO];((repeat((conv=>lhs;whnf);simp only[go_sem,simprocAttr,c1,ZD]));try rfl)
 rw[c1,je,xe];unfold V8
 cases c2:a.name.toList == b.name.toList
 ·have c2':a.name.toList≠b.name.toList:=by simpa using c2
  rw[bA c2',ZO];((repeat((conv=>lhs;whnf);simp only[go_sem,simprocAttr,c1,c2,ZD]));try rfl)
 have c2' : ¬a.name.toList≠b.name.toList:=by simpa using c2
 rw[hZ c2',xe];unfold V9
 cases c3:a.neg == b.neg
 ·have c3':a.neg≠b.neg:=by simpa using c3
  rw[bA c3',ZO];((repeat((conv=>lhs;whnf);simp only[go_sem,simprocAttr,c1,c2,c3,ZD]));try rfl)
 have c3' : ¬a.neg≠b.neg:=by simpa using c3
 rw[hZ c3',xe];by_cases c4:wE a.num b.num=0
 case neg =>
  rw[qP c4];((repeat((conv=>lhs;whnf);simp only[go_sem,simprocAttr,c1,c2,c3,ZD,hn,c4]));try rfl)
 rw[c4,xe];by_cases c5:wE a.den b.den=0
 case neg =>
  rw[qP c5];((repeat((conv=>lhs;whnf);simp only[go_sem,simprocAttr,c1,c2,c3,ZD,hn,c4,hd,c5]));try rfl)
 rw[c5,xe];by_cases hl:a.kids.length=b.kids.length
 ·have h:=zBc a b ha hl (fun k hk m hm=>ih k hk (ha.kids k hk) m (hb.kids m hm)) a.kids.length 0 (by omega);simp only[bX]at h;have h1:(a.kids.length:Int)=(b.kids.length:Int):=by omega
  rw[h1]at h;rw[h1,je,xe];(repeat((conv=>lhs;whnf);simp only[go_sem,simprocAttr,c1,c2,c3,hn,c4,hd,c5,h1]));exact h
 ·have h1 : ¬(a.kids.length:Int)=(b.kids.length:Int):=by omega
  rw[YF h1,ZO];((repeat((conv=>lhs;whnf);simp only[go_sem,simprocAttr,c1,c2,c3,ZD,hn,c4,hd,c5,h1]));try rfl)
noncomputable def zNl:FX:=⟨Tryz.f85,zE.of 85,[]⟩
instance ok85_:zNl.ok 85:=FX.mk'
theorem Jm (a b:Node) (ha:a.ok) (hl:a.kids.length=b.kids.length) (ih : ∀k∈a.kids,∀m∈b.kids,callL Tryz.prog zE 85 [.agg k.cells,.agg m.cells]=some (.int .i64 (k.cmp m))) : ∀(m i:Nat),i+m=a.kids.length →
  zS 0 zNl 0 4084 2 [.blk 0,.seq 0 511] [(2,.mp 0 0 0),(3,.mp 1 0 0),(9,.int .i64 i)] [.arr [a.cells] none false,.arr [b.cells] none false] =
   some (.int .i64 (Node.cmps (a.kids.drop i) (b.kids.drop i)),[.arr [a.cells] none false,.arr [b.cells] none false]):=by
 intro m
 induction m with
 | zero =>
  intro i hi;have h1 : ¬(i:Int)<(a.kids.length:Int):=by omega
  rw[bT (l:=a.kids) (by omega)];apply zC;(repeat((conv=>lhs;whnf);simp only[go_sem,simprocAttr,h1]));apply zN;unfold Node.cmps;((repeat((conv=>lhs;whnf);simp only[go_sem,simprocAttr]));try rfl)
 | succ m hm =>
  intro i hi;have h1:(i:Int)<(a.kids.length:Int):=by omega
  have h1':(i:Int)<(b.kids.length:Int):=by omega
  have h2:=zg (i:=i) (n:=a.kids.length) (by omega) ha.len;have h4:(0:Int)≤(i:Int):=by omega
  have h5:=fun S=>Xz S (ih _ (yA (l:=a.kids) (i:=i) (by omega)) _ (yA (l:=b.kids) (i:=i) (by omega)));have key:=hm (i+1) (by omega);rw[Qp (a:=a.kids) (b:=b.kids) (i:=i) (by omega) (by omega)];apply zC;by_cases c:(a.kids.getD i nd0).cmp (b.kids.getD i nd0)=0
  ·rw[c]at h5;rw[c,xe];(repeat((conv=>lhs;whnf);simp only[go_sem,simprocAttr,h1,h1',h2,h4,h5]));exact key
  ·rw[qP c];((repeat((conv=>lhs;whnf);simp only[go_sem,simprocAttr,h1,h1',h2,h4,h5,c]));try rfl)
theorem Jn : ∀a:Node,a.ok→∀b:Node,b.ok→callL Tryz.prog zE 85 [.agg a.cells,.agg b.cells]=some (.int .i64 (a.cmp b)):=by
 refine Node.ind' fun a ih ha b hb=>?_;refine FX.callL (r:=(.int .i64 (a.cmp b),[.arr [a.cells] none false,.arr [b.cells] none false])) ok85_ 1000 rfl rfl ?_ rfl;have hn:=fun S=>zEB S a.num b.num ha.val.ln hb.val.ln;have hd:=fun S=>zEB S a.den b.den ha.val.ld hb.val.ld;have z0 : ¬(WA true=0):=XP true;have z1 : ¬(WA false=0):=XP false;rw[Node.cmp_eq];by_cases c1:uZ a.op b.op=0
 case neg =>
  rw[qP c1];((repeat((conv=>lhs;whnf);simp only[go_sem,simprocAttr,c1,qQ]));try rfl)
 rw[c1,xe];unfold V8
 cases c2:a.name.toList == b.name.toList
 ·have c2':a.name.toList≠b.name.toList:=by simpa using c2
  rw[bA c2',ZO]
  cases d:Op.bytesLess a.name.toList b.name.toList
  ·rw[Kw];((repeat((conv=>lhs;whnf);simp only[go_sem,simprocAttr,c1,qQ,c2,d]));try rfl)
  ·rw[Kv];((repeat((conv=>lhs;whnf);simp only[go_sem,simprocAttr,c1,qQ,c2,d]));try rfl)
 have c2' : ¬a.name.toList≠b.name.toList:=by simpa using c2
 rw[hZ c2',xe];unfold V9
 cases c3:a.neg == b.neg
 ·have c3':a.neg≠b.neg:=by simpa using c3
  rw[bA c3',ZO]
  cases da:a.neg <;> cases d:b.neg
  ·exact absurd (by rw[da,d]) c3'
  ·rw[da,d]at c3;rw[Kv];((repeat((conv=>lhs;whnf);simp only[go_sem,simprocAttr,c1,qQ,c2,da,d,c3]));try rfl)
  ·rw[da,d]at c3;rw[Kw];((repeat((conv=>lhs;whnf);simp only[go_sem,simprocAttr,c1,qQ,c2,da,d,c3]));try rfl)
  ·exact absurd (by rw[da,d]) c3'
 have c3' : ¬a.neg≠b.neg:=by simpa using c3
 rw[hZ c3',xe];by_cases c4:wE a.num b.num=0
 case neg =>
  rw[qP c4];((repeat((conv=>lhs;whnf);simp only[go_sem,simprocAttr,c1,qQ,c2,c3,hn,c4]));try rfl)
 rw[c4,xe];by_cases c5:wE a.den b.den=0
 case neg =>
  rw[qP c5];((repeat((conv=>lhs;whnf);simp only[go_sem,simprocAttr,c1,qQ,c2,c3,hn,c4,hd,c5]));try rfl)
 rw[c5,xe];by_cases hl:a.kids.length=b.kids.length
 ·have h:=Jm a b ha hl (fun k hk m hm=>ih k hk (ha.kids k hk) m (hb.kids m hm)) a.kids.length 0 (by omega);simp only[bX]at h;have h1:(a.kids.length:Int)=(b.kids.length:Int):=by omega
  have h2:uZ (a.kids.length:Int) (b.kids.length:Int)=0:=by rw[h1,je]
  rw[h2,xe];(repeat((conv=>lhs;whnf);simp only[go_sem,simprocAttr,c1,qQ,c2,c3,hn,c4,hd,c5,h2]));exact h
 ·have h1 : ¬(a.kids.length:Int)=(b.kids.length:Int):=by omega
  have h2 : ¬uZ (a.kids.length:Int) (b.kids.length:Int)=0:=by rw[YF h1];exact XP _
  rw[qP h2];((repeat((conv=>lhs;whnf);simp only[go_sem,simprocAttr,c1,qQ,c2,c3,hn,c4,hd,c5,h2]));try rfl)
noncomputable def zRd:FX:=⟨Tryz.f39,zE.of 39,[]⟩
instance ok39_:zRd.ok 39:=FX.mk'
theorem zEC (a b:Node) (ha:a.ok) (hb:b.ok):callL Tryz.prog zE 39 [.agg a.cells,.agg b.cells]=some (.bool (decide (a.cmp b=0))):=by
 refine FX.callL (r:=(.bool (decide (a.cmp b=0)),[.arr [a.cells] none false,.arr [b.cells] none false])) ok39_ 1000 rfl rfl ?_ rfl;have h:=fun S=>Xz S (Wy a ha b hb);((repeat((conv=>lhs;whnf);simp only[go_sem,simprocAttr,h]));try rfl)
theorem jI (S:zB) (a b:Node) (ha:a.ok) (hb:b.ok):zO (callL Tryz.prog zE) S 39 [.agg a.cells,.agg b.cells]=some {v:=.bool (decide (a.cmp b=0))} := Xz S (zEC a b ha hb)
noncomputable def zRe:FX:=⟨Tryz.f43,zE.of 43,[]⟩
instance ok43_:zRe.ok 43:=FX.mk'
theorem UG (a b:Node) (ha:a.ok) (hb:b.ok):callL Tryz.prog zE 43 [.agg a.cells,.agg b.cells]=some (.bool (decide (a.cmp b=0))):=by
 refine FX.callL (r:=(.bool (decide (a.cmp b=0)),[.arr [a.cells] none false,.arr [b.cells] none false])) ok43_ 1000 rfl rfl ?_ rfl;have h:=fun S=>Xz S (Jn a ha b hb);((repeat((conv=>lhs;whnf);simp only[go_sem,simprocAttr,h]));try rfl)
theorem zED (S:zB) (a b:Node) (ha:a.ok) (hb:b.ok):zO (callL Tryz.prog zE) S 43 [.agg a.cells,.agg b.cells]=some {v:=.bool (decide (a.cmp b=0))} := Xz S (UG a b ha hb)
end
end
end Go.Vs
