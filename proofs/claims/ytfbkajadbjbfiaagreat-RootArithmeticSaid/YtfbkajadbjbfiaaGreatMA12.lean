
import Derived.Test.YtfbkajadbjbfiaaGreatMA11
set_option linter.unusedVariables false
set_option linter.unusedSimpArgs false
set_option maxRecDepth 100000
namespace Go.Vs
open Go Go.Proofs
section
theorem JE {W V Wk T v1 v0 g r num u2:Int} (hWk:0≤Wk) (hT:T=num*4294967296+u2) (hW:W<(T+1)*Wk) (hV:(v1*4294967296+v0)*Wk≤V) (hg:0≤g) (e:g*v1+r=num) (h:r*4294967296+u2<g*v0):W<g*V:=by
 have h1:T+1≤g*(v1*4294967296+v0):=by
  rw[bG,←bN,hT,←e,aQ];omega
 have h2:(T+1)*Wk≤g*(v1*4294967296+v0)*Wk:=pU h1 hWk;have h3:g*((v1*4294967296+v0)*Wk)≤g*V:=pI hV hg;rw[←bN]at h3;omega
theorem zAJ {W V g:Int} (hV:0≤V) (hWV:W<4294967296*V) (h:4294967296≤g):W<g*V:=by
 have:=pU h hV;omega
theorem zAK {W V Wk T t g:Int} (hWk:0≤Wk) (hg:0≤g) (hg2:g<4294967296) (h:g*t≤T) (hW:T*Wk≤W) (hV:V≤t*Wk+Wk) (hV2:4294967296*Wk≤V):g*V≤W+V:=by
 have h1:g*V≤g*(t*Wk+Wk):=pI hV hg;have h2:g*t*Wk≤T*Wk:=pU h hWk;have h3:g*Wk≤4294967296*Wk:=pU (by omega) hWk;rw[bG,←bN]at h1;omega
theorem zAL {v1 v0 g r num u2 T:Int} (hT:T=num*4294967296+u2) (hu:0≤u2) (hv1:0<v1) (hv0:0≤v0∧v0<4294967296) (hn:num<v1*4294967296+4294967296) (hg:0≤g) (e:g*v1+r=num) (h:4294967296≤r):g<4294967296∧g*(v1*4294967296+v0)≤T:=by
 have h1:g<4294967296:=by
  have a:g*v1<4294967296*v1:=by rw[bM 4294967296 v1];omega
  exact Int.lt_of_mul_lt_mul_right a (sP hv1)
 refine⟨h1,?_⟩;have a1:g*v0≤4294967295*v0:=pU (by omega) hv0.1;rw[bG,←bN,hT,←e,aQ];omega
theorem zBe {v1 v0 g r num u2 T:Int} (hT:T=num*4294967296+u2) (e:g*v1+r=num) (h:g*v0≤r*4294967296+u2):g*(v1*4294967296+v0)≤T:=by
 rw[bG,←bN,hT,←e,aQ];omega
section
attribute [local irreducible] Vs.callL Vs.callRL tyi zQ yE zm zV zk zb zK zf zF zT zl zi zJ zL zj yB yO yD zN zh Vs.gc zH
noncomputable def vM:FX:=⟨Tryz.f103,zD.of 103,[]⟩
instance ok103_:vM.ok 103:=FX.mk'
theorem JF (U Q B:List Int) (e2:Bool) (J k j:Nat) (sh:Int) (v1 v0 u2 num W V Wk T:Int) (hU:U.length≤2000000) (hjk:j+k<U.length) (hk:2≤k) (hv1:0<v1∧v1<4294967296) (hv0:0≤v0∧v0<4294967296) (hu2:U.getD (j+k-2) 0=u2) (hu:0≤u2∧u2<4294967296)
  (hT:T=num*4294967296+u2) (hn:num<v1*4294967296+4294967296) (hWk:0≤Wk) (hV0:0≤V) (hW0:0≤W) (hW:W<(T+1)*Wk) (hV:(v1*4294967296+v0)*Wk≤V) (hWV:W<4294967296*V) (fs:List Fr) : ∀(f:Nat) (tl:Env) (g r:Int),(tl=[]∨tl=[(127,.undef),(134,.undef)])→g≤f→(0≤g∧g<9223372036854775808)→(0≤r∧r<4294967296)→g*v1+r=num→W<(g+1)*V →
  ∃g':Int,(0≤g'∧g'<4294967296)∧g'*(v1*4294967296+v0)≤T∧W<(g'+1)*V∧∀z:PV × zA,zZ 0 vM 2 fs [(4,.msl 1 0 J true),(8,.int .i64 sh),(9,.sl (zB .u32 B) e2),(10,.msl 0 0 U.length true),(11,.int .i64 k),(12,.int .u64 v1),(13,.int .u64 v0),(14,.int .i64 j),(16,.int .u64 g'),(17,.undef),(127,.undef),(134,.undef)] [.arr (zB .u32 U) (some (some 1)) false,.arr (zB .u32 Q) (some (some 1)) false]=some z →
  zS 0 vM 2 8385688 2 fs ([(4,.msl 1 0 J true),(8,.int .i64 sh),(9,.sl (zB .u32 B) e2),(10,.msl 0 0 U.length true),(11,.int .i64 k),(12,.int .u64 v1),(13,.int .u64 v0),(14,.int .i64 j),(16,.int .u64 g),(17,.int .u64 r)]++tl) [.arr (zB .u32 U) (some (some 1)) false,.arr (zB .u32 Q) (some (some 1)) false]=some z:=by
 have hM:3000000≤maxLen:=by decide
 intro f;have wi:IntKind.i64.wrap ((j:Int)+(k:Int))=((j+k:Nat):Int):=by rw[bA];omega
 have wi2:IntKind.i64.wrap (((j+k:Nat):Int)-2)=((j+k-2:Nat):Int):=by rw[bA];omega
 have xm:=yb.idxmk .u32 (S:=[.arr (zB .u32 U) (some (some 1)) false,.arr (zB .u32 Q) (some (some 1)) false]) (id:=0) (off:=0) (n:=U.length) (ex:=true) (L:=U) (j+k-2) rfl (by omega) (by omega);rw[bW]at xm;have len:j+k-2<U.length:=by omega
 have gk:=zy .u32 U len;rw[hu2]at gk;have cu:IntKind.u64.wrap u2=u2:=by rw[yK];omega
 have stepw : ∀g r:Int,(0<g∧g<9223372036854775808)→(0≤r∧r<4294967296)→IntKind.u64.wrap (g-1)=g-1∧IntKind.u64.wrap (r+v1)=r+v1∧IntKind.u64.wrap (r*4294967296)=r*4294967296∧bor .u64 (r*4294967296) u2=r*4294967296+u2:=fun g r hg hr=>by
  refine⟨by rw[yK];omega,by rw[yK];omega,by rw[yK];omega,ub hr hu⟩
 have stepv : ∀g r:Int,g*v1+r=num→(g-1)*v1+(r+v1)=num:=fun g r e=>by rw[aT];omega
 have fin : ∀(tl:Env) (g r:Int),(tl=[]∨tl=[(127,.undef),(134,.undef)])→(0≤g∧g<9223372036854775808)→(0≤r∧r<4294967296)→g*v1+r=num→W<(g+1)*V→¬ 4294967296≤g→¬r*4294967296+u2<g*v0→∃g':Int,(0≤g'∧g'<4294967296)∧g'*(v1*4294967296+v0)≤T∧W<(g'+1)*V∧∀z:PV × zA,zZ 0 vM 2 fs [(4,.msl 1 0 J true),(8,.int .i64 sh),(9,.sl (zB .u32 B) e2),(10,.msl 0 0 U.length true),(11,.int .i64 k),(12,.int .u64 v1),(13,.int .u64 v0),(14,.int .i64 j),(16,.int .u64 g'),(17,.undef),(127,.undef),(134,.undef)] [.arr (zB .u32 U) (some (some 1)) false,.arr (zB .u32 Q) (some (some 1)) false]=some z →
  zS 0 vM 2 8385688 2 fs ([(4,.msl 1 0 J true),(8,.int .i64 sh),(9,.sl (zB .u32 B) e2),(10,.msl 0 0 U.length true),(11,.int .i64 k),(12,.int .u64 v1),(13,.int .u64 v0),(14,.int .i64 j),(16,.int .u64 g),(17,.int .u64 r)]++tl) [.arr (zB .u32 U) (some (some 1)) false,.arr (zB .u32 Q) (some (some 1)) false]=some z:=by
  intro tl g r htl hg hr e hlow c1 c2;have sh:=ub (h:=r) (l:=u2) hr hu;have sw:IntKind.u64.wrap (r*4294967296)=r*4294967296:=by rw[yK];omega
  have y0:0≤g*v0:=pW hg.1 hv0.1;have y1:g*v0≤4294967295*4294967295 :=
   Int.le_trans (pU (show g≤4294967295 by omega) hv0.1) (pI (by omega) (by decide))
  have yw:IntKind.u64.wrap (g*v0)=g*v0:=by rw[yK];omega
  refine⟨g,⟨hg.1,by omega⟩,zBe hT e (by omega),hlow,fun z hz=>?_⟩;apply zC
  rcases htl with rfl | rfl
  all_goals
   simp only[pD,HC,pC];(repeat((conv=>lhs;whnf);simp only[go_sem,simprocAttr,c1,c2,wi,wi2,xm,len,gk,cu,sh,sw,yw]));exact hz
 have brk : ∀(tl:Env) (g r:Int),(tl=[]∨tl=[(127,.undef),(134,.undef)])→(0<g∧g<9223372036854775808)→(0≤r∧r<4294967296)→g*v1+r=num→W<g*V→4294967296≤g∨(¬ 4294967296≤g∧r*4294967296+u2<g*v0)→4294967296≤r+v1→∃g':Int,(0≤g'∧g'<4294967296)∧g'*(v1*4294967296+v0)≤T∧W<(g'+1)*V∧∀z:PV × zA,zZ 0 vM 2 fs [(4,.msl 1 0 J true),(8,.int .i64 sh),(9,.sl (zB .u32 B) e2),(10,.msl 0 0 U.length true),(11,.int .i64 k),(12,.int .u64 v1),(13,.int .u64 v0),(14,.int .i64 j),(16,.int .u64 g'),(17,.undef),(127,.undef),(134,.undef)] [.arr (zB .u32 U) (some (some 1)) false,.arr (zB .u32 Q) (some (some 1)) false]=some z →
  zS 0 vM 2 8385688 2 fs ([(4,.msl 1 0 J true),(8,.int .i64 sh),(9,.sl (zB .u32 B) e2),(10,.msl 0 0 U.length true),(11,.int .i64 k),(12,.int .u64 v1),(13,.int .u64 v0),(14,.int .i64 j),(16,.int .u64 g),(17,.int .u64 r)]++tl) [.arr (zB .u32 U) (some (some 1)) false,.arr (zB .u32 Q) (some (some 1)) false]=some z:=by
  intro tl g r htl hg hr e hlow hc hr2;obtain⟨g1,g2⟩:=zAL hT hu.1 hv1.1 hv0 hn (show 0≤g-1 by omega) (stepv g r e) hr2;obtain⟨s1,s2,s3,s4⟩:=stepw g r hg hr;refine⟨g-1,⟨by omega,g1⟩,g2,by rw[Int.sub_add_cancel];exact hlow,fun z hz=>?_⟩;apply zC
  rcases hc with c1 | ⟨c1,c2⟩
  ·rcases htl with rfl | rfl
   all_goals
    simp only[pD,HC,pC];(repeat((conv=>lhs;whnf);simp only[go_sem,simprocAttr,c1,s1,s2,hr2]));exact hz
  ·have y0:0≤g*v0:=pW (by omega) hv0.1;have y1:g*v0≤4294967295*4294967295 :=
    Int.le_trans (pU (show g≤4294967295 by omega) hv0.1) (pI (by omega) (by decide))
   have yw:IntKind.u64.wrap (g*v0)=g*v0:=by rw[yK];omega
   rcases htl with rfl | rfl
   all_goals
    simp only[pD,HC,pC];(repeat((conv=>lhs;whnf);simp only[go_sem,simprocAttr,c1,c2,wi,wi2,xm,len,gk,cu,s3,s4,yw,s1,s2,hr2]));exact hz
 have xD : ∀(tl:Env) (g r:Int) (z:PV × zA),(tl=[]∨tl=[(127,.undef),(134,.undef)])→(0<g∧g<9223372036854775808)→(0≤r∧r<4294967296)→4294967296≤g∨(¬ 4294967296≤g∧r*4294967296+u2<g*v0)→¬ 4294967296≤r+v1→zS 0 vM 2 8385688 2 fs [(4,.msl 1 0 J true),(8,.int .i64 sh),(9,.sl (zB .u32 B) e2),(10,.msl 0 0 U.length true),(11,.int .i64 k),(12,.int .u64 v1),(13,.int .u64 v0),(14,.int .i64 j),(16,.int .u64 (g-1)),(17,.int .u64 (r+v1)),(127,.undef),(134,.undef)] [.arr (zB .u32 U) (some (some 1)) false,.arr (zB .u32 Q) (some (some 1)) false]=some z →
  zS 0 vM 2 8385688 2 fs ([(4,.msl 1 0 J true),(8,.int .i64 sh),(9,.sl (zB .u32 B) e2),(10,.msl 0 0 U.length true),(11,.int .i64 k),(12,.int .u64 v1),(13,.int .u64 v0),(14,.int .i64 j),(16,.int .u64 g),(17,.int .u64 r)]++tl) [.arr (zB .u32 U) (some (some 1)) false,.arr (zB .u32 Q) (some (some 1)) false]=some z:=by
  intro tl g r z htl hg hr hc hr2 hz;obtain⟨s1,s2,s3,s4⟩:=stepw g r hg hr;apply zC
  rcases hc with c1 | ⟨c1,c2⟩
  ·rcases htl with rfl | rfl
   all_goals
    simp only[pD,HC,pC];(repeat((conv=>lhs;whnf);simp only[go_sem,simprocAttr,c1,s1,s2,hr2]));exact hz
  ·have y0:0≤g*v0:=pW (by omega) hv0.1;have y1:g*v0≤4294967295*4294967295 :=
    Int.le_trans (pU (show g≤4294967295 by omega) hv0.1) (pI (by omega) (by decide))
   have yw:IntKind.u64.wrap (g*v0)=g*v0:=by rw[yK];omega
   rcases htl with rfl | rfl
   all_goals
    simp only[pD,HC,pC];(repeat((conv=>lhs;whnf);simp only[go_sem,simprocAttr,c1,c2,wi,wi2,xm,len,gk,cu,s3,s4,yw,s1,s2,hr2]));exact hz
 induction f with
 | zero =>
  intro tl g r htl hf hg hr e hlow;have:g=0:=by omega
  subst this;exact fin tl 0 r htl hg hr e hlow (by decide) (by rw[Int.zero_mul];omega)
 | succ f ih =>
  intro tl g r htl hf hg hr e hlow;by_cases hc:4294967296≤g∨(¬ 4294967296≤g∧r*4294967296+u2<g*v0)
  ·have low:W<g*V:=by
    rcases hc with c1 | ⟨c1,c2⟩
    ·exact zAJ hV0 hWV c1
    ·exact JE hWk hT hW hV hg.1 e c2
   have g0:0<g:=by
    rcases Int.lt_or_eq_of_le hg.1 with h | h
    ·exact h
    ·rw[←h,Int.zero_mul]at low;omega
   by_cases hr2:4294967296≤r+v1
   ·exact brk tl g r htl ⟨g0,hg.2⟩ hr e low hc hr2
   ·obtain⟨g',i1,i2,i3,i4⟩:=ih [(127,.undef),(134,.undef)] (g-1) (r+v1) (.inr rfl) (by omega) ⟨by omega,by omega⟩ ⟨by omega,by omega⟩ (stepv g r e) (by rw[Int.sub_add_cancel];exact low);exact⟨g',i1,i2,i3,fun z hz=>xD tl g r z htl ⟨g0,hg.2⟩ hr hc hr2 (i4 z hz)⟩
  ·exact fin tl g r htl hg hr e hlow (fun c=>hc (.inl c)) (fun c=>hc (.inr ⟨fun c1=>hc (.inl c1),c⟩))
end
end
section
theorem Yi {S:zA} {f:FuncId} {l:List PV} {v:PV} {S':zA} (hr:zD.refs f=true) (hc:callRL Tryz.prog zD f l S=some (v,S')) (hl:S.length≤S'.length) (hcl:uI S=true:=by first | rfl | simp[uI,zY,yP,vp,uv,jM,qf]) (hb:jp S.length l=true:=by first | rfl | simp[jp,uv,jM,qf,zDC,zBU,zDD,zAA,zBT]) (hrd:zD.reads f=false:=by rfl):yE Tryz.prog zD S f l=some {v,S:=S'} := by
 simp only[yE,hr,if_true,hc,bC];rw[hZ ⟨hl,hcl,hb,fun h=>by rw[hrd]at h;cases h⟩]
theorem zGJ {L:List Int} {k:Nat} (h:L.length=k+2) : ∃lo:List Int,lo.length=k∧L=lo++[L.getD k 0,L.getD (k+1) 0]:=by
 refine⟨L.take k,by simp;omega,?_⟩
 conv=>lhs;rw[←HB k L]
 congr 1
 rw[yA L (by omega),yA L (by omega),PR (by omega)]
theorem zGK {L:List Int} {k:Nat} (h:L.length=k+3) : ∃lo:List Int,lo.length=k∧L=lo++[L.getD k 0,L.getD (k+1) 0,L.getD (k+2) 0]:=by
 refine⟨L.take k,by simp;omega,?_⟩
 conv=>lhs;rw[←HB k L]
 congr 1
 rw[yA L (by omega),yA L (by omega),yA L (by omega),PR (by omega)]
theorem Yj {P W Z:List Int} {j:Nat} (hP:P.length=j) (i:Nat) (hi:i<W.length):(P++W++Z).getD (j+i) 0=W.getD i 0:=by
 subst hP;rw[aG];simp only[bE];rw[pG (by omega),Nat.add_sub_cancel_left,pP hi]
theorem zEb {W B:List Int} {k:Nat} {T t Wk w0 w1 w2 c0 c1:Int} (hB:B.length=k+2) (hBo:OkD WB B) (hW:W.length=k+3) (hWo:OkD WB W) (hlt:zG WB W<4294967296*zG WB B)
  (e1:W.getD k 0=w0) (e2:W.getD (k+1) 0=w1) (e3:W.getD (k+2) 0=w2) (e4:B.getD k 0=c0) (e5:B.getD (k+1) 0=c1) (hv:0<c1)
  (hT:T=(w2*4294967296+w1)*4294967296+w0) (ht:t=c1*4294967296+c0) (hk:Wk=(4294967296:Int)^k) :
  T*Wk≤zG WB W∧zG WB W<(T+1)*Wk∧t*Wk≤zG WB B∧zG WB B≤t*Wk+Wk∧4294967296*Wk≤zG WB B∧w2≤c1∧0<Wk∧(0≤w0∧w0<4294967296)∧(0≤w1∧w1<4294967296)∧(0≤w2∧w2<4294967296)∧(0≤c0∧c0<4294967296)∧(0≤c1∧c1<4294967296):=by
 have e0:(((WB:Nat):Int))=(4294967296:Int):=rfl;have p0:0<Wk:=by rw[hk];exact aL (by decide)
 obtain⟨lo,l1,l2⟩:=zGK hW;obtain⟨ld,d1,d2⟩:=zGJ hB;have a0:0≤W.getD k 0∧W.getD k 0<4294967296:=hWo.getD (by decide) _;have a1:0≤W.getD (k+1) 0∧W.getD (k+1) 0<4294967296:=hWo.getD (by decide) _;have a2:0≤W.getD (k+2) 0∧W.getD (k+2) 0<4294967296:=hWo.getD (by decide) _;have b0:0≤B.getD k 0∧B.getD k 0<4294967296:=hBo.getD (by decide) _;have b1:0≤B.getD (k+1) 0∧B.getD (k+1) 0<4294967296:=hBo.getD (by decide) _;have lok:OkD WB lo:=fun y hy=>hWo y (by rw[l2];simp[hy]);have dok:OkD WB ld:=fun y hy=>hBo y (by rw[d2];simp[hy]);have h1:=xr lok;have h2:=zv lok;have h3:=xr dok;have h4:=zv dok;rw[l1,e0,←hk]at h1;rw[d1,e0,←hk]at h3;rw[e1]at a0 l2;rw[e2]at a1 l2;rw[e3]at a2 l2;rw[e4]at b0 d2;rw[e5]at b1 d2;have vW:zG WB W=zG WB lo+Wk*T:=by
  rw[l2,zX,l1,e0,hk]
  congr 2
  show w0+4294967296*(w1+4294967296*(w2+4294967296*0))=T
  omega
 have vB:zG WB B=zG WB ld+Wk*t:=by
  rw[d2,zX,d1,e0,hk]
  congr 2
  show c0+4294967296*(c1+4294967296*0)=t
  omega
 have c1':T*Wk=Wk*T:=bM _ _;have c2':t*Wk=Wk*t:=bM _ _;have c3':(T+1)*Wk=Wk*T+Wk:=by rw[aQ,c1',HM]
 have p1:4294967296*Wk≤t*Wk:=pU (by omega) (sP p0);refine⟨by omega,by rw[vW,c3'];omega,by omega,by omega,by omega,?_,p0,a0,a1,a2,b0,b1⟩;by_cases h:w2≤c1
 ·exact h
 ·exfalso
  have g1:(t+1)*4294967296*Wk≤T*Wk:=pU (by omega) (sP p0);have g2:(t+1)*4294967296*Wk=4294967296*(Wk*t+Wk):=by
   rw[bM _ 4294967296,bN,aQ,HM,bM t Wk]
  omega
section
attribute [local irreducible] Vs.callL Vs.callRL tyi zQ yE zm zV zk zb zK zf zF zT zl zi zJ zL zj yB yO yD zN zh Vs.gc zH
theorem U2 {S:zA} {id off n:Nat} {ex:Bool} {L:List Int} {lo hi m:Nat} (hS:zz S id=some (zB .u32 L)) (h1:lo≤hi) (h2:hi≤n) (h3:off+n≤L.length) (hm:hi-lo=m):zf Tryz.prog 40 S (.msl id off n ex) (some (.int .i64 (lo:Nat))) (some (.int .i64 (hi:Nat))) none=some (.msl id (off+lo) m false):=by
 have b : ∀(d n:Nat),xg d (some (.int .i64 (n:Int)))=some n:=fun d n=>by simp[xg]
 have b0 : ∀d:Nat,xg d none=some d:=fun d=>rfl;simp only[zf,yb.el,yb.is,yb.k,yb.s,vm,yb.d,b,b0,hS,ya,zI];subst hm;have k1:zq 1 (zB .u32 L)=true:=ya _ _;have k2:off+n≤(zB .u32 L).length:=by rw[zI];exact h3
 simp[h1,h2,k1,k2]
set_option maxHeartbeats 2000000 in
theorem U3 (A B:List Int) (J k:Nat) (sh:Int) (hB:B.length=k+2) (hBo:OkD WB B) (hA:A.length=J+k+2) (hAo:OkD WB A) (hAl:A.length≤1000000) (hv:0<B.getD (k+1) 0) (fs:List Fr) : ∀(t:Nat),t≤J→∀(O Q:List Int),O.length=k+2→OkD WB O→Q.length+t=J→OkD WB Q→zG WB O<zG WB B→zG WB A=zG WB (A.take t)+(4294967296:Int)^t*(zG WB B*zG WB Q+zG WB O) →
  ∃(O' Q':List Int),OkD WB O'∧OkD WB Q'∧O'.length=k+2∧Q'.length=J∧zG WB O'<zG WB B∧zG WB A=zG WB B*zG WB Q'+zG WB O'∧∀z:PV × zA,zZ 0 vM 0 fs [(4,.msl 1 0 J true),(8,.int .i64 sh),(9,.undef),(10,.msl 0 0 A.length true),(11,.undef),(12,.undef),(13,.undef),(14,.undef),(83,.undef)] [.arr (zB .u32 (O'++List.replicate J 0)) (some (some 1)) false,.arr (zB .u32 Q') (some (some 1)) false]=some z →
  zS 0 vM 0 32756 2 fs ([(4,.msl 1 0 J true),(8,.int .i64 sh),(9,.sl (zB .u32 B) false),(10,.msl 0 0 A.length true),(11,.int .i64 (k+2:Nat)),(12,.int .u64 (B.getD (k+1) 0)),(13,.int .u64 (B.getD k 0)),(14,.int .i64 ((t:Int)-1))]) [.arr (zB .u32 (A.take t++O++List.replicate (J-t) 0)) (some (some 1)) false,.arr (zB .u32 (List.replicate t 0++Q)) (some (some 1)) false]=some z:=by
 have hM:3000000≤maxLen:=by decide
 intro t
 induction t with
 | zero =>
  intro ht O Q hO hOo hQ hQo hlt hval;refine⟨O,Q,hOo,hQo,hO,by omega,hlt,by simpa [zG] using hval,fun z hz=>?_⟩;apply zC;simp only[List.take_zero,pC,HE,Nat.sub_zero];have c : ¬(0:Int)≤((0:Nat):Int)-1:=by omega
  (repeat((conv=>lhs;whnf);simp only[go_sem,simprocAttr,c]));exact hz
 | succ t ih =>
  intro ht O Q hO hOo hQ hQo hlt hval;have ej:((t+1:Nat):Int)-1=(t:Int):=by omega
  have c:(0:Int)≤(t:Int):=by omega
  obtain⟨x,hx⟩ : ∃x,x=A.getD t 0:=⟨_,rfl⟩;have hxb:0≤x∧x<4294967296:=by rw[hx];exact hAo.getD (by decide) t
  have et:A.take (t+1)=A.take t++[x]:=by
   rw[aK];have:A[t]? = some (A.getD t 0):=by rw[bI (by omega)];simp[bE,show t<A.length by omega]
   rw[this,hx];rfl
  have eU:A.take (t+1)++O++List.replicate (J-(t+1)) 0=A.take t++(x::O)++List.replicate (J-(t+1)) 0:=by rw[et];simp
  have hP:(A.take t).length=t:=by simp;omega
  have hWl:(x::O).length=k+3:=by simp[hO]
  have hWo:OkD WB (x::O):=.cons hxb hOo;have hUl:(A.take t++(x::O)++List.replicate (J-(t+1)) (0:Int)).length=A.length:=by simp;omega
  have hWv:zG WB (x::O)=x+4294967296*zG WB O:=rfl;have hlt':zG WB (x::O)<4294967296*zG WB B:=by rw[hWv];omega
  obtain⟨w0,e1⟩ : ∃w,(x::O).getD k 0=w:=⟨_,rfl⟩;obtain⟨w1,e2⟩ : ∃w,(x::O).getD (k+1) 0=w:=⟨_,rfl⟩;obtain⟨w2,e3⟩ : ∃w,(x::O).getD (k+2) 0=w:=⟨_,rfl⟩;obtain⟨c0,e4⟩ : ∃w,B.getD k 0=w:=⟨_,rfl⟩;obtain⟨c1,e5⟩ : ∃w,B.getD (k+1) 0=w:=⟨_,rfl⟩;rw[e4,e5];rw[e5]at hv;obtain⟨y1,y2,y3,y4,y5,y6,y7,z0,z1,z2,z3,z4⟩:=zEb hB hBo hWl hWo hlt' e1 e2 e3 e4 e5 hv rfl rfl rfl;have g0:=Yj (P:=A.take t) (Z:=List.replicate (J-(t+1)) 0) hP k (show k<(x::O).length by omega);have g1:=Yj (P:=A.take t) (Z:=List.replicate (J-(t+1)) 0) hP (k+1) (show k+1<(x::O).length by omega);have g2:=Yj (P:=A.take t) (Z:=List.replicate (J-(t+1)) 0) hP (k+2) (show k+2<(x::O).length by omega);rw[e1]at g0;rw[e2]at g1;rw[e3]at g2;rw[eU];generalize hUe:A.take t++(x::O)++List.replicate (J-(t+1)) 0=U at *;have wi:IntKind.i64.wrap ((t:Int)+((k+2:Nat):Int))=((t+(k+2):Nat):Int):=by rw[bA];omega
  have wi2:IntKind.i64.wrap (((t+(k+2):Nat):Int)-1)=((t+(k+1):Nat):Int):=by rw[bA];omega
  have wi3:IntKind.i64.wrap (((t+(k+2):Nat):Int)+1)=((t+(k+3):Nat):Int):=by rw[bA];omega
  have xm2:=yb.idxmk .u32 (S:=[.arr (zB .u32 U) (some (some 1)) false,.arr (zB .u32 (List.replicate (t+1) 0++Q)) (some (some 1)) false]) (id:=0) (off:=0) (n:=A.length) (ex:=true) (L:=U) (t+(k+2)) rfl (by omega) (by omega);have xm1:=yb.idxmk .u32 (S:=[.arr (zB .u32 U) (some (some 1)) false,.arr (zB .u32 (List.replicate (t+1) 0++Q)) (some (some 1)) false]) (id:=0) (off:=0) (n:=A.length) (ex:=true) (L:=U) (t+(k+1)) rfl (by omega) (by omega);rw[bW]at xm1 xm2;have l2:t+(k+2)<U.length:=by omega
  have l1:t+(k+1)<U.length:=by omega
  have gk2:=zy .u32 U l2;have gk1:=zy .u32 U l1;rw[g2]at gk2;rw[g1]at gk1;have cw2:IntKind.u64.wrap w2=w2:=by rw[yK];omega
  have cw1:IntKind.u64.wrap w1=w1:=by rw[yK];omega
  have sw:IntKind.u64.wrap (w2*4294967296)=w2*4294967296:=by rw[yK];omega
  have bo:=ub z2 z1;obtain⟨num,hnum⟩ : ∃n,n=w2*4294967296+w1:=⟨_,rfl⟩;rw[←hnum]at bo y1 y2;have n0 : ¬c1=0:=by omega
  have hn0:0≤num:=by omega
  have td:num.tdiv c1=num / c1:=sG hn0;have tm:num.tmod c1=num % c1:=sO hn0;have q0:0≤num / c1:=pX hn0 (by omega);have hde:=sN num c1;have r0:=aE num n0;have r1:=sF num (show 0<c1 by omega);have q1:num / c1<8589934592:=by
   rw[HT (by omega)];omega
  obtain⟨ga,hga⟩ : ∃n,n=num / c1:=⟨_,rfl⟩;obtain⟨ra,hra⟩ : ∃n,n=num % c1:=⟨_,rfl⟩;rw[←hga,←hra]at hde;rw[←hga]at td q0 q1;rw[←hra]at tm r0 r1;have ca:IntKind.u64.wrap ga=ga:=by rw[yK];omega
  have cr:IntKind.u64.wrap ra=ra:=by rw[yK];omega
  have hW0:=zv hWo;have hV0:=zv hBo;have hO0:=zv hOo;obtain⟨Wk,hWk⟩ : ∃n,n=(4294967296:Int)^k:=⟨_,rfl⟩;rw[←hWk]at y1 y2 y3 y4 y5 y7;have low0:zG WB (x::O)<(ga+1)*zG WB B:=by
   have k1:(num*4294967296+w0+1)≤(ga+1)*(c1*4294967296+c0):=by
    have a1:num+1≤(ga+1)*c1:=by rw[aQ,bM ga c1];omega
    have a2:(num+1)*4294967296≤(ga+1)*c1*4294967296:=pU a1 (by decide);have a3:0≤(ga+1)*c0:=pW (by omega) z3.1;rw[bG,←bN];omega
   have k2:=pU k1 (sP y7);have k3:=pI y3 (show 0≤ga+1 by omega);rw[←bN]at k3;omega
  obtain⟨g,j1,j2,j3,j4⟩:=JF U (List.replicate (t+1) 0++Q) B false J (k+2) t sh c1 c0 w0 num (zG WB (x::O)) (zG WB B) Wk (num*4294967296+w0) (by omega) (by omega) (by omega) ⟨hv,z4.2⟩ z3 (by rw[show t+(k+2)-2=t+k by omega];exact g0) z0 rfl (by omega) (sP y7) hV0 hW0 y2 y3 hlt' (.blk 2 :: .seq 1 2096423 :: .blk 1 :: .seq 0 131027 :: .lop 0 32756 2::fs) ga.toNat [(127,.undef),(134,.undef)] ga ra (.inr rfl) (by omega) ⟨by omega,by omega⟩ ⟨by omega,by omega⟩ (by rw[bM];omega) low0;have fin:=zAK (sP y7) j1.1 j1.2 j2 y1 y4 y5;have tail : ∃(gd:Int) (Oy:List Int),(0≤gd∧gd<4294967296)∧OkD WB Oy∧Oy.length=k+2∧zG WB (x::O)=zG WB B*gd+zG WB Oy∧zG WB Oy<zG WB B∧∀z:PV × zA,zS 0 vM 0 32756 2 fs ([(4,.msl 1 0 J true),(8,.int .i64 sh),(9,.sl (zB .u32 B) false),(10,.msl 0 0 A.length true),(11,.int .i64 (k+2:Nat)),(12,.int .u64 c1),(13,.int .u64 c0),(14,.int .i64 ((t:Int)-1))]) [.arr (zB .u32 (A.take t++Oy++List.replicate (J-t) 0)) (some (some 1)) false,.arr (zB .u32 (List.replicate t 0++gd::Q)) (some (some 1)) false]=some z →
    zZ 0 vM 2 (.blk 2 :: .seq 1 2096423 :: .blk 1 :: .seq 0 131027 :: .lop 0 32756 2::fs) [(4,.msl 1 0 J true),(8,.int .i64 sh),(9,.sl (zB .u32 B) false),(10,.msl 0 0 U.length true),(11,.int .i64 (k+2:Nat)),(12,.int .u64 c1),(13,.int .u64 c0),(14,.int .i64 t),(16,.int .u64 g),(17,.undef),(127,.undef),(134,.undef)] [.arr (zB .u32 U) (some (some 1)) false,.arr (zB .u32 (List.replicate (t+1) 0++Q)) (some (some 1)) false]=some z:=by
   rw[hUl];have rr:zD.refs 125=true:=by kernel_rfl
   have rs:zD.refs 126=true:=by kernel_rfl
   obtain⟨O1,b,s1,s2,s3,s4⟩:=X6 B false hBo (by omega) g j1 t (by omega) false (A.take t) (x::O) (List.replicate (J-(t+1)) 0) hP (by omega) hWo (.arr (zB .u32 (List.replicate (t+1) 0++Q)) (some (some 1)) false);rw[hUe]at s4;have cs:=Yi rr s4 (by simp);have sl:zf Tryz.prog 40 [.arr (zB .u32 U) (some (some 1)) false,.arr (zB .u32 (List.replicate (t+1) 0++Q)) (some (some 1)) false] (.msl 0 0 A.length true) (some (.int .i64 t)) (some (.int .i64 ((t+(k+3):Nat):Int))) none=some (.msl 0 t (B.length+1) false):=by
    have:=U2 (S:=[.arr (zB .u32 U) (some (some 1)) false,.arr (zB .u32 (List.replicate (t+1) 0++Q)) (some (some 1)) false]) (id:=0) (off:=0) (n:=A.length) (ex:=true) (L:=U) (lo:=t) (hi:=t+(k+3)) (m:=B.length+1) rfl (by omega) (by omega) (by omega) (by omega);rw[bW]at this;exact this
   have wg:IntKind.u32.wrap g=g:=by rw[bU];omega
   have wt:IntKind.i64.wrap ((t:Int)-1)=(t:Int)-1:=by rw[bA];omega
   have o1n:=zv s1;have o1l:=xr s1;have setq : ∀v:Int,(zB .u32 (List.replicate (t+1) 0++Q)).set t [.int .u32 v]=zB .u32 (List.replicate t 0++v::Q):=fun v=>by
    rw[yR]
    congr 1
    have e:List.replicate (t+1) (0:Int)++Q=List.replicate t 0++0::Q:=by
     rw[PD,aG];rfl
    rw[e,pT,hI (by simp)];simp
   have lenq:t<(List.replicate (t+1) (0:Int)++Q).length:=by simp;omega
   have hQl:(List.replicate (t+1) (0:Int)++Q).length=J:=by simp;omega
   have gq:((zB .u32 (List.replicate (t+1) 0++Q)).getD t []).length=1:=by rw[zy _ _ lenq];rfl
   have xq : ∀X:Obj,zK Tryz.prog 40 [X,.arr (zB .u32 (List.replicate (t+1) 0++Q)) (some (some 1)) false] (.msl 1 0 J true) (.int .i64 t)=some (.mp 1 t 0):=fun X=>by
    have:=yb.idxmk .u32 (S:=[X,.arr (zB .u32 (List.replicate (t+1) 0++Q)) (some (some 1)) false]) (id:=1) (off:=0) (n:=J) (ex:=true) (L:=List.replicate (t+1) 0++Q) t rfl (by omega) (by omega);rw[bW]at this;exact this
   have top : ∀Ox:List Int,OkD WB Ox→Ox.length=k+3→zG WB Ox<zG WB B→∃Oy,OkD WB Oy∧Oy.length=k+2∧Ox=Oy++[0]∧zG WB Oy=zG WB Ox:=fun Ox ho hl hlt=>by
    have e0:(((WB:Nat):Int))=(4294967296:Int):=rfl;have hs:Ox=Ox.take (k+2)++[Ox.getD (k+2) 0]:=by
     conv=>lhs;rw[←HB (k+2) Ox]
     congr 1
     rw[yA Ox (by omega),PR (by omega)]
    have hy:0≤Ox.getD (k+2) 0:=(ho.getD (by decide) (k+2)).1;have hok:OkD WB (Ox.take (k+2)):=fun y hy=>ho y (HH hy);have hn:=zv hok;have hlen:(Ox.take (k+2)).length=k+2:=by simp;omega
    have hvx:zG WB Ox=zG WB (Ox.take (k+2))+4294967296^(k+2)*Ox.getD (k+2) 0:=by
     conv=>lhs;rw[hs]
     rw[zX,hlen,e0];simp[zG]
    have hBl:=xr hBo;rw[hB,e0]at hBl;have hz:Ox.getD (k+2) 0=0:=by
     rcases Int.lt_or_eq_of_le hy with h | h
     ·exfalso
      have:=pI (show 1≤Ox.getD (k+2) 0 by omega) (show (0:Int)≤4294967296^(k+2) from sP (aL (by decide)));omega
     ·exact h.symm
    rw[hz]at hs hvx;refine⟨_,hok,hlen,hs,by omega⟩
   have stl : ∀Oy:List Int,A.take t++(Oy++[0])++List.replicate (J-(t+1)) 0=A.take t++Oy++List.replicate (J-t) 0:=fun Oy=>by
    have:J-t=(J-(t+1))+1:=by omega
    rw[this,sV];simp
   cases b with
   | false =>
    have hR:zG WB O1=zG WB (x::O)-g*zG WB B:=by rw[s3];simp
    have hRl:zG WB O1<zG WB B:=by rw[aQ]at j3;omega
    obtain⟨Oy,p1,p2,p3,p4⟩:=top O1 s1 (by omega) hRl;refine⟨g,Oy,j1,p1,p2,by rw[p4,hR,bM];omega,by omega,fun z hz=>?_⟩;rw[←stl,←p3]at hz;apply zR;(repeat((conv=>lhs;whnf);simp only[go_sem,simprocAttr,wi,wi3,sl,cs,wg,wt,xq,lenq,gq,setq]));exact hz
   | true =>
    have hR:zG WB O1=zG WB (x::O)-g*zG WB B+4294967296^(k+3):=by rw[s3,hB];simp
    have hneg:zG WB (x::O)<g*zG WB B:=by
     rw[s2,hB]at o1l;have:(((WB:Nat):Int))=(4294967296:Int):=rfl;rw[this]at o1l;have e3:k+2+1=k+3:=rfl;rw[e3]at o1l;omega
    have gp:0<g:=by
     rcases Int.lt_or_eq_of_le j1.1 with h | h
     ·exact h
     ·rw[←h,Int.zero_mul]at hneg;omega
    obtain⟨O2,m,u1,u2,u3,u4⟩:=VH B false hBo (by omega) t (by omega) false (A.take t) O1 (List.replicate (J-(t+1)) 0) hP s2 s1 (.arr (zB .u32 (List.replicate (t+1) 0++Q)) (some (some 1)) false);have cr2:=Yi rs u4 (by simp);have o2n:=zv u1;have o2l:=xr u1;have hO2:zG WB O2=zG WB (x::O)-(g-1)*zG WB B:=by
     have e0:(((WB:Nat):Int))=(4294967296:Int):=rfl;have hBl:=xr hBo;rw[hB,e0]at hBl;rw[u2,hB,e0]at o2l;rw[hB,hR]at u3;have p1:(0:Int)<4294967296^(k+2):=aL (by decide);have p2:(4294967296:Int)^(k+3)=4294967296^(k+2)*4294967296:=pO _ _;have p3:(4294967296:Int)^(k+2+1)=4294967296^(k+3):=rfl;rw[p3]at u3 o2l;rw[aT,HM];have hm:m=1:=by
      rcases Int.lt_trichotomy m 1 with h | h | h
      ·exfalso
       have:=pI (show m≤0 by omega) (show (0:Int)≤4294967296^(k+3) by omega);omega
      ·exact h
      ·exfalso
       have:=pI (show 2≤m by omega) (show (0:Int)≤4294967296^(k+3) by omega);omega
     rw[hm,Int.mul_one]at u3;omega
    have hRl:zG WB O2<zG WB B:=by rw[hO2,aT];omega
    obtain⟨Oy,p1,p2,p3,p4⟩:=top O2 u1 (by omega) hRl;have wg1:IntKind.u64.wrap (g-1)=g-1:=by rw[yK];omega
    have wg2:IntKind.u32.wrap (g-1)=g-1:=by rw[bU];omega
    have sl2:zf Tryz.prog 40 [.arr (zB .u32 (A.take t++O1++List.replicate (J-(t+1)) 0)) (some (some 1)) false,.arr (zB .u32 (List.replicate (t+1) 0++Q)) (some (some 1)) false] (.msl 0 0 A.length true) (some (.int .i64 t)) (some (.int .i64 ((t+(k+3):Nat):Int))) none=some (.msl 0 t (B.length+1) false):=by
     have:=U2 (S:=[.arr (zB .u32 (A.take t++O1++List.replicate (J-(t+1)) 0)) (some (some 1)) false,.arr (zB .u32 (List.replicate (t+1) 0++Q)) (some (some 1)) false]) (id:=0) (off:=0) (n:=A.length) (ex:=true) (L:=A.take t++O1++List.replicate (J-(t+1)) 0) (lo:=t) (hi:=t+(k+3)) (m:=B.length+1) rfl (by omega) (by omega) (by simp;omega) (by omega);rw[bW]at this;exact this
    refine⟨g-1,Oy,⟨by omega,by omega⟩,p1,p2,by rw[p4,hO2,bM];omega,by omega,fun z hz=>?_⟩;rw[←stl,←p3]at hz;apply zR;(repeat((conv=>lhs;whnf);simp only[go_sem,simprocAttr,wi,wi3,sl,sl2,cs,cr2,wg1,wg2,wt,xq,lenq,gq,setq]));exact hz
  obtain⟨gd,Oy,t1,t2,t3,t4,t5,t6⟩:=tail;obtain⟨O',Q',i1,i2,i3,i4,i5,i6,i7⟩:=ih (by omega) Oy (gd::Q) t3 t2 (by simp;omega) (.cons t1 hQo) t5 (by
   have e0:(((WB:Nat):Int))=(4294967296:Int):=rfl;have s1:zG WB [x]=x:=by simp[zG]
   have s2:zG WB (gd::Q)=gd+4294967296*zG WB Q:=rfl;have s3:x+4294967296*(zG WB B*zG WB Q+zG WB O)=zG WB B*(gd+4294967296*zG WB Q)+zG WB Oy:=by
    rw[bG,bG,HF (zG WB B) 4294967296];omega
   rw[hval,et,zX,hP,e0,s1,s2,pO,bN,BG,←bG,s3])
  refine⟨O',Q',i1,i2,i3,i4,i5,i6,fun z hz=>?_⟩;have key:=i7 z hz;rw[e4,e5]at key;have inner:=j4 z (t6 z key);rw[hUl]at inner;apply zC;rw[ej];(repeat((conv=>lhs;whnf);simp only[go_sem,simprocAttr,c,wi,wi2,xm2,xm1,l2,l1,gk2,gk1,cw2,cw1,sw,bo,n0,td,tm,ca,cr,←hnum]));exact inner
end
end
section
def za (n:Nat) (v:PV):Prop:=v=zc n∨(n=0∧v=.sl [] true)
theorem za.of (n:Nat):za n (zc n):=.inl rfl
theorem za.nil:za 0 (.sl [] true):=.inr ⟨rfl,rfl⟩
theorem za.nil' {n:Nat} (h:n=0):za n (.sl [] true):=.inr ⟨h,rfl⟩
theorem za.form {n:Nat} {v:PV} (h:za n v) : ∃e,v=zo n e∧zW (zo n e):=by
 rcases h with rfl | ⟨rfl,rfl⟩
 ·exact⟨false,rfl,zW.sl _⟩
 ·have:zo 0 true=.sl [] true:=by unfold zo words;rw[yH];rfl
  exact⟨true,this.symm,by rw[this];exact zW.nil⟩
theorem jQ {n:Nat} (h:(words n).length=1):words n=[(n:Int)]∧0<n∧n<4294967296:=by
 obtain⟨w,hw⟩:=HV.1 h;have hv:=yM n;have hok:=yC n;rw[hw]at hv hok;have hb:0≤w∧w<4294967296:=hok.head;have e:w=n:=by rw[←hv];simp[zG]
 refine⟨by rw[hw,e],?_,by omega⟩;have:n≠0:=fun e=>by rw[e]at h;unfold words at h;rw[yH]at h;simp at h
 omega
theorem QX (S:zA) (m n:Nat):ym S (.tup [zc m,zc n])=some (.tup [zc m,zc n]):=by
 show (yG (yZ _) [zc m,zc n]).map PV.tup=_
 have f : ∀n,yZ S (zc n)=some (zc n):=fun n=>xA _ _;simp only[yG,f,bC];rfl
theorem zBf (S:zA) (m:Nat):ym S (.tup [zc m,.sl [] true])=some (.tup [zc m,.sl [] true]):=by
 show (yG (yZ _) [zc m,.sl [] true]).map PV.tup=_
 have f : ∀n,yZ S (zc n)=some (zc n):=fun n=>xA _ _;have f2:yZ S (.sl [] true)=some (.sl [] true):=rfl;simp only[yG,f,f2,bC];rfl
section
attribute [local irreducible] Vs.callL Vs.callRL tyi zQ yE zm zV zk zb zK zf zF zT zl zi zJ zL zj yB yO yD zN zh Vs.gc zH
theorem kx (m n:Nat) (e1:Bool) (hp1:zW (zo m e1)) (hmn:m<n) (hm:(words m).length≤1000000) (hn:(words n).length≤1000000):callL Tryz.prog zD 103 [zo m e1,zc n]=some (.tup [.sl [] true,zc m]):=by
 have hM:3000000≤maxLen:=by decide
 have cc:=fun S=>zE (S:=S) (qj m n e1 false (by omega) (by omega)) (by simp[hp1];exact zW.sl _);have c:yU m n<0:=by unfold yU;simp[hmn]
 have ap:=fun S=>yb.appNil 0 S (RowsV.sl (S:=S) (zB .u32 (words m)) e1) (ya _ _) (by rw[zI];omega) (by rw[zI];omega);refine FX.callL (r:=(.tup [.sl [] true,.msl 0 0 (words m).length false],[.arr (zB .u32 (words m)) (some (some 1)) false])) ok103_ 1000 rfl rfl ?_ ?_
 ·have e2:zc n=zo n false:=rfl;rw[e2];unfold zo at cc ap ⊢;((repeat((conv=>lhs;whnf);simp only[go_sem,simprocAttr,cc,c,ap]));try rfl)
 ·show (yG (yZ _) [.sl [] true,.msl 0 0 (words m).length false]).map PV.tup=_
  have f1:yZ [.arr (zB .u32 (words m)) (some (some 1)) false] (.msl 0 0 (words m).length false)=some (zc m):=qi (ex:=false) rfl rfl 6;have f2:yZ [.arr (zB .u32 (words m)) (some (some 1)) false] (.sl [] true)=some (.sl [] true):=rfl;simp only[yG,f1,f2,bC];rfl
theorem kV (m n:Nat) (e1:Bool) (hp1:zW (zo m e1)) (hmn:n≤m) (hm:(words m).length≤1000000) (h1:(words n).length=1):callL Tryz.prog zD 103 [zo m e1,zc n]=some (.tup [zc (m / n),zc (m % n)]):=by
 have hM:3000000≤maxLen:=by decide
 obtain⟨w1,w2,w3⟩:=jQ h1;have cc:=fun S=>zE (S:=S) (qj m n e1 false (by omega) (by omega)) (by simp[hp1];exact zW.sl _);have c : ¬yU m n<0:=by unfold yU;rw[hI (by omega)];split <;> omega
 have hd:=fun S=>zE (S:=S) (VC m e1 n ⟨w2,w3⟩ hm) (by simp[hp1,zW.int]);have hr:m % n<n:=sJ _ w2;have hf:=fun S=>zE (S:=S) (WF (m % n) (by omega)) (by simp[zW.int]);have cr:IntKind.u64.wrap ((m % n:Nat):Int)=((m % n:Nat):Int):=by rw[yK];omega
 have e2:zc n=zo n false:=rfl;have hl:((words n).length:Int)=1:=by omega
 have hg:(words n).getD 0 0=n:=by rw[w1];rfl
 refine FX.callL (r:=(.tup [zc (m / n),zc (m % n)],[])) ok103_ 1000 rfl rfl ?_ (QX _ _ _);rw[e2];unfold zo at cc hd ⊢;((repeat((conv=>lhs;whnf);simp only[go_sem,simprocAttr,cc,c,hl,h1,hg,hd,hf,cr]));try rfl)
theorem U4 {n:Nat} (hn:n≠0) {k:Nat} (hk:(words n).length=k+2) : ∃x:Nat,x<4294967296∧(words n).getD (k+1) 0=x∧32-yL x≤31∧(words (n*2^(32-yL x))).length=k+2∧4294967296^(k+1)*2147483648≤n*2^(32-yL x):=by
 obtain⟨x,x0,x1,ex,h0,hb⟩:=Yg hn;have bx:=(wX (n:=x) 32).2 x1;have bp:=Yf x0;have e1:(words n).length-1=k+1:=by omega
 rw[e1]at ex hb;have hge:=QV hn;have hlt:=YA n;have w:(4294967296:Nat)=2^32:=by decide
 have w31:(2147483648:Nat)=2^31:=by decide
 have g1:4294967296^(k+1)*2147483648≤n*2^(32-yL x):=by
  have:=bV (2^(32-yL x)) hge;rw[←aC]at this;rw[w,w31,←HL,←aC];have e:32*(k+1)+31=yL n-1+(32-yL x):=by omega
  rw[e];exact this
 have g2:n*2^(32-yL x)<4294967296^(k+2):=by
  have:=(Nat.mul_lt_mul_right (show 0<2^(32-yL x) from sT (by decide))).2 hlt;rw[←aC]at this;rw[w,←HL];have e:32*(k+2)=yL n+(32-yL x):=by omega
  rw[e];exact this
 refine⟨x,x1,ex,by omega,?_,g1⟩;have l1:=(yI WB2 (k+2) (n*2^(32-yL x))).2 g2;have l2 : ¬(yX WB (n*2^(32-yL x))).length≤k+1:=fun h=>by
  have:=(yI WB2 (k+1) _).1 h;have e:WB^(k+1)=4294967296^(k+1):=rfl;rw[e]at this;have:=Nat.le_mul_of_pos_right (4294967296^(k+1)) (show 0<2147483648 by decide);omega
 show (yX WB _).length=k+2
 omega
theorem ZR (m n:Nat) (e1:Bool) (hp1:zW (zo m e1)) (hmn:n≤m) (hm:(words m).length≤900000) (k:Nat) (hk:(words n).length=k+2) : ∃r,za (m % n) r∧callL Tryz.prog zD 103 [zo m e1,zc n]=some (.tup [zc (m / n),r]):=by
 have hM:3000000≤maxLen:=by decide
 have hn0:n≠0:=fun e=>by rw[e]at hk;unfold words at hk;rw[yH]at hk;simp at hk
 have hm0:m≠0:=by omega
 obtain⟨x,x1,ex,hs,hVl,hVb⟩:=U4 hn0 hk;obtain⟨s,hse⟩ : ∃s,s=32-yL x:=⟨_,rfl⟩;rw[←hse]at hs hVl hVb;have hln:(words n).length≤(words m).length:=wm WB2 hmn;obtain⟨lm,hlm⟩ : ∃l,l=(words m).length:=⟨_,rfl⟩;have hMl:(words (m*2^s)).length≤lm+1:=by
  refine (yI WB2 (lm+1) _).2 ?_;have a1:=QU WB2 m;have a2:2^s≤WB:=by
   have:=PE (n:=2) (by decide) (show s≤32 by omega);exact this
  rw[Nat.pow_succ];have a3:=PA (WB^lm) a2;have a4:=(Nat.mul_lt_mul_right (show 0<2^s from sT (by decide))).2 a1;have e:(yX WB m).length=lm:=hlm.symm;rw[e]at a4;omega
 obtain⟨A,hAe⟩ : ∃A,A=words (m*2^s)++List.replicate (lm+1-(words (m*2^s)).length) 0:=⟨_,rfl⟩;have hAl:A.length=lm+1:=by rw[hAe];simp;omega
 have hAo:OkD WB A:=by
  rw[hAe];exact (yC _).append (fun y hy=>by rw[HS hy];exact⟨aJ 0,by decide⟩)
 have hAv:zG WB A=((m*2^s:Nat):Int):=by
  rw[hAe,zX,jP,yM];simp
 obtain⟨J,hJ⟩ : ∃J,J=lm+1-(k+2):=⟨_,rfl⟩;have hBv:zG WB (words (n*2^s))=((n*2^s:Nat):Int):=yM _;have hdo:OkD WB (A.drop J):=fun y hy=>hAo y (BP hy);have hdl:(A.drop J).length=k+2:=by simp;omega
 have hdv:zG WB (A.drop J)<zG WB (words (n*2^s)):=by
  rw[WK hAo,hAv,hBv];have p0:(0:Int)<4294967296^J:=aL (by decide);rw[HT p0];have q:m*2^s<n*2^s*4294967296^J:=by
   have a1:=QU WB2 m;have e:(yX WB m).length=lm:=hlm.symm;have e':WB=4294967296:=rfl;rw[e,e']at a1;have a2:2^s≤2147483648:=by
    have:=PE (n:=2) (by decide) (show s≤31 by omega);exact this
   have a3:=bV (4294967296^J) hVb;have a4:4294967296^(k+1)*2147483648*4294967296^J=4294967296^lm*2147483648:=by
    rw[Nat.mul_right_comm,←aC]
    congr 2
    omega
   have a5:=PA (4294967296^lm) a2;have a6:=(Nat.mul_lt_mul_right (show 0<2^s from sT (by decide))).2 a1;omega
  have:=Int.ofNat_lt.2 q;rw[pL (n*2^s),HG]at this;exact this
 have htop:0<(words (n*2^s)).getD (k+1) 0:=by
  have h1:n*2^s≠0:=by
   have:0<4294967296^(k+1)*2147483648:=Nat.mul_pos (sT (by decide)) (by decide);omega
  have h2:=jN WB2 h1;have e:(yX WB (n*2^s)).length-1=k+1:=by
   have:(yX WB (n*2^s)).length=k+2:=hVl;omega
  rw[e]at h2;have h3:=((yC (n*2^s)).getD (by decide) (k+1)).1;have h4:(words (n*2^s)).getD (k+1) 0≠0:=h2;omega
 obtain⟨O,Q,o1,o2,o3,o4,o5,o6,o7⟩:=U3 A (words (n*2^s)) J k s hVl (yC _) (by omega) hAo (by omega) htop [.blk 0,.seq 0 4095] J (bB _) (A.drop J) [] hdl hdo (by simp) (.nil _) hdv (by
  have:=zX WB (A.take J) (A.drop J);rw[HB]at this;have hl:(A.take J).length=J:=by simp;omega
  rw[this,hl];have:zG WB []=0:=rfl;rw[this,aD,HU];rfl)
 rw[HB,sM]at o7;simp only[HE,pD]at o7;have hO0:=zv o1;have hQ0:=zv o2;obtain⟨qn,hq⟩ : ∃q:Nat,zG WB Q=q:=⟨(zG WB Q).toNat,by omega⟩;obtain⟨on,ho⟩ : ∃q:Nat,zG WB O=q:=⟨(zG WB O).toNat,by omega⟩;rw[hAv,hBv,hq,ho,←pL,←HK]at o6;rw[ho,hBv]at o5;have o6':m*2^s=n*2^s*qn+on:=Int.ofNat.inj o6;have o5':on<n*2^s:=Int.ofNat_lt.1 o5;have p2:0<2^s:=sT (by decide);have eq1:qn=m / n:=by
  rw[←Nat.mul_div_mul_right m n p2,o6',Nat.mul_add_div (by omega),aI o5',sC]
 have eq2:on=m % n*2^s:=by
  rw[←Nat.mul_mod_mul_right,o6',Nat.mul_add_mod,sE o5']
 have ctq:=xB (L:=Q) (by omega) o2;rw[hq,bD,eq1]at ctq;have hpad:OkD WB (O++List.replicate J 0):=o1.append (fun y hy=>by rw[HS hy];exact⟨aJ 0,by decide⟩);have cto:=xB (L:=O++List.replicate J 0) (by simp;omega) hpad;rw[zX,jP,aD,BI,ho,bD,eq2]at cto;have hol:(O++List.replicate J (0:Int)).length=A.length:=by simp;omega
 have c1:=ys (S:=[.arr (zB .u32 (O++List.replicate J 0)) (some (some 1)) false,.arr (zB .u32 Q) (some (some 1)) false]) (id:=1) (n:=J) (ex:=true) ctq rfl o4 (by simp);have c2:=ys (S:=[.arr (zB .u32 (O++List.replicate J 0)) (some (some 1)) false,.arr (zB .u32 Q) (some (some 1)) true]) (id:=0) (n:=A.length) (ex:=true) cto rfl hol (by simp);have hrw:(words (m % n*2^s)).length≤1000000:=by
  have h1:m % n*2^s≤n*2^s:=bV _ (Nat.le_of_lt (sJ _ (by omega)));have:=wm WB2 h1;have e:(yX WB (n*2^s)).length=k+2:=hVl
  show (yX WB _).length≤_
  omega
 obtain⟨r,hr,crs⟩ : ∃r,(r=zc (m % n)∨(m % n=0∧r=.sl [] true))∧callL Tryz.prog zD 128 [zc (m % n*2^s),.int .i64 s]=some r:=by
  have:=U1 (m % n*2^s) false s (by omega) hrw;rw[show s / 32=0 by omega,Nat.mul_div_cancel _ p2]at this;by_cases hz:(words (m % n*2^s)).length≤0
  ·rw[hZ hz]at this;have h0:m % n*2^s=0:=zx.1 (by omega);have h1:m % n=0:=by
    rcases Nat.mul_eq_zero.1 h0 with h | h
    ·exact h
    ·omega
   exact⟨_,.inr ⟨h1,rfl⟩,this⟩
  ·rw[hI hz]at this;exact⟨_,.inl rfl,this⟩
 have c3:=fun S=>zE (S:=S) crs (by simp[zW.int];exact zW.sl _);have hfin:ym [.arr (zB .u32 (O++List.replicate J 0)) (some (some 1)) true,.arr (zB .u32 Q) (some (some 1)) true] (.tup [zc (m / n),r])=some (.tup [zc (m / n),r]):=by
  rcases hr with rfl | ⟨_,rfl⟩
  ·exact QX _ _ _
  ·exact zBf _ _
 refine⟨r,hr,?_⟩;have key:=o7 (.tup [zc (m / n),r],[.arr (zB .u32 (O++List.replicate J 0)) (some (some 1)) true,.arr (zB .u32 Q) (some (some 1)) true]) (by
  apply zR;((repeat((conv=>lhs;whnf);simp only[go_sem,simprocAttr,c1,c2,c3]));try rfl))
 have cc:=fun S=>zE (S:=S) (qj m n e1 false (by omega) (by omega)) (by simp[hp1];exact zW.sl _);have c : ¬yU m n<0:=by unfold yU;rw[hI (by omega)];split <;> omega
 have n1 : ¬((words n).length:Int)=1:=by omega
 have wl:IntKind.i64.wrap (((words n).length:Int)-1)=((k+1:Nat):Int):=by rw[bA];omega
 have xl:0≤((k+1:Nat):Int)∧((k+1:Nat):Int)<(words n).length:=⟨by omega,by omega⟩;have lz:=fun S=>zE (S:=S) (vj x x1) (by simp[zW.int]);rw[←hse]at lz;have sh1:=UZ n false s (by omega) (by omega);rw[hI hn0]at sh1;have sh2:=UZ m e1 s (by omega) (by omega);rw[hI hm0]at sh2;have cs1:=fun S=>zE (S:=S) sh1 (by simp[zW.int];exact zW.sl _);have cs2:=fun S=>zE (S:=S) sh2 (by simp[hp1,zW.int]);have e2:zc n=zo n false:=rfl;refine FX.callL (r:=(.tup [zc (m / n),r],[.arr (zB .u32 (O++List.replicate J 0)) (some (some 1)) true,.arr (zB .u32 Q) (some (some 1)) true])) ok103_ 1000 rfl rfl ?_ hfin;rw[e2];unfold zo at cc cs1 cs2 ⊢;have mv1:zc (n*2^s)=.sl (zB .u32 (words (n*2^s))) false:=rfl;have mv2:zc (m*2^s)=.sl (zB .u32 (words (m*2^s))) false:=rfl;have wl1:IntKind.i64.wrap (((words m).length:Int)+1)=(A.length:Int):=by rw[bA];omega
 have mk1:=uN 0 A.length (by omega);have mk2:=uN 1 J (by omega);have cp:=yb.copy (S:=[.arr (zB .u32 (List.replicate A.length 0)) (some (some 1)) false]) (id:=0) (n:=A.length) (ex:=true) (rows:=zB .u32 (List.replicate A.length 0)) (new:=zB .u32 (words (m*2^s))) rfl (by rw[zI];simp) (ya _ _) (RowsV.sl _ false) (ya _ _) (by rw[zI];omega);have ecp:zB .u32 (words (m*2^s))++(zB .u32 (List.replicate A.length 0)).drop (zB .u32 (words (m*2^s))).length=zB .u32 A:=by
  rw[zI,Ky,←uz,List.drop_replicate,hAl,←hAe]
 rw[ecp]at cp;have wJ:IntKind.i64.wrap ((A.length:Int)-((k+2:Nat):Int))=(J:Int):=by rw[bA];omega
 have wJ1:IntKind.i64.wrap ((J:Int)-1)=(J:Int)-1:=by rw[bA];omega
 have wk1:IntKind.i64.wrap (((k+2:Nat):Int)-1)=((k+1:Nat):Int):=by rw[bA];omega
 have wk2:IntKind.i64.wrap (((k+2:Nat):Int)-2)=(k:Int):=by rw[bA];omega
 have xk1:0≤((k+1:Nat):Int)∧((k+1:Nat):Int)<((k+2:Nat):Int):=⟨by omega,by omega⟩;have xk2:0≤(k:Int)∧(k:Int)<((k+2:Nat):Int):=⟨by omega,by omega⟩;have cv : ∀i,IntKind.u64.wrap ((words (n*2^s)).getD i 0)=(words (n*2^s)).getD i 0:=fun i=>by
  have:=(yC (n*2^s)).getD (by decide) i;have h2:(words (n*2^s)).getD i 0<4294967296:=this.2;rw[yK];omega
 (repeat((conv=>lhs;whnf);simp only[go_sem,simprocAttr,cc,c,n1,wl,xl,bD,ex,lz,cs1,cs2,mv1,mv2,wl1,mk1,mk2,cp,wJ,wJ1,wk1,wk2,xk1,xk2,cv,hVl]));exact key
theorem U5 (m n:Nat) {a:PV} (ha:za m a) (hn:n≠0) (hm:(words m).length≤900000) (hnl:(words n).length≤900000) : ∃q r,za (m / n) q∧za (m % n) r∧callL Tryz.prog zD 103 [a,zc n]=some (.tup [q,r]):=by
 obtain⟨e,rfl,hp⟩:=ha.form;by_cases h:m<n
 ·exact⟨_,_,.nil' (aI h),by rw[sE h];exact .of m,kx m n e hp h (by omega) (by omega)⟩
 ·have h0:(words n).length≠0:=fun e=>hn (zx.1 e);by_cases h1:(words n).length=1
  ·exact⟨_,_,.of _,.of _,kV m n e hp (by omega) (by omega) h1⟩
  ·obtain⟨r,hr,hc⟩:=ZR m n e hp (by omega) hm ((words n).length-2) (by omega);exact⟨_,r,.of _,hr,hc⟩
end
end
section
theorem za.plain {n:Nat} {v:PV} (h:za n v):zW v:=by
 obtain⟨e,rfl,hp⟩:=h.form;exact hp
theorem vq {m n:Nat} {a b:PV} (ha:za m a) (hb:za n b) (hm:(words m).length≤1000000) (hn:(words n).length≤1000000) : ∃v,za (m*n) v∧∀S,zQ (callL Tryz.prog zD) S 105 [a,b]=some {v} := by
 obtain⟨e1,rfl,h1⟩:=ha.form;obtain⟨e2,rfl,h2⟩:=hb.form;have hc:=UY m n e1 e2 hm hn;refine⟨_,?_,fun S=>zE (S:=S) hc (by simp[h1,h2])⟩;by_cases h:m=0∨n=0
 ·rw[hZ h];exact .nil' (by rcases h with h | h <;> simp[h])
 ·rw[hI h];exact .of _
theorem YB {m n:Nat} {a b:PV} (ha:za m a) (hb:za n b) (hmn:n≤m) (hm:(words m).length≤1000000) (S:zA):zQ (callL Tryz.prog zD) S 110 [a,b]=some {v:=zc (m-n)} := by
 obtain⟨e1,rfl,h1⟩:=ha.form;obtain⟨e2,rfl,h2⟩:=hb.form;exact zE (S:=S) (zB7 m n e1 e2 hmn hm) (by simp[h1,h2])
theorem VI {m n:Nat} {a b:PV} (ha:za m a) (hb:za n b) (hm:(words m).length≤1000000) (hn:(words n).length≤1000000) (S:zA):zQ (callL Tryz.prog zD) S 108 [a,b]=some {v:=.int .i64 (yU m n)} := by
 have hM:3000000≤maxLen:=by decide
 obtain⟨e1,rfl,h1⟩:=ha.form;obtain⟨e2,rfl,h2⟩:=hb.form;exact zE (S:=S) (qj m n e1 e2 (by omega) (by omega)) (by simp[h1,h2])
theorem U6 {m:Nat} {a:PV} (ha:za m a) (hm:(words m).length≤1000000) (S:zA):zQ (callL Tryz.prog zD) S 133 [a]=some {v:=.int .i64 (yL m)} := by
 obtain⟨e1,rfl,h1⟩:=ha.form;exact zE (S:=S) (zAI m e1 hm) (by simp[h1])
theorem jR {m:Nat} {a:PV} (ha:za m a) (h:m<18446744073709551616) (S:zA):zQ (callL Tryz.prog zD) S 130 [a]=some {v:=.tup [.int .u64 m,.bool true]} := by
 obtain⟨e1,rfl,h1⟩:=ha.form;have:=JA m e1;rw[hZ h]at this;exact zE (S:=S) this (by simp[h1])
theorem ud (n:Nat) (h:n<18446744073709551616) (S:zA):zQ (callL Tryz.prog zD) S 116 [.int .u64 n]=some {v:=zc n} := zE (S:=S) (WF n h) (by simp[zW.int])
theorem QY {m:Nat} {a:PV} (ha:za m a) (k:Nat) (hk:k≤2000000000) (hm:(words m).length≤1000000) : ∃v,za (m / 2^k) v∧∀S,zQ (callL Tryz.prog zD) S 128 [a,.int .i64 k]=some {v} := by
 obtain⟨e1,rfl,h1⟩:=ha.form;have hc:=U1 m e1 k hk hm;refine⟨_,?_,fun S=>zE (S:=S) hc (by simp[h1,zW.int])⟩;by_cases h:(words m).length≤k / 32
 ·rw[hZ h];refine .nil' (aI ?_);have h2:=(yI WB2 (k / 32) m).1 h;have h3:WB^(k / 32)=2^(32*(k / 32)):=by rw[HL]
  have h4:=PE (n:=2) (by decide) (show 32*(k / 32)≤k by omega);omega
 ·rw[hI h];exact .of _
theorem kE {m n:Nat} {a b:PV} (ha:za m a) (hb:za n b) (hn:n≠0) (hm:(words m).length≤900000) (hnl:(words n).length≤900000) : ∃q r,za (m / n) q∧za (m % n) r∧∀S,zQ (callL Tryz.prog zD) S 103 [a,b]=some {v:=.tup [q,r]} := by
 rcases hb with rfl | ⟨h,_⟩
 ·obtain⟨q,r,hq,hr,hc⟩:=U5 m n ha hn hm hnl;exact⟨q,r,hq,hr,fun S=>zE (S:=S) hc (by simp[ha.plain];exact zW.sl _)⟩
 ·exact absurd h hn
theorem xO {m n j k:Nat} (hm:(words m).length≤j) (hn:(words n).length≤k):(words (m*n)).length≤j+k:=UU WB2 hm hn
theorem yh {n:Nat} (h:n<18446744073709551616):(words n).length≤2:=(yI WB2 2 n).2 (by
 have:WB^2=18446744073709551616:=by decide
 omega)
@[go_sem] theorem zDN (S:zA) (k:IntKind) (n:Int):zN Tryz.prog 2 123 S (.int k n)=some (.int .u64 (IntKind.u64.wrap n)):=by
 simp[zN,show (tyi Tryz.prog 2).known=true by kernel_rfl,yS,zDv]
@[go_sem] theorem zDO (S:zA) (k:IntKind) (n:Int):zN Tryz.prog 123 2 S (.int k n)=some (.int .i64 (IntKind.i64.wrap n)):=by
 simp[zN,WE,yS,show (tyi Tryz.prog 2).d=.int .i64 by kernel_rfl]
section
attribute [local irreducible] Vs.callL Vs.callRL tyi zQ yE zm zV zk zb zK zf zF zT zl zi zJ zL zj yB yO yD zN zh Vs.gc zH
noncomputable def zEc:FX:=⟨Tryz.f134,zD.of 134,[]⟩
instance ok134_:zEc.ok 134:=FX.mk'
theorem qk {m n:Nat} {a b:PV} (ha:za m a) (hb:za n b) (p q:Int) (hm:(words m).length≤900000) (hn:(words n).length≤900000) (hp : -4294967296≤p∧p≤4294967296) (hq : -4294967296≤q∧q≤4294967296) (hs:(p≤0∧0≤q)∨(0≤p∧q≤0)) (h0:0≤p*m+q*n):callL Tryz.prog zD 134 [a,b,.int .i64 p,.int .i64 q]=some (zc (p*m+q*n).toNat):=by
 refine FX.callL (r:=(zc (p*m+q*n).toNat,[])) ok134_ 1000 rfl rfl ?_ (xA _ _);by_cases c:p<0∨0<q
 ·have hs':p≤0∧0≤q:=by omega
  obtain⟨P,hP⟩ : ∃P:Nat,p = -(P:Int):=⟨(-p).toNat,by omega⟩;obtain⟨Q,hQ⟩ : ∃Q:Nat,q=Q:=⟨q.toNat,by omega⟩;subst hP hQ;obtain⟨v1,i1,c1⟩:=vq hb (za.of Q) (by omega) (bF (yh (by omega)) (by decide));obtain⟨v2,i2,c2⟩:=vq ha (za.of P) (by omega) (bF (yh (by omega)) (by decide));have e1 : -(P:Int)*m = -((m*P:Nat):Int):=by rw[pL,Int.neg_mul,bM]
  have e2:(Q:Int)*n=((n*Q:Nat):Int):=by rw[pL,bM]
  rw[e1,e2]at h0 ⊢;have hle:m*P≤n*Q:=by omega
  have sb:=YB i1 i2 hle (bF (xO hn (yh (n:=Q) (by omega))) (by decide));have er:(-((m*P:Nat):Int)+((n*Q:Nat):Int)).toNat=n*Q-m*P:=by omega
  rw[er];have f1:=ud Q (by omega);have f2:=ud P (by omega);have k1:IntKind.u64.wrap (Q:Int)=Q:=by rw[yK];omega
  have k2:IntKind.u64.wrap (P:Int)=P:=by rw[yK];omega
  have k3:IntKind.i64.wrap (P:Int)=P:=by rw[bA];omega
  have k4:IntKind.i64.wrap (0 - -(P:Int))=P:=by rw[show (0:Int) - -(P:Int)=P by omega];exact k3
  by_cases cp : -(P:Int)<0
  ·have cp':0<P:=by omega
   ((repeat((conv=>lhs;whnf);simp only[go_sem,simprocAttr,cp,cp',f1,f2,k1,k2,k3,k4,c1,c2,sb]));try rfl)
  ·have cq:(0:Int)<Q:=by omega
   have cp' : ¬ 0<P:=by omega
   have cq':0<Q:=by omega
   ((repeat((conv=>lhs;whnf);simp only[go_sem,simprocAttr,cp,cp',cq,cq',f1,f2,k1,k2,k3,k4,c1,c2,sb]));try rfl)
 ·have n1 : ¬p<0:=by omega
  have n2 : ¬ 0<q:=by omega
  obtain⟨P,hP⟩ : ∃P:Nat,p=P:=⟨p.toNat,by omega⟩;obtain⟨Q,hQ⟩ : ∃Q:Nat,q = -(Q:Int):=⟨(-q).toNat,by omega⟩;subst hP hQ;obtain⟨v1,i1,c1⟩:=vq ha (za.of P) (by omega) (bF (yh (by omega)) (by decide));obtain⟨v2,i2,c2⟩:=vq hb (za.of Q) (by omega) (bF (yh (by omega)) (by decide));have e1:(P:Int)*m=((m*P:Nat):Int):=by rw[pL,bM]
  have e2 : -(Q:Int)*n = -((n*Q:Nat):Int):=by rw[pL,Int.neg_mul,bM]
  rw[e1,e2]at h0 ⊢;have hle:n*Q≤m*P:=by omega
  have sb:=YB i1 i2 hle (bF (xO hm (yh (n:=P) (by omega))) (by decide));have er:(((m*P:Nat):Int) + -((n*Q:Nat):Int)).toNat=m*P-n*Q:=by omega
  rw[er];have f1:=ud P (by omega);have f2:=ud Q (by omega);have k1:IntKind.u64.wrap (Q:Int)=Q:=by rw[yK];omega
  have k2:IntKind.u64.wrap (P:Int)=P:=by rw[yK];omega
  have k3:IntKind.i64.wrap (Q:Int)=Q:=by rw[bA];omega
  have k4:IntKind.i64.wrap (0 - -(Q:Int))=Q:=by rw[show (0:Int) - -(Q:Int)=Q by omega];exact k3
  ((repeat((conv=>lhs;whnf);simp only[go_sem,simprocAttr,n1,n2,f1,f2,k1,k2,k3,k4,c1,c2,sb]));try rfl)
end
end
section
structure LInv (m n:Nat) (sh:Int) (ah bh a b:Int) (p q r s x y:Int):Prop where
 sgn:(0≤p∧q≤0∧r≤0∧0≤s)∨(p≤0∧0≤q∧0≤r∧s≤0)
 b1:0≤x+p∧x+p≤2147483648
 b2:0≤x+q∧x+q≤2147483648
 b3:0≤y+r∧y+r≤2147483648
 b4:0≤y+s∧y+s≤2147483648
 vx:x=p*ah+q*bh
 vy:y=r*ah+s*bh
 gcd:Int.gcd (p*m+q*n) (r*m+s*n)=Nat.gcd m n
 ord:(p=1∧q=0∧r=0∧s=1)∨(y+r<x+p∧y+s<x+q∧p*m+q*n≤n)
theorem Yk {m n sh ah bh a b:Int} (hm:m=ah*sh+a) (hn:n=bh*sh+b) (p q x:Int) (hx:x=p*ah+q*bh):p*m+q*n=sh*x+(p*a+q*b):=by
 subst hm hn hx;simp only[bG];have e1:p*(ah*sh)=sh*(p*ah):=by ac_rfl
 have e2:q*(bh*sh)=sh*(q*bh):=by ac_rfl
 omega
theorem YC {sh a b p q x:Int} (hs:0≤sh) (ha:0≤a∧a≤sh) (hb:0≤b∧b≤sh) (hp:0≤p) (hq:q≤0):sh*(x+q)≤sh*x+(p*a+q*b)∧sh*x+(p*a+q*b)≤sh*(x+p):=by
 have h1:0≤p*a:=pW hp ha.1;have h2:p*a≤p*sh:=pI ha.2 hp;have h3:q*b≤0:=Int.mul_nonpos_of_nonpos_of_nonneg hq hb.1;have h4:q*sh≤q*b:=Int.mul_le_mul_of_nonpos_left hq hb.2;rw[bG,bG,bM sh q,bM sh p];omega
theorem LInv.bounds {m n:Nat} {sh ah bh a b p q r s x y:Int} (h:LInv m n sh ah bh a b p q r s x y) (hs:0<sh) (ha:0≤a∧a≤sh) (hb:0≤b∧b≤sh) (hm:(m:Int)=ah*sh+a) (hn:(n:Int)=bh*sh+b) :
  0≤p*m+q*n∧0≤r*m+s*n∧((y+r<x+p∧y+s<x+q)→r*m+s*n<p*m+q*n):=by
 rw[Yk hm hn p q x h.vx,Yk hm hn r s y h.vy];have mono : ∀u v:Int,u≤v→sh*u≤sh*v:=fun u v e=>pI e (sP hs);have monos : ∀u v:Int,u<v→sh*u<sh*v:=fun u v e=>Int.mul_lt_mul_of_pos_left e hs
 rcases h.sgn with⟨s1,s2,s3,s4⟩ | ⟨s1,s2,s3,s4⟩
 ·have g1:=YC (x:=x) (sP hs) ha hb s1 s2;have g2:=YC (x:=y) (sP hs) hb ha s4 s3;have m1:=mono 0 (x+q) h.b2.1;have m2:=mono 0 (y+r) h.b3.1;rw[aD]at m1 m2;refine⟨by omega,by omega,fun ⟨_,o⟩=>?_⟩;have m3:=monos _ _ o;omega
 ·have g1:=YC (x:=x) (sP hs) hb ha s2 s1;have g2:=YC (x:=y) (sP hs) ha hb s3 s4;have m1:=mono 0 (x+p) h.b1.1;have m2:=mono 0 (y+s) h.b4.1;rw[aD]at m1 m2;refine⟨by omega,by omega,fun ⟨o,_⟩=>?_⟩;have m3:=monos _ _ o;omega
theorem LInv.step {m n:Nat} {sh ah bh a b p q r s x y k:Int} (h:LInv m n sh ah bh a b p q r s x y) (hs:0<sh) (ha:0≤a∧a≤sh) (hb:0≤b∧b≤sh) (hm:(m:Int)=ah*sh+a) (hn:(n:Int)=bh*sh+b)
  (h1:y+r≠0) (h2:y+s≠0) (k1:k=(x+p) / (y+r)) (k2:k=(x+q) / (y+s)):LInv m n sh ah bh a b r s (p-k*r) (q-k*s) y (x-k*y)∧(x-k*y)+(p-k*r)<y+r:=by
 obtain⟨_,_,hord⟩:=h.bounds hs ha hb hm hn;have hk:0≤k:=by rw[k1];exact pX h.b1.1 h.b3.1
 have e1:(x-k*y)+(p-k*r)=(x+p) % (y+r):=by
  have:=sN (x+p) (y+r);rw[←k1,bM,bG]at this;omega
 have e2:(x-k*y)+(q-k*s)=(x+q) % (y+s):=by
  have:=sN (x+q) (y+s);rw[←k2,bM,bG]at this;omega
 have p3:0<y+r:=by have:=h.b3.1;omega
 have p4:0<y+s:=by have:=h.b4.1;omega
 have r1:=aE (x+p) h1;have r2:=sF (x+p) p3;have r3:=aE (x+q) h2;have r4:=sF (x+q) p4;have b3:=h.b3;have b4:=h.b4;refine⟨⟨?_,h.b3,h.b4,by rw[e1];omega,by rw[e2];omega,h.vy,?_,?_,?_⟩,by rw[e1];exact r2⟩
 ·rcases h.sgn with⟨s1,s2,s3,s4⟩ | ⟨s1,s2,s3,s4⟩
  ·have t1:k*r≤0:=Int.mul_nonpos_of_nonneg_of_nonpos hk s3;have t2:0≤k*s:=pW hk s4
   right;omega
  ·have t1:0≤k*r:=pW hk s3;have t2:k*s≤0:=Int.mul_nonpos_of_nonneg_of_nonpos hk s4
   left;omega
 ·rw[h.vx,h.vy,aT,aT,bG,bN,bN];omega
 ·have e:(p-k*r)*m+(q-k*s)*n=(p*m+q*n)-k*(r*m+s*n):=by
   rw[aT,aT,bG,bN,bN];omega
  rw[e,←h.gcd,Int.gcd_comm (p*m+q*n)];exact Int.gcd_sub_mul_right_right _ _ _
 ·right
  rw[e1,e2];refine⟨r2,r4,?_⟩
  rcases h.ord with⟨o1,o2,o3,o4⟩ | ⟨o1,o2,o3⟩
  ·rw[o3,o4];omega
  ·have:=hord ⟨o1,o2⟩;omega
theorem LInv.small {m n:Nat} {sh ah bh a b p q r s x y:Int} (h:LInv m n sh ah bh a b p q r s x y):(-2147483648≤p∧p≤2147483648)∧(-2147483648≤q∧q≤2147483648)∧(-2147483648≤r∧r≤2147483648)∧(-2147483648≤s∧s≤2147483648)∧(0≤x∧x≤2147483648)∧(0≤y∧y≤2147483648):=by
 have b1:=h.b1;have b2:=h.b2;have b3:=h.b3;have b4:=h.b4
 rcases h.sgn with⟨s1,s2,s3,s4⟩ | ⟨s1,s2,s3,s4⟩ <;> omega
theorem qB {k r:Int} (hk:0≤k∧k≤2147483648) (hr : -2147483648≤r∧r≤2147483648) : -4611686018427387904≤k*r∧k*r≤4611686018427387904:=by
 have h1:k*r≤k*2147483648:=pI hr.2 hk.1;have h2:k*(-2147483648)≤k*r:=pI hr.1 hk.1;omega
section
attribute [local irreducible] Vs.callL Vs.callRL tyi zQ yE zm zV zk zb zK zf zF zT zl zi zJ zL zj yB yO yD zN zh Vs.gc zH
noncomputable def JG:FX:=⟨Tryz.f129,zD.of 129,[]⟩
instance ok129_:JG.ok 129:=FX.mk'
theorem U7 (va vb:PV) (m n:Nat) (sh ah bh a b:Int) (hs:0<sh) (ha:0≤a∧a≤sh) (hb:0≤b∧b≤sh) (hm:(m:Int)=ah*sh+a) (hn:(n:Int)=bh*sh+b) (fs:List Fr) : ∀(f:Nat) (p q r s x y:Int),y+r≤f→LInv m n sh ah bh a b p q r s x y →
  ∃p' q' r' s' x' y':Int,LInv m n sh ah bh a b p' q' r' s' x' y'∧∀z:PV × zA,zZ 0 JG 0 fs [(0,va),(1,vb),(12,.int .i64 p'),(13,.int .i64 q'),(14,.int .i64 r'),(15,.int .i64 s'),(16,.undef),(17,.undef),(18,.undef),(55,.undef),(71,.undef)] []=some z →
  zS 0 JG 0 2040 0 fs [(0,va),(1,vb),(12,.int .i64 p),(13,.int .i64 q),(14,.int .i64 r),(15,.int .i64 s),(16,.int .i64 x),(17,.int .i64 y)] []=some z:=by
 intro f
 induction f with
 | zero =>
  intro p q r s x y hf h;obtain⟨i1,i2,i3,i4,i5,i6⟩:=h.small;have b3:=h.b3;have c1:y+r=0:=by omega
  have w1:IntKind.i64.wrap (y+r)=0:=by rw[c1];decide
  refine⟨p,q,r,s,x,y,h,fun z hz=>?_⟩;apply zC;(repeat((conv=>lhs;whnf);simp only[go_sem,simprocAttr,w1]));exact hz
 | succ f ih =>
  intro p q r s x y hf h;obtain⟨i1,i2,i3,i4,i5,i6⟩:=h.small;have b1:=h.b1;have b2:=h.b2;have b3:=h.b3;have b4:=h.b4;have wyr:IntKind.i64.wrap (y+r)=y+r:=by rw[bA];omega
  have wys:IntKind.i64.wrap (y+s)=y+s:=by rw[bA];omega
  have wxp:IntKind.i64.wrap (x+p)=x+p:=by rw[bA];omega
  have wxq:IntKind.i64.wrap (x+q)=x+q:=by rw[bA];omega
  by_cases c1:y+r=0
  ·refine⟨p,q,r,s,x,y,h,fun z hz=>?_⟩;apply zC;(repeat((conv=>lhs;whnf);simp only[go_sem,simprocAttr,wyr,c1]));exact hz
  by_cases c2:y+s=0
  ·refine⟨p,q,r,s,x,y,h,fun z hz=>?_⟩;apply zC;(repeat((conv=>lhs;whnf);simp only[go_sem,simprocAttr,wyr,c1,wys,c2]));exact hz
  have t1:(x+p).tdiv (y+r)=(x+p) / (y+r):=sG b1.1;have t2:(x+q).tdiv (y+s)=(x+q) / (y+s):=sG b2.1;obtain⟨k,hk⟩ : ∃k,k=(x+p) / (y+r):=⟨_,rfl⟩;obtain⟨l,hl⟩ : ∃l,l=(x+q) / (y+s):=⟨_,rfl⟩;have k0:0≤k∧k≤2147483648:=by
   rw[hk];have:=pX b1.1 b3.1;have:=BL (y+r) b1.1;omega
  have l0:0≤l∧l≤2147483648:=by
   rw[hl];have:=pX b2.1 b4.1;have:=BL (y+s) b2.1;omega
  rw[←hk]at t1;rw[←hl]at t2;have wk:IntKind.i64.wrap k=k:=by rw[bA];omega
  have wl:IntKind.i64.wrap l=l:=by rw[bA];omega
  by_cases c3:k=l
  ·subst c3;obtain⟨hst,hlt⟩:=h.step hs ha hb hm hn c1 c2 hk hl;obtain⟨p',q',r',s',x',y',j1,j2⟩:=ih r s (p-k*r) (q-k*s) y (x-k*y) (by omega) hst;obtain⟨j3,j4,j5,j6,j7,j8⟩:=hst.small;have m1:=qB k0 i3;have m2:=qB k0 i4;have m3:=qB (r:=y) k0 (by omega);have w1:IntKind.i64.wrap (k*r)=k*r:=by rw[bA];omega
   have w2:IntKind.i64.wrap (k*s)=k*s:=by rw[bA];omega
   have w3:IntKind.i64.wrap (k*y)=k*y:=by rw[bA];omega
   have w4:IntKind.i64.wrap (p-k*r)=p-k*r:=by rw[bA];omega
   have w5:IntKind.i64.wrap (q-k*s)=q-k*s:=by rw[bA];omega
   have w6:IntKind.i64.wrap (x-k*y)=x-k*y:=by rw[bA];omega
   refine⟨p',q',r',s',x',y',j1,fun z hz=>?_⟩;have key:=j2 z hz;apply zC;(repeat((conv=>lhs;whnf);simp only[go_sem,simprocAttr,wyr,c1,wys,c2,wxp,wxq,t1,t2,wk,w1,w2,w3,w4,w5,w6]));exact key
  ·refine⟨p,q,r,s,x,y,h,fun z hz=>?_⟩;apply zC;(repeat((conv=>lhs;whnf);simp only[go_sem,simprocAttr,wyr,c1,wys,c2,wxp,wxq,t1,t2,wk,wl,c3]));exact hz
theorem zEd (S:zA) (m n:Nat):ym S (.tup [zc m,zc n,.bool true])=some (.tup [zc m,zc n,.bool true]):=by
 show (yG (yZ _) [zc m,zc n,.bool true]).map PV.tup=_
 have f : ∀n,yZ S (zc n)=some (zc n):=fun n=>xA _ _;have f2:yZ S (.bool true)=some (.bool true):=rfl;simp only[yG,f,f2,bC];rfl
theorem U8 {m n:Nat} {va vb:PV} (ha:za m va) (hb:za n vb) (hmn:n≤m) (h3:18446744073709551616≤n) (hm:(words m).length≤900000) : ∃v,callL Tryz.prog zD 129 [va,vb]=some v∧(v=.tup [.sl [] true,.sl [] true,.bool false]∨∃X Y:Nat,v=.tup [zc X,zc Y,.bool true]∧Y<X∧X≤n∧Nat.gcd X Y=Nat.gcd m n):=by
 have hn:(words n).length≤900000:=by
  have:(yX WB n).length≤(yX WB m).length:=wm WB2 hmn;have h2:(yX WB m).length≤900000:=hm
  show (yX WB n).length≤900000
  omega
 obtain⟨N,hN⟩ : ∃N,N=yL m:=⟨_,rfl⟩;have hN1:65≤N:=by
  have : ¬yL m≤64:=fun h=>by
   have h2:=(wX 64).1 h;have:(2:Nat)^64=18446744073709551616:=by decide
   omega
  omega
 have hN2:N≤28800000:=by
  obtain⟨c,hc⟩ : ∃c,c=900000:=⟨_,rfl⟩;have h0:(words m).length≤c:=by omega
  have h1:=(yI WB2 c m).1 h0;have h2:WB^c=2^(32*c):=by rw[HL]
  rw[h2]at h1;have:=(wX (32*c)).2 h1;omega
 have bn:=zAH hmn;rw[←hN]at bn;have b1:=fun S=>U6 ha (by omega) S;have b2:=fun S=>U6 hb (by omega) S;rw[←hN]at b1;have w1:IntKind.i64.wrap ((N:Int)-20)=(N:Int)-20:=by rw[bA];omega
 by_cases c1:(yL n:Int)<(N:Int)-20
 ·refine⟨_,?_,.inl rfl⟩;refine FX.callL (r:=(.tup [.sl [] true,.sl [] true,.bool false],[])) ok129_ 1000 rfl rfl ?_ rfl;((repeat((conv=>lhs;whnf);simp only[go_sem,simprocAttr,b1,b2,w1,c1]));try rfl)
 ·obtain⟨K,hK⟩ : ∃K,K=N-31:=⟨_,rfl⟩;have w2:IntKind.i64.wrap ((N:Int)-31)=(K:Int):=by rw[bA];omega
  obtain⟨v1,i1,s1⟩:=QY ha K (by omega) (by omega);obtain⟨v2,i2,s2⟩:=QY hb K (by omega) (by omega);have hp:0<2^K:=sT (by decide);obtain⟨A,hA⟩ : ∃A,A=m / 2^K:=⟨_,rfl⟩;obtain⟨B,hB⟩ : ∃B,B=n / 2^K:=⟨_,rfl⟩;rw[←hA]at i1;rw[←hB]at i2;have hAl:A<2147483648:=by
   rw[hA];refine (BA hp).2 ?_;have h1:=YA m;have h2:(2147483648:Nat)*2^K=2^N:=by
    rw[show (2147483648:Nat)=2^31 by decide,←aC]
    congr 1
    omega
   rw[h2,hN];exact h1
  have hBA:B≤A:=by rw[hA,hB];exact Nat.div_le_div_right hmn
  have f1:=fun S=>jR i1 (by omega) S;have f2:=fun S=>jR i2 (by omega) S;have cA:IntKind.i64.wrap (A:Int)=A:=by rw[bA];omega
  have cB:IntKind.i64.wrap (B:Int)=B:=by rw[bA];omega
  have spl : ∀k:Nat,(k:Int)=((k / 2^K:Nat):Int)*((2^K:Nat):Int)+((k % 2^K:Nat):Int):=fun k=>by
   rw[←pL,←HK,aH,BT]
  have rem : ∀k:Nat,(0:Int)≤((k % 2^K:Nat):Int)∧((k % 2^K:Nat):Int)≤((2^K:Nat):Int):=fun k=>by
   have:=sJ k hp;omega
  have sm:=spl m;have sn:=spl n;rw[←hA]at sm;rw[←hB]at sn;have hsh:(0:Int)<((2^K:Nat):Int):=by omega
  obtain⟨p,q,r,s,x,y,hi,j⟩:=U7 va vb m n ((2^K:Nat):Int) A B ((m % 2^K:Nat):Int) ((n % 2^K:Nat):Int) hsh (rem m) (rem n) sm sn [.blk 0,.seq 0 511] B 1 0 0 1 A B (by omega) ⟨by omega,by omega,by omega,by omega,by omega,by omega,by omega,by simp,.inl ⟨rfl,rfl,rfl,rfl⟩⟩;obtain⟨q1,q2,q3,q4,q5,q6⟩:=hi.small;by_cases c2:q=0
  ·subst c2;have key:=j (.tup [.sl [] true,.sl [] true,.bool false],[]) (by
    apply zR;((repeat((conv=>lhs;whnf);simp only[go_sem,simprocAttr]));try rfl))
   refine⟨_,?_,.inl rfl⟩;refine FX.callL (r:=(.tup [.sl [] true,.sl [] true,.bool false],[])) ok129_ 1000 rfl rfl ?_ rfl;(repeat((conv=>lhs;whnf);simp only[go_sem,simprocAttr,b1,b2,w1,c1,w2,s1,s2,f1,f2,cA,cB]));exact key
  ·obtain⟨g1,g2,g3⟩:=hi.bounds hsh (rem m) (rem n) sm sn;have od:y+r<x+p∧y+s<x+q∧p*m+q*n≤n:=by
    rcases hi.ord with⟨_,h,_⟩ | h
    ·exact absurd h c2
    ·exact h
   have g3':=g3 ⟨od.1,od.2.1⟩;have k1:=qk ha hb p q hm hn (by omega) (by omega) (by rcases hi.sgn with h | h <;> omega) g1;have k2:=qk ha hb r s hm hn (by omega) (by omega) (by rcases hi.sgn with h | h <;> omega) g2;have kc1:=fun S=>zE (S:=S) k1 (by simp[ha.plain,hb.plain,zW.int]);have kc2:=fun S=>zE (S:=S) k2 (by simp[ha.plain,hb.plain,zW.int]);have gg:=hi.gcd;have od3:=od.2.2;obtain⟨X,hX⟩ : ∃X:Nat,p*m+q*n=X:=⟨(p*m+q*n).toNat,by omega⟩;obtain⟨Y,hY⟩ : ∃Y:Nat,r*m+s*n=Y:=⟨(r*m+s*n).toNat,by omega⟩;rw[hX,bD]at kc1;rw[hY,bD]at kc2;rw[hX,hY]at gg g3';rw[hX]at od3;have key:=j (.tup [zc X,zc Y,.bool true],[]) (by
    apply zR;((repeat((conv=>lhs;whnf);simp only[go_sem,simprocAttr,c2,kc1,kc2]));try rfl))
   refine⟨_,?_,.inr ⟨X,Y,rfl,by omega,by omega,by rw[←gg];rfl⟩⟩;refine FX.callL (r:=(.tup [zc X,zc Y,.bool true],[])) ok129_ 1000 rfl rfl ?_ (zEd _ _ _);(repeat((conv=>lhs;whnf);simp only[go_sem,simprocAttr,b1,b2,w1,c1,w2,s1,s2,f1,f2,cA,cB]));exact key
end
end
end Go.Vs
