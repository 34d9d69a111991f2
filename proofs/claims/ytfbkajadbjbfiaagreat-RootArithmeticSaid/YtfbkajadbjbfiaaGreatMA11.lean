
import Derived.Test.YtfbkajadbjbfiaaGreatMA10
set_option linter.unusedVariables false
set_option linter.unusedSimpArgs false
set_option maxRecDepth 100000
namespace Go.Vs
open Go Go.Proofs
section
theorem zx {n:Nat} : (words n).length=0↔n=0:=by
 rw[PT];exact xI WB2
section
attribute [local irreducible] Vs.callL Vs.callRL tyi zQ yE zm zV zk zb zK zf zF zT zl zi zJ zL zj yB yO yD zN zh Vs.gc zH
noncomputable def VA:FX:=⟨Tryz.f122,zD.of 122,[]⟩
instance ok122_:VA.ok 122:=FX.mk'
theorem VB (A:List Int) (e1:Bool) (hA:OkD WB A) (hm:A.length≤1000000) (w:Int) (hw:0<w∧w<4294967296) (fs:List Fr) : ∀(k:Nat) (i:Int),i=(k:Int)-1→k≤A.length→∀(Q:List Int) (r:Int),Q.length+k=A.length→OkD WB Q→(0≤r∧r<w)→zG WB (A.drop k)=w*zG WB Q+r →
  ∃(O:List Int) (t:Int),OkD WB O∧O.length=A.length∧(0≤t∧t<w)∧zG WB A=w*zG WB O+t∧∀z:PV × zA,zZ 0 VA 0 fs [(0,.undef),(1,.undef),(6,.msl 0 0 A.length true),(7,.int .u64 t),(8,.undef),(16,.undef)] [.arr (zB .u32 O) (some (some 1)) false]=some z →
  zS 0 VA 0 244 1 fs [(0,.sl (zB .u32 A) e1),(1,.int .u32 w),(6,.msl 0 0 A.length true),(7,.int .u64 r),(8,.int .i64 i)] [.arr (zB .u32 (List.replicate k 0++Q)) (some (some 1)) false]=some z:=by
 have hM:2000000≤maxLen:=by decide
 intro k
 induction k with
 | zero =>
  intro i hi hk Q r hQ hQo hr hv;refine⟨Q,r,hQo,by omega,hr,by simpa using hv,fun z hz=>?_⟩;have c : ¬ 0≤i:=by omega
  apply zC;simp only[HE,pC];(repeat((conv=>lhs;whnf);simp only[go_sem,↓reduceIte,Nat.reduceEqDiff,Nat.reduceBEq,Nat.reduceAdd,Nat.reduceMul,Nat.reduceSub,Nat.reduceLT,Nat.reduceLeDiff,reduceCtorEq,Int.reduceToNat,Int.reduceLE,Int.reduceLT,Int.reduceEq,c]));exact hz
 | succ k ih =>
  intro i hi hk Q r hQ hQo hr hv;have hi':i=(k:Int):=by omega
  subst hi';have c:(0:Int)≤(k:Int):=by omega
  have x1:0≤(k:Int)∧(k:Int)<(A.length:Int):=⟨by omega,by omega⟩;have wd:IntKind.i64.wrap ((k:Int)-1)=(k:Int)-1:=by rw[bA];omega
  have ha:=hA.getD (by decide) k;have ha':A.getD k 0<4294967296:=ha.2;have hr4:0≤r∧r<4294967296:=⟨hr.1,by omega⟩;have hR:0≤r*4294967296+A.getD k 0:=by omega
  have hq:(r*4294967296+A.getD k 0) / w<4294967296:=by
   rw[HT hw.1];have:(r+1)*4294967296≤w*4294967296:=pU (by omega) (by decide);omega
  have hq0:0≤(r*4294967296+A.getD k 0) / w:=pX hR (by omega);have hm0:=aE (r*4294967296+A.getD k 0) (show w≠0 by omega);have hm1:=sF (r*4294967296+A.getD k 0) hw.1;obtain⟨O,t,o1,o2,o3,o4,o5⟩:=ih _ rfl (by omega) ((r*4294967296+A.getD k 0) / w::Q) ((r*4294967296+A.getD k 0) % w) (by simp;omega) (.cons ⟨hq0,hq⟩ hQo) ⟨hm0,hm1⟩ (by
   rw[yA A (by omega)]
   show A.getD k 0+4294967296*zG WB (A.drop (k+1))=w*((r*4294967296+A.getD k 0) / w+4294967296*zG WB Q)+(r*4294967296+A.getD k 0) % w
   have:=sN (r*4294967296+A.getD k 0) w;have e2:=bG w ((r*4294967296+A.getD k 0) / w) (4294967296*zG WB Q);have e3:=HF w 4294967296 (zG WB Q);rw[hv,e2,e3];omega)
  refine⟨O,t,o1,o2,o3,o4,fun z hz=>?_⟩;have key:=o5 z hz;have sh:IntKind.u64.wrap (r*4294967296)=r*4294967296:=by rw[yK];omega
  have cu:IntKind.u64.wrap (A.getD k 0)=A.getD k 0:=by rw[yK];omega
  have cw:IntKind.u64.wrap w=w:=by rw[yK];omega
  have bo:=ub hr4 ⟨ha.1,ha'⟩;have w0 : ¬w=0:=by omega
  have td:(r*4294967296+A.getD k 0).tdiv w=(r*4294967296+A.getD k 0) / w:=sG hR;have tm:(r*4294967296+A.getD k 0).tmod w=(r*4294967296+A.getD k 0) % w:=sO hR;have q64:IntKind.u64.wrap ((r*4294967296+A.getD k 0) / w)=(r*4294967296+A.getD k 0) / w:=by rw[yK];omega
  have q32:IntKind.u32.wrap ((r*4294967296+A.getD k 0) / w)=(r*4294967296+A.getD k 0) / w:=by rw[bU];omega
  have hlen:(List.replicate (k+1) (0:Int)++Q).length=A.length:=by simp;omega
  have len:k<(List.replicate (k+1) (0:Int)++Q).length:=by omega
  have xm:=yb.idxmk .u32 (S:=[.arr (zB .u32 (List.replicate (k+1) 0++Q)) (some (some 1)) false]) (id:=0) (off:=0) (n:=A.length) (ex:=true) (L:=List.replicate (k+1) 0++Q) k rfl (by omega) (by omega);rw[bW]at xm;have gk:((zB .u32 (List.replicate (k+1) 0++Q)).getD k []).length=1:=by rw[zy _ _ len];rfl
  have set : ∀v:Int,(zB .u32 (List.replicate (k+1) 0++Q)).set k [.int .u32 v]=zB .u32 (List.replicate k 0++v::Q):=fun v=>by
   rw[yR]
   congr 1
   have e:List.replicate (k+1) (0:Int)++Q=List.replicate k 0++0::Q:=by
    rw[PD,aG];rfl
   rw[e,pT,hI (by simp)];simp
  apply zC;(repeat((conv=>lhs;whnf);simp only[go_sem,↓reduceIte,Nat.reduceEqDiff,Nat.reduceBEq,Nat.reduceAdd,Nat.reduceMul,Nat.reduceSub,Nat.reduceLT,Nat.reduceLeDiff,reduceCtorEq,Int.reduceToNat,Int.reduceLE,Int.reduceLT,Int.reduceEq,c,x1,bD,sh,cu,cw,bo,w0,td,tm,q64,q32,xm,gk,len,set,wd]));exact key
theorem VC (m:Nat) (e1:Bool) (w:Nat) (hw:0<w∧w<4294967296) (hm:(words m).length≤1000000):callL Tryz.prog zD 122 [zo m e1,.int .u32 w]=some (.tup [zc (m / w),.int .u32 (m % w:Nat)]):=by
 have hM:2000000≤maxLen:=by decide
 obtain⟨O,t,o1,o2,o3,o4,o5⟩:=VB (words m) e1 (yC m) hm w ⟨by omega,by omega⟩ [.blk 0,.seq 0 31] (words m).length ((words m).length-1) rfl (bB _) [] 0 (by simp) (.nil _) ⟨by omega,by omega⟩ (by rw[sU];simp[zG]);rw[yM]at o4;have hO:=zv o1;obtain⟨q,hq⟩ : ∃q:Nat,zG WB O=q:=⟨(zG WB O).toNat,by omega⟩;obtain⟨s,rfl⟩ : ∃s:Nat,t=s:=⟨t.toNat,by omega⟩;rw[hq]at o4;have e:m=w*q+s:=by
  have:((m:Nat):Int)=((w*q+s:Nat):Int):=by rw[HK,pL];exact o4
  omega
 have hs:s<w:=by omega
 have eq1:m / w=q:=by rw[e,Nat.mul_add_div hw.1,aI hs,sC]
 have eq2:m % w=s:=by rw[e,Nat.mul_add_mod,sE hs]
 rw[eq1,eq2];have ct:=xB (L:=O) (by omega) o1;rw[hq,bD]at ct;have cc:=ys (S:=[.arr (zB .u32 O) (some (some 1)) false]) (id:=0) (n:=(words m).length) (ex:=true) ct rfl o2 (by simp);have mk:=fun id=>uN id (words m).length (by omega);have wd:IntKind.i64.wrap (((words m).length:Int)-1)=((words m).length:Int)-1:=by rw[bA];omega
 have cs:IntKind.u32.wrap (s:Int)=s:=by rw[bU];omega
 have key:=o5 (.tup [zc q,.int .u32 s],[.arr (zB .u32 O) (some (some 1)) true]) (by
  apply zR;((repeat((conv=>lhs;whnf);simp only[go_sem,↓reduceIte,Nat.reduceEqDiff,Nat.reduceBEq,Nat.reduceAdd,Nat.reduceMul,Nat.reduceSub,Nat.reduceLT,Nat.reduceLeDiff,reduceCtorEq,Int.reduceToNat,Int.reduceLE,Int.reduceLT,Int.reduceEq,cc,cs]));try rfl))
 have key':zS 0 VA 0 244 1 [.blk 0,.seq 0 31] [(0,.sl (zB .u32 (words m)) e1),(1,.int .u32 w),(6,.msl 0 0 (words m).length true),(7,.int .u64 0),(8,.int .i64 ((words m).length-1))] [.arr (zB .u32 (List.replicate (words m).length 0)) (some (some 1)) false]=some (.tup [zc q,.int .u32 s],[.arr (zB .u32 O) (some (some 1)) true]):=by
  rw[pD]at key;exact key
 refine FX.callL (r:=(.tup [zc q,.int .u32 s],[.arr (zB .u32 O) (some (some 1)) true])) ok122_ 1000 rfl rfl ?_ ?_
 ·unfold zo;(repeat((conv=>lhs;whnf);simp only[go_sem,↓reduceIte,Nat.reduceEqDiff,Nat.reduceBEq,Nat.reduceAdd,Nat.reduceMul,Nat.reduceSub,Nat.reduceLT,Nat.reduceLeDiff,reduceCtorEq,Int.reduceToNat,Int.reduceLE,Int.reduceLT,Int.reduceEq,wd,mk]));exact key'
 ·show (yG (yZ _) [zc q,.int .u32 s]).map PV.tup=_
  have f:yZ [.arr (zB .u32 O) (some (some 1)) true] (zc q)=some (zc q):=xA _ _;simp only[yG,f,bC];rfl
end
def yL (n:Nat):Nat:=if n=0 then 0 else n.log2+1
theorem wX {n:Nat} (k:Nat):yL n≤k↔n<2^k:=by
 unfold yL;by_cases h:n=0
 ·rw[hZ h,h];simp[sT]
 ·rw[hI h];have:=Nat.log2_lt (k:=k) h;omega
theorem Yf {n:Nat} (h:n≠0):0<yL n:=by unfold yL;rw[hI h];omega
theorem QV {n:Nat} (h:n≠0):2^(yL n-1)≤n:=by
 have:=wX (n:=n) (yL n-1);have:=Yf h;omega
theorem YA (n:Nat):n<2^yL n:=(wX _).1 (bB _)
theorem zDL {n k:Nat} (h1:2^k≤n) (h2:n<2^(k+1)):yL n=k+1:=by
 have a:=(wX (n:=n) (k+1)).2 h2;have b : ¬yL n≤k:=fun h=>by have:=(wX (n:=n) k).1 h;omega
 omega
theorem kD {n k:Nat} (h:2^k≤n):yL n=k+yL (n / 2^k):=by
 have hp:0<2^k:=sT (by decide);have hq:n / 2^k≠0:=by
  have:1≤n / 2^k:=(Nat.le_div_iff_mul_le hp).2 (by omega);omega
 have h1:=QV hq;have h2:=YA (n / 2^k);have h3:=Yf hq;have e:yL n=(k+(yL (n / 2^k)-1))+1:=by
  refine zDL ?_ ?_
  ·rw[aC,aH];exact (Nat.le_div_iff_mul_le hp).1 h1
  ·have:k+(yL (n / 2^k)-1)+1=k+yL (n / 2^k):=by omega
   rw[this,aC,aH];exact (BA hp).1 h2
 omega
theorem zAH {m n:Nat} (h:m≤n):yL m≤yL n:=(wX _).2 (BH h (YA n))
theorem zB8 {s:ByteArray} {n:Nat} (h:n<s.size):zh Tryz.prog 9 (.str s) (.int .u8 n)=some (.int .u8 (Yb s n)):=by
 simp[zh,zBQ,wU,Yb];omega
def zHp (s:ByteArray):Bool:=(List.range 256).all fun n=>decide (n<s.size)&&decide (Yb s n=(yL n:Int))
theorem jO {s:ByteArray} (h:zHp s=true) {n:Nat} (hn:n<256):zh Tryz.prog 9 (.str s) (.int .u8 n)=some (.int .u8 (yL n)):=by
 have:=pN.1 h n (BU.2 hn);simp only[bS,sL]at this;rw[zB8 this.1,this.2]
theorem zGH:(tyi Tryz.prog 3).d=.int .i64:=by kernel_rfl
theorem zHq:(tyi Tryz.prog 5).d=.int .u8:=by kernel_rfl
theorem zB9:(tyi Tryz.prog 5).known=true:=by kernel_rfl
@[go_sem] theorem zDw (S:zA) (k:IntKind) (n:Int):zN Tryz.prog 96 5 S (.int k n)=some (.int .u8 (IntKind.u8.wrap n)):=by simp[zN,ZP,yS,zHq]
@[go_sem] theorem zDx (S:zA) (k:IntKind) (n:Int):zN Tryz.prog 5 3 S (.int k n)=some (.int .i64 (IntKind.i64.wrap n)):=by simp[zN,zB9,yS,zGH]
@[go_sem] theorem zGI:(2:Int)^min 16 32=65536:=nr (by decide)
@[go_sem] theorem zHI:(2:Int)^min 8 32=256:=nr (by decide)
@[go_sem] theorem zHJ (a:Int):a.fdiv 65536=a / 65536:=PB _ (by decide)
@[go_sem] theorem zHr (a:Int):a.fdiv 256=a / 256:=PB _ (by decide)
section
attribute [local irreducible] Vs.callL Vs.callRL tyi zQ yE zm zV zk zb zK zf zF zT zl zi zJ zL zj yB yO yD zN zh Vs.gc zH
noncomputable def zE6:FX:=⟨Tryz.f132,zD.of 132,[]⟩
instance ok132_:zE6.ok 132:=FX.mk'
theorem JC (n:Nat) (hn:n<4294967296):callL Tryz.prog zD 132 [.int .u32 n]=some (.int .i64 (yL n)):=by
 have w64 : ∀n<4294967296,IntKind.i64.wrap (yL n:Int)=yL n:=fun n hn=>by
  have:=(wX (n:=n) 32).2 hn;rw[bA];omega
 have wc : ∀(c n:Nat),c≤32→n<4294967296→IntKind.i64.wrap ((c:Int)+yL n)=(c+yL n:Nat):=fun c n hc hn=>by
  have:=(wX (n:=n) 32).2 hn;rw[bA];omega
 refine FX.callL (r:=(.int .i64 (yL n),[])) ok132_ 1000 rfl rfl ?_ rfl;by_cases c1:65536≤n
 ·have e1:yL n=16+yL (n / 65536):=kD (n:=n) (k:=16) c1;obtain⟨x,hx⟩ : ∃x,x=n / 65536:=⟨_,rfl⟩;have hx':(n:Int) / 65536=x:=by omega
  have d1:(65536:Int)≤n:=by omega
  have e1':yL n=16+yL x:=by rw[e1,hx]
  have ux:IntKind.u32.wrap (x:Int)=x:=by rw[bU];omega
  by_cases c2:256≤x
  ·have e2:yL x=8+yL (x / 256):=kD (n:=x) (k:=8) c2;obtain⟨y,hy⟩ : ∃y,y=x / 256:=⟨_,rfl⟩;have hy':(x:Int) / 256=y:=by omega
   have d2:(256:Int)≤x:=by omega
   have uy:IntKind.u32.wrap (y:Int)=y:=by rw[bU];omega
   have u8:IntKind.u8.wrap (y:Int)=y:=by rw[IntKind.wrap_u8];omega
   have e2':yL n=24+yL y:=by rw[e1',e2,hy];omega
   have w1:=w64 y (by omega);have w2:IntKind.i64.wrap (IntKind.i64.wrap (16+8)+(yL y:Int))=yL n:=by
    rw[show IntKind.i64.wrap (16+8)=24 by decide,e2'];exact wc 24 y (by decide) (by omega)
   ((repeat((conv=>lhs;whnf);simp only[go_sem,↓reduceIte,Nat.reduceEqDiff,Nat.reduceBEq,Nat.reduceAdd,Nat.reduceMul,Nat.reduceSub,Nat.reduceLT,Nat.reduceLeDiff,reduceCtorEq,Int.reduceToNat,Int.reduceLE,Int.reduceLT,Int.reduceEq,d1,d2,hx',hy',ux,uy,u8]));try rfl);rw[jO ?tab (by omega)]
   case tab=>kernel_rfl
   ((repeat((conv=>lhs;whnf);simp only[go_sem,↓reduceIte,Nat.reduceEqDiff,Nat.reduceBEq,Nat.reduceAdd,Nat.reduceMul,Nat.reduceSub,Nat.reduceLT,Nat.reduceLeDiff,reduceCtorEq,Int.reduceToNat,Int.reduceLE,Int.reduceLT,Int.reduceEq,w1,w2]));try rfl)
  ·have d2 : ¬(256:Int)≤x:=by omega
   have u8:IntKind.u8.wrap (x:Int)=x:=by rw[IntKind.wrap_u8];omega
   have w1:=w64 x (by omega);have w2:IntKind.i64.wrap (16+(yL x:Int))=yL n:=by rw[e1'];exact wc 16 x (by decide) (by omega)
   ((repeat((conv=>lhs;whnf);simp only[go_sem,↓reduceIte,Nat.reduceEqDiff,Nat.reduceBEq,Nat.reduceAdd,Nat.reduceMul,Nat.reduceSub,Nat.reduceLT,Nat.reduceLeDiff,reduceCtorEq,Int.reduceToNat,Int.reduceLE,Int.reduceLT,Int.reduceEq,d1,d2,hx',ux,u8]));try rfl);rw[jO ?tab (by omega)]
   case tab=>kernel_rfl
   ((repeat((conv=>lhs;whnf);simp only[go_sem,↓reduceIte,Nat.reduceEqDiff,Nat.reduceBEq,Nat.reduceAdd,Nat.reduceMul,Nat.reduceSub,Nat.reduceLT,Nat.reduceLeDiff,reduceCtorEq,Int.reduceToNat,Int.reduceLE,Int.reduceLT,Int.reduceEq,w1,w2]));try rfl)
 ·have d1 : ¬(65536:Int)≤n:=by omega
  by_cases c2:256≤n
  ·have e2:yL n=8+yL (n / 256):=kD (n:=n) (k:=8) c2;obtain⟨y,hy⟩ : ∃y,y=n / 256:=⟨_,rfl⟩;have hy':(n:Int) / 256=y:=by omega
   have d2:(256:Int)≤n:=by omega
   have uy:IntKind.u32.wrap (y:Int)=y:=by rw[bU];omega
   have u8:IntKind.u8.wrap (y:Int)=y:=by rw[IntKind.wrap_u8];omega
   have e2':yL n=8+yL y:=by rw[e2,hy]
   have w1:=w64 y (by omega);have w2:IntKind.i64.wrap (IntKind.i64.wrap (0+8)+(yL y:Int))=yL n:=by
    rw[show IntKind.i64.wrap (0+8)=8 by decide,e2'];exact wc 8 y (by decide) (by omega)
   ((repeat((conv=>lhs;whnf);simp only[go_sem,↓reduceIte,Nat.reduceEqDiff,Nat.reduceBEq,Nat.reduceAdd,Nat.reduceMul,Nat.reduceSub,Nat.reduceLT,Nat.reduceLeDiff,reduceCtorEq,Int.reduceToNat,Int.reduceLE,Int.reduceLT,Int.reduceEq,d1,d2,hy',uy,u8]));try rfl);rw[jO ?tab (by omega)]
   case tab=>kernel_rfl
   ((repeat((conv=>lhs;whnf);simp only[go_sem,↓reduceIte,Nat.reduceEqDiff,Nat.reduceBEq,Nat.reduceAdd,Nat.reduceMul,Nat.reduceSub,Nat.reduceLT,Nat.reduceLeDiff,reduceCtorEq,Int.reduceToNat,Int.reduceLE,Int.reduceLT,Int.reduceEq,w1,w2]));try rfl)
  ·have d2 : ¬(256:Int)≤n:=by omega
   have u8:IntKind.u8.wrap (n:Int)=n:=by rw[IntKind.wrap_u8];omega
   have w1:=w64 n (by omega);have w2:IntKind.i64.wrap ((0:Int)+yL n)=yL n:=by rw[HU];exact w1
   ((repeat((conv=>lhs;whnf);simp only[go_sem,↓reduceIte,Nat.reduceEqDiff,Nat.reduceBEq,Nat.reduceAdd,Nat.reduceMul,Nat.reduceSub,Nat.reduceLT,Nat.reduceLeDiff,reduceCtorEq,Int.reduceToNat,Int.reduceLE,Int.reduceLT,Int.reduceEq,d1,d2,u8]));try rfl);rw[jO ?tab (by omega)]
   case tab=>kernel_rfl
   ((repeat((conv=>lhs;whnf);simp only[go_sem,↓reduceIte,Nat.reduceEqDiff,Nat.reduceBEq,Nat.reduceAdd,Nat.reduceMul,Nat.reduceSub,Nat.reduceLT,Nat.reduceLeDiff,reduceCtorEq,Int.reduceToNat,Int.reduceLE,Int.reduceLT,Int.reduceEq,w1,w2]));try rfl)
noncomputable def zE7:FX:=⟨Tryz.f123,zD.of 123,[]⟩
instance ok123_:zE7.ok 123:=FX.mk'
theorem vj (n:Nat) (hn:n<4294967296):callL Tryz.prog zD 123 [.int .u32 n]=some (.int .i64 (32-yL n:Nat)):=by
 have hb:=(wX (n:=n) 32).2 hn;have cl:=fun S=>zE (S:=S) (JC n hn) (by simp[zW.int]);have w:IntKind.i64.wrap ((32:Int)-yL n)=(32-yL n:Nat):=by rw[bA];omega
 refine FX.callL (r:=(.int .i64 (32-yL n:Nat),[])) ok123_ 1000 rfl rfl ?_ rfl;((repeat((conv=>lhs;whnf);simp only[go_sem,↓reduceIte,Nat.reduceEqDiff,Nat.reduceBEq,Nat.reduceAdd,Nat.reduceMul,Nat.reduceSub,Nat.reduceLT,Nat.reduceLeDiff,reduceCtorEq,Int.reduceToNat,Int.reduceLE,Int.reduceLT,Int.reduceEq,cl,w]));try rfl)
end
theorem zE8 {a p x n:Nat} (h:a+p*x=n) (hlt:a<p):n / p=x:=by
 rw[←h,Nat.add_mul_div_left _ _ (by omega),aI hlt,bW]
theorem zE9 {a p x n:Nat} (h:a+p*x=n) (hx:x≠0):p≤n:=by
 have:=PA p (show 1≤x by omega);omega
theorem Yg {n:Nat} (h:n≠0) : ∃x:Nat,x≠0∧x<4294967296∧(words n).getD ((words n).length-1) 0=x∧(words n).length≠0∧yL n=32*((words n).length-1)+yL x:=by
 have h0:(words n).length≠0:=fun e=>h (zx.1 e);have hl:=jN WB2 h;have hx:=(yC n).getD (by decide) ((words n).length-1);obtain⟨x,ex⟩ : ∃x:Nat,(words n).getD ((words n).length-1) 0=x:=⟨((words n).getD ((words n).length-1) 0).toNat,by omega⟩;have x0:x≠0:=fun e=>by
  subst e;exact hl ex
 have x1:x<4294967296:=by
  have:((words n).getD ((words n).length-1) 0)<4294967296:=hx.2;omega
 refine⟨x,x0,x1,ex,h0,?_⟩;have hv:=yM n;have hsp:words n=(words n).take ((words n).length-1)++[(x:Int)]:=by
  rw[←ex]
  conv=>lhs;rw[←HB ((words n).length-1) (words n)]
  congr 1
  rw[yA _ (by omega)]
  congr 1
  try (rw[List.drop_eq_nil_iff];omega)
 have hok:OkD WB ((words n).take ((words n).length-1)):=fun y hy=>yC n y (HH hy);have hlt:=xr hok;have hge:=zv hok;have hlen:((words n).take ((words n).length-1)).length=(words n).length-1:=by rw[pJ];omega
 rw[hsp,zX,hlen]at hv;rw[hlen]at hlt;obtain⟨a,ha⟩ : ∃a:Nat,zG WB ((words n).take ((words n).length-1))=a:=⟨(zG WB ((words n).take ((words n).length-1))).toNat,by omega⟩;rw[ha]at hv hlt;have hv':a+WB^((words n).length-1)*x=n:=by
  have:((a+WB^((words n).length-1)*x:Nat):Int)=n:=by
   rw[←hv];simp[zG]
  exact Int.ofNat.inj this
 have hlt':a<WB^((words n).length-1):=by
  have:((a:Nat):Int)<((WB^((words n).length-1):Nat):Int):=by rw[HG];exact hlt
  omega
 have hp:WB^((words n).length-1)=2^(32*((words n).length-1)):=by rw[HL]
 rw[hp]at hv' hlt';have hq:=zE8 hv' hlt';have hle:=zE9 hv' (show x≠0 from x0);rw[kD hle,hq]
section
attribute [local irreducible] Vs.callL Vs.callRL tyi zQ yE zm zV zk zb zK zf zF zT zl zi zJ zL zj yB yO yD zN zh Vs.gc zH
noncomputable def zEa:FX:=⟨Tryz.f133,zD.of 133,[]⟩
instance ok133_:zEa.ok 133:=FX.mk'
theorem zAI (n:Nat) (e:Bool) (hm:(words n).length≤1000000):callL Tryz.prog zD 133 [zo n e]=some (.int .i64 (yL n)):=by
 refine FX.callL (r:=(.int .i64 (yL n),[])) ok133_ 1000 rfl rfl ?_ rfl;unfold zo;by_cases h:n=0
 ·have h0:=zx.2 h;have hb:yL n=0:=by rw[h];rfl
  ((repeat((conv=>lhs;whnf);simp only[go_sem,↓reduceIte,Nat.reduceEqDiff,Nat.reduceBEq,Nat.reduceAdd,Nat.reduceMul,Nat.reduceSub,Nat.reduceLT,Nat.reduceLeDiff,reduceCtorEq,Int.reduceToNat,Int.reduceLE,Int.reduceLT,Int.reduceEq,h0,hb]));try rfl)
 ·obtain⟨x,x0,x1,ex,h0,hb⟩:=Yg h;have bx:=(wX (n:=x) 32).2 x1;have c : ¬((words n).length:Int)=0:=by omega
  have cl:=fun S=>zE (S:=S) (vj x x1) (by simp[zW.int]);have w1:IntKind.i64.wrap (32*((words n).length:Int))=32*((words n).length:Int):=by rw[bA];omega
  have w2:IntKind.i64.wrap (((words n).length:Int)-1)=((words n).length-1:Nat):=by rw[bA];omega
  have w3:IntKind.i64.wrap (32*((words n).length:Int)-(32-yL x:Nat))=yL n:=by rw[bA,hb];omega
  have lt:((words n).length-1:Nat)<(words n).length:=by omega
  have ht:(((words n).length-1:Nat):Int).toNat=(words n).length-1:=bD _;have b0:(0:Int)≤(((words n).length-1:Nat):Int):=by omega
  have b1:(((words n).length-1:Nat):Int)<(words n).length:=by omega
  ((repeat((conv=>lhs;whnf);simp only[go_sem,↓reduceIte,Nat.reduceEqDiff,Nat.reduceBEq,Nat.reduceAdd,Nat.reduceMul,Nat.reduceSub,Nat.reduceLT,Nat.reduceLeDiff,reduceCtorEq,Int.reduceToNat,Int.reduceLE,Int.reduceLT,Int.reduceEq,c,cl,w1,w2,w3,ht,ex,b0,b1,lt,h0]));try rfl)
end
end
section
theorem ZQ {p:Nat} (hp:p<32):2^p*2^(32-p)=4294967296:=by
 rw[←aC,show p+(32-p)=32 by omega]
theorem zDM {a p c:Nat} (hp:p<32) (hc:c<2^p):c+(a*2^p) % 4294967296<4294967296∧bor .u32 c ((a*2^p % 4294967296:Nat):Int)=(c+a*2^p % 4294967296:Nat):=by
 have e:=ZQ hp;have hq:0<2^(32-p):=sT (by decide);have e2:a*2^p % 4294967296=a % 2^(32-p)*2^p:=by
  rw[←e,aH (2^p) (2^(32-p)),Nat.mul_mod_mul_right]
 have hb:=sJ a hq;rw[e2];generalize a % 2^(32-p)=b at *;have h1:(b+1)*2^p≤2^(32-p)*2^p:=bV _ (by omega);rw[aH (2^(32-p)),e,bZ,Nat.one_mul]at h1;refine⟨by omega,?_⟩
 show IntKind.u32.wrap (((BitVec.ofInt 32 (c:Int) ||| BitVec.ofInt 32 ((b*2^p:Nat):Int)).toNat:Nat):Int)=_
 rw[BitVec.toNat_or,BJ,BJ,BK,BK,sE (by omega),sE (by omega)];have e2:c ||| b*2^p=c+b*2^p:=by
  have:=Nat.shiftLeft_add_eq_or_of_lt (i:=p) (b:=c) hc b;rw[Nat.shiftLeft_eq]at this;rw[Nat.or_comm,←this,Nat.add_comm]
 rw[e2,bU];omega
theorem jP (b:Nat) : ∀k:Nat,zG b (List.replicate k 0)=0
 | 0=>rfl
 | k+1=>by rw[sV,zG,jP b k];simp
@[go_sem] theorem zC6 (S:zA) (k:IntKind) (n:Int):zN Tryz.prog 3 100 S (.int k n)=some (.int .u64 (IntKind.u64.wrap n)):=by
 simp[zN,show (tyi Tryz.prog 3).known=true by kernel_rfl,yS,show (tyi Tryz.prog 100).d=.int .u64 by kernel_rfl]
section
attribute [local irreducible] Vs.callL Vs.callRL tyi zQ yE zm zV zk zb zK zf zF zT zl zi zJ zL zj yB yO yD zN zh Vs.gc zH
noncomputable def VD:FX:=⟨Tryz.f124,zD.of 124,[]⟩
instance ok124_:VD.ok 124:=FX.mk'
theorem zBa (A:List Int) (e1:Bool) (hA:OkD WB A) (ha:A.length≤1000000) (wq p:Nat) (hw:wq≤1000000) (hp:p<32) (fs:List Fr) : ∀(r i:Nat),i+r=A.length→∀(P:List Int) (c:Nat),P.length=wq+i→OkD WB P→c<2^p→zG WB P+(4294967296:Int)^(wq+i)*c=(4294967296:Int)^wq*(2:Int)^p*zG WB (A.take i) →
  ∃O:List Int,OkD WB O∧O.length=A.length+wq+1∧zG WB O=(4294967296:Int)^wq*(2:Int)^p*zG WB A∧∀z:PV × zA,zZ 0 VD 0 fs [(5,.undef),(6,.undef),(7,.msl 0 0 (A.length+wq+1) true),(25,.undef),(26,.undef),(27,.undef),(28,.undef)] [.arr (zB .u32 O) (some (some 1)) false]=some z →
  zS 0 VD 0 500 1 fs [(5,.int .i64 wq),(6,.int .u64 p),(7,.msl 0 0 (A.length+wq+1) true),(25,.sl (zB .u32 A) e1),(26,.int .i64 A.length),(27,.int .i64 i)] [.arr (zB .u32 (P++(c:Int)::List.replicate r 0)) (some (some 1)) false]=some z:=by
 have hM:3000000≤maxLen:=by decide
 intro r
 induction r with
 | zero =>
  intro i hi P c hP hPo hc hv;have h1 : ¬(i:Int)<(A.length:Int):=by omega
  have hi':i=A.length:=by omega
  have hq:2^p≤4294967296:=by have:=ZQ hp;have:=Nat.le_mul_of_pos_right (2^p) (show 0<2^(32-p) from sT (by decide));omega
  refine⟨P++[(c:Int)],hPo.append (.cons ⟨by omega,by show (c:Int)<((4294967296:Nat):Int);omega⟩ (.nil _)),by simp[hP];omega,?_,fun z hz=>?_⟩
  ·rw[zX,hP];have e0:(((WB:Nat):Int))=(4294967296:Int):=rfl;have e1:zG WB [(c:Int)]=c:=by simp[zG]
   rw[e0,e1,hv,pZ (by omega)]
  ·apply zC;simp only[HE];(repeat((conv=>lhs;whnf);simp only[go_sem,simprocAttr,h1]));exact hz
 | succ r ih =>
  intro i hi P c hP hPo hc hv;have h1:(i:Int)<(A.length:Int):=by omega
  have w1:=xF (i:=i) (n:=A.length) (by omega) (by omega);have x1:0≤(i:Int)∧(i:Int)<(A.length:Int):=⟨by omega,h1⟩;have hx:=hA.getD (by decide) i;have hx':A.getD i 0<4294967296:=hx.2;obtain⟨a,ea⟩ : ∃a:Nat,A.getD i 0=a:=⟨(A.getD i 0).toNat,by omega⟩;have sl:=zDM (a:=a) hp hc;have hq:2^p≤2147483648:=by
   have:=PE (n:=2) (by decide) (show p≤31 by omega);exact this
  obtain⟨x,hX⟩ : ∃x:Nat,x=a*2^p:=⟨_,rfl⟩;have hXl:x≤4294967295*2^p:=by rw[hX];exact bV _ (by omega)
  obtain⟨lo,hlo⟩ : ∃lo:Nat,lo=x % 4294967296:=⟨_,rfl⟩;obtain⟨up,hup⟩ : ∃up:Nat,up=x / 4294967296:=⟨_,rfl⟩;have hsplit:x=lo+4294967296*up:=by omega
  have hup':up<2^p:=by
   rw[hup];exact (BA (by decide)).2 (by have:0<2^p:=sT (by decide);omega)
  rw[←hX,←hlo]at sl;have et:A.take (i+1)=A.take i++[(a:Int)]:=by
   rw[aK];have:A[i]? = some (A.getD i 0):=by rw[bI (by omega)];simp[bE,show i<A.length by omega]
   rw[this,ea];rfl
  have e0:(((WB:Nat):Int))=(4294967296:Int):=rfl;obtain⟨O,o1,o2,o3,o4⟩:=ih (i+1) (by omega) (P++[((c+lo:Nat):Int)]) up (by simp[hP];omega) (hPo.append (.cons ⟨by omega,by show ((c+lo:Nat):Int)<((4294967296:Nat):Int);omega⟩ (.nil _))) hup' (by
   have hti:(A.take i).length=i:=by simp;omega
   have s1:zG WB [(a:Int)]=a:=by simp[zG]
   have s2:zG WB [((c+lo:Nat):Int)]=(c:Int)+lo:=by simp[zG]
   rw[et,zX,zX,hti,hP,e0,s1,s2,bG,bG,←hv];have p1:(4294967296:Int)^(wq+(i+1))=4294967296^(wq+i)*4294967296:=by rw[←aN,pO]
   have p2:(4294967296:Int)^wq*(2:Int)^p*(4294967296^i*a)=4294967296^(wq+i)*(x:Int):=by
    rw[hX,pL,HG,Int.pow_add];have:((2:Nat):Int)=2:=rfl;rw[this]
    ac_rfl
   rw[p1,p2,hsplit,bN];have:(((lo+4294967296*up:Nat):Int))=lo+4294967296*up:=by omega
   rw[this,bG];omega)
  refine⟨O,o1,o2,o3,fun z hz=>?_⟩;have key:=o4 z hz;have hs:min p 64=p:=by omega
  have ca:IntKind.u64.wrap (a:Int)=a:=by rw[yK];omega
  have ap:(a:Int)*2^p=(x:Int):=by rw[hX,pL,HG];rfl
  have cx:IntKind.u64.wrap (x:Int)=x:=by rw[yK];omega
  have cl:IntKind.u32.wrap (x:Int)=lo:=by rw[bU];omega
  have dx:(x:Int) / 4294967296=up:=by omega
  have cu6:IntKind.u64.wrap (up:Int)=up:=by rw[yK];omega
  have cu:IntKind.u32.wrap (up:Int)=up:=by rw[bU];omega
  have wi:IntKind.i64.wrap ((i:Int)+wq)=((wq+i:Nat):Int):=by rw[bA];omega
  have wi2:IntKind.i64.wrap (((wq+i:Nat):Int)+1)=((wq+i+1:Nat):Int):=by rw[bA];omega
  have hl1:(P++(c:Int)::List.replicate (r+1) (0:Int)).length=A.length+wq+1:=by simp;omega
  have hl2:(P++((c+lo:Nat):Int)::List.replicate (r+1) (0:Int)).length=A.length+wq+1:=by simp;omega
  have xm1:=yb.idxmk .u32 (S:=[.arr (zB .u32 (P++(c:Int)::List.replicate (r+1) 0)) (some (some 1)) false]) (id:=0) (off:=0) (n:=A.length+wq+1) (ex:=true) (L:=P++(c:Int)::List.replicate (r+1) 0) (wq+i) rfl (by omega) (by omega);have xm2:=yb.idxmk .u32 (S:=[.arr (zB .u32 (P++((c+lo:Nat):Int)::List.replicate (r+1) 0)) (some (some 1)) false]) (id:=0) (off:=0) (n:=A.length+wq+1) (ex:=true) (L:=P++((c+lo:Nat):Int)::List.replicate (r+1) 0) (wq+i+1) rfl (by omega) (by omega);rw[bW]at xm1 xm2;have len1:wq+i<(P++(c:Int)::List.replicate (r+1) (0:Int)).length:=by omega
  have len2:wq+i+1<(P++((c+lo:Nat):Int)::List.replicate (r+1) (0:Int)).length:=by omega
  have get:(P++(c:Int)::List.replicate (r+1) (0:Int)).getD (wq+i) 0=c:=by
   rw[←hP];simp[bE]
  have gk1:=zy .u32 (P++(c:Int)::List.replicate (r+1) 0) len1;rw[get]at gk1;have gk2:((zB .u32 (P++((c+lo:Nat):Int)::List.replicate (r+1) 0)).getD (wq+i+1) []).length=1:=by rw[zy _ _ len2];rfl
  have set1:(zB .u32 (P++(c:Int)::List.replicate (r+1) 0)).set (wq+i) [.int .u32 ((c+lo:Nat):Int)]=zB .u32 (P++((c+lo:Nat):Int)::List.replicate (r+1) 0):=by
   rw[yR,←hP,pT,hI (by simp)];simp
  have set2:(zB .u32 (P++((c+lo:Nat):Int)::List.replicate (r+1) 0)).set (wq+i+1) [.int .u32 (up:Int)]=zB .u32 ((P++[((c+lo:Nat):Int)])++(up:Int)::List.replicate r 0):=by
   rw[yR,←hP,pT,hI (by simp)];have:P.length+1-P.length=1:=by omega
   rw[this,sV];simp
  have sl2:=sl.2;apply zC;(repeat((conv=>lhs;whnf);simp only[go_sem,simprocAttr,h1,x1,bD,ea,hs,ca,ap,cx,cl,dx,cu6,cu,wi,wi2,xm1,xm2,len1,len2,gk1,gk2,set1,set2,sl2,w1]));exact key
theorem UZ (m:Nat) (e1:Bool) (k:Nat) (hk:k≤32000000) (hm:(words m).length≤1000000):callL Tryz.prog zD 124 [zo m e1,.int .i64 k]=some (if m=0 then .sl [] true else zc (m*2^k)):=by
 have hM:3000000≤maxLen:=by decide
 by_cases h:m=0
 ·rw[hZ h];refine FX.callL (r:=(.sl [] true,[])) ok124_ 1000 rfl rfl ?_ rfl;unfold zo;have c:(words m).length=0:=zx.2 h;((repeat((conv=>lhs;whnf);simp only[go_sem,simprocAttr,c]));try rfl)
 ·rw[hI h];have c0:(words m).length≠0:=fun e=>h (zx.1 e);have c : ¬((words m).length:Int)=0:=by omega
  obtain⟨q,hq⟩ : ∃q,q=k / 32:=⟨_,rfl⟩;obtain⟨p,hp⟩ : ∃p,p=k % 32:=⟨_,rfl⟩;have hpq:k=32*q+p:=by omega
  obtain⟨O,o1,o2,o3,o4⟩:=zBa (words m) e1 (yC m) hm q p (by omega) (by omega) [.blk 0,.seq 0 63] (words m).length 0 (by omega) (List.replicate q 0) 0 (by simp) (fun x hx=>by
   rw[HS hx];exact⟨aJ 0,by decide⟩) (sT (by decide)) (by
   rw[jP];simp[zG])
  have hv:(zG WB O).toNat=m*2^k:=by
   rw[o3,yM];have:(4294967296:Int)^q*2^p*(m:Int)=((m*2^k:Nat):Int):=by
    rw[hpq,aC,HL];have:(2^32:Nat)=4294967296:=by decide
    rw[this];simp only[pL,HG];have a1:((4294967296:Nat):Int)=4294967296:=rfl;have a2:((2:Nat):Int)=2:=rfl;rw[a1,a2,bM]
   rw[this,bD]
  have ct:=xB (L:=O) (by omega) o1;rw[hv]at ct;have cc:=ys (S:=[.arr (zB .u32 O) (some (some 1)) false]) (id:=0) (n:=(words m).length+q+1) (ex:=true) ct rfl o2 (by simp);have mk:=fun id=>uN id ((words m).length+q+1) (by omega);have wi:IntKind.i64.wrap (((words m).length:Int)+(q:Int))=(((words m).length+q:Nat):Int):=by rw[bA];omega
  have wi2:IntKind.i64.wrap ((((words m).length+q:Nat):Int)+1)=(((words m).length+q+1:Nat):Int):=by rw[bA];omega
  have dq:(k:Int).tdiv 32=q:=by rw[sG (by omega)];omega
  have dp:(k:Int).tmod 32=p:=by rw[sO (by omega)];omega
  have wq:IntKind.i64.wrap (q:Int)=q:=by rw[bA];omega
  have wp:IntKind.i64.wrap (p:Int)=p:=by rw[bA];omega
  have up:IntKind.u64.wrap (p:Int)=p:=by rw[yK];omega
  have er:List.replicate ((words m).length+q+1) (0:Int)=List.replicate q 0++0::List.replicate (words m).length 0:=by
   rw[←sV,PP];congr 1;omega
  have key:=o4 (zc (m*2^k),[.arr (zB .u32 O) (some (some 1)) true]) (by
   apply zR;((repeat((conv=>lhs;whnf);simp only[go_sem,simprocAttr,cc]));try rfl))
  refine FX.callL (r:=(zc (m*2^k),[.arr (zB .u32 O) (some (some 1)) true])) ok124_ 1000 rfl rfl ?_ (xA _ _);unfold zo;have key':zS 0 VD 0 500 1 [.blk 0,.seq 0 63] [(5,.int .i64 q),(6,.int .u64 p),(7,.msl 0 0 ((words m).length+q+1) true),(25,.sl (zB .u32 (words m)) e1),(26,.int .i64 (words m).length),(27,.int .i64 0)] [.arr (zB .u32 (List.replicate ((words m).length+q+1) 0)) (some (some 1)) false]=some (zc (m*2^k),[.arr (zB .u32 O) (some (some 1)) true]):=by
   rw[er];exact key
  (repeat((conv=>lhs;whnf);simp only[go_sem,simprocAttr,c,c0,dq,dp,wq,wp,up,wi,wi2,mk]));exact key'
end
end
section
theorem zBb (k:IntKind) (a b:Int):bor k a b=bor k b a:=by unfold bor;rw[BitVec.or_comm]
def uF (q:Int):List Int→List Int
 | []=>[]
 | a::r=>((a+4294967296*r.getD 0 0) / q) % 4294967296::uF q r
theorem Yh (q:Int) : ∀L:List Int,(uF q L).length=L.length
 | []=>rfl
 | a::r=>by simp[uF,Yh q r]
theorem QW (q:Int) : ∀L:List Int,OkD WB (uF q L)
 | []=>.nil _
 | a::r=>.cons ⟨aE _ (by decide),sF _ (by decide)⟩ (QW q r)
theorem U0 (q:Int) : ∀(L:List Int) (i:Nat),i<L.length→(uF q L).getD i 0=((L.getD i 0+4294967296*L.getD (i+1) 0) / q) % 4294967296
 | [],i,h=>by simp at h
 | a::r,0,h=>by simp[uF,bE]
 | a::r,i+1,h=>by
  have:=U0 q r i (by simpa using h);simp only[uF,List.getD_cons_succ];exact this
theorem zBc {a r0 R q s:Int} (hq:0<q) (hs:0<s) (hqs:q*s=4294967296) (ha:0≤a∧a<4294967296) (hr:0≤r0):((a+4294967296*r0) / q) % 4294967296+4294967296*((r0+4294967296*R) / q)=(a+4294967296*(r0+4294967296*R)) / q:=by
 have e1:(a+4294967296*r0) / q=a / q+s*r0:=by
  rw[←hqs,bN,PQ _ _ (by omega)]
 have e2:(r0+4294967296*R) / q=r0 / q+s*R:=by
  rw[←hqs,bN,PQ _ _ (by omega)]
 have e3:(a+4294967296*(r0+4294967296*R)) / q=a / q+s*(r0+4294967296*R):=by
  rw[←hqs,bN q s,bN q s,PQ _ _ (by omega)]
 rw[e1,e2,e3];have h1:a / q<s:=by
  rw[HT hq,bM,hqs];exact ha.2
 have h0:0≤a / q:=pX ha.1 (by omega);have hd:=sN r0 q;have hm0:=aE r0 (show q≠0 by omega);have hm1:=sF r0 hq;generalize r0 / q=d at *;generalize r0 % q=t at *;subst hd;have k1:s*(q*d+t)=4294967296*d+s*t:=by rw[bG,←bN,bM s q,hqs]
 have k2:s*t+a / q<4294967296:=by
  have:s*(t+1)≤s*q:=pI (by omega) (by omega);rw[bM s q,hqs,bG]at this;omega
 have k3:0≤s*t:=pW (by omega) hm0;have k4:(a / q+s*(q*d+t)) % 4294967296=s*t+a / q:=by
  rw[k1,show a / q+(4294967296*d+s*t)=(s*t+a / q)+4294967296*d by omega,Int.add_mul_emod_self_left];exact PF (by omega) k2
 have k5:s*(q*d+t+4294967296*R)=4294967296*d+s*t+4294967296*(s*R):=by
  rw[bG,k1,HF s 4294967296 R]
 rw[k4,k5,bG];omega
theorem WJ {q s:Int} (hq:0<q) (hs:0<s) (hqs:q*s=4294967296) : ∀L:List Int,OkD WB L→zG WB (uF q L)=zG WB L / q
 | [],_=>by simp[uF,zG]
 | [a],h=>by
  have ha:0≤a∧a<4294967296:=h.head;have:a / q<4294967296:=by
   have:=BL q ha.1;omega
  have h0:0≤a / q:=pX ha.1 (by omega);simp[uF,zG];exact PF h0 this
 | a::b::r,h=>by
  have ha:0≤a∧a<4294967296:=h.head;have hb:=h.tail.head;have ih:=WJ hq hs hqs (b::r) h.tail;have e0:(((WB:Nat):Int))=(4294967296:Int):=rfl;have:=zBc (R:=zG WB r) hq hs hqs ha hb.1
  show ((a+4294967296*b) / q) % 4294967296+4294967296*zG WB (uF q (b::r))=(a+4294967296*(b+4294967296*zG WB r)) / q
  rw[ih];exact this
theorem WK {L:List Int} (h:OkD WB L) : ∀(k:Nat) ,zG WB (L.drop k)=zG WB L / (4294967296:Int)^k:=by
 intro k;by_cases hk:k≤L.length
 ·have e:=zX WB (L.take k) (L.drop k);rw[HB,pJ,BV hk]at e;have ht:OkD WB (L.take k):=fun y hy=>h y (HH hy);have h1:=xr ht;have h2:=zv ht;rw[pJ,BV hk]at h1;have e0:(((WB:Nat):Int))=(4294967296:Int):=rfl;rw[e0]at e h1;have hp:(0:Int)<4294967296^k:=aL (by decide);rw[e,PQ _ _ (by omega),Int.ediv_eq_zero_of_lt h2 h1,HU]
 ·rw[PR (by omega)];have h1:=xr h;have h2:=zv h;have e0:(((WB:Nat):Int))=(4294967296:Int):=rfl;rw[e0]at h1;have:(4294967296:Int)^L.length≤4294967296^k:=by
   have:=PE (n:=4294967296) (by decide) (show L.length≤k by omega);have h:=Int.ofNat_le.2 this;rw[HG,HG]at h;exact h
  rw[Int.ediv_eq_zero_of_lt h2 (by omega)];rfl
section
attribute [local irreducible] Vs.callL Vs.callRL tyi zQ yE zm zV zk zb zK zf zF zT zl zi zJ zL zj yB yO yD zN zh Vs.gc zH
noncomputable def JD:FX:=⟨Tryz.f128,zD.of 128,[]⟩
instance ok128_:JD.ok 128:=FX.mk'
theorem zBd (A:List Int) (e1:Bool) (hA:OkD WB A) (ha:A.length≤1000000) (wq p N:Nat) (hw:wq+N=A.length) (hp:p<32) (fs:List Fr) : ∀(r i:Nat),i+r=N→∀z:PV × zA,zZ 0 JD 0 fs [(0,.undef),(5,.undef),(6,.undef),(7,.msl 0 0 N true),(25,.undef),(26,.undef),(27,.undef)] [.arr (zB .u32 (uF (2^p) (A.drop wq))) (some (some 1)) false]=some z →
  zS 0 JD 0 500 1 fs [(0,.sl (zB .u32 A) e1),(5,.int .i64 wq),(6,.int .u64 p),(7,.msl 0 0 N true),(25,.int .i64 N),(26,.int .i64 i)] [.arr (zB .u32 ((uF (2^p) (A.drop wq)).take i++List.replicate r 0)) (some (some 1)) false]=some z:=by
 intro r;have hSl:(uF (2^p) (A.drop wq)).length=N:=by rw[Yh,List.length_drop];omega
 induction r with
 | zero =>
  intro i hi z hz;have h1 : ¬(i:Int)<(N:Int):=by omega
  apply zC;rw[pZ (by omega)];simp only[HE,pD];(repeat((conv=>lhs;whnf);simp only[go_sem,simprocAttr,h1]));exact hz
 | succ r ih =>
  intro i hi z hz;have h1:(i:Int)<(N:Int):=by omega
  have hM:2000000≤maxLen:=by decide
  have w1:=xF (i:=i) (n:=N) (by omega) (by omega);have key:=ih (i+1) (by omega) z hz;have ga:=hA.getD (by decide) (wq+i);have gb:=hA.getD (by decide) (wq+i+1);have hget:=U0 (2^p) (A.drop wq) i (by rw[List.length_drop];omega);have d1:(A.drop wq).getD i 0=A.getD (wq+i) 0:=by simp[bE]
  have d2:(A.drop wq).getD (i+1) 0=A.getD (wq+i+1) 0:=by simp[bE,aN]
  rw[d1,d2]at hget;have ga':A.getD (wq+i) 0<4294967296:=ga.2;have gb':A.getD (wq+i+1) 0<4294967296:=gb.2;have gb0 : ¬wq+i+1<A.length→A.getD (wq+i+1) 0=0:=fun h=>by
   simp[bE,bY (show A.length≤wq+i+1 by omega)]
  generalize ea:A.getD (wq+i) 0=a at *;generalize eb:A.getD (wq+i+1) 0=b at *;have wi:IntKind.i64.wrap ((i:Int)+wq)=((wq+i:Nat):Int):=by rw[bA];omega
  have wi2:IntKind.i64.wrap (((wq+i:Nat):Int)+1)=((wq+i+1:Nat):Int):=by rw[bA];omega
  have x2:0≤((wq+i:Nat):Int)∧((wq+i:Nat):Int)<A.length:=⟨by omega,by omega⟩;have ca:IntKind.u64.wrap a=a:=by rw[yK];omega
  have cb:IntKind.u64.wrap b=b:=by rw[yK];omega
  have cb2:IntKind.u64.wrap (b*4294967296)=b*4294967296:=by rw[yK];omega
  have bo:bor .u64 a (b*4294967296)=a+4294967296*b:=by
   rw[zBb,ub ⟨gb.1,gb'⟩ ⟨ga.1,ga'⟩];omega
  have hs:min p 64=p:=by omega
  have fd : ∀x:Int,x.fdiv (2^p)=x / 2^p:=fun x=>PB _ (sP (aL (by decide)));have q0:(0:Int)<2^p:=aL (by decide);have qw : ∀x:Int,0≤x→x<18446744073709551616→IntKind.u64.wrap (x / 2^p)=x / 2^p:=fun x h0 h1=>by
   have:=BL (2^p) h0;have:=pX h0 (sP q0);rw[yK];omega
  have q1:=qw (a+4294967296*b) (by omega) (by omega);have q2:=qw a ga.1 (by omega);have u1:IntKind.u32.wrap ((a+4294967296*b) / 2^p)=(uF (2^p) (A.drop wq)).getD i 0:=by rw[bU,hget]
  generalize hS:uF (2^p) (A.drop wq)=S at *;have hlen:(S.take i++List.replicate (r+1) (0:Int)).length=N:=by simp;omega
  have len:i<(S.take i++List.replicate (r+1) (0:Int)).length:=by omega
  have xm:=yb.idxmk .u32 (S:=[.arr (zB .u32 (S.take i++List.replicate (r+1) 0)) (some (some 1)) false]) (id:=0) (off:=0) (n:=N) (ex:=true) (L:=S.take i++List.replicate (r+1) 0) i rfl (by omega) (by omega);rw[bW]at xm;have gk:((zB .u32 (S.take i++List.replicate (r+1) 0)).getD i []).length=1:=by rw[zy _ _ len];rfl
  have set:(zB .u32 (S.take i++List.replicate (r+1) 0)).set i [.int .u32 (S.getD i 0)]=zB .u32 (S.take (i+1)++List.replicate r 0):=by
   rw[yR]
   congr 1
   have hti:(S.take i).length=i:=by simp;omega
   have et:S.take (i+1)=S.take i++[S.getD i 0]:=by
    rw[aK];have:S[i]? = some (S.getD i 0):=by rw[bI (by omega)];simp[bE,show i<S.length by omega]
    rw[this];rfl
   rw[pT,hI (by omega),hti,sM,sV,pV,et,aG];rfl
  apply zC;by_cases c:wq+i+1<A.length
  ·have c':((wq+i+1:Nat):Int)<A.length:=by omega
   have x3:0≤((wq+i+1:Nat):Int)∧((wq+i+1:Nat):Int)<A.length:=⟨by omega,c'⟩;(repeat((conv=>lhs;whnf);simp only[go_sem,simprocAttr,h1,bD,wi,wi2,x2,x3,c',ea,eb,ca,cb,cb2,bo,hs,fd,q1,u1,xm,len,gk,set,w1]));exact key
  ·have c' : ¬((wq+i+1:Nat):Int)<A.length:=by omega
   have hb:=gb0 c;rw[hb]at u1;have ez:a+4294967296*0=a:=by omega
   rw[ez]at u1;(repeat((conv=>lhs;whnf);simp only[go_sem,simprocAttr,h1,bD,wi,wi2,x2,c',ea,ca,hs,fd,q2,u1,xm,len,gk,set,w1]));exact key
theorem U1 (m:Nat) (e1:Bool) (k:Nat) (hk:k≤2000000000) (hm:(words m).length≤1000000):callL Tryz.prog zD 128 [zo m e1,.int .i64 k]=some (if (words m).length≤k / 32 then .sl [] true else zc (m / 2^k)):=by
 have hM:3000000≤maxLen:=by decide
 obtain⟨q,hq⟩ : ∃q,q=k / 32:=⟨_,rfl⟩;obtain⟨p,hp⟩ : ∃p,p=k % 32:=⟨_,rfl⟩;have hpq:k=32*q+p:=by omega
 have dq:(k:Int).tdiv 32=q:=by rw[sG (by omega)];omega
 have dp:(k:Int).tmod 32=p:=by rw[sO (by omega)];omega
 have wq:IntKind.i64.wrap (q:Int)=q:=by rw[bA];omega
 have wp:IntKind.i64.wrap (p:Int)=p:=by rw[bA];omega
 have up:IntKind.u64.wrap (p:Int)=p:=by rw[yK];omega
 rw[←hq];by_cases h:(words m).length≤q
 ·rw[hZ h];refine FX.callL (r:=(.sl [] true,[])) ok128_ 1000 rfl rfl ?_ rfl;unfold zo;have c:((words m).length:Int)≤q:=by omega
  ((repeat((conv=>lhs;whnf);simp only[go_sem,simprocAttr,dq,dp,wq,wp,up,c]));try rfl)
 ·rw[hI h];have c : ¬((words m).length:Int)≤q:=by omega
  obtain⟨N,hN⟩ : ∃N,N=(words m).length-q:=⟨_,rfl⟩;have hok:=QW (2^p) ((words m).drop q);have o2:(uF (2^p) ((words m).drop q)).length=N:=by rw[Yh,List.length_drop];omega
  have hv:(zG WB (uF (2^p) ((words m).drop q))).toNat=m / 2^k:=by
   have hs:=ZQ (p:=p) (by omega);have hs':(2:Int)^p*2^(32-p)=4294967296:=by
    have:=congrArg (fun n:Nat=>(n:Int)) hs;simp only[pL,HG]at this;exact this
   rw[WJ (aL (by decide)) (aL (by decide)) hs' _ (fun y hy=>yC m y (BP hy)),WK (yC m),yM];have e:((m:Int) / 4294967296^q / 2^p)=((m / 2^k:Nat):Int):=by
    rw[hpq,aC,HL,←Nat.div_div_eq_div_mul];have:(2^32:Nat)=4294967296:=by decide
    rw[this];simp only[Int.natCast_ediv,HG];rfl
   rw[e,bD]
  have ct:=xB (L:=uF (2^p) ((words m).drop q)) (by omega) hok;rw[hv]at ct;have cc:=ys (S:=[.arr (zB .u32 (uF (2^p) ((words m).drop q))) (some (some 1)) false]) (id:=0) (n:=N) (ex:=true) ct rfl o2 (by simp);have mk:=fun id=>uN id N (by omega);have wi:IntKind.i64.wrap (((words m).length:Int)-(q:Int))=(N:Int):=by rw[bA];omega
  have key:=zBd (words m) e1 (yC m) hm q p N (by omega) (by omega) [.blk 0,.seq 0 63] N 0 (by omega) (zc (m / 2^k),[.arr (zB .u32 (uF (2^p) ((words m).drop q))) (some (some 1)) true]) (by
   apply zR;((repeat((conv=>lhs;whnf);simp only[go_sem,simprocAttr,cc]));try rfl))
  rw[List.take_zero,pC]at key;refine FX.callL (r:=(zc (m / 2^k),[.arr (zB .u32 (uF (2^p) ((words m).drop q))) (some (some 1)) true])) ok128_ 1000 rfl rfl ?_ (xA _ _);unfold zo;(repeat((conv=>lhs;whnf);simp only[go_sem,simprocAttr,c,dq,dp,wq,wp,up,wi,mk]));exact key
end
end
section
section
attribute [local irreducible] Vs.callL Vs.callRL tyi zQ yE zm zV zk zb zK zf zF zT zl zi zJ zL zj yB yO yD zN zh Vs.gc zH
noncomputable def VE:FX:=⟨Tryz.f125,zD.of 125,[]⟩
instance ok125_:VE.ok 125:=FX.mk'
theorem X5 (B:List Int) (e2:Bool) (hB:OkD WB B) (hb:B.length≤1000000) (q:Int) (hq:0≤q∧q<4294967296) (off:Nat) (ho:off≤1000000) (ex:Bool) (P Z:List Int) (hP:P.length=off) (X:Obj) (fs:List Fr) : ∀(r i:Nat),i+r=B.length→∀(D W:List Int) (c b:Int),D.length=i→W.length=r+1→OkD WB D→OkD WB W→(0≤c∧c<4294967296)→(b=0∨b=1) →
  ∃(O:List Int) (w c' b':Int),OkD WB O∧O.length=B.length∧(0≤w∧w<4294967296)∧(0≤c'∧c'<4294967296)∧(b'=0∨b'=1)∧(4294967296:Int)^B.length*(w-c'-b')+zG WB O=zG WB D+(4294967296:Int)^i*(zG WB W-q*zG WB (B.drop i)-c-b)∧∀z:PV × zA,zZ 2 VE 0 fs [(0,.msl 0 off (B.length+1) ex),(1,.sl (zB .u32 B) e2),(2,.undef),(7,.int .u64 c'),(8,.int .u64 b'),(13,.undef),(14,.undef),(15,.undef),(16,.undef)] [.arr (zB .u32 (P++(O++[w])++Z)) (some (some 1)) false,X]=some z →
  zS 2 VE 0 116 2 fs [(0,.msl 0 off (B.length+1) ex),(1,.sl (zB .u32 B) e2),(2,.int .u64 q),(7,.int .u64 c),(8,.int .u64 b),(13,.sl (zB .u32 B) e2),(14,.int .i64 B.length),(15,.int .i64 i)] [.arr (zB .u32 (P++(D++W)++Z)) (some (some 1)) false,X]=some z:=by
 have hM:3000000≤maxLen:=by decide
 intro r
 induction r with
 | zero =>
  intro i hi D W c b hD hW hDo hWo hc hb;obtain⟨w,rfl⟩ : ∃w,W=[w]:=HV.1 (by omega);have hi:i=B.length:=by omega
  subst hi;have h1 : ¬((B.length:Nat):Int)<(B.length:Int):=by omega
  refine⟨D,w,c,b,hDo,hD,hWo.head,hc,hb,?_,fun z hz=>?_⟩
  ·rw[sU];have e1:zG WB [w]=w:=by simp[zG]
   have e2:zG WB []=0:=rfl;rw[e1,e2,aD,Int.sub_zero,Int.add_comm]
  ·apply zC;(repeat((conv=>lhs;whnf);simp only[go_sem,simprocAttr,h1]));exact hz
 | succ r ih =>
  intro i hi D W c b hD hW hDo hWo hc hb';have h1:(i:Int)<(B.length:Int):=by omega
  have w1:=xF (i:=i) (n:=B.length) (by omega) (by omega);have x1:0≤(i:Int)∧(i:Int)<(B.length:Int):=⟨by omega,h1⟩;obtain⟨u,W',rfl⟩ : ∃u W',W=u::W':=by
   cases W with
   | nil=>simp at hW
   | cons u W'=>exact⟨u,W',rfl⟩
  have hx:=hB.getD (by decide) i;have hx':B.getD i 0<4294967296:=hx.2;have hu:0≤u∧u<4294967296:=hWo.head;have hy0:0≤q*B.getD i 0:=pW hq.1 hx.1;have hy1:q*B.getD i 0≤4294967295*4294967295 :=
   Int.le_trans (pU (show q≤4294967295 by omega) hx.1) (pI (by omega) (by decide))
  obtain⟨y,hy⟩ : ∃y,y=q*B.getD i 0:=⟨_,rfl⟩;rw[←hy]at hy0 hy1;obtain⟨lo,hlo⟩ : ∃lo,lo=(c+y) % 4294967296:=⟨_,rfl⟩;obtain⟨up,hup⟩ : ∃up,up=(c+y) / 4294967296:=⟨_,rfl⟩;obtain⟨d,hd⟩ : ∃d,d=(u-lo-b) % 4294967296:=⟨_,rfl⟩;obtain⟨t,ht⟩ : ∃t,t=(((u-lo-b) % 18446744073709551616) / 9223372036854775808):=⟨_,rfl⟩;have ht1:t=0∨t=1:=by omega
  have hd2:u-lo-b=d-4294967296*t:=by omega
  have hcy:c+y=lo+4294967296*up:=by omega
  have hupb:0≤up∧up<4294967296:=by omega
  obtain⟨O,w,c',b',o1,o2,o3,o4,o5,o6,o7⟩:=ih (i+1) (by omega) (D++[d]) W' up t (by simp[hD]) (by simpa using hW) (hDo.append (.cons ⟨by omega,by show d<((4294967296:Nat):Int);omega⟩ (.nil _))) hWo.tail hupb ht1;refine⟨O,w,c',b',o1,o2,o3,o4,o5,?_,fun z hz=>?_⟩
  ·have e0:(((WB:Nat):Int))=(4294967296:Int):=rfl;have e1:zG WB [d]=d:=by simp[zG]
   have e2:zG WB (u::W')=u+4294967296*zG WB W':=rfl;have e3:zG WB (B.drop i)=B.getD i 0+4294967296*zG WB (B.drop (i+1)):=by rw[yA B (by omega)];rfl
   rw[o6,zX,hD,e0,e1,e2,e3,pO,bN,BG,←bG]
   congr 2
   rw[bG q,←hy,HF q];omega
  ·have key:=o7 z hz;have cB:IntKind.u64.wrap (B.getD i 0)=B.getD i 0:=by rw[yK];omega
   have cy:IntKind.u64.wrap (q*B.getD i 0)=y:=by rw[←hy,yK];omega
   have ccy:IntKind.u64.wrap (c+y)=c+y:=by rw[yK];omega
   have cu:IntKind.u64.wrap u=u:=by rw[yK];omega
   have c32:IntKind.u32.wrap (c+y)=lo:=by rw[bU,hlo]
   have c64:IntKind.u64.wrap lo=lo:=by rw[yK];omega
   have s1:IntKind.u64.wrap (IntKind.u64.wrap (u-lo)-b)=(u-lo-b) % 18446744073709551616:=by rw[yK,yK];omega
   have s2:IntKind.u32.wrap ((u-lo-b) % 18446744073709551616)=d:=by rw[bU];omega
   have s3:(u-lo-b) % 18446744073709551616 / 9223372036854775808=t:=ht.symm;have s4:IntKind.u64.wrap t=t:=by rw[yK];omega
   have s5:(c+y) / 4294967296=up:=hup.symm;have s6:IntKind.u64.wrap up=up:=by rw[yK];omega
   have len:off+i<(P++(D++u::W')++Z).length:=by simp;omega
   have hl:off+(B.length+1)≤(P++(D++u::W')++Z).length:=by simp at hW ⊢;omega
   have get:(P++(D++u::W')++Z).getD (off+i) 0=u:=by
    have e:P++(D++u::W')++Z=(P++D)++u::(W'++Z):=by simp
    rw[e,←hP,←hD,←bO];simp[bE]
   have gk:=zy .u32 (P++(D++u::W')++Z) len;rw[get]at gk;have xm:=yb.idxmk .u32 (S:=[.arr (zB .u32 (P++(D++u::W')++Z)) (some (some 1)) false,X]) (id:=0) (off:=off) (n:=B.length+1) (ex:=ex) (L:=P++(D++u::W')++Z) i rfl hl (by omega);have set:(zB .u32 (P++(D++u::W')++Z)).set (off+i) [.int .u32 d]=zB .u32 (P++(D++[d]++W')++Z):=by
    rw[yR]
    congr 1
    have e:P++(D++u::W')++Z=(P++D)++u::(W'++Z):=by simp
    rw[e,←hP,←hD,←bO,pT,hI (by omega),sM,pV];simp
   apply zC;(repeat((conv=>lhs;whnf);simp only[go_sem,simprocAttr,h1,x1,bD,cB,cy,ccy,cu,c32,c64,s1,s2,s3,s4,s5,s6,len,gk,xm,set,w1]));exact key
theorem X6 (B:List Int) (e2:Bool) (hB:OkD WB B) (hb:B.length≤1000000) (q:Int) (hq:0≤q∧q<4294967296) (off:Nat) (ho:off≤1000000) (ex:Bool) (P W Z:List Int) (hP:P.length=off) (hW:W.length=B.length+1) (hWo:OkD WB W) (X:Obj) :
  ∃(O:List Int) (b:Bool),OkD WB O∧O.length=B.length+1∧zG WB O=zG WB W-q*zG WB B+(4294967296:Int)^(B.length+1)*(if b then 1 else 0) ∧
  callRL Tryz.prog zD 125 [.msl 0 off (B.length+1) ex,.sl (zB .u32 B) e2,.int .u64 q] [.arr (zB .u32 (P++W++Z)) (some (some 1)) false,X]=some (.bool b,[.arr (zB .u32 (P++O++Z)) (some (some 1)) false,X]):=by
 have hM:3000000≤maxLen:=by decide
 obtain⟨O,w,c,b,o1,o2,o3,o4,o5,o6,o7⟩:=X5 B e2 hB hb q hq off ho ex P Z hP X [.blk 0,.seq 0 15] B.length 0 (by omega) [] W 0 0 rfl hW (.nil _) hWo ⟨by omega,by omega⟩ (.inl rfl);have e0:(((WB:Nat):Int))=(4294967296:Int):=rfl;obtain⟨d,hd⟩ : ∃d,d=(w-c-b) % 4294967296:=⟨_,rfl⟩;obtain⟨t,ht⟩ : ∃t,t=(((w-c-b) % 18446744073709551616) / 9223372036854775808):=⟨_,rfl⟩;have ht1:t=0∨t=1:=by omega
 have hd2:w-c-b=d-4294967296*t:=by omega
 refine⟨O++[d],decide (t=1),o1.append (.cons ⟨by omega,by show d<((4294967296:Nat):Int);omega⟩ (.nil _)),by simp[o2],?_,?_⟩
 ·rw[hd2]at o6;have e1:zG WB [d]=d:=by simp[zG]
  have et:(if decide (t=1)=true then (1:Int) else 0)=t:=by
   rcases ht1 with h | h <;> simp[h]
  rw[zX,o2,e0,e1,et,pO,bN];rw[Int.mul_sub]at o6;have ev:zG WB []=0:=rfl;simp only[pH,ev,Int.pow_zero,HM,Int.sub_zero]at o6;omega
 ·have cw:IntKind.u64.wrap w=w:=by rw[yK];omega
  have s1:IntKind.u64.wrap (IntKind.u64.wrap (w-c)-b)=(w-c-b) % 18446744073709551616:=by rw[yK,yK];omega
  have s2:IntKind.u32.wrap ((w-c-b) % 18446744073709551616)=d:=by rw[bU];omega
  have s3:(w-c-b) % 18446744073709551616 / 9223372036854775808=t:=ht.symm;have s4:IntKind.u64.wrap t=t:=by rw[yK];omega
  have len:off+B.length<(P++(O++[w])++Z).length:=by simp;omega
  have hl:off+(B.length+1)≤(P++(O++[w])++Z).length:=by simp;omega
  have get:(P++(O++[w])++Z).getD (off+B.length) 0=w:=by
   have e:P++(O++[w])++Z=(P++O)++w::Z:=by simp
   rw[e,←hP,←o2,←bO];simp[bE]
  have gk:=zy .u32 (P++(O++[w])++Z) len;rw[get]at gk;have xm:=yb.idxmk .u32 (S:=[.arr (zB .u32 (P++(O++[w])++Z)) (some (some 1)) false,X]) (id:=0) (off:=off) (n:=B.length+1) (ex:=ex) (L:=P++(O++[w])++Z) B.length rfl hl (by omega);have set:(zB .u32 (P++(O++[w])++Z)).set (off+B.length) [.int .u32 d]=zB .u32 (P++(O++[d])++Z):=by
   rw[yR]
   congr 1
   have e:P++(O++[w])++Z=(P++O)++w::Z:=by simp
   rw[e,←hP,←o2,←bO,pT,hI (by omega),sM,pV];simp
  have key:=o7 (.bool (decide (t=1)),[.arr (zB .u32 (P++(O++[d])++Z)) (some (some 1)) false,X]) (by
   apply zR;((repeat((conv=>lhs;whnf);simp only[go_sem,simprocAttr,cw,s1,s2,s3,s4,len,gk,xm,set]));try rfl))
  refine FX.callRL (r:=(.bool (decide (t=1)),[.arr (zB .u32 (P++(O++[d])++Z)) (some (some 1)) false,X])) ok125_ 1000 rfl rfl ?_;have key':zS 2 VE 0 116 2 [.blk 0,.seq 0 15] [(0,.msl 0 off (B.length+1) ex),(1,.sl (zB .u32 B) e2),(2,.int .u64 q),(7,.int .u64 0),(8,.int .u64 0),(13,.sl (zB .u32 B) e2),(14,.int .i64 B.length),(15,.int .i64 0)] [.arr (zB .u32 (P++W++Z)) (some (some 1)) false,X]=_:=key;(repeat((conv=>lhs;whnf);simp only[go_sem,simprocAttr]));exact key'
end
section
attribute [local irreducible] Vs.callL Vs.callRL tyi zQ yE zm zV zk zb zK zf zF zT zl zi zJ zL zj yB yO yD zN zh Vs.gc zH
noncomputable def VF:FX:=⟨Tryz.f126,zD.of 126,[]⟩
instance ok126_:VF.ok 126:=FX.mk'
theorem VG (B:List Int) (e2:Bool) (hB:OkD WB B) (hb:B.length≤1000000) (off:Nat) (ho:off≤1000000) (ex:Bool) (P Z:List Int) (hP:P.length=off) (X:Obj) (fs:List Fr) : ∀(r i:Nat),i+r=B.length→∀(D W:List Int) (c:Int),D.length=i→W.length=r+1→OkD WB D→OkD WB W→(c=0∨c=1) →
  ∃(O:List Int) (w c':Int),OkD WB O∧O.length=B.length∧(0≤w∧w<4294967296)∧(c'=0∨c'=1)∧(4294967296:Int)^B.length*(w+c')+zG WB O=zG WB D+(4294967296:Int)^i*(zG WB W+zG WB (B.drop i)+c)∧∀z:PV × zA,zZ 2 VF 0 fs [(0,.msl 0 off (B.length+1) ex),(1,.sl (zB .u32 B) e2),(4,.int .u64 c'),(7,.undef),(8,.undef),(9,.undef),(10,.undef)] [.arr (zB .u32 (P++(O++[w])++Z)) (some (some 1)) false,X]=some z →
  zS 2 VF 0 52 2 fs [(0,.msl 0 off (B.length+1) ex),(1,.sl (zB .u32 B) e2),(4,.int .u64 c),(7,.sl (zB .u32 B) e2),(8,.int .i64 B.length),(9,.int .i64 i)] [.arr (zB .u32 (P++(D++W)++Z)) (some (some 1)) false,X]=some z:=by
 have hM:3000000≤maxLen:=by decide
 intro r
 induction r with
 | zero =>
  intro i hi D W c hD hW hDo hWo hc;obtain⟨w,rfl⟩ : ∃w,W=[w]:=HV.1 (by omega);have hi:i=B.length:=by omega
  subst hi;have h1 : ¬((B.length:Nat):Int)<(B.length:Int):=by omega
  refine⟨D,w,c,hDo,hD,hWo.head,hc,?_,fun z hz=>?_⟩
  ·rw[sU];have e1:zG WB [w]=w:=by simp[zG]
   have e2:zG WB []=0:=rfl;rw[e1,e2,BI,Int.add_comm]
  ·apply zC;(repeat((conv=>lhs;whnf);simp only[go_sem,simprocAttr,h1]));exact hz
 | succ r ih =>
  intro i hi D W c hD hW hDo hWo hc;have h1:(i:Int)<(B.length:Int):=by omega
  have w1:=xF (i:=i) (n:=B.length) (by omega) (by omega);have x1:0≤(i:Int)∧(i:Int)<(B.length:Int):=⟨by omega,h1⟩;obtain⟨u,W',rfl⟩ : ∃u W',W=u::W':=by
   cases W with
   | nil=>simp at hW
   | cons u W'=>exact⟨u,W',rfl⟩
  have hx:=hB.getD (by decide) i;have hx':B.getD i 0<4294967296:=hx.2;have hu:0≤u∧u<4294967296:=hWo.head;obtain⟨y,hy⟩ : ∃y,y=B.getD i 0:=⟨_,rfl⟩;rw[←hy]at hx hx';obtain⟨lo,hlo⟩ : ∃lo,lo=(c+(u+y)) % 4294967296:=⟨_,rfl⟩;obtain⟨up,hup⟩ : ∃up,up=(c+(u+y)) / 4294967296:=⟨_,rfl⟩;have hcy:c+(u+y)=lo+4294967296*up:=by omega
  have hupb:up=0∨up=1:=by omega
  obtain⟨O,w,c',o1,o2,o3,o4,o6,o7⟩:=ih (i+1) (by omega) (D++[lo]) W' up (by simp[hD]) (by simpa using hW) (hDo.append (.cons ⟨by omega,by show lo<((4294967296:Nat):Int);omega⟩ (.nil _))) hWo.tail hupb;refine⟨O,w,c',o1,o2,o3,o4,?_,fun z hz=>?_⟩
  ·have e0:(((WB:Nat):Int))=(4294967296:Int):=rfl;have e1:zG WB [lo]=lo:=by simp[zG]
   have e2:zG WB (u::W')=u+4294967296*zG WB W':=rfl;have e3:zG WB (B.drop i)=B.getD i 0+4294967296*zG WB (B.drop (i+1)):=by rw[yA B (by omega)];rfl
   rw[o6,zX,hD,e0,e1,e2,e3,pO,bN,BG,←bG]
   congr 2
   omega
  ·have key:=o7 z hz;have cy:IntKind.u64.wrap y=y:=by rw[yK];omega
   have cu:IntKind.u64.wrap u=u:=by rw[yK];omega
   have cuy:IntKind.u64.wrap (u+y)=u+y:=by rw[yK];omega
   have ccy:IntKind.u64.wrap (c+(u+y))=c+(u+y):=by rw[yK];omega
   have c32:IntKind.u32.wrap (c+(u+y))=lo:=by rw[bU,hlo]
   have s5:(c+(u+y)) / 4294967296=up:=hup.symm;have s6:IntKind.u64.wrap up=up:=by rw[yK];omega
   have len:off+i<(P++(D++u::W')++Z).length:=by simp;omega
   have hl:off+(B.length+1)≤(P++(D++u::W')++Z).length:=by simp at hW ⊢;omega
   have get:(P++(D++u::W')++Z).getD (off+i) 0=u:=by
    have e:P++(D++u::W')++Z=(P++D)++u::(W'++Z):=by simp
    rw[e,←hP,←hD,←bO];simp[bE]
   have gk:=zy .u32 (P++(D++u::W')++Z) len;rw[get]at gk;have xm:=yb.idxmk .u32 (S:=[.arr (zB .u32 (P++(D++u::W')++Z)) (some (some 1)) false,X]) (id:=0) (off:=off) (n:=B.length+1) (ex:=ex) (L:=P++(D++u::W')++Z) i rfl hl (by omega);have set:(zB .u32 (P++(D++u::W')++Z)).set (off+i) [.int .u32 lo]=zB .u32 (P++(D++[lo]++W')++Z):=by
    rw[yR]
    congr 1
    have e:P++(D++u::W')++Z=(P++D)++u::(W'++Z):=by simp
    rw[e,←hP,←hD,←bO,pT,hI (by omega),sM,pV];simp
   apply zC;(repeat((conv=>lhs;whnf);simp only[go_sem,simprocAttr,h1,x1,bD,←hy,cy,cu,cuy,ccy,c32,s5,s6,len,gk,xm,set,w1]));exact key
theorem VH (B:List Int) (e2:Bool) (hB:OkD WB B) (hb:B.length≤1000000) (off:Nat) (ho:off≤1000000) (ex:Bool) (P W Z:List Int) (hP:P.length=off) (hW:W.length=B.length+1) (hWo:OkD WB W) (X:Obj) :
  ∃(O:List Int) (t:Int),OkD WB O∧O.length=B.length+1∧(4294967296:Int)^(B.length+1)*t+zG WB O=zG WB W+zG WB B ∧
  callRL Tryz.prog zD 126 [.msl 0 off (B.length+1) ex,.sl (zB .u32 B) e2] [.arr (zB .u32 (P++W++Z)) (some (some 1)) false,X]=some (.tup [],[.arr (zB .u32 (P++O++Z)) (some (some 1)) false,X]):=by
 have hM:3000000≤maxLen:=by decide
 obtain⟨O,w,c,o1,o2,o3,o4,o6,o7⟩:=VG B e2 hB hb off ho ex P Z hP X [.blk 0,.seq 0 7] B.length 0 (by omega) [] W 0 rfl hW (.nil _) hWo (.inl rfl);have e0:(((WB:Nat):Int))=(4294967296:Int):=rfl;obtain⟨d,hd⟩ : ∃d,d=(w+c) % 4294967296:=⟨_,rfl⟩;obtain⟨t,ht⟩ : ∃t,t=(w+c) / 4294967296:=⟨_,rfl⟩;have hd2:w+c=d+4294967296*t:=by omega
 refine⟨O++[d],t,o1.append (.cons ⟨by omega,by show d<((4294967296:Nat):Int);omega⟩ (.nil _)),by simp[o2],?_,?_⟩
 ·rw[hd2]at o6;have e1:zG WB [d]=d:=by simp[zG]
  rw[zX,o2,e0,e1,pO,bN];rw[bG]at o6;have ev:zG WB []=0:=rfl;simp only[pH,ev,Int.pow_zero,HM,HU,BI]at o6;omega
 ·have cc:IntKind.u32.wrap c=c:=by rw[bU];omega
  have s2:IntKind.u32.wrap (w+c)=d:=by rw[bU];omega
  have len:off+B.length<(P++(O++[w])++Z).length:=by simp;omega
  have hl:off+(B.length+1)≤(P++(O++[w])++Z).length:=by simp;omega
  have get:(P++(O++[w])++Z).getD (off+B.length) 0=w:=by
   have e:P++(O++[w])++Z=(P++O)++w::Z:=by simp
   rw[e,←hP,←o2,←bO];simp[bE]
  have gk:=zy .u32 (P++(O++[w])++Z) len;rw[get]at gk;have xm:=yb.idxmk .u32 (S:=[.arr (zB .u32 (P++(O++[w])++Z)) (some (some 1)) false,X]) (id:=0) (off:=off) (n:=B.length+1) (ex:=ex) (L:=P++(O++[w])++Z) B.length rfl hl (by omega);have set:(zB .u32 (P++(O++[w])++Z)).set (off+B.length) [.int .u32 d]=zB .u32 (P++(O++[d])++Z):=by
   rw[yR]
   congr 1
   have e:P++(O++[w])++Z=(P++O)++w::Z:=by simp
   rw[e,←hP,←o2,←bO,pT,hI (by omega),sM,pV];simp
  have key:=o7 (.tup [],[.arr (zB .u32 (P++(O++[d])++Z)) (some (some 1)) false,X]) (by
   apply zR;((repeat((conv=>lhs;whnf);simp only[go_sem,simprocAttr,cc,s2,len,gk,xm,set]));try rfl))
  refine FX.callRL (r:=(.tup [],[.arr (zB .u32 (P++(O++[d])++Z)) (some (some 1)) false,X])) ok126_ 1000 rfl rfl ?_;have key':zS 2 VF 0 52 2 [.blk 0,.seq 0 7] [(0,.msl 0 off (B.length+1) ex),(1,.sl (zB .u32 B) e2),(4,.int .u64 0),(7,.sl (zB .u32 B) e2),(8,.int .i64 B.length),(9,.int .i64 0)] [.arr (zB .u32 (P++W++Z)) (some (some 1)) false,X]=_:=key;(repeat((conv=>lhs;whnf);simp only[go_sem,simprocAttr]));exact key'
end
end
end Go.Vs
