
import Derived.Test.YtkaeejkajfinhaaGreatMV21
import Derived.Test.YtkaeejkajfinhaaGreatMV23
set_option linter.unusedVariables false
set_option linter.unusedSimpArgs false
set_option maxRecDepth 100000
namespace Go.Vs
open Go Go.Proofs
abbrev DV:=Rat × Rat
def ZS (B:Nat) (q:Rat):Bool:=decide ((words q.num.natAbs).length≤B)&&decide ((words q.den).length≤B)
theorem vl {B:Nat} {q:Rat} : ZS B q=true↔wL q B:=by simp[ZS,wL]
def jN (B:Nat) (x:DV):Prop:=wL x.1 B∧wL x.2 B
def ka (B:Nat) (x:DV):Option DV:=if (ZS B x.1&&ZS B x.2)=true then some x else none
def xd (x y:DV):DV:=(x.1*y.1,x.2*y.1+x.1*y.2)
def YY (x y:DV):DV:=(x.1+y.1,x.2+y.2)
def zE2 (B:Nat) (a:DV):Nat→DV→Option DV
 | 0,o=>some o
 | k+1,o=>(ka B (xd o a)).bind (zE2 B a k)
theorem zw {B:Nat} {x y:DV} : ka B x=some y↔y=x∧jN B x:=by
 unfold ka jN;rw[←vl,←vl];by_cases h:(ZS B x.1&&ZS B x.2)=true
 ·rw[bA h];simp only[bO]at h;exact⟨fun e=>⟨(Option.some.inj e).symm,h⟩,fun e=>by rw[e.1]⟩
 ·rw[hZ h];simp only[bO]at h;exact⟨(fun e=>by cases e),fun e=>absurd e.2 h⟩
theorem vn {B B':Nat} (hB:B≤B') {x y:DV} (h:ka B x=some y):ka B' x=some y:=by
 rw[zw]at h ⊢;exact⟨h.1,h.2.1.mono hB,h.2.2.mono hB⟩
theorem Qu {B B':Nat} (hB:B≤B') {a:DV} : ∀ {k:Nat} {o y:DV},zE2 B a k o=some y→zE2 B' a k o=some y
 | 0,_,_,h=>h
 | k+1,o,y,h=>by
  obtain⟨z,h1,h2⟩:=bN.1 h;exact bN.2 ⟨z,vn hB h1,Qu hB h2⟩
theorem zE3 {B:Nat} {a:DV} : ∀ {k:Nat} {o y:DV},jN B o→zE2 B a k o=some y→jN B y
 | 0,_,_,ho,h=>by cases h;exact ho
 | k+1,o,y,ho,h=>by
  obtain⟨z,h1,h2⟩:=bN.1 h;obtain⟨rfl,h3⟩:=zw.1 h1;exact zE3 h3 h2
theorem kV {x y:DV} (hx:x.2=0) (hy:y.2=0):(xd x y).2=0:=by
 show x.2*y.1+x.1*y.2=0
 rw[hx,hy,Rat.zero_mul,Rat.mul_zero,Rat.add_zero]
theorem Qv {B:Nat} {a:DV} (ha:a.2=0) : ∀ {k:Nat} {o y:DV},o.2=0→zE2 B a k o=some y→y.2=0
 | 0,_,_,ho,h=>by cases h;exact ho
 | k+1,o,y,ho,h=>by
  obtain⟨z,h1,h2⟩:=bN.1 h;obtain⟨rfl,h3⟩:=zw.1 h1;exact Qv ha (kV ho ha) h2
def RV.rat (v:RV):Rat:=mkRat (sg v.neg (nv v.num)) (nv v.den)
def ZT (l:List Int):Rat:=((nv l:Nat):Rat)
theorem Zg {v:RV} (h:v.fine):PV.agg v.cells=xU v.rat∧wL v.rat 400:=by
 obtain⟨q,h1,h2,h3,h4,h5⟩:=h.q;have e:v.rat=q:=by
  unfold RV.rat;rw[h2,h3,h4,Wd,Wd,show sg (yU q) q.num.natAbs=q.num from zK9 q,Rat.mkRat_self]
 rw[e];exact⟨h1,h5⟩
theorem XS {nu de:List Int} {ng:Bool} (h:vh ng nu de=true) (ho:OkD WB nu):PV.agg [.bool ng,.sl (zD .u32 nu) false,.sl (zD .u32 de) false]=xU (ZT nu)∧wL (ZT nu) 20∧(nu.length≠0→ZT nu≠0):=by
 unfold vh at h;simp only[bO,HZ,pA]at h;obtain⟨rfl,h1,h2,h3,h4⟩:=h;obtain rfl:=(Zx h1).2 h2;have t:xX nu:=by
  unfold Ke at h4;simp only[aV,pA]at h4
  rcases h4 with h | h
  ·exact .inl (pL h)
  ·exact .inr h
 have w:=t.words ho;have e1:(ZT nu).num=(nv nu:Int):=rfl;have e2:(ZT nu).den=1:=rfl;have e3:(ZT nu).num.natAbs=nv nu:=by rw[e1];rfl
 have e4:decide ((ZT nu).num<0)=false:=by rw[e1];simp
 refine⟨?_,⟨by rw[e3,←w];exact h3,by rw[e2,ku];decide⟩,fun h0 hz=>?_⟩
 ·unfold xU kS;rw[e3,e2,e4,←w,ku]
 ·have:nv nu=0:=by rw[←e3,hz];rfl
  rw[this]at w;exact h0 (by rw[w];exact xC.2 rfl)
def uN (st:List Bd) (nm:ByteArray):Rat:=(Zd nm st).rat
def we (nm:ByteArray):ByteArray:=nm++⟨#[39]⟩
def xb (B:Nat) (st:List Bd) (sy:Node→DV→Bool→Option DV) (n:Node) (k0 k1:DV→Bool→Option DV) (dot:DV) (df:Bool):Option DV :=
 if n.op=1 then ka B (ZT n.num,0)
 else if n.op=2 then ka B (uN st n.name,if df=true then uN st (we n.name) else 0)
 else if n.op=3 then ka B (uN st (we n.name),0)
 else if n.op=4 then (k0 dot df).bind fun x=>ka B (xd (-1,0) x)
 else if n.op=5 then (k0 dot df).bind fun x=>(k1 dot df).bind fun y=>ka B (YY x y)
 else if n.op=6 then (k0 dot df).bind fun x=>(k1 dot df).bind fun y=>ka B (YY x (xd (-1,0) y))
 else if n.op=7 then (k0 dot df).bind fun x=>(k1 dot df).bind fun y=>ka B (xd x y)
 else if n.op=8 then (ka B ((ZT (n.kids.getD 1 nd0).num)⁻¹,0)).bind fun i=>(k0 dot df).bind fun x=>ka B (xd i x)
 else if n.op=9 then (k0 dot df).bind fun a=>zE2 B a (vS (n.kids.getD 1 nd0).num 20).toNat (1,0)
 else if n.op=12 then (k0 dot true).bind fun x=>ka B (x.2,0)
 else if n.op=13 then some dot
 else if n.kids.length≠0 then (k0 dot df).bind fun d=>sy n.sym d df
 else sy n.sym dot df
mutual
def Node.ev (B:Nat) (st:List Bd) (sy:Node→DV→Bool→Option DV):Node→DV→Bool→Option DV
 | .mk a b c d e f=>xb B st sy (.mk a b c d e f) ((Node.evs B st sy f).getD 0 fun _ _=>none) ((Node.evs B st sy f).getD 1 fun _ _=>none)
def Node.evs (B:Nat) (st:List Bd) (sy:Node→DV→Bool→Option DV):List Node→List (DV→Bool→Option DV)
 | []=>[]
 | n::r=>n.ev B st sy::Node.evs B st sy r
end
def kv (B:Nat) (st:List Bd) (sy:Node→DV→Bool→Option DV) (l:List Node) (i:Nat):DV→Bool→Option DV:=(Node.evs B st sy l).getD i fun _ _=>none
theorem Node.ev_eq (B:Nat) (st:List Bd) (sy:Node→DV→Bool→Option DV) (n:Node):n.ev B st sy=xb B st sy n (kv B st sy n.kids 0) (kv B st sy n.kids 1):=by cases n;rfl
theorem vo (B:Nat) (st:List Bd) (sy:Node→DV→Bool→Option DV) : ∀(l:List Node) (i:Nat),i<l.length→kv B st sy l i=(l.getD i nd0).ev B st sy
 | [],i,h=>by simp at h
 | n::r,0,h=>rfl
 | n::r,i+1,h=>vo B st sy r i (by simpa using h)
theorem zG8 (B:Nat) (st:List Bd) (sy:Node→DV→Bool→Option DV) : ∀(l:List Node) (i:Nat),l.length≤i→kv B st sy l i=fun _ _=>none
 | [],i,h=>by simp[kv,Node.evs]
 | n::r,0,h=>by simp at h
 | n::r,i+1,h=>zG8 B st sy r i (by simpa using h)
theorem zBn {P:(DV→Bool→Option DV)→Prop} {B:Nat} {st:List Bd} {sy:Node→DV→Bool→Option DV} (l:List Node) (i:Nat) (h0:P fun _ _=>none) (h : ∀k∈l,P (k.ev B st sy)):P (kv B st sy l i):=by
 by_cases hi:i<l.length
 ·rw[vo _ _ _ _ _ hi];exact h _ (yA hi)
 ·rw[zG8 _ _ _ _ _ (by omega)];exact h0
theorem zJM {B B':Nat} (hB:B≤B') {st:List Bd} {sy sy':Node→DV→Bool→Option DV} (hs : ∀s d f x,sy s d f=some x→sy' s d f=some x) (n:Node) {k0 k1 l0 l1:DV→Bool→Option DV} (m0 : ∀d f x,k0 d f=some x→l0 d f=some x) (m1 : ∀d f x,k1 d f=some x→l1 d f=some x) (d:DV) (f:Bool) (x:DV) (h:xb B st sy n k0 k1 d f=some x):xb B' st sy' n l0 l1 d f=some x:=by
 unfold xb at h ⊢;by_cases c:n.op=1
 ·rw[bA c]at h ⊢;exact vn hB h
 rw[hZ c]at h ⊢;clear c;by_cases c:n.op=2
 ·rw[bA c]at h ⊢;exact vn hB h
 rw[hZ c]at h ⊢;clear c;by_cases c:n.op=3
 ·rw[bA c]at h ⊢;exact vn hB h
 rw[hZ c]at h ⊢;clear c;by_cases c:n.op=4
 ·rw[bA c]at h ⊢;obtain⟨x1,h1,h2⟩:=bN.1 h;exact bN.2 ⟨x1,m0 _ _ _ h1,vn hB h2⟩
 rw[hZ c]at h ⊢;clear c;by_cases c:n.op=5
 ·rw[bA c]at h ⊢;obtain⟨x1,h1,h'⟩:=bN.1 h;obtain⟨x2,h2,h3⟩:=bN.1 h';exact bN.2 ⟨x1,m0 _ _ _ h1,bN.2 ⟨x2,m1 _ _ _ h2,vn hB h3⟩⟩
 rw[hZ c]at h ⊢;clear c;by_cases c:n.op=6
 ·rw[bA c]at h ⊢;obtain⟨x1,h1,h'⟩:=bN.1 h;obtain⟨x2,h2,h3⟩:=bN.1 h';exact bN.2 ⟨x1,m0 _ _ _ h1,bN.2 ⟨x2,m1 _ _ _ h2,vn hB h3⟩⟩
 rw[hZ c]at h ⊢;clear c;by_cases c:n.op=7
 ·rw[bA c]at h ⊢;obtain⟨x1,h1,h'⟩:=bN.1 h;obtain⟨x2,h2,h3⟩:=bN.1 h';exact bN.2 ⟨x1,m0 _ _ _ h1,bN.2 ⟨x2,m1 _ _ _ h2,vn hB h3⟩⟩
 rw[hZ c]at h ⊢;clear c;by_cases c:n.op=8
 ·rw[bA c]at h ⊢;obtain⟨x1,h1,h'⟩:=bN.1 h;obtain⟨x2,h2,h3⟩:=bN.1 h';exact bN.2 ⟨x1,vn hB h1,bN.2 ⟨x2,m0 _ _ _ h2,vn hB h3⟩⟩
 rw[hZ c]at h ⊢;clear c;by_cases c:n.op=9
 ·rw[bA c]at h ⊢;obtain⟨x1,h1,h2⟩:=bN.1 h;exact bN.2 ⟨x1,m0 _ _ _ h1,Qu hB h2⟩
 rw[hZ c]at h ⊢;clear c;by_cases c:n.op=12
 ·rw[bA c]at h ⊢;obtain⟨x1,h1,h2⟩:=bN.1 h;exact bN.2 ⟨x1,m0 _ _ _ h1,vn hB h2⟩
 rw[hZ c]at h ⊢;clear c;by_cases c:n.op=13
 ·rw[bA c]at h ⊢;exact h
 rw[hZ c]at h ⊢;clear c;by_cases c:n.kids.length≠0
 ·rw[bA c]at h ⊢;obtain⟨x1,h1,h2⟩:=bN.1 h;exact bN.2 ⟨x1,m0 _ _ _ h1,hs _ _ _ _ h2⟩
 rw[hZ c]at h ⊢;clear c;exact hs _ _ _ _ h
theorem zHa {B B':Nat} (hB:B≤B') {st:List Bd} {sy sy':Node→DV→Bool→Option DV} (hs : ∀s d f x,sy s d f=some x→sy' s d f=some x) : ∀n:Node,∀d f x,n.ev B st sy d f=some x→n.ev B' st sy' d f=some x:=by
 refine Node.ind' fun n ih d f x h=>?_;have mono : ∀i d f x,kv B st sy n.kids i d f=some x→kv B' st sy' n.kids i d f=some x:=by
  intro i d f x hx;by_cases hi:i<n.kids.length
  ·rw[vo _ _ _ _ _ hi]at hx ⊢;exact ih _ (yA hi) d f x hx
  ·rw[zG8 _ _ _ _ _ (by omega)]at hx;cases hx
 rw[Node.ev_eq]at h ⊢;exact zJM hB hs n (mono 0) (mono 1) d f x h
theorem VH {B:Nat} (h:1≤B):wL 1 B:=by
 have e:(words 1).length=1:=by rw[ku];rfl
 exact⟨by show (words 1).length≤B;omega,by show (words 1).length≤B;omega⟩
theorem uh {B:Nat} (h:1≤B):wL 0 B:=by
 have e:(words 1).length=1:=by rw[ku];rfl
 have e0:(words 0).length=0:=xC.2 rfl;exact⟨by show (words 0).length≤B;omega,by show (words 1).length≤B;omega⟩
def WG (B:Nat) (g:DV→Bool→Option DV):Prop:=∀d f x,jN B d→g d f=some x→jN B x
theorem jL {B:Nat} (hB0:1≤B) {st:List Bd} {sy:Node→DV→Bool→Option DV} (hs : ∀s,Vs.WG B (sy s)) : ∀n:Node,Vs.WG B (n.ev B st sy):=by
 refine Node.ind' fun n ih d f x hd h=>?_;have m0:Vs.WG B (kv B st sy n.kids 0):=zBn _ _ (fun _ _ _ _ h=>(by cases h)) ih;have m1:Vs.WG B (kv B st sy n.kids 1):=zBn _ _ (fun _ _ _ _ h=>(by cases h)) ih;rw[Node.ev_eq]at h;unfold xb at h;by_cases c:n.op=1
 ·rw[bA c]at h;exact (zw.1 h).1 ▸ (zw.1 h).2
 rw[hZ c]at h;clear c;by_cases c:n.op=2
 ·rw[bA c]at h;exact (zw.1 h).1 ▸ (zw.1 h).2
 rw[hZ c]at h;clear c;by_cases c:n.op=3
 ·rw[bA c]at h;exact (zw.1 h).1 ▸ (zw.1 h).2
 rw[hZ c]at h;clear c;by_cases c:n.op=4
 ·rw[bA c]at h;obtain⟨x1,h1,h2⟩:=bN.1 h;exact (zw.1 h2).1 ▸ (zw.1 h2).2
 rw[hZ c]at h;clear c;by_cases c:n.op=5
 ·rw[bA c]at h;obtain⟨x1,h1,h'⟩:=bN.1 h;obtain⟨x2,h2,h3⟩:=bN.1 h';exact (zw.1 h3).1 ▸ (zw.1 h3).2
 rw[hZ c]at h;clear c;by_cases c:n.op=6
 ·rw[bA c]at h;obtain⟨x1,h1,h'⟩:=bN.1 h;obtain⟨x2,h2,h3⟩:=bN.1 h';exact (zw.1 h3).1 ▸ (zw.1 h3).2
 rw[hZ c]at h;clear c;by_cases c:n.op=7
 ·rw[bA c]at h;obtain⟨x1,h1,h'⟩:=bN.1 h;obtain⟨x2,h2,h3⟩:=bN.1 h';exact (zw.1 h3).1 ▸ (zw.1 h3).2
 rw[hZ c]at h;clear c;by_cases c:n.op=8
 ·rw[bA c]at h;obtain⟨x1,h1,h'⟩:=bN.1 h;obtain⟨x2,h2,h3⟩:=bN.1 h';exact (zw.1 h3).1 ▸ (zw.1 h3).2
 rw[hZ c]at h;clear c;by_cases c:n.op=9
 ·rw[bA c]at h;obtain⟨x1,h1,h2⟩:=bN.1 h;exact zE3 ⟨VH hB0,uh hB0⟩ h2
 rw[hZ c]at h;clear c;by_cases c:n.op=12
 ·rw[bA c]at h;obtain⟨x1,h1,h2⟩:=bN.1 h;exact (zw.1 h2).1 ▸ (zw.1 h2).2
 rw[hZ c]at h;clear c;by_cases c:n.op=13
 ·rw[bA c]at h
  cases h;exact hd
 rw[hZ c]at h;clear c;by_cases c:n.kids.length≠0
 ·rw[bA c]at h;obtain⟨x1,h1,h2⟩:=bN.1 h;exact hs _ _ _ _ (m0 _ _ _ hd h1) h2
 rw[hZ c]at h;clear c;exact hs _ _ _ _ hd h
def qd (g:DV→Bool→Option DV):Prop:=∀(d x:DV),d.2=0→g d false=some x→x.2=0
theorem wj {B:Nat} {st:List Bd} {sy:Node→DV→Bool→Option DV} (hs : ∀s,qd (sy s)) : ∀n:Node,qd (n.ev B st sy):=by
 refine Node.ind' fun n ih d x hd h=>?_;have m0:qd (kv B st sy n.kids 0):=zBn _ _ (fun _ _ _ h=>(by cases h)) ih;have m1:qd (kv B st sy n.kids 1):=zBn _ _ (fun _ _ _ h=>(by cases h)) ih;rw[Node.ev_eq]at h;unfold xb at h;by_cases c:n.op=1
 ·rw[bA c]at h;rw[(zw.1 h).1]
 rw[hZ c]at h;clear c;by_cases c:n.op=2
 ·rw[bA c]at h;rw[(zw.1 h).1];rfl
 rw[hZ c]at h;clear c;by_cases c:n.op=3
 ·rw[bA c]at h;rw[(zw.1 h).1]
 rw[hZ c]at h;clear c;by_cases c:n.op=4
 ·rw[bA c]at h;obtain⟨x1,h1,h2⟩:=bN.1 h;rw[(zw.1 h2).1];exact kV rfl (m0 _ _ hd h1)
 rw[hZ c]at h;clear c;by_cases c:n.op=5
 ·rw[bA c]at h;obtain⟨x1,h1,h'⟩:=bN.1 h;obtain⟨x2,h2,h3⟩:=bN.1 h';rw[(zw.1 h3).1]
  show x1.2+x2.2=0
  rw[m0 _ _ hd h1,m1 _ _ hd h2,Rat.add_zero]
 rw[hZ c]at h;clear c;by_cases c:n.op=6
 ·rw[bA c]at h;obtain⟨x1,h1,h'⟩:=bN.1 h;obtain⟨x2,h2,h3⟩:=bN.1 h';rw[(zw.1 h3).1]
  show x1.2+(xd (-1,0) x2).2=0
  rw[m0 _ _ hd h1,kV rfl (m1 _ _ hd h2),Rat.add_zero]
 rw[hZ c]at h;clear c;by_cases c:n.op=7
 ·rw[bA c]at h;obtain⟨x1,h1,h'⟩:=bN.1 h;obtain⟨x2,h2,h3⟩:=bN.1 h';rw[(zw.1 h3).1];exact kV (m0 _ _ hd h1) (m1 _ _ hd h2)
 rw[hZ c]at h;clear c;by_cases c:n.op=8
 ·rw[bA c]at h;obtain⟨x1,h1,h'⟩:=bN.1 h;obtain⟨x2,h2,h3⟩:=bN.1 h';rw[(zw.1 h3).1];exact kV ((zw.1 h1).1 ▸ rfl) (m0 _ _ hd h2)
 rw[hZ c]at h;clear c;by_cases c:n.op=9
 ·rw[bA c]at h;obtain⟨x1,h1,h2⟩:=bN.1 h;exact Qv (m0 _ _ hd h1) rfl h2
 rw[hZ c]at h;clear c;by_cases c:n.op=12
 ·rw[bA c]at h;obtain⟨x1,h1,h2⟩:=bN.1 h;rw[(zw.1 h2).1]
 rw[hZ c]at h;clear c;by_cases c:n.op=13
 ·rw[bA c]at h
  cases h;exact hd
 rw[hZ c]at h;clear c;by_cases c:n.kids.length≠0
 ·rw[bA c]at h;obtain⟨x1,h1,h2⟩:=bN.1 h;exact hs _ _ _ (m0 _ _ hd h1) h2
 rw[hZ c]at h;clear c;exact hs _ _ _ hd h
theorem VI {B:Nat} {q:Rat} (h:wL q B):wL (-q) B:=by
 unfold wL at *;rw[Rat.neg_num,Rat.neg_den,Int.natAbs_neg];exact h
theorem Vk (x:DV):xd (-1,0) x=(-x.1,-x.2):=by
 show (-1*x.1,0*x.1 + -1*x.2)=_
 rw[Rat.neg_mul,Rat.one_mul,Rat.zero_mul,Rat.zero_add,Rat.neg_mul,Rat.one_mul]
theorem zG9 (i:Rat) (x:DV):xd (i,0) x=(x.1*i,x.2*i):=by
 show (i*x.1,0*x.1+i*x.2)=_
 rw[Rat.zero_mul,Rat.zero_add,Rat.mul_comm i,Rat.mul_comm i]
def known (I:List Pr) (s:Node):Bool:=I.any fun p=>decide (p.what.cmp s=0)
def qA:List Pr→Node→Option Node
 | [],_=>none
 | p::r,s=>if p.what.cmp s=0 then some p.wth else qA r s
theorem JG : ∀(I:List Pr) (s:Node),known I s=true→∃w,qA I s=some w∧∃p∈I,p.wth=w∧p.what.cmp s=0
 | [],s,h=>by simp[known]at h
 | p::r,s,h=>by
  unfold qA;by_cases c:p.what.cmp s=0
  ·exact⟨p.wth,by rw[bA c],p,by simp,rfl,c⟩
  ·have h':known r s=true:=by
    unfold known at h ⊢
    rwa [BA,bH c,bW]at h
   obtain⟨w,h1,q,h2,h3⟩:=JG r s h';exact⟨w,by rw[hZ c];exact h1,q,by simp[h2],h3⟩
def zLT:Node→DV→Bool→Option DV:=fun _ _ _=>none
def YU (B:Nat) (st:List Bd) (I:List Pr) (s:Node):DV→Bool→Option DV:=match qA I s with
 | some w=>w.ev B st zLT
 | none=>fun _ _=>none
def val (B:Nat) (st:List Bd) (I:List Pr) (n:Node):DV→Bool→Option DV:=n.ev B st (YU B st I)
theorem zGa {B B':Nat} (hB:B≤B') {st:List Bd} {I:List Pr} (s:Node) (d:DV) (f:Bool) (x:DV) (h:YU B st I s d f=some x):YU B' st I s d f=some x:=by
 unfold YU at h ⊢
 cases e:qA I s with
 | none=>rw[e]at h;cases h
 | some w=>rw[e]at h;exact zHa hB (fun _ _ _ _ h=>h) w d f x h
theorem zLU {B B':Nat} (hB:B≤B') {st:List Bd} {I:List Pr} {n:Node} {d:DV} {f:Bool} {x:DV} (h:val B st I n d f=some x):val B' st I n d f=some x:=zHa hB (zGa hB) n d f x h
theorem Qw {B:Nat} (hB:1≤B) (st:List Bd) (I:List Pr) (s:Node):Vs.WG B (YU B st I s):=by
 unfold YU;cases qA I s with
 | none=>exact fun _ _ _ _ h=>(by cases h)
 | some w=>exact jL hB (fun _ _ _ _ _ h=>(by cases h)) w
theorem zGb (B:Nat) (st:List Bd) (I:List Pr) (s:Node):qd (YU B st I s):=by
 unfold YU;cases qA I s with
 | none=>exact fun _ _ _ h=>(by cases h)
 | some w=>exact wj (fun _ _ _ _ h=>(by cases h)) w
section
theorem WH:(tyi Tryz.prog 80).d=.struct [(0,3,true),(3,3,true),(6,1,false),(7,1,false)]:=by kernel_rfl
@[go_sem] theorem zNR:(tyi Tryz.prog 80).size=8:=nr (by kernel_rfl)
@[go_sem] theorem zLV:(tyi Tryz.prog 80).known=true:=nr (by kernel_rfl)
@[go_sem] theorem zHb:(tyi Tryz.prog 80).zero=some [.bool false,.sl [] true,.sl [] true,.bool false,.sl [] true,.sl [] true,.int .i64 0,.bool false]:=nr (by kernel_rfl)
@[go_sem] theorem zRo (n:Nat):zU (tyi Tryz.prog 80) n=some {v:=.mp n 0 0,new:=some ([[.bool false,.sl [] true,.sl [] true,.bool false,.sl [] true,.sl [] true,.int .i64 0,.bool false]],none)} := nr (by unfold zU;rw[zHb];rfl)
@[go_sem] theorem zRp (l:List (Nat × PV)):zV Tryz.prog 80 l=(qH [(0,3,true),(3,3,true),(6,1,false),(7,1,false)] [.bool false,.sl [] true,.sl [] true,.bool false,.sl [] true,.sl [] true,.int .i64 0,.bool false] l).map .agg:=nr (by unfold zV;rw[WH];dsimp only;unfold zb;rw[WH,zHb];rfl)
theorem zLW (row:List PV):part (tyi Tryz.prog 80) row=if 8≤row.length then some (.agg (row.take 8)) else none:=by simp[part,zLV,TI.isAgg,WH,zNR]
@[go_sem] theorem zTP (id i off:Nat):zA (tyi Tryz.prog 80) 0 (.mp id i off)=some (.mp id i (off+0)):=by simp[zA,WH]
@[go_sem] theorem zTQ (r:List PV):zA (tyi Tryz.prog 80) 0 (.cp r)=some (.cp (r.drop 0)):=by simp[zA,WH]
@[go_sem] theorem zTR (cs:List PV):zK (tyi Tryz.prog 80) 0 (.agg cs)=if 0+3≤cs.length then some (.agg ((cs.drop 0).take 3)) else none:=by simp[zK,WH]
@[go_sem] theorem zTS (id i off:Nat):zA (tyi Tryz.prog 80) 1 (.mp id i off)=some (.mp id i (off+3)):=by simp[zA,WH]
@[go_sem] theorem zTT (r:List PV):zA (tyi Tryz.prog 80) 1 (.cp r)=some (.cp (r.drop 3)):=by simp[zA,WH]
@[go_sem] theorem zTU (cs:List PV):zK (tyi Tryz.prog 80) 1 (.agg cs)=if 3+3≤cs.length then some (.agg ((cs.drop 3).take 3)) else none:=by simp[zK,WH]
@[go_sem] theorem zTV (id i off:Nat):zA (tyi Tryz.prog 80) 2 (.mp id i off)=some (.mp id i (off+6)):=by simp[zA,WH]
@[go_sem] theorem zTW (r:List PV):zA (tyi Tryz.prog 80) 2 (.cp r)=some (.cp (r.drop 6)):=by simp[zA,WH]
@[go_sem] theorem zTX (cs:List PV):zK (tyi Tryz.prog 80) 2 (.agg cs)=cs[6]? := by simp[zK,WH]
@[go_sem] theorem zTY (id i off:Nat):zA (tyi Tryz.prog 80) 3 (.mp id i off)=some (.mp id i (off+7)):=by simp[zA,WH]
@[go_sem] theorem zTZ (r:List PV):zA (tyi Tryz.prog 80) 3 (.cp r)=some (.cp (r.drop 7)):=by simp[zA,WH]
@[go_sem] theorem zT0 (cs:List PV):zK (tyi Tryz.prog 80) 3 (.agg cs)=cs[7]? := by simp[zK,WH]
attribute [go_sem] zLW
def dc (v d:Rat) (b:Int) (f:Bool):List PV:=[.bool (yU v),zs v.num.natAbs,zs v.den,.bool (yU d),zs d.num.natAbs,zs d.den,.int .i64 b,.bool f]
theorem kH (v d:Rat) (b:Int) (f:Bool):zh (.agg (dc v d b f)):=⟨rfl,fun _=>rfl⟩
def IsD (B:Nat) (r:Option DV) (v d:Rat) (b:Int) (f:Bool):Prop:=match r with
 | some x=>v=x.1∧d=x.2∧b=B∧f=false∧jN B x
 | none=>f=true
theorem zGc (S:zB) (q:Rat) (hq:vq q 1000000):zO (callL Tryz.prog zE) S 32 [rrV q]=some {v:=xU q} := zF (Ka q hq) (by simp[jc])
theorem Qx (S:zB) (q:Rat) (B:Nat):zO (callL Tryz.prog zE) S 136 [xU q,.int .i64 B]=some {v:=.bool (ZS B q)} := zF (by rw[J6];simp[ZS]) (by simp[vz,zh.int])
theorem VJ (S:zB):zO (callL Tryz.prog zE) S 51 []=some {v:=rrV 0} := zF YC (by simp)
theorem zHc (S:zB):zO (callL Tryz.prog zE) S 34 []=some {v:=rrV 1} := zF zD1 (by simp)
theorem zBo (S:zB) (q r:Rat) (hq:vq q 300000) (hr:vq r 300000):zO (callL Tryz.prog zE) S 138 [rrV q,rrV r]=some {v:=rrV (q*r)} := zF (UD q r hq hr) (by simp[jc])
theorem zBp (S:zB) (q r:Rat) (hq:vq q 300000) (hr:vq r 300000):zO (callL Tryz.prog zE) S 139 [rrV q,rrV r]=some {v:=rrV (q+r)} := zF (zD2 q r hq hr) (by simp[jc])
theorem Xg {B:Nat} (hB:B≤4096) {q:Rat} (h:wL q B):vq q 300000:=h.dec.mono (by omega)
section
attribute [local irreducible] Vs.callL Vs.callRL tyi zO zl zf zR zW za zI zY zA zK zb zV zG zJ zU zn yI zm zL ze Vs.gc zH
noncomputable def zPM:FX:=⟨Tryz.f137,zE.of 137,[]⟩
instance ok137_:zPM.ok 137:=FX.mk'
theorem zJN:callL Tryz.prog zE 137 []=some (.agg (dc 0 0 0 true)):=by
 have z:=VJ;apply FX.callV ok137_ 1000 rfl rfl
 ·unfold rrV rrL zs yN at *;((repeat((conv=>lhs;whnf);simp only[go_sem,simprocAttr,z]));try rfl)
 ·rfl
theorem zBq (S:zB):zO (callL Tryz.prog zE) S 137 []=some {v:=.agg (dc 0 0 0 true)} := zF zJN (by simp)
noncomputable def zRq:FX:=⟨Tryz.f90,zE.of 90,[]⟩
instance ok90_:zRq.ok 90:=FX.mk'
def uu (B:Nat) (x:DV):List PV:=if (ZS B x.1&&ZS B x.2)=true then dc x.1 x.2 B false else dc 0 0 0 true
theorem vp (B:Nat) (x:DV) : ∃v d b f,uu B x=dc v d b f∧IsD B (ka B x) v d b f:=by
 unfold uu
 cases e:ka B x with
 | some y =>
  obtain⟨rfl,h⟩:=zw.1 e;have:(ZS B y.1&&ZS B y.2)=true:=by rw[vl.2 h.1,vl.2 h.2];rfl
  exact⟨_,_,_,_,bA this,rfl,rfl,rfl,rfl,h⟩
 | none =>
  have : ¬(ZS B x.1&&ZS B x.2)=true:=fun h=>by
   unfold ka at e;rw[bA h]at e;cases e
  exact⟨_,_,_,_,hZ this,rfl⟩
theorem zE4 (v d:Rat) (B:Nat) (hv:vq v 1000000) (hd:vq d 1000000):callL Tryz.prog zE 90 [.agg (dc v d B false)]=some (.agg (uu B (v,d))):=by
 have t1:=fun S=>zGc S v hv;have t2:=fun S=>zGc S d hd;have s1:=fun S=>Qx S v B;have s2:=fun S=>Qx S d B;have lo:=zBq;unfold uu;dsimp only
 cases e1:ZS B v
 ·rw[e1]at s1;rw[bB,hZ (by simp)];apply FX.callV ok90_ 1000 rfl rfl
  ·unfold dc at *;unfold xU kS at *;unfold rrV rrL zs yN at *;((repeat((conv=>lhs;whnf);simp only[go_sem,simprocAttr,t1,s1,lo]));try rfl)
  ·rfl
 rw[e1]at s1
 cases e2:ZS B d
 ·rw[e2]at s2;rw[bQ,hZ (by simp)];apply FX.callV ok90_ 1000 rfl rfl
  ·unfold dc at *;unfold xU kS at *;unfold rrV rrL zs yN at *;((repeat((conv=>lhs;whnf);simp only[go_sem,simprocAttr,t1,s1,t2,s2,lo]));try rfl)
  ·rfl
 rw[e2]at s2;rw[sC,bA rfl];apply FX.callV ok90_ 1000 rfl rfl
 ·unfold dc at *;unfold xU kS at *;unfold rrV rrL zs yN at *;((repeat((conv=>lhs;whnf);simp only[go_sem,simprocAttr,t1,s1,t2,s2,lo]));try rfl)
 ·rfl
theorem Ys (S:zB) (v d:Rat) (B:Nat) (hv:vq v 1000000) (hd:vq d 1000000):zO (callL Tryz.prog zE) S 90 [.agg (dc v d B false)]=some {v:=.agg (uu B (v,d))} := zF (zE4 v d B hv hd) (by simp[kH])
noncomputable def zRr:FX:=⟨Tryz.f50,zE.of 50,[]⟩
instance ok50_:zRr.ok 50:=FX.mk'
theorem JH (S:zB) (B:Nat) (x:DV):wy S (.agg (uu B x))=some (.agg (uu B x)):=by
 obtain⟨v,d,b,f,h,_⟩:=vp B x;rw[h];rfl
theorem Vl (B:Nat) (x:DV):(uu B x).length=8:=by
 obtain⟨v,d,b,f,h,_⟩:=vp B x;rw[h];rfl
theorem WI (B:Nat) (x:DV):(uu B x).all PV.cell=true:=by
 obtain⟨v,d,b,f,h,_⟩:=vp B x;rw[h];rfl
theorem WJ (B:Nat) (x:DV):(uu B x).take 8=uu B x:=by
 obtain⟨v,d,b,f,h,_⟩:=vp B x;rw[h];rfl
theorem zGd (v:Rat) (B:Nat) (hv:vq v 1000000):callL Tryz.prog zE 50 [rrV v,.int .i64 B]=some (.agg (uu B (v,0))):=by
 have z:=VJ;have lo:=fun S=>Ys S v 0 B hv ((uh (B:=1) (by omega)).dec.mono (by omega));have l1:=Vl B (v,0);have l2:=WI B (v,0);have l3:=WJ B (v,0);have l4:=fun S=>JH S B (v,0);generalize uu B (v,0)=C at *;apply FX.callV ok50_ 1000 rfl rfl
 ·unfold dc at *;unfold rrV rrL zs yN at *;((repeat((conv=>lhs;whnf);simp only[go_sem,simprocAttr,z,lo,l1,l2,l3]));try rfl)
 ·exact l4 _
theorem jr (S:zB) (v:Rat) (B:Nat) (hv:vq v 1000000):zO (callL Tryz.prog zE) S 50 [rrV v,.int .i64 B]=some {v:=.agg (uu B (v,0))} := zF (zGd v B hv) (by simp[jc,zh.int])
end
end
section
theorem zTt {n d k:Nat} {neg:Bool} (hd:d≠0) (h1:(dec n).length≤k) (h2:(dec d).length≤k):vq (mkRat (sg neg n) d) k:=by
 unfold vq;rw[zAg hd,zAh hd,Z6];exact⟨bP (wu DB2 (BD _ _)) h1,bP (wu DB2 (BD _ _)) h2⟩
theorem zNp {q r:Rat} {j k:Nat} (hq:vq q j) (hr:vq r k):vq (q*r) (j+k):=by
 rw[Xx];exact zTt (PO q.den_nz r.den_nz) (kL hq.1 hr.1) (kL hq.2 hr.2)
theorem zLX {q r:Rat} {j:Nat} (hq:vq q j) (hr:vq r j):vq (q+r) (2*j+1):=by
 rw[vQ];have hX:(dec (q.num.natAbs*r.den)).length≤2*j:=by have:=kL hq.1 hr.2;omega
 have hY:(dec (r.num.natAbs*q.den)).length≤2*j:=by have:=kL hr.1 hq.2;omega
 have hD:(dec (q.den*r.den)).length≤2*j:=by have:=kL hq.2 hr.2;omega
 generalize q.num.natAbs*r.den=X at *;generalize r.num.natAbs*q.den=Y at *;have hd:=PO q.den_nz r.den_nz;generalize q.den*r.den=D at *;generalize yU q=b;generalize yU r=c;have hN:(sg b X+sg c Y).natAbs≤X+Y:=by
  have:=Int.natAbs_add_le (sg b X) (sg c Y)
  rwa [Z6,Z6]at this
 have hS:=zHX hX hY;have hS':=bP (wu DB2 hN) hS;unfold vq;rw[zAg hd,zAh hd];exact⟨bP (wu DB2 (BD _ _)) hS',bP (wu DB2 (BD _ _)) (by show (dec D).length≤_;omega)⟩
section
attribute [local irreducible] Vs.callL Vs.callRL tyi zO zl zf zR zW za zI zY zA zK zb zV zG zJ zU zn yI zm zL ze Vs.gc zH
noncomputable def zRs:FX:=⟨Tryz.f91,zE.of 91,[]⟩
instance ok91_:zRs.ok 91:=FX.mk'
theorem jM {B:Nat} (hB:B≤4096) {r1 r2:Option DV} {v1 d1 v2 d2:Rat} {b1 b2:Int} {f1 f2:Bool} (h1:IsD B r1 v1 d1 b1 f1) (h2:IsD B r2 v2 d2 b2 f2) : ∃v d b f,callL Tryz.prog zE 91 [.agg (dc v1 d1 b1 f1),.agg (dc v2 d2 b2 f2)]=some (.agg (dc v d b f))∧IsD B (r1.bind fun x=>r2.bind fun y=>ka B (xd x y)) v d b f:=by
 have lo:=zBq;cases r1 with
 | none =>
  have e1:f1=true:=h1;subst e1;refine⟨0,0,0,true,?_,rfl⟩;apply FX.callV ok91_ 1000 rfl rfl
  ·unfold dc at *;unfold zs yN at *;((repeat((conv=>lhs;whnf);simp only[go_sem,simprocAttr,lo]));try rfl)
  ·rfl
 | some x =>
 obtain⟨rfl,rfl,rfl,rfl,g1,g2⟩:=h1;cases r2 with
 | none =>
  have e1:f2=true:=h2;subst e1;refine⟨0,0,0,true,?_,rfl⟩;apply FX.callV ok91_ 1000 rfl rfl
  ·unfold dc at *;unfold zs yN at *;((repeat((conv=>lhs;whnf);simp only[go_sem,simprocAttr,lo]));try rfl)
  ·rfl
 | some y =>
 obtain⟨rfl,rfl,rfl,rfl,g3,g4⟩:=h2;have m1:=fun S=>zBo S x.1 y.1 (Xg hB g1) (Xg hB g3);have m2:=fun S=>zBo S x.2 y.1 (Xg hB g2) (Xg hB g3);have m3:=fun S=>zBo S x.1 y.2 (Xg hB g1) (Xg hB g4);have k:=fun q r (hq:wL q B) (hr:wL r B)=>zNp (hq.dec.mono (show 3*B≤12288 by omega)) (hr.dec.mono (show 3*B≤12288 by omega));have a1:=fun S=>zBp S (x.2*y.1) (x.1*y.2) ((k _ _ g2 g3).mono (by omega)) ((k _ _ g1 g4).mono (by omega));have q1:vq (xd x y).1 1000000:=(k _ _ g1 g3).mono (by omega);have q2:vq (xd x y).2 1000000:=(zLX (k _ _ g2 g3) (k _ _ g1 g4)).mono (by omega);have lk:=fun S=>Ys S (xd x y).1 (xd x y).2 B q1 q2;have lk' : ∀S,zO (callL Tryz.prog zE) S 90 [.agg (dc (x.1*y.1) (x.2*y.1+x.1*y.2) B false)]=some {v:=.agg (uu B (xd x y))} := lk;obtain⟨v,d,b,f,e,his⟩:=vp B (xd x y);refine⟨v,d,b,f,?_,his⟩;have l1:=Vl B (xd x y);have l2:=WI B (xd x y);have l3:=WJ B (xd x y);have l4:=fun S=>JH S B (xd x y);rw[←e];generalize uu B (xd x y)=C at *;apply FX.callV ok91_ 1000 rfl rfl
 ·unfold dc at *;unfold rrV rrL zs yN at *;((repeat((conv=>lhs;whnf);simp only[go_sem,simprocAttr,m1,m2,m3,a1,lk',l1,l2,l3]));try rfl)
 ·exact l4 _
noncomputable def zRt:FX:=⟨Tryz.f92,zE.of 92,[]⟩
instance ok92_:zRt.ok 92:=FX.mk'
theorem zE5 {B:Nat} (hB:B≤4096) {r1 r2:Option DV} {v1 d1 v2 d2:Rat} {b1 b2:Int} {f1 f2:Bool} (h1:IsD B r1 v1 d1 b1 f1) (h2:IsD B r2 v2 d2 b2 f2) : ∃v d b f,callL Tryz.prog zE 92 [.agg (dc v1 d1 b1 f1),.agg (dc v2 d2 b2 f2)]=some (.agg (dc v d b f))∧IsD B (r1.bind fun x=>r2.bind fun y=>ka B (YY x y)) v d b f:=by
 have lo:=zBq;cases r1 with
 | none =>
  have e1:f1=true:=h1;subst e1;refine⟨0,0,0,true,?_,rfl⟩;apply FX.callV ok92_ 1000 rfl rfl
  ·unfold dc at *;unfold zs yN at *;((repeat((conv=>lhs;whnf);simp only[go_sem,simprocAttr,lo]));try rfl)
  ·rfl
 | some x =>
 obtain⟨rfl,rfl,rfl,rfl,g1,g2⟩:=h1;cases r2 with
 | none =>
  have e1:f2=true:=h2;subst e1;refine⟨0,0,0,true,?_,rfl⟩;apply FX.callV ok92_ 1000 rfl rfl
  ·unfold dc at *;unfold zs yN at *;((repeat((conv=>lhs;whnf);simp only[go_sem,simprocAttr,lo]));try rfl)
  ·rfl
 | some y =>
 obtain⟨rfl,rfl,rfl,rfl,g3,g4⟩:=h2;have k:=fun q (hq:wL q B)=>hq.dec.mono (show 3*B≤12288 by omega);have a1:=fun S=>zBp S x.1 y.1 (Xg hB g1) (Xg hB g3);have a2:=fun S=>zBp S x.2 y.2 (Xg hB g2) (Xg hB g4);have q1:vq (YY x y).1 1000000:=(zLX (k _ g1) (k _ g3)).mono (by omega);have q2:vq (YY x y).2 1000000:=(zLX (k _ g2) (k _ g4)).mono (by omega);have lk:=fun S=>Ys S (YY x y).1 (YY x y).2 B q1 q2;have lk' : ∀S,zO (callL Tryz.prog zE) S 90 [.agg (dc (x.1+y.1) (x.2+y.2) B false)]=some {v:=.agg (uu B (YY x y))} := lk;obtain⟨v,d,b,f,e,his⟩:=vp B (YY x y);refine⟨v,d,b,f,?_,his⟩;have l1:=Vl B (YY x y);have l2:=WI B (YY x y);have l3:=WJ B (YY x y);have l4:=fun S=>JH S B (YY x y);rw[←e];generalize uu B (YY x y)=C at *;apply FX.callV ok92_ 1000 rfl rfl
 ·unfold dc at *;unfold rrV rrL zs yN at *;((repeat((conv=>lhs;whnf);simp only[go_sem,simprocAttr,a1,a2,lk',l1,l2,l3]));try rfl)
 ·exact l4 _
end
end
section
def JI (r:Option Node):PV:=match r with
 | some w=>.tup [.agg w.cells,.bool true]
 | none=>.tup [.agg nd0.cells,.bool false]
theorem Qy {I:List Pr} {i:Nat} (h:i<I.length) (s:Node):qA (I.drop i) s=if (I.getD i pr0).what.cmp s=0 then some (I.getD i pr0).wth else qA (I.drop (i+1)) s:=by
 rw[VD h];rfl
mutual
def Node.unk (I:List Pr):Node→Bool
 | .mk o nm ng nu de f=>decide (o=13)||((yO o&&(qA I (Node.mk o nm ng nu de f).head).isNone)||Node.unks I f)
def Node.unks (I:List Pr):List Node→Bool
 | []=>false
 | n::r=>n.unk I||Node.unks I r
end
theorem Node.unk_eq (I:List Pr) (n:Node):n.unk I=(decide (n.op=13)||((yO n.op&&(qA I n.head).isNone)||Node.unks I n.kids)):=by cases n;rfl
theorem zLY (S:zB) (e:Env) (k:Nat) (h:k=S.length):Vs.gc k e S=S:=by
 unfold Vs.gc
 split
 ·rw[h,PX]
 ·rfl
theorem zRu {P:PV→zB→Prop} {x:Option (PV × zB)} {r:PV} {S':zB} (h:x=some (r,S')) (k:P r S') : ∃r S',x=some (r,S')∧P r S':=⟨r,S',h,k⟩
section
attribute [local irreducible] Vs.callL Vs.callRL tyi zO zl zf zR zW za zI zY zA zK zb zV zG zJ zU zn yI zm zL ze Vs.gc zH
noncomputable def zNq:FX:=⟨Tryz.f88,zE.of 88,[]⟩
instance ok88_:zNq.ok 88:=FX.mk'
theorem zBr (I:List Pr) (hI : ∀p∈I,p.ok) (hl:I.length≤60) (n hd:Node) (hh:hd.ok) : ∀(m i:Nat),i+m=I.length →
  ∃r S',zS 0 zNq 0 116 3 [.blk 0,.seq 0 15] [(1,.sl (zX I) false),(4,.mp 1 0 0),(6,.mp 2 0 0),(7,.int .i64 i)] [.arr [n.cells] none false,.arr [[.int .i64 0,.str ⟨#[]⟩,.bool false,.sl [] true,.sl [] true,.sl [] true]] none false,.arr [hd.cells] none false]=some (r,S')∧wy S' r=some (JI (qA (I.drop i) hd)):=by
 intro m
 induction m with
 | zero =>
  intro i hi;have h1 : ¬(i:Int)<(I.length:Int):=by omega
  rw[bT (by omega)];apply zRu
  ·apply zC;(repeat((conv=>lhs;whnf);simp only[go_sem,simprocAttr,h1]));apply zN;((repeat((conv=>lhs;whnf);simp only[go_sem,simprocAttr,vj]));try rfl)
  ·rfl
 | succ m hm =>
  intro i hi;have h1:(i:Int)<(I.length:Int):=by omega
  have h2:=zg (i:=i) (n:=I.length) (by omega) (by unfold maxLen;omega);have h4:0≤(i:Int)∧(i:Int)<(I.length:Int):=⟨by omega,h1⟩;have hp:=hI _ (vX (I:=I) (i:=i) (by omega));have hE:=fun S=>zED S _ hd hp.what hh;rw[Qy (by omega)];by_cases c:(I.getD i pr0).what.cmp hd=0
  ·rw[bA c];apply zRu
   ·apply zC;((repeat((conv=>lhs;whnf);simp only[go_sem,simprocAttr,h1,h4,bD,hE,c]));try rfl)
   ·exact zKy _ _ _
  ·rw[hZ c];obtain⟨r,S',k1,k2⟩:=hm (i+1) (by omega);refine⟨r,S',?_,k2⟩;apply zC;(repeat((conv=>lhs;whnf);simp only[go_sem,simprocAttr,h1,h2,h4,bD,hE,c]));exact k1
theorem zBs (I:List Pr) (hI : ∀p∈I,p.ok) (hl:I.length≤60) (n:Node) (hn:n.ok):callL Tryz.prog zE 88 [.agg n.cells,.sl (zX I) false]=some (JI (qA I n.head)):=by
 obtain⟨r,S',k1,k2⟩:=zBr I hI hl n n.head (zH3 hn) I.length 0 (by omega);rw[bX]at k2;have hd:=fun S=>zPD S n;apply FX.callV (r:=(r,S')) ok88_ 1000 rfl rfl
 ·(repeat((conv=>lhs;whnf);simp only[go_sem,simprocAttr,hd]));exact k1
 ·exact k2
theorem Vm (S:zB) (I:List Pr) (hI : ∀p∈I,p.ok) (hl:I.length≤60) (n:Node) (hn:n.ok):zO (callL Tryz.prog zE) S 88 [.agg n.cells,.sl (zX I) false]=some {v:=JI (qA I n.head)} := zF (zBs I hI hl n hn) (by simp[Node.plain,zh.sl])
noncomputable def zNr:FX:=⟨Tryz.f48,zE.of 48,[]⟩
instance ok48_:zNr.ok 48:=FX.mk'
theorem VK (I:List Pr) (X:zB) (n:Node) (hn:n.ok) (ih : ∀k∈n.kids,callL Tryz.prog zE 48 [.agg k.cells,.sl (zX I) false]=some (.bool (k.unk I))) : ∀(m i:Nat),i+m=n.kids.length →
  ∃S',zS 0 zNr 0 244 (X.length+1) [.blk 0,.seq 0 31] [(1,.sl (zX I) false),(2,.mp 0 0 0),(7,.int .i64 i)] (.arr [n.cells] none false::X)=some (.bool (Node.unks I (n.kids.drop i)),S'):=by
 intro m;have hG:=fun e=>zLY (.arr [n.cells] none false::X) e (X.length+1) rfl
 induction m with
 | zero =>
  intro i hi;have h1 : ¬(i:Int)<(n.kids.length:Int):=by omega
  rw[bT (by omega)];apply Exists.intro;apply zC;(repeat((conv=>lhs;whnf);simp only[go_sem,simprocAttr,h1,hG]));apply zN;unfold Node.unks;((repeat((conv=>lhs;whnf);simp only[go_sem,simprocAttr]));try rfl)
 | succ m hm =>
  intro i hi;have h1:(i:Int)<(n.kids.length:Int):=by omega
  have h2:=zg (i:=i) (n:=n.kids.length) (by omega) hn.len;have h4:0≤(i:Int)∧(i:Int)<(n.kids.length:Int):=⟨by omega,h1⟩;have h5:=fun S=>zF (S:=S) (ih _ (yA (l:=n.kids) (i:=i) (by omega))) (by simp[Node.plain,zh.sl]);obtain⟨S',key⟩:=hm (i+1) (by omega);have h7:Node.unks I (n.kids.drop i)=((n.kids.getD i nd0).unk I||Node.unks I (n.kids.drop (i+1))):=by rw[xM (l:=n.kids) (i:=i) (by omega)];rfl
  rw[h7]
  cases hd:(n.kids.getD i nd0).unk I
  case true =>
   rw[hd]at h5;rw[pI];apply Exists.intro;apply zC;((repeat((conv=>lhs;whnf);simp only[go_sem,simprocAttr,h1,h4,h5]));try rfl)
  case false =>
   rw[hd]at h5;rw[bW];refine⟨S',?_⟩;apply zC;(repeat((conv=>lhs;whnf);simp only[go_sem,simprocAttr,h1,h2,h4,h5,hG]));exact key
theorem zBt (I:List Pr) (hI : ∀p∈I,p.ok) (hl:I.length≤60) : ∀n:Node,n.ok→callL Tryz.prog zE 48 [.agg n.cells,.sl (zX I) false]=some (.bool (n.unk I)):=by
 refine Node.ind' fun n ih hn=>?_;have hs:=fun S=>vi S n;have hM:=fun S=>Vm S I hI hl n hn;rw[Node.unk_eq];by_cases h13:n.op=13
 ·rw[bG h13,pI];apply FX.callB2 ok48_ 1000 rfl rfl;((repeat((conv=>lhs;whnf);simp only[go_sem,simprocAttr,h13]));try rfl)
 rw[bH h13,bW]
 cases e:yO n.op
 ·rw[e]at hs;obtain⟨S',h⟩:=VK I [] n hn (fun k hk'=>ih k hk' (hn.kids k hk')) n.kids.length 0 (by omega);rw[bX]at h;rw[bB,bW];apply FX.callB2 ok48_ 1000 rfl rfl;(repeat((conv=>lhs;whnf);simp only[go_sem,simprocAttr,h13,hs]));exact h
 rw[e]at hs;rw[bC]
 cases em:qA I n.head with
 | none =>
  rw[em]at hM;unfold JI at hM;rw[Option.isNone_none,pI];apply FX.callB2 ok48_ 1000 rfl rfl;((repeat((conv=>lhs;whnf);simp only[go_sem,simprocAttr,h13,hs,hM,zr]));try rfl)
 | some w =>
  rw[em]at hM;unfold JI at hM;rw[Option.isNone_some,bW];obtain⟨S',h⟩:=VK I [.arr [w.cells] none false] n hn (fun k hk'=>ih k hk' (hn.kids k hk')) n.kids.length 0 (by omega);rw[bX]at h;apply FX.callB2 ok48_ 1000 rfl rfl;(repeat((conv=>lhs;whnf);simp only[go_sem,simprocAttr,h13,hs,hM,zr]));exact h
theorem XT (S:zB) (I:List Pr) (hI : ∀p∈I,p.ok) (hl:I.length≤60) (n:Node) (hn:n.ok):zO (callL Tryz.prog zE) S 48 [.agg n.cells,.sl (zX I) false]=some {v:=.bool (n.unk I)} := zF (zBt I hI hl n hn) (by simp[Node.plain,zh.sl])
end
end
section
structure RC (B:Nat) (L:List Bd) (I:List Pr):Prop where
 b1:1≤B
 b2:B≤4096
 okL:WD L
 val:YX L=true
 okI : ∀p∈I,p.ok
 len:I.length≤60
section
variable {B:Nat} {L:List Bd} {I:List Pr} (h:RC B L I)
include h
theorem RC.good : ∀b∈L,b.good:=(Ko.1 h.val).2.1
theorem RC.llen:L.length≤1000000:=by have:=(Ko.1 h.val).1;omega
end
def EvR (B:Nat) (L:List Bd) (I:List Pr) (g:DV→Bool→Option DV) (w:Node):Prop:=∀(a c:Rat) (df:Bool),jN B (a,c)→∃v d b f,callL Tryz.prog zE 49 [.agg w.cells,.sl (yW L) false,.sl (zX I) false,.agg (dc a c B false),.bool df]=some (.agg (dc v d b f))∧IsD B (g (a,c) df) v d b f
theorem EvR.o {B:Nat} {L:List Bd} {I:List Pr} {g:DV→Bool→Option DV} {w:Node} (h:EvR B L I g w) {a c:Rat} (df:Bool) (hf:jN B (a,c)) : ∃v d b f,(∀S,zO (callL Tryz.prog zE) S 49 [.agg w.cells,.sl (yW L) false,.sl (zX I) false,.agg (dc a c B false),.bool df]=some {v:=.agg (dc v d b f)})∧IsD B (g (a,c) df) v d b f:=by
 obtain⟨v,d,b,f,h1,h2⟩:=h a c df hf;exact⟨v,d,b,f,fun S=>zF h1 (by simp[Node.plain,zh.sl,kH,zh.bool]),h2⟩
theorem JJ (S:zB) {c:List PV} {q:Rat} (h:PV.agg c=xU q) (hq:wL q 100000):zO (callL Tryz.prog zE) S 89 [.agg c]=some {v:=rrV q} := zF (by rw[h];exact zFj q hq) (by rw[h];simp[vz])
theorem zPN:zs 1=.sl [[.int .i64 1]] false:=by unfold zs yN;rw[zFh];rfl
theorem zGe:callL Tryz.prog zE 33 [.int .i64 (-1)]=some (rrV (-1)):=by
 have e:rrV (-1)=.agg [.bool true,.sl [[.int .i64 1]] false,.sl [[.int .i64 1]] false]:=by
  unfold rrV rrL;rw[show yU (-1)=true from rfl,show (-1:Rat).num.natAbs=1 from rfl,show (-1:Rat).den=1 from rfl,zPN]
 rw[e];exact QR (n:=60) (by kernel_rfl)
theorem zHd (S:zB):zO (callL Tryz.prog zE) S 33 [.int .i64 (-1)]=some {v:=rrV (-1)} := zF zGe (by simp[zh.int])
theorem zBu (ti:TI) (a b:ByteArray) (h:a.size+b.size≤9223372036854775807):xN .add ti (.str a) (.str b)=some (.str (a++b)):=by
 show (if a.size+b.size≤9223372036854775807 then some (PV.str (a++b)) else none)=_
 rw[bA h]
theorem XU (ti:TI) {nm:ByteArray} (h:yP nm=true):xN .add ti (.str nm) (.str ⟨#[39]⟩)=some (.str (we nm)):=by
 refine zBu ti nm ⟨#[39]⟩ ?_;have e:(⟨#[39]⟩:ByteArray).size=1:=rfl;rw[e];unfold yP at h;simp only[bO,pA]at h;omega
theorem zRv {B:Nat} (h:1≤B) (q:Rat) (hq:wL q B):jN B (q,0):=⟨hq,uh h⟩
theorem VL {B:Nat} {x:DV} (h:jN B x):ka B x=some x:=zw.2 ⟨rfl,h⟩
section
attribute [local irreducible] Vs.callL Vs.callRL tyi zO zl zf zR zW za zI zY zA zK zb zV zG zJ zU zn yI zm zL ze Vs.gc zH
theorem JK (S:zB) (v d:Rat) (b:Int):zO (callL Tryz.prog zE) S 90 [.agg (dc v d b true)]=some {v:=.agg (dc 0 0 0 true)} := by
 refine zF ?_ (by simp[kH]);have lo:=zBq;apply FX.callV ok90_ 1000 rfl rfl
 ·unfold dc at *;unfold zs yN at *;((repeat((conv=>lhs;whnf);simp only[go_sem,simprocAttr,lo]));try rfl)
 ·rfl
noncomputable def zE6:FX:=⟨Tryz.f49,zE.of 49,[]⟩
instance ok49_:zE6.ok 49:=FX.mk'
theorem zLZ {B:Nat} {L:List Bd} {I:List Pr} (h:RC B L I) (sy:Node→DV→Bool→Option DV) (n:Node) (hn:n.ok) (ho:n.op=1) (hc:vh n.neg n.num n.den=true):EvR B L I (n.ev B L sy) n:=by
 intro a c df hf;rw[Node.ev_eq];unfold xb;rw[bA ho];obtain⟨q1,q2,_⟩:=XS hc hn.val.n;have of:=fun S=>JJ S q1 (q2.mono (by omega));have pl:=fun S=>jr S (ZT n.num) B (q2.dec.mono (by omega));obtain⟨v,d,b,f,e,his⟩:=vp B (ZT n.num,0);rw[e]at pl;refine⟨v,d,b,f,?_,his⟩;apply FX.callV ok49_ 1000 rfl rfl
 ·unfold dc at *;unfold rrV rrL zs yN at *;((repeat((conv=>lhs;whnf);simp only[go_sem,simprocAttr,ho,of,pl]));try rfl)
 ·rfl
theorem zGf {B:Nat} {L:List Bd} {I:List Pr} (h:RC B L I) (sy:Node→DV→Bool→Option DV) (n:Node) (hn:n.ok) (ho:n.op=3) (hnm:yP n.name=true):EvR B L I (n.ev B L sy) n:=by
 intro a c df hf;rw[Node.ev_eq];unfold xb
 repeat rw[hZ (by rw[ho];decide)]
 rw[bA ho];obtain⟨q1,q2⟩:=Zg (jj (nm:=we n.name) h.okL h.good);have ad:=fun ti=>XU ti hnm;have gt:=fun S=>zBZ S L (we n.name) h.llen;have of:=fun S=>JJ S q1 (q2.mono (by omega));have pl:=fun S=>jr S (uN L (we n.name)) B (q2.dec.mono (by omega));obtain⟨v,d,b,f,e,his⟩:=vp B (uN L (we n.name),0);rw[e]at pl;refine⟨v,d,b,f,?_,his⟩;unfold uN at *;apply FX.callV ok49_ 1000 rfl rfl
 ·unfold dc at *;unfold rrV rrL zs yN at *;((repeat((conv=>lhs;whnf);simp only[go_sem,simprocAttr,ho,ad,gt,of,pl]));try rfl)
 ·rfl
theorem zL0 {B:Nat} {L:List Bd} {I:List Pr} (h:RC B L I) (sy:Node→DV→Bool→Option DV) (n:Node) (hn:n.ok) (ho:n.op=13):EvR B L I (n.ev B L sy) n:=by
 intro a c df hf;rw[Node.ev_eq];unfold xb
 repeat rw[hZ (by rw[ho];decide)]
 rw[bA ho];refine⟨a,c,B,false,?_,rfl,rfl,rfl,rfl,hf⟩;apply FX.callV ok49_ 1000 rfl rfl
 ·unfold dc at *;unfold zs yN at *;((repeat((conv=>lhs;whnf);simp only[go_sem,simprocAttr,ho]));try rfl)
 ·rfl
theorem zL1 {B:Nat} {L:List Bd} {I:List Pr} (h:RC B L I) (sy:Node→DV→Bool→Option DV) (n:Node) (hn:n.ok) (ho:n.op=2) (hnm:yP n.name=true):EvR B L I (n.ev B L sy) n:=by
 intro a c df hf;rw[Node.ev_eq];unfold xb;rw[hZ (by rw[ho];decide)];rw[bA ho];obtain⟨q1,q2⟩:=Zg (jj (nm:=n.name) h.okL h.good);have gt:=fun S=>zBZ S L n.name h.llen;have of:=fun S=>JJ S q1 (q2.mono (by omega));have pl:=fun S=>jr S (uN L n.name) B (q2.dec.mono (by omega));obtain⟨p1,p2⟩:=Zg (jj (nm:=we n.name) h.okL h.good);have ad:=fun ti=>XU ti hnm;have gt2:=fun S=>zBZ S L (we n.name) h.llen;have of2:=fun S=>JJ S p1 (p2.mono (by omega));have z:=uh h.b1;by_cases hq:wL (uN L n.name) B
 ·have e1:uu B (uN L n.name,0)=dc (uN L n.name) 0 B false:=bA (by rw[vl.2 hq,vl.2 z];rfl);rw[e1]at pl;cases df
  ·rw[hZ (by simp)];have lk:=fun S=>Ys S (uN L n.name) 0 B (q2.dec.mono (by omega)) (z.dec.mono (by have:=h.b2;omega));rw[e1]at lk;refine⟨uN L n.name,0,B,false,?_,?_⟩
   ·apply FX.callV (v:=.agg (dc (uN L n.name) 0 B false)) ok49_ 1000 rfl rfl
    ·unfold uN at *;unfold dc at *;unfold rrV rrL zs yN at *;((repeat((conv=>lhs;whnf);simp only[go_sem,simprocAttr,ho,gt,of,pl,lk]));try rfl)
    ·rfl
   ·rw[VL (zRv h.b1 _ hq)];exact⟨rfl,rfl,rfl,rfl,hq,z⟩
  ·rw[bA rfl];have lk:=fun S=>Ys S (uN L n.name) (uN L (we n.name)) B (q2.dec.mono (by omega)) (p2.dec.mono (by omega));obtain⟨v,d,b,f,e,his⟩:=vp B (uN L n.name,uN L (we n.name));rw[e]at lk;refine⟨v,d,b,f,?_,his⟩;apply FX.callV ok49_ 1000 rfl rfl
   ·unfold uN at *;unfold dc at *;unfold rrV rrL zs yN at *;((repeat((conv=>lhs;whnf);simp only[go_sem,simprocAttr,ho,gt,of,pl,ad,gt2,of2,lk]));try rfl)
   ·rfl
 ·have hq':ZS B (uN L n.name)=false:=by
   cases e:ZS B (uN L n.name)
   ·rfl
   ·exact absurd (vl.1 e) hq
  have e1:uu B (uN L n.name,0)=dc 0 0 0 true:=hZ (by rw[hq'];simp);rw[e1]at pl;have e2:ka B (uN L n.name,if df=true then uN L (we n.name) else 0)=none:=hZ (by rw[hq'];simp);rw[e2];refine⟨0,0,0,true,?_,rfl⟩;cases df
  ·have lk:=fun S=>JK S 0 0 0;apply FX.callV ok49_ 1000 rfl rfl
   ·unfold uN at *;unfold dc at *;unfold rrV rrL zs yN at *;((repeat((conv=>lhs;whnf);simp only[go_sem,simprocAttr,ho,gt,of,pl,lk]));try rfl)
   ·rfl
  ·have lk:=fun S=>JK S 0 (uN L (we n.name)) 0;apply FX.callV ok49_ 1000 rfl rfl
   ·unfold uN at *;unfold dc at *;unfold rrV rrL zs yN at *;((repeat((conv=>lhs;whnf);simp only[go_sem,simprocAttr,ho,gt,of,pl,ad,gt2,of2,lk]));try rfl)
   ·rfl
end
end
section
theorem zBv {B:Nat} (h:1≤B):jN B (-1,0):=⟨VI (VH h),uh h⟩
theorem Yt {n:Node} (h:0<n.kids.length):0≤(0:Int)∧(0:Int)<(n.kids.length:Int):=⟨by omega,by omega⟩
theorem Jx {n:Node} (h:1<n.kids.length):0≤(1:Int)∧(1:Int)<(n.kids.length:Int):=⟨by omega,by omega⟩
section
attribute [local irreducible] Vs.callL Vs.callRL tyi zO zl zf zR zW za zI zY zA zK zb zV zG zJ zU zn yI zm zL ze Vs.gc zH
theorem zL2 {B:Nat} {L:List Bd} {I:List Pr} (h:RC B L I) (sy:Node→DV→Bool→Option DV) (n:Node) (hn:n.ok) (ho:n.op=4) (h0:0<n.kids.length) (k0:EvR B L I ((n.kids.getD 0 nd0).ev B L sy) (n.kids.getD 0 nd0)):EvR B L I (n.ev B L sy) n:=by
 intro a c df hf;rw[Node.ev_eq];unfold xb
 repeat rw[hZ (by rw[ho];decide)]
 rw[bA ho];obtain⟨v1,d1,b1,f1,e1,i1⟩:=k0.o df hf;rw[vo _ _ _ _ _ h0];have x0:=Yt h0;have mi:=zHd;have pl:=fun S=>jr S (-1) B ((zBv h.b1).1.dec.mono (by have:=h.b2;omega));obtain⟨vm,dm,bm,fm,em,im⟩:=vp B (-1,0);rw[em]at pl;obtain⟨v,d,b,f,ep,ip⟩:=jM h.b2 im i1;rw[VL (zBv h.b1),bI]at ip;have pr:=fun S=>zF (S:=S) ep (by simp[kH]);refine⟨v,d,b,f,?_,ip⟩;apply FX.callV ok49_ 1000 rfl rfl
 ·unfold dc at *
  try unfold rrV rrL at *
  unfold zs yN at *;((repeat((conv=>lhs;whnf);simp only[go_sem,simprocAttr,ho,x0,e1,mi,pl,pr]));try rfl)
 ·rfl
theorem zL3 {B:Nat} {L:List Bd} {I:List Pr} (h:RC B L I) (sy:Node→DV→Bool→Option DV) (n:Node) (hn:n.ok) (ho:n.op=5) (h0:0<n.kids.length) (k0:EvR B L I ((n.kids.getD 0 nd0).ev B L sy) (n.kids.getD 0 nd0)) (h1:1<n.kids.length) (k1:EvR B L I ((n.kids.getD 1 nd0).ev B L sy) (n.kids.getD 1 nd0)):EvR B L I (n.ev B L sy) n:=by
 intro a c df hf;rw[Node.ev_eq];unfold xb
 repeat rw[hZ (by rw[ho];decide)]
 rw[bA ho];obtain⟨v1,d1,b1,f1,e1,i1⟩:=k0.o df hf;rw[vo _ _ _ _ _ h0];have x0:=Yt h0;obtain⟨v2,d2,b2,f2,e2,i2⟩:=k1.o df hf;rw[vo _ _ _ _ _ h1];have x1:=Jx h1;obtain⟨v,d,b,f,ep,ip⟩:=zE5 h.b2 i1 i2;have pr:=fun S=>zF (S:=S) ep (by simp[kH]);refine⟨v,d,b,f,?_,ip⟩;apply FX.callV ok49_ 1000 rfl rfl
 ·unfold dc at *
  try unfold rrV rrL at *
  unfold zs yN at *;((repeat((conv=>lhs;whnf);simp only[go_sem,simprocAttr,ho,x0,x1,e1,e2,pr]));try rfl)
 ·rfl
theorem zL4 {B:Nat} {L:List Bd} {I:List Pr} (h:RC B L I) (sy:Node→DV→Bool→Option DV) (n:Node) (hn:n.ok) (ho:n.op=7) (h0:0<n.kids.length) (k0:EvR B L I ((n.kids.getD 0 nd0).ev B L sy) (n.kids.getD 0 nd0)) (h1:1<n.kids.length) (k1:EvR B L I ((n.kids.getD 1 nd0).ev B L sy) (n.kids.getD 1 nd0)):EvR B L I (n.ev B L sy) n:=by
 intro a c df hf;rw[Node.ev_eq];unfold xb
 repeat rw[hZ (by rw[ho];decide)]
 rw[bA ho];obtain⟨v1,d1,b1,f1,e1,i1⟩:=k0.o df hf;rw[vo _ _ _ _ _ h0];have x0:=Yt h0;obtain⟨v2,d2,b2,f2,e2,i2⟩:=k1.o df hf;rw[vo _ _ _ _ _ h1];have x1:=Jx h1;obtain⟨v,d,b,f,ep,ip⟩:=jM h.b2 i1 i2;have pr:=fun S=>zF (S:=S) ep (by simp[kH]);refine⟨v,d,b,f,?_,ip⟩;apply FX.callV ok49_ 1000 rfl rfl
 ·unfold dc at *
  try unfold rrV rrL at *
  unfold zs yN at *;((repeat((conv=>lhs;whnf);simp only[go_sem,simprocAttr,ho,x0,x1,e1,e2,pr]));try rfl)
 ·rfl
theorem zL5 {B:Nat} {L:List Bd} {I:List Pr} (h:RC B L I) (sy:Node→DV→Bool→Option DV) (n:Node) (hn:n.ok) (ho:n.op=6) (h0:0<n.kids.length) (k0:EvR B L I ((n.kids.getD 0 nd0).ev B L sy) (n.kids.getD 0 nd0)) (h1:1<n.kids.length) (k1:EvR B L I ((n.kids.getD 1 nd0).ev B L sy) (n.kids.getD 1 nd0)):EvR B L I (n.ev B L sy) n:=by
 intro a c df hf;rw[Node.ev_eq];unfold xb
 repeat rw[hZ (by rw[ho];decide)]
 rw[bA ho];obtain⟨v1,d1,b1,f1,e1,i1⟩:=k0.o df hf;rw[vo _ _ _ _ _ h0];have x0:=Yt h0;obtain⟨v2,d2,b2,f2,e2,i2⟩:=k1.o df hf;rw[vo _ _ _ _ _ h1];have x1:=Jx h1;have mi:=zHd;have pl:=fun S=>jr S (-1) B ((zBv h.b1).1.dec.mono (by have:=h.b2;omega));obtain⟨vm,dm,bm,fm,em,im⟩:=vp B (-1,0);rw[em]at pl;obtain⟨v3,d3,b3,f3,e3,i3⟩:=jM h.b2 im i2;obtain⟨v,d,b,f,ep,ip⟩:=zE5 h.b2 i1 i3;have pr:=fun S=>zF (S:=S) e3 (by simp[kH]);have su:=fun S=>zF (S:=S) ep (by simp[kH]);refine⟨v,d,b,f,?_,?_⟩
 rotate_left
 ·rw[VL (zBv h.b1),bI]at ip;have e : ∀x:DV,(((n.kids.getD 1 nd0).ev B L sy (a,c) df).bind fun y=>ka B (xd (-1,0) y)).bind (fun z=>ka B (YY x z))=((n.kids.getD 1 nd0).ev B L sy (a,c) df).bind fun y=>ka B (YY x (xd (-1,0) y)):=by
   intro x
   cases ey:(n.kids.getD 1 nd0).ev B L sy (a,c) df with
   | none=>rfl
   | some y =>
    rw[ey]at i2;obtain⟨_,_,_,_,g1,g2⟩:=i2;rw[bI,bI,VL (by rw[Vk];exact⟨VI g1,VI g2⟩),bI]
  simp only[e]at ip;exact ip
 apply FX.callV ok49_ 1000 rfl rfl
 ·unfold dc at *
  try unfold rrV rrL at *
  unfold zs yN at *;((repeat((conv=>lhs;whnf);simp only[go_sem,simprocAttr,ho,x0,x1,e1,e2,mi,pl,pr,su]));try rfl)
 ·rfl
theorem zL6 {B:Nat} {L:List Bd} {I:List Pr} (h:RC B L I) (sy:Node→DV→Bool→Option DV) (n:Node) (hn:n.ok) (ho:n.op=8) (h0:0<n.kids.length) (k0:EvR B L I ((n.kids.getD 0 nd0).ev B L sy) (n.kids.getD 0 nd0)) (h1:1<n.kids.length) (hc:vh (n.kids.getD 1 nd0).neg (n.kids.getD 1 nd0).num (n.kids.getD 1 nd0).den=true) (hz:(n.kids.getD 1 nd0).num.length≠0):EvR B L I (n.ev B L sy) n:=by
 intro a c df hf;rw[Node.ev_eq];unfold xb
 repeat rw[hZ (by rw[ho];decide)]
 rw[bA ho];obtain⟨v1,d1,b1,f1,e1,i1⟩:=k0.o df hf;rw[vo _ _ _ _ _ h0];have x0:=Yt h0;have x1:=Jx h1;have hk:=hn.kids _ (yA h1);obtain⟨q1,q2,q3⟩:=XS hc hk.val.n;have q3:=q3 hz;have of:=fun S=>JJ S q1 (q2.mono (by omega));have one:=zHc;have dv:=fun S=>zF (S:=S) (zD3 1 (ZT (n.kids.getD 1 nd0).num) ((VH (B:=1) (by omega)).dec.mono (by omega)) (q2.dec.mono (by omega)) q3) (by simp[jc]);rw[Rat.one_mul]at dv;have qi:wL (ZT (n.kids.getD 1 nd0).num)⁻¹ 20:=by
  obtain⟨r1,r2⟩:=Zw q3;have e:(ZT (n.kids.getD 1 nd0).num)⁻¹.num.natAbs=(ZT (n.kids.getD 1 nd0).num).den:=by
   rw[r1];split <;> simp
  exact⟨by rw[e];exact q2.2,by rw[r2];exact q2.1⟩
 have pl:=fun S=>jr S (ZT (n.kids.getD 1 nd0).num)⁻¹ B (qi.dec.mono (by omega));obtain⟨vm,dm,bm,fm,em,im⟩:=vp B ((ZT (n.kids.getD 1 nd0).num)⁻¹,0);rw[em]at pl;obtain⟨v,d,b,f,ep,ip⟩:=jM h.b2 im i1;have pr:=fun S=>zF (S:=S) ep (by simp[kH]);refine⟨v,d,b,f,?_,ip⟩;apply FX.callV ok49_ 1000 rfl rfl
 ·unfold dc at *
  try unfold rrV rrL at *
  unfold zs yN at *;((repeat((conv=>lhs;whnf);simp only[go_sem,simprocAttr,ho,x0,x1,e1,of,one,dv,pl,pr]));try rfl)
 ·rfl
theorem zJO {B:Nat} {L:List Bd} {I:List Pr} (h:RC B L I) (sy:Node→DV→Bool→Option DV) (n:Node) (hn:n.ok) (ho:n.op=12) (h0:0<n.kids.length) (k0:EvR B L I ((n.kids.getD 0 nd0).ev B L sy) (n.kids.getD 0 nd0)):EvR B L I (n.ev B L sy) n:=by
 intro a c df hf;rw[Node.ev_eq];unfold xb
 repeat rw[hZ (by rw[ho];decide)]
 rw[bA ho];obtain⟨v1,d1,b1,f1,e1,i1⟩:=k0.o true hf;rw[vo _ _ _ _ _ h0];have x0:=Yt h0
 cases ex:(n.kids.getD 0 nd0).ev B L sy (a,c) true with
 | none =>
  rw[ex]at i1;have ef:f1=true:=i1;subst ef;refine⟨v1,d1,b1,true,?_,rfl⟩;apply FX.callV ok49_ 1000 rfl rfl
  ·unfold dc at *
   try unfold rrV rrL at *
   unfold zs yN at *;((repeat((conv=>lhs;whnf);simp only[go_sem,simprocAttr,ho,x0,e1]));try rfl)
  ·rfl
 | some x =>
  rw[ex]at i1;obtain⟨rfl,rfl,rfl,rfl,g1,g2⟩:=i1;rw[bI];have pl:=fun S=>jr S x.2 B (g2.dec.mono (by have:=h.b2;omega));obtain⟨v,d,b,f,e,his⟩:=vp B (x.2,0);rw[e]at pl;refine⟨v,d,b,f,?_,his⟩;apply FX.callV ok49_ 1000 rfl rfl
  ·unfold dc at *
   try unfold rrV rrL at *
   unfold zs yN at *;((repeat((conv=>lhs;whnf);simp only[go_sem,simprocAttr,ho,x0,e1,pl]));try rfl)
  ·rfl
theorem zGg {B:Nat} {L:List Bd} {I:List Pr} (h:RC B L I) (sy:Node→DV→Bool→Option DV) (n:Node) (hn:n.ok) (ho:n.op=10) (hh:n.head=n.sym) (hk:0<n.kids.length→EvR B L I ((n.kids.getD 0 nd0).ev B L sy) (n.kids.getD 0 nd0)) {w:Node} (hw:qA I n.sym=some w) (kw:EvR B L I (sy n.sym) w):EvR B L I (n.ev B L sy) n:=by
 intro a c df hf;rw[Node.ev_eq];unfold xb
 repeat rw[hZ (by rw[ho];decide)]
 have hM:=fun S=>Vm S I h.okI h.len n hn;rw[hh,hw]at hM;unfold JI at hM;by_cases h0:0<n.kids.length
 ·rw[bA (by omega)];have x0:=Yt h0;have y0:(0:Int)<(n.kids.length:Int):=by omega
  obtain⟨v1,d1,b1,f1,e1,i1⟩:=(hk h0).o df hf;rw[vo _ _ _ _ _ h0]
  cases ex:(n.kids.getD 0 nd0).ev B L sy (a,c) df with
  | none =>
   rw[ex]at i1;have ef:f1=true:=i1;subst ef;refine⟨v1,d1,b1,true,?_,rfl⟩;apply FX.callV ok49_ 1000 rfl rfl
   ·unfold dc at *
    try unfold rrV rrL at *
    unfold zs yN at *;((repeat((conv=>lhs;whnf);simp only[go_sem,simprocAttr,ho,x0,hM,e1,zr]));try rfl)
   ·rfl
  | some x =>
   rw[ex]at i1;obtain⟨rfl,rfl,rfl,rfl,g1,g2⟩:=i1;rw[bI];obtain⟨v,d,b,f,e2,i2⟩:=kw.o df (a:=x.1) (c:=x.2) ⟨g1,g2⟩;refine⟨v,d,b,f,?_,i2⟩;apply FX.callV ok49_ 1000 rfl rfl
   ·unfold dc at *
    try unfold rrV rrL at *
    unfold zs yN at *;((repeat((conv=>lhs;whnf);simp only[go_sem,simprocAttr,ho,x0,hM,e1,e2,zr]));try rfl)
   ·rfl
 ·rw[hZ (by omega)];have y0 : ¬(0:Int)<(n.kids.length:Int):=by omega
  obtain⟨v,d,b,f,e2,i2⟩:=kw.o df hf;refine⟨v,d,b,f,?_,i2⟩;apply FX.callV ok49_ 1000 rfl rfl
  ·unfold dc at *
   try unfold rrV rrL at *
   unfold zs yN at *;((repeat((conv=>lhs;whnf);simp only[go_sem,simprocAttr,ho,y0,hM,e2,zr]));try rfl)
  ·rfl
theorem zGh {B:Nat} {L:List Bd} {I:List Pr} (h:RC B L I) (sy:Node→DV→Bool→Option DV) (n:Node) (hn:n.ok) (ho:n.op=11) (hh:n.head=n.sym) (hk:0<n.kids.length→EvR B L I ((n.kids.getD 0 nd0).ev B L sy) (n.kids.getD 0 nd0)) {w:Node} (hw:qA I n.sym=some w) (kw:EvR B L I (sy n.sym) w):EvR B L I (n.ev B L sy) n:=by
 intro a c df hf;rw[Node.ev_eq];unfold xb
 repeat rw[hZ (by rw[ho];decide)]
 have hM:=fun S=>Vm S I h.okI h.len n hn;rw[hh,hw]at hM;unfold JI at hM;by_cases h0:0<n.kids.length
 ·rw[bA (by omega)];have x0:=Yt h0;have y0:(0:Int)<(n.kids.length:Int):=by omega
  obtain⟨v1,d1,b1,f1,e1,i1⟩:=(hk h0).o df hf;rw[vo _ _ _ _ _ h0]
  cases ex:(n.kids.getD 0 nd0).ev B L sy (a,c) df with
  | none =>
   rw[ex]at i1;have ef:f1=true:=i1;subst ef;refine⟨v1,d1,b1,true,?_,rfl⟩;apply FX.callV ok49_ 1000 rfl rfl
   ·unfold dc at *
    try unfold rrV rrL at *
    unfold zs yN at *;((repeat((conv=>lhs;whnf);simp only[go_sem,simprocAttr,ho,x0,hM,e1,zr]));try rfl)
   ·rfl
  | some x =>
   rw[ex]at i1;obtain⟨rfl,rfl,rfl,rfl,g1,g2⟩:=i1;rw[bI];obtain⟨v,d,b,f,e2,i2⟩:=kw.o df (a:=x.1) (c:=x.2) ⟨g1,g2⟩;refine⟨v,d,b,f,?_,i2⟩;apply FX.callV ok49_ 1000 rfl rfl
   ·unfold dc at *
    try unfold rrV rrL at *
    unfold zs yN at *;((repeat((conv=>lhs;whnf);simp only[go_sem,simprocAttr,ho,x0,hM,e1,e2,zr]));try rfl)
   ·rfl
 ·rw[hZ (by omega)];have y0 : ¬(0:Int)<(n.kids.length:Int):=by omega
  obtain⟨v,d,b,f,e2,i2⟩:=kw.o df hf;refine⟨v,d,b,f,?_,i2⟩;apply FX.callV ok49_ 1000 rfl rfl
  ·unfold dc at *
   try unfold rrV rrL at *
   unfold zs yN at *;((repeat((conv=>lhs;whnf);simp only[go_sem,simprocAttr,ho,y0,hM,e2,zr]));try rfl)
  ·rfl
end
end
section
section
attribute [local irreducible] Vs.callL Vs.callRL tyi zO zl zf zR zW za zI zY zA zK zb zV zG zJ zU zn yI zm zL ze Vs.gc zH
theorem zL7 {B:Nat} (hB:B≤4096) (a:DV) (ha:jN B a) : ∀(k:Nat),k≤20→∀(r:Option DV) (v d:Rat) (b:Int) (f:Bool),IsD B r v d b f →
  ∃v' d' b' f',IsD B (r.bind (zE2 B a k)) v' d' b' f'∧∀X Y Z fs z,yB 0 zE6 1 fs [(10,.mp 2 0 0),(12,.undef),(13,.mp 4 0 0),(14,.undef),(197,.undef)] [X,Y,Z,.arr [dc a.1 a.2 B false] none false,.arr [dc v' d' b' f'] none false]=some z →
   zS 0 zE6 1 905969524 5 fs [(10,.mp 2 0 0),(12,.mp 3 0 0),(13,.mp 4 0 0),(14,.int .i64 k)] [X,Y,Z,.arr [dc a.1 a.2 B false] none false,.arr [dc v d b f] none false]=some z:=by
 intro k
 induction k with
 | zero =>
  intro _ r v d b f hr;refine⟨v,d,b,f,by cases r <;> exact hr,fun X Y Z fs z hz=>?_⟩;apply zC;(repeat((conv=>lhs;whnf);simp only[go_sem,simprocAttr]));exact hz
 | succ k ih =>
  intro hk r v d b f hr;cases r with
  | none =>
   have ef:f=true:=hr;subst ef;refine⟨v,d,b,true,rfl,fun X Y Z fs z hz=>?_⟩;have c1:(0:Int)<((k+1:Nat):Int):=by omega
   apply zC;unfold dc at *;unfold zs yN at *;(repeat((conv=>lhs;whnf);simp only[go_sem,simprocAttr,c1]));exact hz
  | some x =>
   have hr':=hr;obtain⟨_,_,_,ef,_⟩:=hr';subst ef;obtain⟨v1,d1,b1,f1,ep,ip⟩:=jM hB hr (show IsD B (some a) a.1 a.2 B false from⟨rfl,rfl,rfl,rfl,ha⟩);have pr:=fun S=>zF (S:=S) ep (by simp[kH]);obtain⟨v2,d2,b2,f2,i2,key⟩:=ih (by omega) _ v1 d1 b1 f1 ip;refine⟨v2,d2,b2,f2,i2,fun X Y Z fs z hz=>?_⟩;have key:=key X Y Z fs z hz;have c1:(0:Int)<((k+1:Nat):Int):=by omega
   have w1:IntKind.i64.wrap (((k+1:Nat):Int)-1)=(k:Int):=by rw[bE];omega
   apply zC;unfold dc at *;unfold zs yN at *;(repeat((conv=>lhs;whnf);simp only[go_sem,simprocAttr,c1,w1,pr]));exact key
theorem zL8 (fs:List Fr) {X Y Z W:Obj} (v d:Rat) (b:Int) : ∀k:Nat,∀z,yB 0 zE6 1 fs [(10,.mp 2 0 0),(12,.undef),(13,.mp 4 0 0),(14,.undef),(197,.undef)] [X,Y,Z,W,.arr [dc v d b true] none false]=some z →
   zS 0 zE6 1 905969524 5 fs [(10,.mp 2 0 0),(12,.mp 3 0 0),(13,.mp 4 0 0),(14,.int .i64 k)] [X,Y,Z,W,.arr [dc v d b true] none false]=some z:=by
 intro k z hz;cases k with
 | zero =>
  apply zC;(repeat((conv=>lhs;whnf);simp only[go_sem,simprocAttr]));exact hz
 | succ k =>
  have c1:(0:Int)<((k+1:Nat):Int):=by omega
  apply zC;unfold dc at *;unfold zs yN at *;(repeat((conv=>lhs;whnf);simp only[go_sem,simprocAttr,c1]));exact hz
theorem zL9 {B:Nat} {L:List Bd} {I:List Pr} (h:RC B L I) (sy:Node→DV→Bool→Option DV) (n:Node) (hn:n.ok) (ho:n.op=9) (h0:0<n.kids.length) (k0:EvR B L I ((n.kids.getD 0 nd0).ev B L sy) (n.kids.getD 0 nd0)) (h1:1<n.kids.length) (hz:0≤vS (n.kids.getD 1 nd0).num 20∧vS (n.kids.getD 1 nd0).num 20≤20):EvR B L I (n.ev B L sy) n:=by
 intro a c df hf;rw[Node.ev_eq];unfold xb
 repeat rw[hZ (by rw[ho];decide)]
 rw[bA ho];obtain⟨v1,d1,b1,f1,e1,i1⟩:=k0.o df hf;rw[vo _ _ _ _ _ h0];have x0:=Yt h0;have x1:=Jx h1;have hk:=hn.kids _ (yA h1);have na:=fun S=>Kj S _ hk 20;obtain⟨K,hK⟩ : ∃K:Nat,vS (n.kids.getD 1 nd0).num 20=(K:Int):=⟨(vS (n.kids.getD 1 nd0).num 20).toNat,by omega⟩;rw[hK]at na hz;rw[hK,bD];have one:=zHc;have f10:jN B (1,0):=⟨VH h.b1,uh h.b1⟩;have pl:=fun S=>jr S 1 B (f10.1.dec.mono (by have:=h.b2;omega));have ec:uu B (1,0)=dc 1 0 B false:=bA (by rw[vl.2 f10.1,vl.2 f10.2];rfl);rw[ec]at pl
 cases ex:(n.kids.getD 0 nd0).ev B L sy (a,c) df with
 | none =>
  rw[ex]at i1;have ef:f1=true:=i1;subst ef;refine⟨1,0,B,true,?_,rfl⟩;apply FX.callV ok49_ 1000 rfl rfl
  ·unfold dc at *
   try unfold rrV rrL at *
   unfold zs yN at *;(repeat((conv=>lhs;whnf);simp only[go_sem,simprocAttr,ho,x0,x1,e1,na,one,pl]));apply zL8;apply zN;unfold dc at *;unfold zs yN at *;((repeat((conv=>lhs;whnf);simp only[go_sem,simprocAttr]));try rfl)
  ·rfl
 | some x =>
  rw[ex]at i1;obtain⟨rfl,rfl,rfl,rfl,fx⟩:=i1;obtain⟨v,d,b,f,i2,key⟩:=zL7 h.b2 x fx K (by omega) (some (1,0)) 1 0 B false ⟨rfl,rfl,rfl,rfl,f10⟩;refine⟨v,d,b,f,?_,i2⟩;apply FX.callV ok49_ 1000 rfl rfl
  ·unfold dc at *
   try unfold rrV rrL at *
   unfold zs yN at *;(repeat((conv=>lhs;whnf);simp only[go_sem,simprocAttr,ho,x0,x1,e1,na,one,pl]));apply key;apply zN;((repeat((conv=>lhs;whnf);simp only[go_sem,simprocAttr]));try rfl)
  ·rfl
end
end
end Go.Vs
