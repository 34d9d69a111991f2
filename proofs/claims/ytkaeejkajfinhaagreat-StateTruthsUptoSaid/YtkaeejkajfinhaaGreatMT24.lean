
import Derived.Test.YtkaeejkajfinhaaGreatMT21
import Derived.Test.YtkaeejkajfinhaaGreatMT23
set_option linter.unusedVariables false
set_option linter.unusedSimpArgs false
set_option maxRecDepth 100000
namespace Go.Vs
open Go Go.Proofs
abbrev DV:=Rat × Rat
def Z1 (B:Nat) (q:Rat):Bool:=decide ((words q.num.natAbs).length≤B)&&decide ((words q.den).length≤B)
theorem uK {B:Nat} {q:Rat} : Z1 B q=true↔wH q B:=by simp[Z1,wH]
def kE (B:Nat) (x:DV):Prop:=wH x.1 B∧wH x.2 B
def kr (B:Nat) (x:DV):Option DV:=if (Z1 B x.1&&Z1 B x.2)=true then some x else none
def xh (x y:DV):DV:=(x.1*y.1,x.2*y.1+x.1*y.2)
def Ya (x y:DV):DV:=(x.1+y.1,x.2+y.2)
def zEl (B:Nat) (a:DV):Nat→DV→Option DV
 | 0,o=>some o
 | k+1,o=>(kr B (xh o a)).bind (zEl B a k)
theorem yA {B:Nat} {x y:DV} : kr B x=some y↔y=x∧kE B x:=by
 unfold kr kE;rw[←uK,←uK];by_cases h:(Z1 B x.1&&Z1 B x.2)=true
 ·rw[bA h];simp only[bO]at h;exact⟨fun e=>⟨(Option.some.inj e).symm,h⟩,fun e=>by rw[e.1]⟩
 ·rw[hZ h];simp only[bO]at h;exact⟨(fun e=>by cases e),fun e=>absurd e.2 h⟩
theorem vp {B B':Nat} (hB:B≤B') {x y:DV} (h:kr B x=some y):kr B' x=some y:=by
 rw[yA]at h ⊢;exact⟨h.1,h.2.1.mono hB,h.2.2.mono hB⟩
theorem zAQ {B B':Nat} (hB:B≤B') {a:DV} : ∀ {k:Nat} {o y:DV},zEl B a k o=some y→zEl B' a k o=some y
 | 0,_,_,h=>h
 | k+1,o,y,h=>by
  obtain⟨z,h1,h2⟩:=bM.1 h;exact bM.2 ⟨z,vp hB h1,zAQ hB h2⟩
theorem zEm {B:Nat} {a:DV} : ∀ {k:Nat} {o y:DV},kE B o→zEl B a k o=some y→kE B y
 | 0,_,_,ho,h=>by cases h;exact ho
 | k+1,o,y,ho,h=>by
  obtain⟨z,h1,h2⟩:=bM.1 h;obtain⟨rfl,h3⟩:=yA.1 h1;exact zEm h3 h2
theorem kZ {x y:DV} (hx:x.2=0) (hy:y.2=0):(xh x y).2=0:=by
 show x.2*y.1+x.1*y.2=0
 rw[hx,hy,Rat.zero_mul,Rat.mul_zero,Rat.add_zero]
theorem zAR {B:Nat} {a:DV} (ha:a.2=0) : ∀ {k:Nat} {o y:DV},o.2=0→zEl B a k o=some y→y.2=0
 | 0,_,_,ho,h=>by cases h;exact ho
 | k+1,o,y,ho,h=>by
  obtain⟨z,h1,h2⟩:=bM.1 h;obtain⟨rfl,h3⟩:=yA.1 h1;exact zAR ha (kZ ho ha) h2
def RV.rat (v:RV):Rat:=mkRat (sg v.neg (nv v.num)) (nv v.den)
def Z2 (l:List Int):Rat:=((nv l:Nat):Rat)
theorem Zp {v:RV} (h:v.fine):PV.agg v.cells=xT v.rat∧wH v.rat 400:=by
 obtain⟨q,h1,h2,h3,h4,h5⟩:=h.q;have e:v.rat=q:=by
  unfold RV.rat;rw[h2,h3,h4,Wy,Wy,show sg (yG q) q.num.natAbs=q.num from zLC q,Rat.mkRat_self]
 rw[e];exact⟨h1,h5⟩
theorem X9 {nu de:List Int} {ng:Bool} (h:vk ng nu de=true) (ho:OkD WB nu):PV.agg [.bool ng,.sl (zD .u32 nu) false,.sl (zD .u32 de) false]=xT (Z2 nu)∧wH (Z2 nu) 20∧(nu.length≠0→Z2 nu≠0):=by
 unfold vk at h;simp only[bO,BA,pC]at h;obtain⟨rfl,h1,h2,h3,h4⟩:=h;obtain rfl:=(YI h1).2 h2;have t:xb nu:=by
  unfold JE at h4;simp only[aU,pC]at h4
  rcases h4 with h | h
  ·exact .inl (pL h)
  ·exact .inr h
 have w:=t.words ho;have e1:(Z2 nu).num=(nv nu:Int):=rfl;have e2:(Z2 nu).den=1:=rfl;have e3:(Z2 nu).num.natAbs=nv nu:=by rw[e1];rfl
 have e4:decide ((Z2 nu).num<0)=false:=by rw[e1];simp
 refine⟨?_,⟨by rw[e3,←w];exact h3,by rw[e2,jF];decide⟩,fun h0 hz=>?_⟩
 ·unfold xT qE;rw[e3,e2,e4,←w,jF]
 ·have:nv nu=0:=by rw[←e3,hz];rfl
  rw[this]at w;exact h0 (by rw[w];exact yy.2 rfl)
def uS (st:List Bd) (nm:ByteArray):Rat:=(Zm nm st).rat
def wo (nm:ByteArray):ByteArray:=nm++⟨#[39]⟩
def xf (B:Nat) (st:List Bd) (sy:Node→DV→Bool→Option DV) (n:Node) (k0 k1:DV→Bool→Option DV) (dot:DV) (df:Bool):Option DV :=
 if n.op=1 then kr B (Z2 n.num,0)
 else if n.op=2 then kr B (uS st n.name,if df=true then uS st (wo n.name) else 0)
 else if n.op=3 then kr B (uS st (wo n.name),0)
 else if n.op=4 then (k0 dot df).bind fun x=>kr B (xh (-1,0) x)
 else if n.op=5 then (k0 dot df).bind fun x=>(k1 dot df).bind fun y=>kr B (Ya x y)
 else if n.op=6 then (k0 dot df).bind fun x=>(k1 dot df).bind fun y=>kr B (Ya x (xh (-1,0) y))
 else if n.op=7 then (k0 dot df).bind fun x=>(k1 dot df).bind fun y=>kr B (xh x y)
 else if n.op=8 then (kr B ((Z2 (n.kids.getD 1 nd0).num)⁻¹,0)).bind fun i=>(k0 dot df).bind fun x=>kr B (xh i x)
 else if n.op=9 then (k0 dot df).bind fun a=>zEl B a (vV (n.kids.getD 1 nd0).num 20).toNat (1,0)
 else if n.op=12 then (k0 dot true).bind fun x=>kr B (x.2,0)
 else if n.op=13 then some dot
 else if n.kids.length≠0 then (k0 dot df).bind fun d=>sy n.sym d df
 else sy n.sym dot df
mutual
def Node.ev (B:Nat) (st:List Bd) (sy:Node→DV→Bool→Option DV):Node→DV→Bool→Option DV
 | .mk a b c d e f=>xf B st sy (.mk a b c d e f) ((Node.evs B st sy f).getD 0 fun _ _=>none) ((Node.evs B st sy f).getD 1 fun _ _=>none)
def Node.evs (B:Nat) (st:List Bd) (sy:Node→DV→Bool→Option DV):List Node→List (DV→Bool→Option DV)
 | []=>[]
 | n::r=>n.ev B st sy::Node.evs B st sy r
end
def kv (B:Nat) (st:List Bd) (sy:Node→DV→Bool→Option DV) (l:List Node) (i:Nat):DV→Bool→Option DV:=(Node.evs B st sy l).getD i fun _ _=>none
theorem Node.ev_eq (B:Nat) (st:List Bd) (sy:Node→DV→Bool→Option DV) (n:Node):n.ev B st sy=xf B st sy n (kv B st sy n.kids 0) (kv B st sy n.kids 1):=by cases n;rfl
theorem vq (B:Nat) (st:List Bd) (sy:Node→DV→Bool→Option DV) : ∀(l:List Node) (i:Nat),i<l.length→kv B st sy l i=(l.getD i nd0).ev B st sy
 | [],i,h=>by simp at h
 | n::r,0,h=>rfl
 | n::r,i+1,h=>vq B st sy r i (by simpa using h)
theorem zGq (B:Nat) (st:List Bd) (sy:Node→DV→Bool→Option DV) : ∀(l:List Node) (i:Nat),l.length≤i→kv B st sy l i=fun _ _=>none
 | [],i,h=>by simp[kv,Node.evs]
 | n::r,0,h=>by simp at h
 | n::r,i+1,h=>zGq B st sy r i (by simpa using h)
theorem zCH {P:(DV→Bool→Option DV)→Prop} {B:Nat} {st:List Bd} {sy:Node→DV→Bool→Option DV} (l:List Node) (i:Nat) (h0:P fun _ _=>none) (h : ∀k∈l,P (k.ev B st sy)):P (kv B st sy l i):=by
 by_cases hi:i<l.length
 ·rw[vq _ _ _ _ _ hi];exact h _ (zu hi)
 ·rw[zGq _ _ _ _ _ (by omega)];exact h0
theorem zJ9 {B B':Nat} (hB:B≤B') {st:List Bd} {sy sy':Node→DV→Bool→Option DV} (hs : ∀s d f x,sy s d f=some x→sy' s d f=some x) (n:Node) {k0 k1 l0 l1:DV→Bool→Option DV} (m0 : ∀d f x,k0 d f=some x→l0 d f=some x) (m1 : ∀d f x,k1 d f=some x→l1 d f=some x) (d:DV) (f:Bool) (x:DV) (h:xf B st sy n k0 k1 d f=some x):xf B' st sy' n l0 l1 d f=some x:=by
 unfold xf at h ⊢;by_cases c:n.op=1
 ·rw[bA c]at h ⊢;exact vp hB h
 rw[hZ c]at h ⊢;clear c;by_cases c:n.op=2
 ·rw[bA c]at h ⊢;exact vp hB h
 rw[hZ c]at h ⊢;clear c;by_cases c:n.op=3
 ·rw[bA c]at h ⊢;exact vp hB h
 rw[hZ c]at h ⊢;clear c;by_cases c:n.op=4
 ·rw[bA c]at h ⊢;obtain⟨x1,h1,h2⟩:=bM.1 h;exact bM.2 ⟨x1,m0 _ _ _ h1,vp hB h2⟩
 rw[hZ c]at h ⊢;clear c;by_cases c:n.op=5
 ·rw[bA c]at h ⊢;obtain⟨x1,h1,h'⟩:=bM.1 h;obtain⟨x2,h2,h3⟩:=bM.1 h';exact bM.2 ⟨x1,m0 _ _ _ h1,bM.2 ⟨x2,m1 _ _ _ h2,vp hB h3⟩⟩
 rw[hZ c]at h ⊢;clear c;by_cases c:n.op=6
 ·rw[bA c]at h ⊢;obtain⟨x1,h1,h'⟩:=bM.1 h;obtain⟨x2,h2,h3⟩:=bM.1 h';exact bM.2 ⟨x1,m0 _ _ _ h1,bM.2 ⟨x2,m1 _ _ _ h2,vp hB h3⟩⟩
 rw[hZ c]at h ⊢;clear c;by_cases c:n.op=7
 ·rw[bA c]at h ⊢;obtain⟨x1,h1,h'⟩:=bM.1 h;obtain⟨x2,h2,h3⟩:=bM.1 h';exact bM.2 ⟨x1,m0 _ _ _ h1,bM.2 ⟨x2,m1 _ _ _ h2,vp hB h3⟩⟩
 rw[hZ c]at h ⊢;clear c;by_cases c:n.op=8
 ·rw[bA c]at h ⊢;obtain⟨x1,h1,h'⟩:=bM.1 h;obtain⟨x2,h2,h3⟩:=bM.1 h';exact bM.2 ⟨x1,vp hB h1,bM.2 ⟨x2,m0 _ _ _ h2,vp hB h3⟩⟩
 rw[hZ c]at h ⊢;clear c;by_cases c:n.op=9
 ·rw[bA c]at h ⊢;obtain⟨x1,h1,h2⟩:=bM.1 h;exact bM.2 ⟨x1,m0 _ _ _ h1,zAQ hB h2⟩
 rw[hZ c]at h ⊢;clear c;by_cases c:n.op=12
 ·rw[bA c]at h ⊢;obtain⟨x1,h1,h2⟩:=bM.1 h;exact bM.2 ⟨x1,m0 _ _ _ h1,vp hB h2⟩
 rw[hZ c]at h ⊢;clear c;by_cases c:n.op=13
 ·rw[bA c]at h ⊢;exact h
 rw[hZ c]at h ⊢;clear c;by_cases c:n.kids.length≠0
 ·rw[bA c]at h ⊢;obtain⟨x1,h1,h2⟩:=bM.1 h;exact bM.2 ⟨x1,m0 _ _ _ h1,hs _ _ _ _ h2⟩
 rw[hZ c]at h ⊢;clear c;exact hs _ _ _ _ h
theorem zCI {B B':Nat} (hB:B≤B') {st:List Bd} {sy sy':Node→DV→Bool→Option DV} (hs : ∀s d f x,sy s d f=some x→sy' s d f=some x) : ∀n:Node,∀d f x,n.ev B st sy d f=some x→n.ev B' st sy' d f=some x:=by
 refine Node.ind' fun n ih d f x h=>?_;have mono : ∀i d f x,kv B st sy n.kids i d f=some x→kv B' st sy' n.kids i d f=some x:=by
  intro i d f x hx;by_cases hi:i<n.kids.length
  ·rw[vq _ _ _ _ _ hi]at hx ⊢;exact ih _ (zu hi) d f x hx
  ·rw[zGq _ _ _ _ _ (by omega)]at hx;cases hx
 rw[Node.ev_eq]at h ⊢;exact zJ9 hB hs n (mono 0) (mono 1) d f x h
theorem V1 {B:Nat} (h:1≤B):wH 1 B:=by
 have e:(words 1).length=1:=by rw[jF];rfl
 exact⟨by show (words 1).length≤B;omega,by show (words 1).length≤B;omega⟩
theorem ul {B:Nat} (h:1≤B):wH 0 B:=by
 have e:(words 1).length=1:=by rw[jF];rfl
 have e0:(words 0).length=0:=yy.2 rfl;exact⟨by show (words 0).length≤B;omega,by show (words 1).length≤B;omega⟩
def Zq (B:Nat) (g:DV→Bool→Option DV):Prop:=∀d f x,kE B d→g d f=some x→kE B x
theorem ka {B:Nat} (hB0:1≤B) {st:List Bd} {sy:Node→DV→Bool→Option DV} (hs : ∀s,Vs.Zq B (sy s)) : ∀n:Node,Vs.Zq B (n.ev B st sy):=by
 refine Node.ind' fun n ih d f x hd h=>?_;have m0:Vs.Zq B (kv B st sy n.kids 0):=zCH _ _ (fun _ _ _ _ h=>(by cases h)) ih;have m1:Vs.Zq B (kv B st sy n.kids 1):=zCH _ _ (fun _ _ _ _ h=>(by cases h)) ih;rw[Node.ev_eq]at h;unfold xf at h;by_cases c:n.op=1
 ·rw[bA c]at h;exact (yA.1 h).1 ▸ (yA.1 h).2
 rw[hZ c]at h;clear c;by_cases c:n.op=2
 ·rw[bA c]at h;exact (yA.1 h).1 ▸ (yA.1 h).2
 rw[hZ c]at h;clear c;by_cases c:n.op=3
 ·rw[bA c]at h;exact (yA.1 h).1 ▸ (yA.1 h).2
 rw[hZ c]at h;clear c;by_cases c:n.op=4
 ·rw[bA c]at h;obtain⟨x1,h1,h2⟩:=bM.1 h;exact (yA.1 h2).1 ▸ (yA.1 h2).2
 rw[hZ c]at h;clear c;by_cases c:n.op=5
 ·rw[bA c]at h;obtain⟨x1,h1,h'⟩:=bM.1 h;obtain⟨x2,h2,h3⟩:=bM.1 h';exact (yA.1 h3).1 ▸ (yA.1 h3).2
 rw[hZ c]at h;clear c;by_cases c:n.op=6
 ·rw[bA c]at h;obtain⟨x1,h1,h'⟩:=bM.1 h;obtain⟨x2,h2,h3⟩:=bM.1 h';exact (yA.1 h3).1 ▸ (yA.1 h3).2
 rw[hZ c]at h;clear c;by_cases c:n.op=7
 ·rw[bA c]at h;obtain⟨x1,h1,h'⟩:=bM.1 h;obtain⟨x2,h2,h3⟩:=bM.1 h';exact (yA.1 h3).1 ▸ (yA.1 h3).2
 rw[hZ c]at h;clear c;by_cases c:n.op=8
 ·rw[bA c]at h;obtain⟨x1,h1,h'⟩:=bM.1 h;obtain⟨x2,h2,h3⟩:=bM.1 h';exact (yA.1 h3).1 ▸ (yA.1 h3).2
 rw[hZ c]at h;clear c;by_cases c:n.op=9
 ·rw[bA c]at h;obtain⟨x1,h1,h2⟩:=bM.1 h;exact zEm ⟨V1 hB0,ul hB0⟩ h2
 rw[hZ c]at h;clear c;by_cases c:n.op=12
 ·rw[bA c]at h;obtain⟨x1,h1,h2⟩:=bM.1 h;exact (yA.1 h2).1 ▸ (yA.1 h2).2
 rw[hZ c]at h;clear c;by_cases c:n.op=13
 ·rw[bA c]at h
  cases h;exact hd
 rw[hZ c]at h;clear c;by_cases c:n.kids.length≠0
 ·rw[bA c]at h;obtain⟨x1,h1,h2⟩:=bM.1 h;exact hs _ _ _ _ (m0 _ _ _ hd h1) h2
 rw[hZ c]at h;clear c;exact hs _ _ _ _ hd h
def kq (g:DV→Bool→Option DV):Prop:=∀(d x:DV),d.2=0→g d false=some x→x.2=0
theorem wO {B:Nat} {st:List Bd} {sy:Node→DV→Bool→Option DV} (hs : ∀s,kq (sy s)) : ∀n:Node,kq (n.ev B st sy):=by
 refine Node.ind' fun n ih d x hd h=>?_;have m0:kq (kv B st sy n.kids 0):=zCH _ _ (fun _ _ _ h=>(by cases h)) ih;have m1:kq (kv B st sy n.kids 1):=zCH _ _ (fun _ _ _ h=>(by cases h)) ih;rw[Node.ev_eq]at h;unfold xf at h;by_cases c:n.op=1
 ·rw[bA c]at h;rw[(yA.1 h).1]
 rw[hZ c]at h;clear c;by_cases c:n.op=2
 ·rw[bA c]at h;rw[(yA.1 h).1];rfl
 rw[hZ c]at h;clear c;by_cases c:n.op=3
 ·rw[bA c]at h;rw[(yA.1 h).1]
 rw[hZ c]at h;clear c;by_cases c:n.op=4
 ·rw[bA c]at h;obtain⟨x1,h1,h2⟩:=bM.1 h;rw[(yA.1 h2).1];exact kZ rfl (m0 _ _ hd h1)
 rw[hZ c]at h;clear c;by_cases c:n.op=5
 ·rw[bA c]at h;obtain⟨x1,h1,h'⟩:=bM.1 h;obtain⟨x2,h2,h3⟩:=bM.1 h';rw[(yA.1 h3).1]
  show x1.2+x2.2=0
  rw[m0 _ _ hd h1,m1 _ _ hd h2,Rat.add_zero]
 rw[hZ c]at h;clear c;by_cases c:n.op=6
 ·rw[bA c]at h;obtain⟨x1,h1,h'⟩:=bM.1 h;obtain⟨x2,h2,h3⟩:=bM.1 h';rw[(yA.1 h3).1]
  show x1.2+(xh (-1,0) x2).2=0
  rw[m0 _ _ hd h1,kZ rfl (m1 _ _ hd h2),Rat.add_zero]
 rw[hZ c]at h;clear c;by_cases c:n.op=7
 ·rw[bA c]at h;obtain⟨x1,h1,h'⟩:=bM.1 h;obtain⟨x2,h2,h3⟩:=bM.1 h';rw[(yA.1 h3).1];exact kZ (m0 _ _ hd h1) (m1 _ _ hd h2)
 rw[hZ c]at h;clear c;by_cases c:n.op=8
 ·rw[bA c]at h;obtain⟨x1,h1,h'⟩:=bM.1 h;obtain⟨x2,h2,h3⟩:=bM.1 h';rw[(yA.1 h3).1];exact kZ ((yA.1 h1).1 ▸ rfl) (m0 _ _ hd h2)
 rw[hZ c]at h;clear c;by_cases c:n.op=9
 ·rw[bA c]at h;obtain⟨x1,h1,h2⟩:=bM.1 h;exact zAR (m0 _ _ hd h1) rfl h2
 rw[hZ c]at h;clear c;by_cases c:n.op=12
 ·rw[bA c]at h;obtain⟨x1,h1,h2⟩:=bM.1 h;rw[(yA.1 h2).1]
 rw[hZ c]at h;clear c;by_cases c:n.op=13
 ·rw[bA c]at h
  cases h;exact hd
 rw[hZ c]at h;clear c;by_cases c:n.kids.length≠0
 ·rw[bA c]at h;obtain⟨x1,h1,h2⟩:=bM.1 h;exact hs _ _ _ (m0 _ _ hd h1) h2
 rw[hZ c]at h;clear c;exact hs _ _ _ hd h
theorem V2 {B:Nat} {q:Rat} (h:wH q B):wH (-q) B:=by
 unfold wH at *;rw[PS,Rat.neg_den,Int.natAbs_neg];exact h
theorem UG (x:DV):xh (-1,0) x=(-x.1,-x.2):=by
 show (-1*x.1,0*x.1 + -1*x.2)=_
 rw[Rat.neg_mul,Rat.one_mul,Rat.zero_mul,Rat.zero_add,Rat.neg_mul,Rat.one_mul]
theorem zGr (i:Rat) (x:DV):xh (i,0) x=(x.1*i,x.2*i):=by
 show (i*x.1,0*x.1+i*x.2)=_
 rw[Rat.zero_mul,Rat.zero_add,Rat.mul_comm i,Rat.mul_comm i]
def known (I:List Pr) (s:Node):Bool:=I.any fun p=>decide (p.what.cmp s=0)
def kO:List Pr→Node→Option Node
 | [],_=>none
 | p::r,s=>if p.what.cmp s=0 then some p.wth else kO r s
theorem J6 : ∀(I:List Pr) (s:Node),known I s=true→∃w,kO I s=some w∧∃p∈I,p.wth=w∧p.what.cmp s=0
 | [],s,h=>by simp[known]at h
 | p::r,s,h=>by
  unfold kO;by_cases c:p.what.cmp s=0
  ·exact⟨p.wth,by rw[bA c],p,by simp,rfl,c⟩
  ·have h':known r s=true:=by
    unfold known at h ⊢
    rwa [BB,bH c,bZ]at h
   obtain⟨w,h1,q,h2,h3⟩:=J6 r s h';exact⟨w,by rw[hZ c];exact h1,q,by simp[h2],h3⟩
def Un:Node→DV→Bool→Option DV:=fun _ _ _=>none
def Y5 (B:Nat) (st:List Bd) (I:List Pr) (s:Node):DV→Bool→Option DV:=match kO I s with
 | some w=>w.ev B st Un
 | none=>fun _ _=>none
def val (B:Nat) (st:List Bd) (I:List Pr) (n:Node):DV→Bool→Option DV:=n.ev B st (Y5 B st I)
theorem zGs {B B':Nat} (hB:B≤B') {st:List Bd} {I:List Pr} (s:Node) (d:DV) (f:Bool) (x:DV) (h:Y5 B st I s d f=some x):Y5 B' st I s d f=some x:=by
 unfold Y5 at h ⊢
 cases e:kO I s with
 | none=>rw[e]at h;cases h
 | some w=>rw[e]at h;exact zCI hB (fun _ _ _ _ h=>h) w d f x h
theorem zLn {B B':Nat} (hB:B≤B') {st:List Bd} {I:List Pr} {n:Node} {d:DV} {f:Bool} {x:DV} (h:val B st I n d f=some x):val B' st I n d f=some x:=zCI hB (zGs hB) n d f x h
theorem zAS {B:Nat} (hB:1≤B) (st:List Bd) (I:List Pr) (s:Node):Vs.Zq B (Y5 B st I s):=by
 unfold Y5;cases kO I s with
 | none=>exact fun _ _ _ _ h=>(by cases h)
 | some w=>exact ka hB (fun _ _ _ _ _ h=>(by cases h)) w
theorem J7 (B:Nat) (st:List Bd) (I:List Pr) (s:Node):kq (Y5 B st I s):=by
 unfold Y5;cases kO I s with
 | none=>exact fun _ _ _ h=>(by cases h)
 | some w=>exact wO (fun _ _ _ _ h=>(by cases h)) w
section
theorem WW:(tyi Tryz.prog 80).d=.struct [(0,3,true),(3,3,true),(6,1,false),(7,1,false)]:=by kernel_rfl
@[go_sem] theorem zNw:(tyi Tryz.prog 80).size=8:=nr (by kernel_rfl)
@[go_sem] theorem zLo:(tyi Tryz.prog 80).known=true:=nr (by kernel_rfl)
@[go_sem] theorem zHu:(tyi Tryz.prog 80).zero=some [.bool false,.sl [] true,.sl [] true,.bool false,.sl [] true,.sl [] true,.int .i64 0,.bool false]:=nr (by kernel_rfl)
@[go_sem] theorem zSk (n:Nat):zU (tyi Tryz.prog 80) n=some {v:=.mp n 0 0,new:=some ([[.bool false,.sl [] true,.sl [] true,.bool false,.sl [] true,.sl [] true,.int .i64 0,.bool false]],none)} := nr (by unfold zU;rw[zHu];rfl)
@[go_sem] theorem zSl (l:List (Nat × PV)):zV Tryz.prog 80 l=(qP [(0,3,true),(3,3,true),(6,1,false),(7,1,false)] [.bool false,.sl [] true,.sl [] true,.bool false,.sl [] true,.sl [] true,.int .i64 0,.bool false] l).map .agg:=nr (by unfold zV;rw[WW];dsimp only;unfold zb;rw[WW,zHu];rfl)
theorem zLp (row:List PV):part (tyi Tryz.prog 80) row=if 8≤row.length then some (.agg (row.take 8)) else none:=by simp[part,zLo,TI.isAgg,WW,zNw]
@[go_sem] theorem zUP (id i off:Nat):zA (tyi Tryz.prog 80) 0 (.mp id i off)=some (.mp id i (off+0)):=by simp[zA,WW]
@[go_sem] theorem zUQ (r:List PV):zA (tyi Tryz.prog 80) 0 (.cp r)=some (.cp (r.drop 0)):=by simp[zA,WW]
@[go_sem] theorem zUR (cs:List PV):zK (tyi Tryz.prog 80) 0 (.agg cs)=if 0+3≤cs.length then some (.agg ((cs.drop 0).take 3)) else none:=by simp[zK,WW]
@[go_sem] theorem zUS (id i off:Nat):zA (tyi Tryz.prog 80) 1 (.mp id i off)=some (.mp id i (off+3)):=by simp[zA,WW]
@[go_sem] theorem zUT (r:List PV):zA (tyi Tryz.prog 80) 1 (.cp r)=some (.cp (r.drop 3)):=by simp[zA,WW]
@[go_sem] theorem zUU (cs:List PV):zK (tyi Tryz.prog 80) 1 (.agg cs)=if 3+3≤cs.length then some (.agg ((cs.drop 3).take 3)) else none:=by simp[zK,WW]
@[go_sem] theorem zUV (id i off:Nat):zA (tyi Tryz.prog 80) 2 (.mp id i off)=some (.mp id i (off+6)):=by simp[zA,WW]
@[go_sem] theorem zUW (r:List PV):zA (tyi Tryz.prog 80) 2 (.cp r)=some (.cp (r.drop 6)):=by simp[zA,WW]
@[go_sem] theorem zUX (cs:List PV):zK (tyi Tryz.prog 80) 2 (.agg cs)=cs[6]? := by simp[zK,WW]
@[go_sem] theorem zUY (id i off:Nat):zA (tyi Tryz.prog 80) 3 (.mp id i off)=some (.mp id i (off+7)):=by simp[zA,WW]
@[go_sem] theorem zUZ (r:List PV):zA (tyi Tryz.prog 80) 3 (.cp r)=some (.cp (r.drop 7)):=by simp[zA,WW]
@[go_sem] theorem zU0 (cs:List PV):zK (tyi Tryz.prog 80) 3 (.agg cs)=cs[7]? := by simp[zK,WW]
attribute [go_sem] zLp
def dc (v d:Rat) (b:Int) (f:Bool):List PV:=[.bool (yG v),zg v.num.natAbs,zg v.den,.bool (yG d),zg d.num.natAbs,zg d.den,.int .i64 b,.bool f]
theorem um (v d:Rat) (b:Int) (f:Bool):zi (.agg (dc v d b f)):=⟨rfl,fun _=>rfl⟩
def IsD (B:Nat) (r:Option DV) (v d:Rat) (b:Int) (f:Bool):Prop:=match r with
 | some x=>v=x.1∧d=x.2∧b=B∧f=false∧kE B x
 | none=>f=true
theorem zLq (S:zB) (q:Rat) (hq:wn q 1000000):zO (callL Tryz.prog zE) S 32 [rrV q]=some {v:=xT q} := zF (JB q hq) (by simp[vN])
theorem zAT (S:zB) (q:Rat) (B:Nat):zO (callL Tryz.prog zE) S 136 [xT q,.int .i64 B]=some {v:=.bool (Z1 B q)} := zF (by rw[Js];simp[Z1]) (by simp[wU,zi.int])
theorem V3 (S:zB):zO (callL Tryz.prog zE) S 51 []=some {v:=rrV 0} := zF YN (by simp)
theorem zHv (S:zB):zO (callL Tryz.prog zE) S 34 []=some {v:=rrV 1} := zF zDj (by simp)
theorem zCJ (S:zB) (q r:Rat) (hq:wn q 300000) (hr:wn r 300000):zO (callL Tryz.prog zE) S 138 [rrV q,rrV r]=some {v:=rrV (q*r)} := zF (UX q r hq hr) (by simp[vN])
theorem zCK (S:zB) (q r:Rat) (hq:wn q 300000) (hr:wn r 300000):zO (callL Tryz.prog zE) S 139 [rrV q,rrV r]=some {v:=rrV (q+r)} := zF (UY q r hq hr) (by simp[vN])
theorem Y6 {B:Nat} (hB:B≤4096) {q:Rat} (h:wH q B):wn q 300000:=h.dec.mono (by omega)
section
attribute [local irreducible] Vs.callL Vs.callRL tyi zO zk zf zQ zW zZ zI zX zA zK zb zV zG zJ zU zs yL zr zL za Vs.gc zH
noncomputable def zQD:FX:=⟨Tryz.f137,zE.of 137,[]⟩
instance ok137_:zQD.ok 137:=FX.mk'
theorem zJa:callL Tryz.prog zE 137 []=some (.agg (dc 0 0 0 true)):=by
 have z:=V3;apply FX.callV ok137_ 1000 rfl rfl
 ·unfold rrV rrL zg yI at *;((repeat((conv=>lhs;whnf);simp only[go_sem,simprocAttr,z]));try rfl)
 ·rfl
theorem zCL (S:zB):zO (callL Tryz.prog zE) S 137 []=some {v:=.agg (dc 0 0 0 true)} := zF zJa (by simp)
noncomputable def zSm:FX:=⟨Tryz.f90,zE.of 90,[]⟩
instance ok90_:zSm.ok 90:=FX.mk'
def kD (B:Nat) (x:DV):List PV:=if (Z1 B x.1&&Z1 B x.2)=true then dc x.1 x.2 B false else dc 0 0 0 true
theorem vr (B:Nat) (x:DV) : ∃v d b f,kD B x=dc v d b f∧IsD B (kr B x) v d b f:=by
 unfold kD
 cases e:kr B x with
 | some y =>
  obtain⟨rfl,h⟩:=yA.1 e;have:(Z1 B y.1&&Z1 B y.2)=true:=by rw[uK.2 h.1,uK.2 h.2];rfl
  exact⟨_,_,_,_,bA this,rfl,rfl,rfl,rfl,h⟩
 | none =>
  have : ¬(Z1 B x.1&&Z1 B x.2)=true:=fun h=>by
   unfold kr at e;rw[bA h]at e;cases e
  exact⟨_,_,_,_,hZ this,rfl⟩
theorem zEn (v d:Rat) (B:Nat) (hv:wn v 1000000) (hd:wn d 1000000):callL Tryz.prog zE 90 [.agg (dc v d B false)]=some (.agg (kD B (v,d))):=by
 have t1:=fun S=>zLq S v hv;have t2:=fun S=>zLq S d hd;have s1:=fun S=>zAT S v B;have s2:=fun S=>zAT S d B;have lo:=zCL;unfold kD;dsimp only
 cases e1:Z1 B v
 ·rw[e1]at s1;rw[bB,hZ (by simp)];apply FX.callV ok90_ 1000 rfl rfl
  ·unfold dc at *;unfold xT qE at *;unfold rrV rrL zg yI at *;((repeat((conv=>lhs;whnf);simp only[go_sem,simprocAttr,t1,s1,lo]));try rfl)
  ·rfl
 rw[e1]at s1
 cases e2:Z1 B d
 ·rw[e2]at s2;rw[bQ,hZ (by simp)];apply FX.callV ok90_ 1000 rfl rfl
  ·unfold dc at *;unfold xT qE at *;unfold rrV rrL zg yI at *;((repeat((conv=>lhs;whnf);simp only[go_sem,simprocAttr,t1,s1,t2,s2,lo]));try rfl)
  ·rfl
 rw[e2]at s2;rw[sC,bA rfl];apply FX.callV ok90_ 1000 rfl rfl
 ·unfold dc at *;unfold xT qE at *;unfold rrV rrL zg yI at *;((repeat((conv=>lhs;whnf);simp only[go_sem,simprocAttr,t1,s1,t2,s2,lo]));try rfl)
 ·rfl
theorem XF (S:zB) (v d:Rat) (B:Nat) (hv:wn v 1000000) (hd:wn d 1000000):zO (callL Tryz.prog zE) S 90 [.agg (dc v d B false)]=some {v:=.agg (kD B (v,d))} := zF (zEn v d B hv hd) (by simp[um])
noncomputable def zSn:FX:=⟨Tryz.f50,zE.of 50,[]⟩
instance ok50_:zSn.ok 50:=FX.mk'
theorem J8 (S:zB) (B:Nat) (x:DV):vD S (.agg (kD B x))=some (.agg (kD B x)):=by
 obtain⟨v,d,b,f,h,_⟩:=vr B x;rw[h];rfl
theorem UH (B:Nat) (x:DV):(kD B x).length=8:=by
 obtain⟨v,d,b,f,h,_⟩:=vr B x;rw[h];rfl
theorem WX (B:Nat) (x:DV):(kD B x).all PV.cell=true:=by
 obtain⟨v,d,b,f,h,_⟩:=vr B x;rw[h];rfl
theorem WY (B:Nat) (x:DV):(kD B x).take 8=kD B x:=by
 obtain⟨v,d,b,f,h,_⟩:=vr B x;rw[h];rfl
theorem zGt (v:Rat) (B:Nat) (hv:wn v 1000000):callL Tryz.prog zE 50 [rrV v,.int .i64 B]=some (.agg (kD B (v,0))):=by
 have z:=V3;have lo:=fun S=>XF S v 0 B hv ((ul (B:=1) (by omega)).dec.mono (by omega));have l1:=UH B (v,0);have l2:=WX B (v,0);have l3:=WY B (v,0);have l4:=fun S=>J8 S B (v,0);generalize kD B (v,0)=C at *;apply FX.callV ok50_ 1000 rfl rfl
 ·unfold dc at *;unfold rrV rrL zg yI at *;((repeat((conv=>lhs;whnf);simp only[go_sem,simprocAttr,z,lo,l1,l2,l3]));try rfl)
 ·exact l4 _
theorem jz (S:zB) (v:Rat) (B:Nat) (hv:wn v 1000000):zO (callL Tryz.prog zE) S 50 [rrV v,.int .i64 B]=some {v:=.agg (kD B (v,0))} := zF (zGt v B hv) (by simp[vN,zi.int])
end
end
section
theorem zUt {n d k:Nat} {neg:Bool} (hd:d≠0) (h1:(dec n).length≤k) (h2:(dec d).length≤k):wn (mkRat (sg neg n) d) k:=by
 unfold wn;rw[zBA hd,zBB hd,Zf];exact⟨bP (wx DB2 (BE _ _)) h1,bP (wx DB2 (BE _ _)) h2⟩
theorem zOa {q r:Rat} {j k:Nat} (hq:wn q j) (hr:wn r k):wn (q*r) (j+k):=by
 rw[WO];exact zUt (PU q.den_nz r.den_nz) (kT hq.1 hr.1) (kT hq.2 hr.2)
theorem zLr {q r:Rat} {j:Nat} (hq:wn q j) (hr:wn r j):wn (q+r) (2*j+1):=by
 rw[vU];have hX:(dec (q.num.natAbs*r.den)).length≤2*j:=by have:=kT hq.1 hr.2;omega
 have hY:(dec (r.num.natAbs*q.den)).length≤2*j:=by have:=kT hr.1 hq.2;omega
 have hD:(dec (q.den*r.den)).length≤2*j:=by have:=kT hq.2 hr.2;omega
 generalize q.num.natAbs*r.den=X at *;generalize r.num.natAbs*q.den=Y at *;have hd:=PU q.den_nz r.den_nz;generalize q.den*r.den=D at *;generalize yG q=b;generalize yG r=c;have hN:(sg b X+sg c Y).natAbs≤X+Y:=by
  have:=Int.natAbs_add_le (sg b X) (sg c Y)
  rwa [Zf,Zf]at this
 have hS:=zHh hX hY;have hS':=bP (wx DB2 hN) hS;unfold wn;rw[zBA hd,zBB hd];exact⟨bP (wx DB2 (BE _ _)) hS',bP (wx DB2 (BE _ _)) (by show (dec D).length≤_;omega)⟩
section
attribute [local irreducible] Vs.callL Vs.callRL tyi zO zk zf zQ zW zZ zI zX zA zK zb zV zG zJ zU zs yL zr zL za Vs.gc zH
noncomputable def zSo:FX:=⟨Tryz.f91,zE.of 91,[]⟩
instance ok91_:zSo.ok 91:=FX.mk'
theorem jT {B:Nat} (hB:B≤4096) {r1 r2:Option DV} {v1 d1 v2 d2:Rat} {b1 b2:Int} {f1 f2:Bool} (h1:IsD B r1 v1 d1 b1 f1) (h2:IsD B r2 v2 d2 b2 f2) : ∃v d b f,callL Tryz.prog zE 91 [.agg (dc v1 d1 b1 f1),.agg (dc v2 d2 b2 f2)]=some (.agg (dc v d b f))∧IsD B (r1.bind fun x=>r2.bind fun y=>kr B (xh x y)) v d b f:=by
 have lo:=zCL;cases r1 with
 | none =>
  have e1:f1=true:=h1;subst e1;refine⟨0,0,0,true,?_,rfl⟩;apply FX.callV ok91_ 1000 rfl rfl
  ·unfold dc at *;unfold zg yI at *;((repeat((conv=>lhs;whnf);simp only[go_sem,simprocAttr,lo]));try rfl)
  ·rfl
 | some x =>
 obtain⟨rfl,rfl,rfl,rfl,g1,g2⟩:=h1;cases r2 with
 | none =>
  have e1:f2=true:=h2;subst e1;refine⟨0,0,0,true,?_,rfl⟩;apply FX.callV ok91_ 1000 rfl rfl
  ·unfold dc at *;unfold zg yI at *;((repeat((conv=>lhs;whnf);simp only[go_sem,simprocAttr,lo]));try rfl)
  ·rfl
 | some y =>
 obtain⟨rfl,rfl,rfl,rfl,g3,g4⟩:=h2;have m1:=fun S=>zCJ S x.1 y.1 (Y6 hB g1) (Y6 hB g3);have m2:=fun S=>zCJ S x.2 y.1 (Y6 hB g2) (Y6 hB g3);have m3:=fun S=>zCJ S x.1 y.2 (Y6 hB g1) (Y6 hB g4);have k:=fun q r (hq:wH q B) (hr:wH r B)=>zOa (hq.dec.mono (show 3*B≤12288 by omega)) (hr.dec.mono (show 3*B≤12288 by omega));have a1:=fun S=>zCK S (x.2*y.1) (x.1*y.2) ((k _ _ g2 g3).mono (by omega)) ((k _ _ g1 g4).mono (by omega));have q1:wn (xh x y).1 1000000:=(k _ _ g1 g3).mono (by omega);have q2:wn (xh x y).2 1000000:=(zLr (k _ _ g2 g3) (k _ _ g1 g4)).mono (by omega);have lk:=fun S=>XF S (xh x y).1 (xh x y).2 B q1 q2;have lk' : ∀S,zO (callL Tryz.prog zE) S 90 [.agg (dc (x.1*y.1) (x.2*y.1+x.1*y.2) B false)]=some {v:=.agg (kD B (xh x y))} := lk;obtain⟨v,d,b,f,e,his⟩:=vr B (xh x y);refine⟨v,d,b,f,?_,his⟩;have l1:=UH B (xh x y);have l2:=WX B (xh x y);have l3:=WY B (xh x y);have l4:=fun S=>J8 S B (xh x y);rw[←e];generalize kD B (xh x y)=C at *;apply FX.callV ok91_ 1000 rfl rfl
 ·unfold dc at *;unfold rrV rrL zg yI at *;((repeat((conv=>lhs;whnf);simp only[go_sem,simprocAttr,m1,m2,m3,a1,lk',l1,l2,l3]));try rfl)
 ·exact l4 _
noncomputable def zSp:FX:=⟨Tryz.f92,zE.of 92,[]⟩
instance ok92_:zSp.ok 92:=FX.mk'
theorem zEo {B:Nat} (hB:B≤4096) {r1 r2:Option DV} {v1 d1 v2 d2:Rat} {b1 b2:Int} {f1 f2:Bool} (h1:IsD B r1 v1 d1 b1 f1) (h2:IsD B r2 v2 d2 b2 f2) : ∃v d b f,callL Tryz.prog zE 92 [.agg (dc v1 d1 b1 f1),.agg (dc v2 d2 b2 f2)]=some (.agg (dc v d b f))∧IsD B (r1.bind fun x=>r2.bind fun y=>kr B (Ya x y)) v d b f:=by
 have lo:=zCL;cases r1 with
 | none =>
  have e1:f1=true:=h1;subst e1;refine⟨0,0,0,true,?_,rfl⟩;apply FX.callV ok92_ 1000 rfl rfl
  ·unfold dc at *;unfold zg yI at *;((repeat((conv=>lhs;whnf);simp only[go_sem,simprocAttr,lo]));try rfl)
  ·rfl
 | some x =>
 obtain⟨rfl,rfl,rfl,rfl,g1,g2⟩:=h1;cases r2 with
 | none =>
  have e1:f2=true:=h2;subst e1;refine⟨0,0,0,true,?_,rfl⟩;apply FX.callV ok92_ 1000 rfl rfl
  ·unfold dc at *;unfold zg yI at *;((repeat((conv=>lhs;whnf);simp only[go_sem,simprocAttr,lo]));try rfl)
  ·rfl
 | some y =>
 obtain⟨rfl,rfl,rfl,rfl,g3,g4⟩:=h2;have k:=fun q (hq:wH q B)=>hq.dec.mono (show 3*B≤12288 by omega);have a1:=fun S=>zCK S x.1 y.1 (Y6 hB g1) (Y6 hB g3);have a2:=fun S=>zCK S x.2 y.2 (Y6 hB g2) (Y6 hB g4);have q1:wn (Ya x y).1 1000000:=(zLr (k _ g1) (k _ g3)).mono (by omega);have q2:wn (Ya x y).2 1000000:=(zLr (k _ g2) (k _ g4)).mono (by omega);have lk:=fun S=>XF S (Ya x y).1 (Ya x y).2 B q1 q2;have lk' : ∀S,zO (callL Tryz.prog zE) S 90 [.agg (dc (x.1+y.1) (x.2+y.2) B false)]=some {v:=.agg (kD B (Ya x y))} := lk;obtain⟨v,d,b,f,e,his⟩:=vr B (Ya x y);refine⟨v,d,b,f,?_,his⟩;have l1:=UH B (Ya x y);have l2:=WX B (Ya x y);have l3:=WY B (Ya x y);have l4:=fun S=>J8 S B (Ya x y);rw[←e];generalize kD B (Ya x y)=C at *;apply FX.callV ok92_ 1000 rfl rfl
 ·unfold dc at *;unfold rrV rrL zg yI at *;((repeat((conv=>lhs;whnf);simp only[go_sem,simprocAttr,a1,a2,lk',l1,l2,l3]));try rfl)
 ·exact l4 _
end
end
section
def U5 (r:Option Node):PV:=match r with
 | some w=>.tup [.agg w.cells,.bool true]
 | none=>.tup [.agg nd0.cells,.bool false]
theorem zAU {I:List Pr} {i:Nat} (h:i<I.length) (s:Node):kO (I.drop i) s=if (I.getD i pr0).what.cmp s=0 then some (I.getD i pr0).wth else kO (I.drop (i+1)) s:=by
 rw[VX h];rfl
mutual
def Node.unk (I:List Pr):Node→Bool
 | .mk o nm ng nu de f=>decide (o=13)||((yO o&&(kO I (Node.mk o nm ng nu de f).head).isNone)||Node.unks I f)
def Node.unks (I:List Pr):List Node→Bool
 | []=>false
 | n::r=>n.unk I||Node.unks I r
end
theorem Node.unk_eq (I:List Pr) (n:Node):n.unk I=(decide (n.op=13)||((yO n.op&&(kO I n.head).isNone)||Node.unks I n.kids)):=by cases n;rfl
theorem zLs (S:zB) (e:Env) (k:Nat) (h:k=S.length):Vs.gc k e S=S:=by
 unfold Vs.gc
 split
 ·rw[h,SC]
 ·rfl
theorem zSq {P:PV→zB→Prop} {x:Option (PV × zB)} {r:PV} {S':zB} (h:x=some (r,S')) (k:P r S') : ∃r S',x=some (r,S')∧P r S':=⟨r,S',h,k⟩
section
attribute [local irreducible] Vs.callL Vs.callRL tyi zO zk zf zQ zW zZ zI zX zA zK zb zV zG zJ zU zs yL zr zL za Vs.gc zH
noncomputable def zOb:FX:=⟨Tryz.f88,zE.of 88,[]⟩
instance ok88_:zOb.ok 88:=FX.mk'
theorem zCM (I:List Pr) (hI : ∀p∈I,p.ok) (hl:I.length≤60) (n hd:Node) (hh:hd.ok) : ∀(m i:Nat),i+m=I.length →
  ∃r S',zT 0 zOb 0 116 3 [.blk 0,.seq 0 15] [(1,.sl (zY I) false),(4,.mp 1 0 0),(6,.mp 2 0 0),(7,.int .i64 i)] [.arr [n.cells] none false,.arr [[.int .i64 0,.str ⟨#[]⟩,.bool false,.sl [] true,.sl [] true,.sl [] true]] none false,.arr [hd.cells] none false]=some (r,S')∧vD S' r=some (U5 (kO (I.drop i) hd)):=by
 intro m
 induction m with
 | zero =>
  intro i hi;have h1 : ¬(i:Int)<(I.length:Int):=by omega
  rw[bW (by omega)];apply zSq
  ·apply zC;(repeat((conv=>lhs;whnf);simp only[go_sem,simprocAttr,h1]));apply zN;((repeat((conv=>lhs;whnf);simp only[go_sem,simprocAttr,vn]));try rfl)
  ·rfl
 | succ m hm =>
  intro i hi;have h1:(i:Int)<(I.length:Int):=by omega
  have h2:=zh (i:=i) (n:=I.length) (by omega) (by unfold maxLen;omega);have h4:0≤(i:Int)∧(i:Int)<(I.length:Int):=⟨by omega,h1⟩;have hp:=hI _ (vc (I:=I) (i:=i) (by omega));have hE:=fun S=>zEX S _ hd hp.what hh;rw[zAU (by omega)];by_cases c:(I.getD i pr0).what.cmp hd=0
  ·rw[bA c];apply zSq
   ·apply zC;((repeat((conv=>lhs;whnf);simp only[go_sem,simprocAttr,h1,h4,bD,hE,c]));try rfl)
   ·exact zL2 _ _ _
  ·rw[hZ c];obtain⟨r,S',k1,k2⟩:=hm (i+1) (by omega);refine⟨r,S',?_,k2⟩;apply zC;(repeat((conv=>lhs;whnf);simp only[go_sem,simprocAttr,h1,h2,h4,bD,hE,c]));exact k1
theorem zCN (I:List Pr) (hI : ∀p∈I,p.ok) (hl:I.length≤60) (n:Node) (hn:n.ok):callL Tryz.prog zE 88 [.agg n.cells,.sl (zY I) false]=some (U5 (kO I n.head)):=by
 obtain⟨r,S',k1,k2⟩:=zCM I hI hl n n.head (zHn hn) I.length 0 (by omega);rw[pA]at k2;have hd:=fun S=>zPu S n;apply FX.callV (r:=(r,S')) ok88_ 1000 rfl rfl
 ·(repeat((conv=>lhs;whnf);simp only[go_sem,simprocAttr,hd]));exact k1
 ·exact k2
theorem Xa (S:zB) (I:List Pr) (hI : ∀p∈I,p.ok) (hl:I.length≤60) (n:Node) (hn:n.ok):zO (callL Tryz.prog zE) S 88 [.agg n.cells,.sl (zY I) false]=some {v:=U5 (kO I n.head)} := zF (zCN I hI hl n hn) (by simp[Node.plain,zi.sl])
noncomputable def zOc:FX:=⟨Tryz.f48,zE.of 48,[]⟩
instance ok48_:zOc.ok 48:=FX.mk'
theorem V4 (I:List Pr) (X:zB) (n:Node) (hn:n.ok) (ih : ∀k∈n.kids,callL Tryz.prog zE 48 [.agg k.cells,.sl (zY I) false]=some (.bool (k.unk I))) : ∀(m i:Nat),i+m=n.kids.length →
  ∃S',zT 0 zOc 0 244 (X.length+1) [.blk 0,.seq 0 31] [(1,.sl (zY I) false),(2,.mp 0 0 0),(7,.int .i64 i)] (.arr [n.cells] none false::X)=some (.bool (Node.unks I (n.kids.drop i)),S'):=by
 intro m;have hG:=fun e=>zLs (.arr [n.cells] none false::X) e (X.length+1) rfl
 induction m with
 | zero =>
  intro i hi;have h1 : ¬(i:Int)<(n.kids.length:Int):=by omega
  rw[bW (by omega)];apply Exists.intro;apply zC;(repeat((conv=>lhs;whnf);simp only[go_sem,simprocAttr,h1,hG]));apply zN;unfold Node.unks;((repeat((conv=>lhs;whnf);simp only[go_sem,simprocAttr]));try rfl)
 | succ m hm =>
  intro i hi;have h1:(i:Int)<(n.kids.length:Int):=by omega
  have h2:=zh (i:=i) (n:=n.kids.length) (by omega) hn.len;have h4:0≤(i:Int)∧(i:Int)<(n.kids.length:Int):=⟨by omega,h1⟩;have h5:=fun S=>zF (S:=S) (ih _ (zu (l:=n.kids) (i:=i) (by omega))) (by simp[Node.plain,zi.sl]);obtain⟨S',key⟩:=hm (i+1) (by omega);have h7:Node.unks I (n.kids.drop i)=((n.kids.getD i nd0).unk I||Node.unks I (n.kids.drop (i+1))):=by rw[xP (l:=n.kids) (i:=i) (by omega)];rfl
  rw[h7]
  cases hd:(n.kids.getD i nd0).unk I
  case true =>
   rw[hd]at h5;rw[pI];apply Exists.intro;apply zC;((repeat((conv=>lhs;whnf);simp only[go_sem,simprocAttr,h1,h4,h5]));try rfl)
  case false =>
   rw[hd]at h5;rw[bZ];refine⟨S',?_⟩;apply zC;(repeat((conv=>lhs;whnf);simp only[go_sem,simprocAttr,h1,h2,h4,h5,hG]));exact key
theorem zCO (I:List Pr) (hI : ∀p∈I,p.ok) (hl:I.length≤60) : ∀n:Node,n.ok→callL Tryz.prog zE 48 [.agg n.cells,.sl (zY I) false]=some (.bool (n.unk I)):=by
 refine Node.ind' fun n ih hn=>?_;have hs:=fun S=>vl S n;have hM:=fun S=>Xa S I hI hl n hn;rw[Node.unk_eq];by_cases h13:n.op=13
 ·rw[bG h13,pI];apply FX.callB2 ok48_ 1000 rfl rfl;((repeat((conv=>lhs;whnf);simp only[go_sem,simprocAttr,h13]));try rfl)
 rw[bH h13,bZ]
 cases e:yO n.op
 ·rw[e]at hs;obtain⟨S',h⟩:=V4 I [] n hn (fun k hk'=>ih k hk' (hn.kids k hk')) n.kids.length 0 (by omega);rw[pA]at h;rw[bB,bZ];apply FX.callB2 ok48_ 1000 rfl rfl;(repeat((conv=>lhs;whnf);simp only[go_sem,simprocAttr,h13,hs]));exact h
 rw[e]at hs;rw[bC]
 cases em:kO I n.head with
 | none =>
  rw[em]at hM;unfold U5 at hM;rw[Option.isNone_none,pI];apply FX.callB2 ok48_ 1000 rfl rfl;((repeat((conv=>lhs;whnf);simp only[go_sem,simprocAttr,h13,hs,hM,zn]));try rfl)
 | some w =>
  rw[em]at hM;unfold U5 at hM;rw[Option.isNone_some,bZ];obtain⟨S',h⟩:=V4 I [.arr [w.cells] none false] n hn (fun k hk'=>ih k hk' (hn.kids k hk')) n.kids.length 0 (by omega);rw[pA]at h;apply FX.callB2 ok48_ 1000 rfl rfl;(repeat((conv=>lhs;whnf);simp only[go_sem,simprocAttr,h13,hs,hM,zn]));exact h
theorem Xb (S:zB) (I:List Pr) (hI : ∀p∈I,p.ok) (hl:I.length≤60) (n:Node) (hn:n.ok):zO (callL Tryz.prog zE) S 48 [.agg n.cells,.sl (zY I) false]=some {v:=.bool (n.unk I)} := zF (zCO I hI hl n hn) (by simp[Node.plain,zi.sl])
end
end
section
structure RC (B:Nat) (L:List Bd) (I:List Pr):Prop where
 b1:1≤B
 b2:B≤4096
 okL:WT L
 val:Y9 L=true
 okI : ∀p∈I,p.ok
 len:I.length≤60
section
variable {B:Nat} {L:List Bd} {I:List Pr} (h:RC B L I)
include h
theorem RC.good : ∀b∈L,b.good:=(JO.1 h.val).2.1
theorem RC.llen:L.length≤1000000:=by have:=(JO.1 h.val).1;omega
end
def EvR (B:Nat) (L:List Bd) (I:List Pr) (g:DV→Bool→Option DV) (w:Node):Prop:=∀(a c:Rat) (df:Bool),kE B (a,c)→∃v d b f,callL Tryz.prog zE 49 [.agg w.cells,.sl (ya L) false,.sl (zY I) false,.agg (dc a c B false),.bool df]=some (.agg (dc v d b f))∧IsD B (g (a,c) df) v d b f
theorem EvR.o {B:Nat} {L:List Bd} {I:List Pr} {g:DV→Bool→Option DV} {w:Node} (h:EvR B L I g w) {a c:Rat} (df:Bool) (hf:kE B (a,c)) : ∃v d b f,(∀S,zO (callL Tryz.prog zE) S 49 [.agg w.cells,.sl (ya L) false,.sl (zY I) false,.agg (dc a c B false),.bool df]=some {v:=.agg (dc v d b f)})∧IsD B (g (a,c) df) v d b f:=by
 obtain⟨v,d,b,f,h1,h2⟩:=h a c df hf;exact⟨v,d,b,f,fun S=>zF h1 (by simp[Node.plain,zi.sl,um,zi.bool]),h2⟩
theorem J9 (S:zB) {c:List PV} {q:Rat} (h:PV.agg c=xT q) (hq:wH q 100000):zO (callL Tryz.prog zE) S 89 [.agg c]=some {v:=rrV q} := zF (by rw[h];exact zGC q hq) (by rw[h];simp[wU])
theorem zQE:zg 1=.sl [[.int .i64 1]] false:=by unfold zg yI;rw[zGA];rfl
theorem zGu:callL Tryz.prog zE 33 [.int .i64 (-1)]=some (rrV (-1)):=by
 have e:rrV (-1)=.agg [.bool true,.sl [[.int .i64 1]] false,.sl [[.int .i64 1]] false]:=by
  unfold rrV rrL;rw[show yG (-1)=true from rfl,show (-1:Rat).num.natAbs=1 from rfl,show (-1:Rat).den=1 from rfl,zQE]
 rw[e];exact Qd (n:=60) (by kernel_rfl)
theorem zHw (S:zB):zO (callL Tryz.prog zE) S 33 [.int .i64 (-1)]=some {v:=rrV (-1)} := zF zGu (by simp[zi.int])
theorem zCP (ti:TI) (a b:ByteArray) (h:a.size+b.size≤9223372036854775807):xQ .add ti (.str a) (.str b)=some (.str (a++b)):=by
 show (if a.size+b.size≤9223372036854775807 then some (PV.str (a++b)) else none)=_
 rw[bA h]
theorem Xc (ti:TI) {nm:ByteArray} (h:yT nm=true):xQ .add ti (.str nm) (.str ⟨#[39]⟩)=some (.str (wo nm)):=by
 refine zCP ti nm ⟨#[39]⟩ ?_;have e:(⟨#[39]⟩:ByteArray).size=1:=rfl;rw[e];unfold yT at h;simp only[bO,pC]at h;omega
theorem zSr {B:Nat} (h:1≤B) (q:Rat) (hq:wH q B):kE B (q,0):=⟨hq,ul h⟩
theorem V5 {B:Nat} {x:DV} (h:kE B x):kr B x=some x:=yA.2 ⟨rfl,h⟩
section
attribute [local irreducible] Vs.callL Vs.callRL tyi zO zk zf zQ zW zZ zI zX zA zK zb zV zG zJ zU zs yL zr zL za Vs.gc zH
theorem Ja (S:zB) (v d:Rat) (b:Int):zO (callL Tryz.prog zE) S 90 [.agg (dc v d b true)]=some {v:=.agg (dc 0 0 0 true)} := by
 refine zF ?_ (by simp[um]);have lo:=zCL;apply FX.callV ok90_ 1000 rfl rfl
 ·unfold dc at *;unfold zg yI at *;((repeat((conv=>lhs;whnf);simp only[go_sem,simprocAttr,lo]));try rfl)
 ·rfl
noncomputable def zEp:FX:=⟨Tryz.f49,zE.of 49,[]⟩
instance ok49_:zEp.ok 49:=FX.mk'
theorem zLt {B:Nat} {L:List Bd} {I:List Pr} (h:RC B L I) (sy:Node→DV→Bool→Option DV) (n:Node) (hn:n.ok) (ho:n.op=1) (hc:vk n.neg n.num n.den=true):EvR B L I (n.ev B L sy) n:=by
 intro a c df hf;rw[Node.ev_eq];unfold xf;rw[bA ho];obtain⟨q1,q2,_⟩:=X9 hc hn.val.n;have of:=fun S=>J9 S q1 (q2.mono (by omega));have pl:=fun S=>jz S (Z2 n.num) B (q2.dec.mono (by omega));obtain⟨v,d,b,f,e,his⟩:=vr B (Z2 n.num,0);rw[e]at pl;refine⟨v,d,b,f,?_,his⟩;apply FX.callV ok49_ 1000 rfl rfl
 ·unfold dc at *;unfold rrV rrL zg yI at *;((repeat((conv=>lhs;whnf);simp only[go_sem,simprocAttr,ho,of,pl]));try rfl)
 ·rfl
theorem zGv {B:Nat} {L:List Bd} {I:List Pr} (h:RC B L I) (sy:Node→DV→Bool→Option DV) (n:Node) (hn:n.ok) (ho:n.op=3) (hnm:yT n.name=true):EvR B L I (n.ev B L sy) n:=by
 intro a c df hf;rw[Node.ev_eq];unfold xf
 repeat rw[hZ (by rw[ho];decide)]
 rw[bA ho];obtain⟨q1,q2⟩:=Zp (jp (nm:=wo n.name) h.okL h.good);have ad:=fun ti=>Xc ti hnm;have gt:=fun S=>zBk S L (wo n.name) h.llen;have of:=fun S=>J9 S q1 (q2.mono (by omega));have pl:=fun S=>jz S (uS L (wo n.name)) B (q2.dec.mono (by omega));obtain⟨v,d,b,f,e,his⟩:=vr B (uS L (wo n.name),0);rw[e]at pl;refine⟨v,d,b,f,?_,his⟩;unfold uS at *;apply FX.callV ok49_ 1000 rfl rfl
 ·unfold dc at *;unfold rrV rrL zg yI at *;((repeat((conv=>lhs;whnf);simp only[go_sem,simprocAttr,ho,ad,gt,of,pl]));try rfl)
 ·rfl
theorem zLu {B:Nat} {L:List Bd} {I:List Pr} (h:RC B L I) (sy:Node→DV→Bool→Option DV) (n:Node) (hn:n.ok) (ho:n.op=13):EvR B L I (n.ev B L sy) n:=by
 intro a c df hf;rw[Node.ev_eq];unfold xf
 repeat rw[hZ (by rw[ho];decide)]
 rw[bA ho];refine⟨a,c,B,false,?_,rfl,rfl,rfl,rfl,hf⟩;apply FX.callV ok49_ 1000 rfl rfl
 ·unfold dc at *;unfold zg yI at *;((repeat((conv=>lhs;whnf);simp only[go_sem,simprocAttr,ho]));try rfl)
 ·rfl
theorem zLv {B:Nat} {L:List Bd} {I:List Pr} (h:RC B L I) (sy:Node→DV→Bool→Option DV) (n:Node) (hn:n.ok) (ho:n.op=2) (hnm:yT n.name=true):EvR B L I (n.ev B L sy) n:=by
 intro a c df hf;rw[Node.ev_eq];unfold xf;rw[hZ (by rw[ho];decide)];rw[bA ho];obtain⟨q1,q2⟩:=Zp (jp (nm:=n.name) h.okL h.good);have gt:=fun S=>zBk S L n.name h.llen;have of:=fun S=>J9 S q1 (q2.mono (by omega));have pl:=fun S=>jz S (uS L n.name) B (q2.dec.mono (by omega));obtain⟨p1,p2⟩:=Zp (jp (nm:=wo n.name) h.okL h.good);have ad:=fun ti=>Xc ti hnm;have gt2:=fun S=>zBk S L (wo n.name) h.llen;have of2:=fun S=>J9 S p1 (p2.mono (by omega));have z:=ul h.b1;by_cases hq:wH (uS L n.name) B
 ·have e1:kD B (uS L n.name,0)=dc (uS L n.name) 0 B false:=bA (by rw[uK.2 hq,uK.2 z];rfl);rw[e1]at pl;cases df
  ·rw[hZ (by simp)];have lk:=fun S=>XF S (uS L n.name) 0 B (q2.dec.mono (by omega)) (z.dec.mono (by have:=h.b2;omega));rw[e1]at lk;refine⟨uS L n.name,0,B,false,?_,?_⟩
   ·apply FX.callV (v:=.agg (dc (uS L n.name) 0 B false)) ok49_ 1000 rfl rfl
    ·unfold uS at *;unfold dc at *;unfold rrV rrL zg yI at *;((repeat((conv=>lhs;whnf);simp only[go_sem,simprocAttr,ho,gt,of,pl,lk]));try rfl)
    ·rfl
   ·rw[V5 (zSr h.b1 _ hq)];exact⟨rfl,rfl,rfl,rfl,hq,z⟩
  ·rw[bA rfl];have lk:=fun S=>XF S (uS L n.name) (uS L (wo n.name)) B (q2.dec.mono (by omega)) (p2.dec.mono (by omega));obtain⟨v,d,b,f,e,his⟩:=vr B (uS L n.name,uS L (wo n.name));rw[e]at lk;refine⟨v,d,b,f,?_,his⟩;apply FX.callV ok49_ 1000 rfl rfl
   ·unfold uS at *;unfold dc at *;unfold rrV rrL zg yI at *;((repeat((conv=>lhs;whnf);simp only[go_sem,simprocAttr,ho,gt,of,pl,ad,gt2,of2,lk]));try rfl)
   ·rfl
 ·have hq':Z1 B (uS L n.name)=false:=by
   cases e:Z1 B (uS L n.name)
   ·rfl
   ·exact absurd (uK.1 e) hq
  have e1:kD B (uS L n.name,0)=dc 0 0 0 true:=hZ (by rw[hq'];simp);rw[e1]at pl;have e2:kr B (uS L n.name,if df=true then uS L (wo n.name) else 0)=none:=hZ (by rw[hq'];simp);rw[e2];refine⟨0,0,0,true,?_,rfl⟩;cases df
  ·have lk:=fun S=>Ja S 0 0 0;apply FX.callV ok49_ 1000 rfl rfl
   ·unfold uS at *;unfold dc at *;unfold rrV rrL zg yI at *;((repeat((conv=>lhs;whnf);simp only[go_sem,simprocAttr,ho,gt,of,pl,lk]));try rfl)
   ·rfl
  ·have lk:=fun S=>Ja S 0 (uS L (wo n.name)) 0;apply FX.callV ok49_ 1000 rfl rfl
   ·unfold uS at *;unfold dc at *;unfold rrV rrL zg yI at *;((repeat((conv=>lhs;whnf);simp only[go_sem,simprocAttr,ho,gt,of,pl,ad,gt2,of2,lk]));try rfl)
   ·rfl
end
end
section
theorem zCQ {B:Nat} (h:1≤B):kE B (-1,0):=⟨V2 (V1 h),ul h⟩
theorem qa {n:Node} (h:0<n.kids.length):0≤(0:Int)∧(0:Int)<(n.kids.length:Int):=⟨by omega,by omega⟩
theorem V6 {n:Node} (h:1<n.kids.length):0≤(1:Int)∧(1:Int)<(n.kids.length:Int):=⟨by omega,by omega⟩
section
attribute [local irreducible] Vs.callL Vs.callRL tyi zO zk zf zQ zW zZ zI zX zA zK zb zV zG zJ zU zs yL zr zL za Vs.gc zH
theorem zLw {B:Nat} {L:List Bd} {I:List Pr} (h:RC B L I) (sy:Node→DV→Bool→Option DV) (n:Node) (hn:n.ok) (ho:n.op=4) (h0:0<n.kids.length) (k0:EvR B L I ((n.kids.getD 0 nd0).ev B L sy) (n.kids.getD 0 nd0)):EvR B L I (n.ev B L sy) n:=by
 intro a c df hf;rw[Node.ev_eq];unfold xf
 repeat rw[hZ (by rw[ho];decide)]
 rw[bA ho];obtain⟨v1,d1,b1,f1,e1,i1⟩:=k0.o df hf;rw[vq _ _ _ _ _ h0];have x0:=qa h0;have mi:=zHw;have pl:=fun S=>jz S (-1) B ((zCQ h.b1).1.dec.mono (by have:=h.b2;omega));obtain⟨vm,dm,bm,fm,em,im⟩:=vr B (-1,0);rw[em]at pl;obtain⟨v,d,b,f,ep,ip⟩:=jT h.b2 im i1;rw[V5 (zCQ h.b1),bI]at ip;have pr:=fun S=>zF (S:=S) ep (by simp[um]);refine⟨v,d,b,f,?_,ip⟩;apply FX.callV ok49_ 1000 rfl rfl
 ·unfold dc at *
  try unfold rrV rrL at *
  unfold zg yI at *;((repeat((conv=>lhs;whnf);simp only[go_sem,simprocAttr,ho,x0,e1,mi,pl,pr]));try rfl)
 ·rfl
theorem zLx {B:Nat} {L:List Bd} {I:List Pr} (h:RC B L I) (sy:Node→DV→Bool→Option DV) (n:Node) (hn:n.ok) (ho:n.op=5) (h0:0<n.kids.length) (k0:EvR B L I ((n.kids.getD 0 nd0).ev B L sy) (n.kids.getD 0 nd0)) (h1:1<n.kids.length) (k1:EvR B L I ((n.kids.getD 1 nd0).ev B L sy) (n.kids.getD 1 nd0)):EvR B L I (n.ev B L sy) n:=by
 intro a c df hf;rw[Node.ev_eq];unfold xf
 repeat rw[hZ (by rw[ho];decide)]
 rw[bA ho];obtain⟨v1,d1,b1,f1,e1,i1⟩:=k0.o df hf;rw[vq _ _ _ _ _ h0];have x0:=qa h0;obtain⟨v2,d2,b2,f2,e2,i2⟩:=k1.o df hf;rw[vq _ _ _ _ _ h1];have x1:=V6 h1;obtain⟨v,d,b,f,ep,ip⟩:=zEo h.b2 i1 i2;have pr:=fun S=>zF (S:=S) ep (by simp[um]);refine⟨v,d,b,f,?_,ip⟩;apply FX.callV ok49_ 1000 rfl rfl
 ·unfold dc at *
  try unfold rrV rrL at *
  unfold zg yI at *;((repeat((conv=>lhs;whnf);simp only[go_sem,simprocAttr,ho,x0,x1,e1,e2,pr]));try rfl)
 ·rfl
theorem zLy {B:Nat} {L:List Bd} {I:List Pr} (h:RC B L I) (sy:Node→DV→Bool→Option DV) (n:Node) (hn:n.ok) (ho:n.op=7) (h0:0<n.kids.length) (k0:EvR B L I ((n.kids.getD 0 nd0).ev B L sy) (n.kids.getD 0 nd0)) (h1:1<n.kids.length) (k1:EvR B L I ((n.kids.getD 1 nd0).ev B L sy) (n.kids.getD 1 nd0)):EvR B L I (n.ev B L sy) n:=by
 intro a c df hf;rw[Node.ev_eq];unfold xf
 repeat rw[hZ (by rw[ho];decide)]
 rw[bA ho];obtain⟨v1,d1,b1,f1,e1,i1⟩:=k0.o df hf;rw[vq _ _ _ _ _ h0];have x0:=qa h0;obtain⟨v2,d2,b2,f2,e2,i2⟩:=k1.o df hf;rw[vq _ _ _ _ _ h1];have x1:=V6 h1;obtain⟨v,d,b,f,ep,ip⟩:=jT h.b2 i1 i2;have pr:=fun S=>zF (S:=S) ep (by simp[um]);refine⟨v,d,b,f,?_,ip⟩;apply FX.callV ok49_ 1000 rfl rfl
 ·unfold dc at *
  try unfold rrV rrL at *
  unfold zg yI at *;((repeat((conv=>lhs;whnf);simp only[go_sem,simprocAttr,ho,x0,x1,e1,e2,pr]));try rfl)
 ·rfl
theorem zLz {B:Nat} {L:List Bd} {I:List Pr} (h:RC B L I) (sy:Node→DV→Bool→Option DV) (n:Node) (hn:n.ok) (ho:n.op=6) (h0:0<n.kids.length) (k0:EvR B L I ((n.kids.getD 0 nd0).ev B L sy) (n.kids.getD 0 nd0)) (h1:1<n.kids.length) (k1:EvR B L I ((n.kids.getD 1 nd0).ev B L sy) (n.kids.getD 1 nd0)):EvR B L I (n.ev B L sy) n:=by
 intro a c df hf;rw[Node.ev_eq];unfold xf
 repeat rw[hZ (by rw[ho];decide)]
 rw[bA ho];obtain⟨v1,d1,b1,f1,e1,i1⟩:=k0.o df hf;rw[vq _ _ _ _ _ h0];have x0:=qa h0;obtain⟨v2,d2,b2,f2,e2,i2⟩:=k1.o df hf;rw[vq _ _ _ _ _ h1];have x1:=V6 h1;have mi:=zHw;have pl:=fun S=>jz S (-1) B ((zCQ h.b1).1.dec.mono (by have:=h.b2;omega));obtain⟨vm,dm,bm,fm,em,im⟩:=vr B (-1,0);rw[em]at pl;obtain⟨v3,d3,b3,f3,e3,i3⟩:=jT h.b2 im i2;obtain⟨v,d,b,f,ep,ip⟩:=zEo h.b2 i1 i3;have pr:=fun S=>zF (S:=S) e3 (by simp[um]);have su:=fun S=>zF (S:=S) ep (by simp[um]);refine⟨v,d,b,f,?_,?_⟩
 rotate_left
 ·rw[V5 (zCQ h.b1),bI]at ip;have e : ∀x:DV,(((n.kids.getD 1 nd0).ev B L sy (a,c) df).bind fun y=>kr B (xh (-1,0) y)).bind (fun z=>kr B (Ya x z))=((n.kids.getD 1 nd0).ev B L sy (a,c) df).bind fun y=>kr B (Ya x (xh (-1,0) y)):=by
   intro x
   cases ey:(n.kids.getD 1 nd0).ev B L sy (a,c) df with
   | none=>rfl
   | some y =>
    rw[ey]at i2;obtain⟨_,_,_,_,g1,g2⟩:=i2;rw[bI,bI,V5 (by rw[UG];exact⟨V2 g1,V2 g2⟩),bI]
  simp only[e]at ip;exact ip
 apply FX.callV ok49_ 1000 rfl rfl
 ·unfold dc at *
  try unfold rrV rrL at *
  unfold zg yI at *;((repeat((conv=>lhs;whnf);simp only[go_sem,simprocAttr,ho,x0,x1,e1,e2,mi,pl,pr,su]));try rfl)
 ·rfl
theorem zMA {B:Nat} {L:List Bd} {I:List Pr} (h:RC B L I) (sy:Node→DV→Bool→Option DV) (n:Node) (hn:n.ok) (ho:n.op=8) (h0:0<n.kids.length) (k0:EvR B L I ((n.kids.getD 0 nd0).ev B L sy) (n.kids.getD 0 nd0)) (h1:1<n.kids.length) (hc:vk (n.kids.getD 1 nd0).neg (n.kids.getD 1 nd0).num (n.kids.getD 1 nd0).den=true) (hz:(n.kids.getD 1 nd0).num.length≠0):EvR B L I (n.ev B L sy) n:=by
 intro a c df hf;rw[Node.ev_eq];unfold xf
 repeat rw[hZ (by rw[ho];decide)]
 rw[bA ho];obtain⟨v1,d1,b1,f1,e1,i1⟩:=k0.o df hf;rw[vq _ _ _ _ _ h0];have x0:=qa h0;have x1:=V6 h1;have hk:=hn.kids _ (zu h1);obtain⟨q1,q2,q3⟩:=X9 hc hk.val.n;have q3:=q3 hz;have of:=fun S=>J9 S q1 (q2.mono (by omega));have one:=zHv;have dv:=fun S=>zF (S:=S) (zDm 1 (Z2 (n.kids.getD 1 nd0).num) ((V1 (B:=1) (by omega)).dec.mono (by omega)) (q2.dec.mono (by omega)) q3) (by simp[vN]);rw[Rat.one_mul]at dv;have qi:wH (Z2 (n.kids.getD 1 nd0).num)⁻¹ 20:=by
  obtain⟨r1,r2⟩:=YH q3;have e:(Z2 (n.kids.getD 1 nd0).num)⁻¹.num.natAbs=(Z2 (n.kids.getD 1 nd0).num).den:=by
   rw[r1];split <;> simp
  exact⟨by rw[e];exact q2.2,by rw[r2];exact q2.1⟩
 have pl:=fun S=>jz S (Z2 (n.kids.getD 1 nd0).num)⁻¹ B (qi.dec.mono (by omega));obtain⟨vm,dm,bm,fm,em,im⟩:=vr B ((Z2 (n.kids.getD 1 nd0).num)⁻¹,0);rw[em]at pl;obtain⟨v,d,b,f,ep,ip⟩:=jT h.b2 im i1;have pr:=fun S=>zF (S:=S) ep (by simp[um]);refine⟨v,d,b,f,?_,ip⟩;apply FX.callV ok49_ 1000 rfl rfl
 ·unfold dc at *
  try unfold rrV rrL at *
  unfold zg yI at *;((repeat((conv=>lhs;whnf);simp only[go_sem,simprocAttr,ho,x0,x1,e1,of,one,dv,pl,pr]));try rfl)
 ·rfl
theorem zJb {B:Nat} {L:List Bd} {I:List Pr} (h:RC B L I) (sy:Node→DV→Bool→Option DV) (n:Node) (hn:n.ok) (ho:n.op=12) (h0:0<n.kids.length) (k0:EvR B L I ((n.kids.getD 0 nd0).ev B L sy) (n.kids.getD 0 nd0)):EvR B L I (n.ev B L sy) n:=by
 intro a c df hf;rw[Node.ev_eq];unfold xf
 repeat rw[hZ (by rw[ho];decide)]
 rw[bA ho];obtain⟨v1,d1,b1,f1,e1,i1⟩:=k0.o true hf;rw[vq _ _ _ _ _ h0];have x0:=qa h0
 cases ex:(n.kids.getD 0 nd0).ev B L sy (a,c) true with
 | none =>
  rw[ex]at i1;have ef:f1=true:=i1;subst ef;refine⟨v1,d1,b1,true,?_,rfl⟩;apply FX.callV ok49_ 1000 rfl rfl
  ·unfold dc at *
   try unfold rrV rrL at *
   unfold zg yI at *;((repeat((conv=>lhs;whnf);simp only[go_sem,simprocAttr,ho,x0,e1]));try rfl)
  ·rfl
 | some x =>
  rw[ex]at i1;obtain⟨rfl,rfl,rfl,rfl,g1,g2⟩:=i1;rw[bI];have pl:=fun S=>jz S x.2 B (g2.dec.mono (by have:=h.b2;omega));obtain⟨v,d,b,f,e,his⟩:=vr B (x.2,0);rw[e]at pl;refine⟨v,d,b,f,?_,his⟩;apply FX.callV ok49_ 1000 rfl rfl
  ·unfold dc at *
   try unfold rrV rrL at *
   unfold zg yI at *;((repeat((conv=>lhs;whnf);simp only[go_sem,simprocAttr,ho,x0,e1,pl]));try rfl)
  ·rfl
theorem zGw {B:Nat} {L:List Bd} {I:List Pr} (h:RC B L I) (sy:Node→DV→Bool→Option DV) (n:Node) (hn:n.ok) (ho:n.op=10) (hh:n.head=n.sym) (hk:0<n.kids.length→EvR B L I ((n.kids.getD 0 nd0).ev B L sy) (n.kids.getD 0 nd0)) {w:Node} (hw:kO I n.sym=some w) (kw:EvR B L I (sy n.sym) w):EvR B L I (n.ev B L sy) n:=by
 intro a c df hf;rw[Node.ev_eq];unfold xf
 repeat rw[hZ (by rw[ho];decide)]
 have hM:=fun S=>Xa S I h.okI h.len n hn;rw[hh,hw]at hM;unfold U5 at hM;by_cases h0:0<n.kids.length
 ·rw[bA (by omega)];have x0:=qa h0;have y0:(0:Int)<(n.kids.length:Int):=by omega
  obtain⟨v1,d1,b1,f1,e1,i1⟩:=(hk h0).o df hf;rw[vq _ _ _ _ _ h0]
  cases ex:(n.kids.getD 0 nd0).ev B L sy (a,c) df with
  | none =>
   rw[ex]at i1;have ef:f1=true:=i1;subst ef;refine⟨v1,d1,b1,true,?_,rfl⟩;apply FX.callV ok49_ 1000 rfl rfl
   ·unfold dc at *
    try unfold rrV rrL at *
    unfold zg yI at *;((repeat((conv=>lhs;whnf);simp only[go_sem,simprocAttr,ho,x0,hM,e1,zn]));try rfl)
   ·rfl
  | some x =>
   rw[ex]at i1;obtain⟨rfl,rfl,rfl,rfl,g1,g2⟩:=i1;rw[bI];obtain⟨v,d,b,f,e2,i2⟩:=kw.o df (a:=x.1) (c:=x.2) ⟨g1,g2⟩;refine⟨v,d,b,f,?_,i2⟩;apply FX.callV ok49_ 1000 rfl rfl
   ·unfold dc at *
    try unfold rrV rrL at *
    unfold zg yI at *;((repeat((conv=>lhs;whnf);simp only[go_sem,simprocAttr,ho,x0,hM,e1,e2,zn]));try rfl)
   ·rfl
 ·rw[hZ (by omega)];have y0 : ¬(0:Int)<(n.kids.length:Int):=by omega
  obtain⟨v,d,b,f,e2,i2⟩:=kw.o df hf;refine⟨v,d,b,f,?_,i2⟩;apply FX.callV ok49_ 1000 rfl rfl
  ·unfold dc at *
   try unfold rrV rrL at *
   unfold zg yI at *;((repeat((conv=>lhs;whnf);simp only[go_sem,simprocAttr,ho,y0,hM,e2,zn]));try rfl)
  ·rfl
theorem zGx {B:Nat} {L:List Bd} {I:List Pr} (h:RC B L I) (sy:Node→DV→Bool→Option DV) (n:Node) (hn:n.ok) (ho:n.op=11) (hh:n.head=n.sym) (hk:0<n.kids.length→EvR B L I ((n.kids.getD 0 nd0).ev B L sy) (n.kids.getD 0 nd0)) {w:Node} (hw:kO I n.sym=some w) (kw:EvR B L I (sy n.sym) w):EvR B L I (n.ev B L sy) n:=by
 intro a c df hf;rw[Node.ev_eq];unfold xf
 repeat rw[hZ (by rw[ho];decide)]
 have hM:=fun S=>Xa S I h.okI h.len n hn;rw[hh,hw]at hM;unfold U5 at hM;by_cases h0:0<n.kids.length
 ·rw[bA (by omega)];have x0:=qa h0;have y0:(0:Int)<(n.kids.length:Int):=by omega
  obtain⟨v1,d1,b1,f1,e1,i1⟩:=(hk h0).o df hf;rw[vq _ _ _ _ _ h0]
  cases ex:(n.kids.getD 0 nd0).ev B L sy (a,c) df with
  | none =>
   rw[ex]at i1;have ef:f1=true:=i1;subst ef;refine⟨v1,d1,b1,true,?_,rfl⟩;apply FX.callV ok49_ 1000 rfl rfl
   ·unfold dc at *
    try unfold rrV rrL at *
    unfold zg yI at *;((repeat((conv=>lhs;whnf);simp only[go_sem,simprocAttr,ho,x0,hM,e1,zn]));try rfl)
   ·rfl
  | some x =>
   rw[ex]at i1;obtain⟨rfl,rfl,rfl,rfl,g1,g2⟩:=i1;rw[bI];obtain⟨v,d,b,f,e2,i2⟩:=kw.o df (a:=x.1) (c:=x.2) ⟨g1,g2⟩;refine⟨v,d,b,f,?_,i2⟩;apply FX.callV ok49_ 1000 rfl rfl
   ·unfold dc at *
    try unfold rrV rrL at *
    unfold zg yI at *;((repeat((conv=>lhs;whnf);simp only[go_sem,simprocAttr,ho,x0,hM,e1,e2,zn]));try rfl)
   ·rfl
 ·rw[hZ (by omega)];have y0 : ¬(0:Int)<(n.kids.length:Int):=by omega
  obtain⟨v,d,b,f,e2,i2⟩:=kw.o df hf;refine⟨v,d,b,f,?_,i2⟩;apply FX.callV ok49_ 1000 rfl rfl
  ·unfold dc at *
   try unfold rrV rrL at *
   unfold zg yI at *;((repeat((conv=>lhs;whnf);simp only[go_sem,simprocAttr,ho,y0,hM,e2,zn]));try rfl)
  ·rfl
end
end
section
section
attribute [local irreducible] Vs.callL Vs.callRL tyi zO zk zf zQ zW zZ zI zX zA zK zb zV zG zJ zU zs yL zr zL za Vs.gc zH
theorem zMB {B:Nat} (hB:B≤4096) (a:DV) (ha:kE B a) : ∀(k:Nat),k≤20→∀(r:Option DV) (v d:Rat) (b:Int) (f:Bool),IsD B r v d b f →
  ∃v' d' b' f',IsD B (r.bind (zEl B a k)) v' d' b' f'∧∀X Y Z fs z,yD 0 zEp 1 fs [(10,.mp 2 0 0),(12,.undef),(13,.mp 4 0 0),(14,.undef),(197,.undef)] [X,Y,Z,.arr [dc a.1 a.2 B false] none false,.arr [dc v' d' b' f'] none false]=some z →
   zT 0 zEp 1 905969524 5 fs [(10,.mp 2 0 0),(12,.mp 3 0 0),(13,.mp 4 0 0),(14,.int .i64 k)] [X,Y,Z,.arr [dc a.1 a.2 B false] none false,.arr [dc v d b f] none false]=some z:=by
 intro k
 induction k with
 | zero =>
  intro _ r v d b f hr;refine⟨v,d,b,f,by cases r <;> exact hr,fun X Y Z fs z hz=>?_⟩;apply zC;(repeat((conv=>lhs;whnf);simp only[go_sem,simprocAttr]));exact hz
 | succ k ih =>
  intro hk r v d b f hr;cases r with
  | none =>
   have ef:f=true:=hr;subst ef;refine⟨v,d,b,true,rfl,fun X Y Z fs z hz=>?_⟩;have c1:(0:Int)<((k+1:Nat):Int):=by omega
   apply zC;unfold dc at *;unfold zg yI at *;(repeat((conv=>lhs;whnf);simp only[go_sem,simprocAttr,c1]));exact hz
  | some x =>
   have hr':=hr;obtain⟨_,_,_,ef,_⟩:=hr';subst ef;obtain⟨v1,d1,b1,f1,ep,ip⟩:=jT hB hr (show IsD B (some a) a.1 a.2 B false from⟨rfl,rfl,rfl,rfl,ha⟩);have pr:=fun S=>zF (S:=S) ep (by simp[um]);obtain⟨v2,d2,b2,f2,i2,key⟩:=ih (by omega) _ v1 d1 b1 f1 ip;refine⟨v2,d2,b2,f2,i2,fun X Y Z fs z hz=>?_⟩;have key:=key X Y Z fs z hz;have c1:(0:Int)<((k+1:Nat):Int):=by omega
   have w1:IntKind.i64.wrap (((k+1:Nat):Int)-1)=(k:Int):=by rw[bE];omega
   apply zC;unfold dc at *;unfold zg yI at *;(repeat((conv=>lhs;whnf);simp only[go_sem,simprocAttr,c1,w1,pr]));exact key
theorem zMC (fs:List Fr) {X Y Z W:Obj} (v d:Rat) (b:Int) : ∀k:Nat,∀z,yD 0 zEp 1 fs [(10,.mp 2 0 0),(12,.undef),(13,.mp 4 0 0),(14,.undef),(197,.undef)] [X,Y,Z,W,.arr [dc v d b true] none false]=some z →
   zT 0 zEp 1 905969524 5 fs [(10,.mp 2 0 0),(12,.mp 3 0 0),(13,.mp 4 0 0),(14,.int .i64 k)] [X,Y,Z,W,.arr [dc v d b true] none false]=some z:=by
 intro k z hz;cases k with
 | zero =>
  apply zC;(repeat((conv=>lhs;whnf);simp only[go_sem,simprocAttr]));exact hz
 | succ k =>
  have c1:(0:Int)<((k+1:Nat):Int):=by omega
  apply zC;unfold dc at *;unfold zg yI at *;(repeat((conv=>lhs;whnf);simp only[go_sem,simprocAttr,c1]));exact hz
theorem zMD {B:Nat} {L:List Bd} {I:List Pr} (h:RC B L I) (sy:Node→DV→Bool→Option DV) (n:Node) (hn:n.ok) (ho:n.op=9) (h0:0<n.kids.length) (k0:EvR B L I ((n.kids.getD 0 nd0).ev B L sy) (n.kids.getD 0 nd0)) (h1:1<n.kids.length) (hz:0≤vV (n.kids.getD 1 nd0).num 20∧vV (n.kids.getD 1 nd0).num 20≤20):EvR B L I (n.ev B L sy) n:=by
 intro a c df hf;rw[Node.ev_eq];unfold xf
 repeat rw[hZ (by rw[ho];decide)]
 rw[bA ho];obtain⟨v1,d1,b1,f1,e1,i1⟩:=k0.o df hf;rw[vq _ _ _ _ _ h0];have x0:=qa h0;have x1:=V6 h1;have hk:=hn.kids _ (zu h1);have na:=fun S=>JJ S _ hk 20;obtain⟨K,hK⟩ : ∃K:Nat,vV (n.kids.getD 1 nd0).num 20=(K:Int):=⟨(vV (n.kids.getD 1 nd0).num 20).toNat,by omega⟩;rw[hK]at na hz;rw[hK,bD];have one:=zHv;have f10:kE B (1,0):=⟨V1 h.b1,ul h.b1⟩;have pl:=fun S=>jz S 1 B (f10.1.dec.mono (by have:=h.b2;omega));have ec:kD B (1,0)=dc 1 0 B false:=bA (by rw[uK.2 f10.1,uK.2 f10.2];rfl);rw[ec]at pl
 cases ex:(n.kids.getD 0 nd0).ev B L sy (a,c) df with
 | none =>
  rw[ex]at i1;have ef:f1=true:=i1;subst ef;refine⟨1,0,B,true,?_,rfl⟩;apply FX.callV ok49_ 1000 rfl rfl
  ·unfold dc at *
   try unfold rrV rrL at *
   unfold zg yI at *;(repeat((conv=>lhs;whnf);simp only[go_sem,simprocAttr,ho,x0,x1,e1,na,one,pl]));apply zMC;apply zN;unfold dc at *;unfold zg yI at *;((repeat((conv=>lhs;whnf);simp only[go_sem,simprocAttr]));try rfl)
  ·rfl
 | some x =>
  rw[ex]at i1;obtain⟨rfl,rfl,rfl,rfl,fx⟩:=i1;obtain⟨v,d,b,f,i2,key⟩:=zMB h.b2 x fx K (by omega) (some (1,0)) 1 0 B false ⟨rfl,rfl,rfl,rfl,f10⟩;refine⟨v,d,b,f,?_,i2⟩;apply FX.callV ok49_ 1000 rfl rfl
  ·unfold dc at *
   try unfold rrV rrL at *
   unfold zg yI at *;(repeat((conv=>lhs;whnf);simp only[go_sem,simprocAttr,ho,x0,x1,e1,na,one,pl]));apply key;apply zN;((repeat((conv=>lhs;whnf);simp only[go_sem,simprocAttr]));try rfl)
  ·rfl
end
end
end Go.Vs
