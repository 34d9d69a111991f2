
import Derived.Test.YtkaeejkajfinhaaGreatMD21
import Derived.Test.YtkaeejkajfinhaaGreatMD23
set_option linter.unusedVariables false
set_option linter.unusedSimpArgs false
set_option maxRecDepth 100000
namespace Go.Vs
open Go Go.Proofs
abbrev DV:=Rat × Rat
def Zh (B:Nat) (q:Rat):Bool:=decide ((words q.num.natAbs).length≤B)&&decide ((words q.den).length≤B)
theorem vz {B:Nat} {q:Rat} : Zh B q=true↔wB q B:=by simp[Zh,wB]
def jj (B:Nat) (x:DV):Prop:=wB x.1 B∧wB x.2 B
def kJ (B:Nat) (x:DV):Option DV:=if (Zh B x.1&&Zh B x.2)=true then some x else none
def xg (x y:DV):DV:=(x.1*y.1,x.2*y.1+x.1*y.2)
def Y8 (x y:DV):DV:=(x.1+y.1,x.2+y.2)
def Q9 (B:Nat) (a:DV):Nat→DV→Option DV
 | 0,o=>some o
 | k+1,o=>(kJ B (xg o a)).bind (Q9 B a k)
theorem zT {B:Nat} {x y:DV} : kJ B x=some y↔y=x∧jj B x:=by
 unfold kJ jj;rw[←vz,←vz];by_cases h:(Zh B x.1&&Zh B x.2)=true
 ·rw[bA h];simp only[bP]at h;exact⟨fun e=>⟨(Option.some.inj e).symm,h⟩,fun e=>by rw[e.1]⟩
 ·rw[hZ h];simp only[bP]at h;exact⟨(fun e=>by cases e),fun e=>absurd e.2 h⟩
theorem uA {B B':Nat} (hB:B≤B') {x y:DV} (h:kJ B x=some y):kJ B' x=some y:=by
 rw[zT]at h ⊢;exact⟨h.1,h.2.1.mono hB,h.2.2.mono hB⟩
theorem zAd {B B':Nat} (hB:B≤B') {a:DV} : ∀ {k:Nat} {o y:DV},Q9 B a k o=some y→Q9 B' a k o=some y
 | 0,_,_,h=>h
 | k+1,o,y,h=>by
  obtain⟨z,h1,h2⟩:=bJ.1 h;exact bJ.2 ⟨z,uA hB h1,zAd hB h2⟩
theorem zFJ {B:Nat} {a:DV} : ∀ {k:Nat} {o y:DV},jj B o→Q9 B a k o=some y→jj B y
 | 0,_,_,ho,h=>by cases h;exact ho
 | k+1,o,y,ho,h=>by
  obtain⟨z,h1,h2⟩:=bJ.1 h;obtain⟨rfl,h3⟩:=zT.1 h1;exact zFJ h3 h2
theorem jA {x y:DV} (hx:x.2=0) (hy:y.2=0):(xg x y).2=0:=by
 show x.2*y.1+x.1*y.2=0
 rw[hx,hy,Rat.zero_mul,Rat.mul_zero,Rat.add_zero]
theorem zAe {B:Nat} {a:DV} (ha:a.2=0) : ∀ {k:Nat} {o y:DV},o.2=0→Q9 B a k o=some y→y.2=0
 | 0,_,_,ho,h=>by cases h;exact ho
 | k+1,o,y,ho,h=>by
  obtain⟨z,h1,h2⟩:=bJ.1 h;obtain⟨rfl,h3⟩:=zT.1 h1;exact zAe ha (jA ho ha) h2
def RV.rat (v:RV):Rat:=mkRat (sg v.neg (nv v.num)) (nv v.den)
def Zi (l:List Int):Rat:=((nv l:Nat):Rat)
theorem YF {v:RV} (h:v.fine):PV.agg v.cells=xY v.rat∧wB v.rat 400:=by
 obtain⟨q,h1,h2,h3,h4,h5⟩:=h.q;have e:v.rat=q:=by
  unfold RV.rat;rw[h2,h3,h4,VD,VD,show sg (yT q) q.num.natAbs=q.num from zLR q,Rat.mkRat_self]
 rw[e];exact⟨h1,h5⟩
theorem Xf {nu de:List Int} {ng:Bool} (h:vt ng nu de=true) (ho:OkD WB nu):PV.agg [.bool ng,.sl (zE .u32 nu) false,.sl (zE .u32 de) false]=xY (Zi nu)∧wB (Zi nu) 20∧(nu.length≠0→Zi nu≠0):=by
 unfold vt at h;simp only[bP,BI,bR]at h;obtain⟨rfl,h1,h2,h3,h4⟩:=h;obtain rfl:=(YW h1).2 h2;have t:xd nu:=by
  unfold JP at h4;simp only[HD,bR]at h4
  rcases h4 with h | h
  ·exact .inl (pL h)
  ·exact .inr h
 have w:=t.words ho;have e1:(Zi nu).num=(nv nu:Int):=rfl;have e2:(Zi nu).den=1:=rfl;have e3:(Zi nu).num.natAbs=nv nu:=by rw[e1];rfl
 have e4:decide ((Zi nu).num<0)=false:=by rw[e1];simp
 refine⟨?_,⟨by rw[e3,←w];exact h3,by rw[e2,jP];decide⟩,fun h0 hz=>?_⟩
 ·unfold xY ku;rw[e3,e2,e4,←w,jP]
 ·have:nv nu=0:=by rw[←e3,hz];rfl
  rw[this]at w;exact h0 (by rw[w];exact xE.2 rfl)
def uZ (st:List Bd) (nm:ByteArray):Rat:=(YC nm st).rat
def wu (nm:ByteArray):ByteArray:=nm++⟨#[39]⟩
def xe (B:Nat) (st:List Bd) (sy:Node→DV→Bool→Option DV) (n:Node) (k0 k1:DV→Bool→Option DV) (dot:DV) (df:Bool):Option DV :=
 if n.op=1 then kJ B (Zi n.num,0)
 else if n.op=2 then kJ B (uZ st n.name,if df=true then uZ st (wu n.name) else 0)
 else if n.op=3 then kJ B (uZ st (wu n.name),0)
 else if n.op=4 then (k0 dot df).bind fun x=>kJ B (xg (-1,0) x)
 else if n.op=5 then (k0 dot df).bind fun x=>(k1 dot df).bind fun y=>kJ B (Y8 x y)
 else if n.op=6 then (k0 dot df).bind fun x=>(k1 dot df).bind fun y=>kJ B (Y8 x (xg (-1,0) y))
 else if n.op=7 then (k0 dot df).bind fun x=>(k1 dot df).bind fun y=>kJ B (xg x y)
 else if n.op=8 then (kJ B ((Zi (n.kids.getD 1 nd0).num)⁻¹,0)).bind fun i=>(k0 dot df).bind fun x=>kJ B (xg i x)
 else if n.op=9 then (k0 dot df).bind fun a=>Q9 B a (vg (n.kids.getD 1 nd0).num 20).toNat (1,0)
 else if n.op=12 then (k0 dot true).bind fun x=>kJ B (x.2,0)
 else if n.op=13 then some dot
 else if n.kids.length≠0 then (k0 dot df).bind fun d=>sy n.sym d df
 else sy n.sym dot df
mutual
def Node.ev (B:Nat) (st:List Bd) (sy:Node→DV→Bool→Option DV):Node→DV→Bool→Option DV
 | .mk a b c d e f=>xe B st sy (.mk a b c d e f) ((Node.evs B st sy f).getD 0 fun _ _=>none) ((Node.evs B st sy f).getD 1 fun _ _=>none)
def Node.evs (B:Nat) (st:List Bd) (sy:Node→DV→Bool→Option DV):List Node→List (DV→Bool→Option DV)
 | []=>[]
 | n::r=>n.ev B st sy::Node.evs B st sy r
end
def kv (B:Nat) (st:List Bd) (sy:Node→DV→Bool→Option DV) (l:List Node) (i:Nat):DV→Bool→Option DV:=(Node.evs B st sy l).getD i fun _ _=>none
theorem Node.ev_eq (B:Nat) (st:List Bd) (sy:Node→DV→Bool→Option DV) (n:Node):n.ev B st sy=xe B st sy n (kv B st sy n.kids 0) (kv B st sy n.kids 1):=by cases n;rfl
theorem uB (B:Nat) (st:List Bd) (sy:Node→DV→Bool→Option DV) : ∀(l:List Node) (i:Nat),i<l.length→kv B st sy l i=(l.getD i nd0).ev B st sy
 | [],i,h=>by simp at h
 | n::r,0,h=>rfl
 | n::r,i+1,h=>uB B st sy r i (by simpa using h)
theorem zHS (B:Nat) (st:List Bd) (sy:Node→DV→Bool→Option DV) : ∀(l:List Node) (i:Nat),l.length≤i→kv B st sy l i=fun _ _=>none
 | [],i,h=>by simp[kv,Node.evs]
 | n::r,0,h=>by simp at h
 | n::r,i+1,h=>zHS B st sy r i (by simpa using h)
theorem UL {P:(DV→Bool→Option DV)→Prop} {B:Nat} {st:List Bd} {sy:Node→DV→Bool→Option DV} (l:List Node) (i:Nat) (h0:P fun _ _=>none) (h : ∀k∈l,P (k.ev B st sy)):P (kv B st sy l i):=by
 by_cases hi:i<l.length
 ·rw[uB _ _ _ _ _ hi];exact h _ (yA hi)
 ·rw[zHS _ _ _ _ _ (by omega)];exact h0
theorem zJu {B B':Nat} (hB:B≤B') {st:List Bd} {sy sy':Node→DV→Bool→Option DV} (hs : ∀s d f x,sy s d f=some x→sy' s d f=some x) (n:Node) {k0 k1 l0 l1:DV→Bool→Option DV} (m0 : ∀d f x,k0 d f=some x→l0 d f=some x) (m1 : ∀d f x,k1 d f=some x→l1 d f=some x) (d:DV) (f:Bool) (x:DV) (h:xe B st sy n k0 k1 d f=some x):xe B' st sy' n l0 l1 d f=some x:=by
 unfold xe at h ⊢;by_cases c:n.op=1
 ·rw[bA c]at h ⊢;exact uA hB h
 rw[hZ c]at h ⊢;clear c;by_cases c:n.op=2
 ·rw[bA c]at h ⊢;exact uA hB h
 rw[hZ c]at h ⊢;clear c;by_cases c:n.op=3
 ·rw[bA c]at h ⊢;exact uA hB h
 rw[hZ c]at h ⊢;clear c;by_cases c:n.op=4
 ·rw[bA c]at h ⊢;obtain⟨x1,h1,h2⟩:=bJ.1 h;exact bJ.2 ⟨x1,m0 _ _ _ h1,uA hB h2⟩
 rw[hZ c]at h ⊢;clear c;by_cases c:n.op=5
 ·rw[bA c]at h ⊢;obtain⟨x1,h1,h'⟩:=bJ.1 h;obtain⟨x2,h2,h3⟩:=bJ.1 h';exact bJ.2 ⟨x1,m0 _ _ _ h1,bJ.2 ⟨x2,m1 _ _ _ h2,uA hB h3⟩⟩
 rw[hZ c]at h ⊢;clear c;by_cases c:n.op=6
 ·rw[bA c]at h ⊢;obtain⟨x1,h1,h'⟩:=bJ.1 h;obtain⟨x2,h2,h3⟩:=bJ.1 h';exact bJ.2 ⟨x1,m0 _ _ _ h1,bJ.2 ⟨x2,m1 _ _ _ h2,uA hB h3⟩⟩
 rw[hZ c]at h ⊢;clear c;by_cases c:n.op=7
 ·rw[bA c]at h ⊢;obtain⟨x1,h1,h'⟩:=bJ.1 h;obtain⟨x2,h2,h3⟩:=bJ.1 h';exact bJ.2 ⟨x1,m0 _ _ _ h1,bJ.2 ⟨x2,m1 _ _ _ h2,uA hB h3⟩⟩
 rw[hZ c]at h ⊢;clear c;by_cases c:n.op=8
 ·rw[bA c]at h ⊢;obtain⟨x1,h1,h'⟩:=bJ.1 h;obtain⟨x2,h2,h3⟩:=bJ.1 h';exact bJ.2 ⟨x1,uA hB h1,bJ.2 ⟨x2,m0 _ _ _ h2,uA hB h3⟩⟩
 rw[hZ c]at h ⊢;clear c;by_cases c:n.op=9
 ·rw[bA c]at h ⊢;obtain⟨x1,h1,h2⟩:=bJ.1 h;exact bJ.2 ⟨x1,m0 _ _ _ h1,zAd hB h2⟩
 rw[hZ c]at h ⊢;clear c;by_cases c:n.op=12
 ·rw[bA c]at h ⊢;obtain⟨x1,h1,h2⟩:=bJ.1 h;exact bJ.2 ⟨x1,m0 _ _ _ h1,uA hB h2⟩
 rw[hZ c]at h ⊢;clear c;by_cases c:n.op=13
 ·rw[bA c]at h ⊢;exact h
 rw[hZ c]at h ⊢;clear c;by_cases c:n.kids.length≠0
 ·rw[bA c]at h ⊢;obtain⟨x1,h1,h2⟩:=bJ.1 h;exact bJ.2 ⟨x1,m0 _ _ _ h1,hs _ _ _ _ h2⟩
 rw[hZ c]at h ⊢;clear c;exact hs _ _ _ _ h
theorem KI {B B':Nat} (hB:B≤B') {st:List Bd} {sy sy':Node→DV→Bool→Option DV} (hs : ∀s d f x,sy s d f=some x→sy' s d f=some x) : ∀n:Node,∀d f x,n.ev B st sy d f=some x→n.ev B' st sy' d f=some x:=by
 refine Node.ind' fun n ih d f x h=>?_;have mono : ∀i d f x,kv B st sy n.kids i d f=some x→kv B' st sy' n.kids i d f=some x:=by
  intro i d f x hx;by_cases hi:i<n.kids.length
  ·rw[uB _ _ _ _ _ hi]at hx ⊢;exact ih _ (yA hi) d f x hx
  ·rw[zHS _ _ _ _ _ (by omega)]at hx;cases hx
 rw[Node.ev_eq]at h ⊢;exact zJu hB hs n (mono 0) (mono 1) d f x h
theorem V8 {B:Nat} (h:1≤B):wB 1 B:=by
 have e:(words 1).length=1:=by rw[jP];rfl
 exact⟨by show (words 1).length≤B;omega,by show (words 1).length≤B;omega⟩
theorem uC {B:Nat} (h:1≤B):wB 0 B:=by
 have e:(words 1).length=1:=by rw[jP];rfl
 have e0:(words 0).length=0:=xE.2 rfl;exact⟨by show (words 0).length≤B;omega,by show (words 1).length≤B;omega⟩
def W2 (B:Nat) (g:DV→Bool→Option DV):Prop:=∀d f x,jj B d→g d f=some x→jj B x
theorem uz {B:Nat} (hB0:1≤B) {st:List Bd} {sy:Node→DV→Bool→Option DV} (hs : ∀s,Vs.W2 B (sy s)) : ∀n:Node,Vs.W2 B (n.ev B st sy):=by
 refine Node.ind' fun n ih d f x hd h=>?_;have m0:Vs.W2 B (kv B st sy n.kids 0):=UL _ _ (fun _ _ _ _ h=>(by cases h)) ih;have m1:Vs.W2 B (kv B st sy n.kids 1):=UL _ _ (fun _ _ _ _ h=>(by cases h)) ih;rw[Node.ev_eq]at h;unfold xe at h;by_cases c:n.op=1
 ·rw[bA c]at h;exact (zT.1 h).1 ▸ (zT.1 h).2
 rw[hZ c]at h;clear c;by_cases c:n.op=2
 ·rw[bA c]at h;exact (zT.1 h).1 ▸ (zT.1 h).2
 rw[hZ c]at h;clear c;by_cases c:n.op=3
 ·rw[bA c]at h;exact (zT.1 h).1 ▸ (zT.1 h).2
 rw[hZ c]at h;clear c;by_cases c:n.op=4
 ·rw[bA c]at h;obtain⟨x1,h1,h2⟩:=bJ.1 h;exact (zT.1 h2).1 ▸ (zT.1 h2).2
 rw[hZ c]at h;clear c;by_cases c:n.op=5
 ·rw[bA c]at h;obtain⟨x1,h1,h'⟩:=bJ.1 h;obtain⟨x2,h2,h3⟩:=bJ.1 h';exact (zT.1 h3).1 ▸ (zT.1 h3).2
 rw[hZ c]at h;clear c;by_cases c:n.op=6
 ·rw[bA c]at h;obtain⟨x1,h1,h'⟩:=bJ.1 h;obtain⟨x2,h2,h3⟩:=bJ.1 h';exact (zT.1 h3).1 ▸ (zT.1 h3).2
 rw[hZ c]at h;clear c;by_cases c:n.op=7
 ·rw[bA c]at h;obtain⟨x1,h1,h'⟩:=bJ.1 h;obtain⟨x2,h2,h3⟩:=bJ.1 h';exact (zT.1 h3).1 ▸ (zT.1 h3).2
 rw[hZ c]at h;clear c;by_cases c:n.op=8
 ·rw[bA c]at h;obtain⟨x1,h1,h'⟩:=bJ.1 h;obtain⟨x2,h2,h3⟩:=bJ.1 h';exact (zT.1 h3).1 ▸ (zT.1 h3).2
 rw[hZ c]at h;clear c;by_cases c:n.op=9
 ·rw[bA c]at h;obtain⟨x1,h1,h2⟩:=bJ.1 h;exact zFJ ⟨V8 hB0,uC hB0⟩ h2
 rw[hZ c]at h;clear c;by_cases c:n.op=12
 ·rw[bA c]at h;obtain⟨x1,h1,h2⟩:=bJ.1 h;exact (zT.1 h2).1 ▸ (zT.1 h2).2
 rw[hZ c]at h;clear c;by_cases c:n.op=13
 ·rw[bA c]at h
  cases h;exact hd
 rw[hZ c]at h;clear c;by_cases c:n.kids.length≠0
 ·rw[bA c]at h;obtain⟨x1,h1,h2⟩:=bJ.1 h;exact hs _ _ _ _ (m0 _ _ _ hd h1) h2
 rw[hZ c]at h;clear c;exact hs _ _ _ _ hd h
def ZE (g:DV→Bool→Option DV):Prop:=∀(d x:DV),d.2=0→g d false=some x→x.2=0
theorem wv {B:Nat} {st:List Bd} {sy:Node→DV→Bool→Option DV} (hs : ∀s,ZE (sy s)) : ∀n:Node,ZE (n.ev B st sy):=by
 refine Node.ind' fun n ih d x hd h=>?_;have m0:ZE (kv B st sy n.kids 0):=UL _ _ (fun _ _ _ h=>(by cases h)) ih;have m1:ZE (kv B st sy n.kids 1):=UL _ _ (fun _ _ _ h=>(by cases h)) ih;rw[Node.ev_eq]at h;unfold xe at h;by_cases c:n.op=1
 ·rw[bA c]at h;rw[(zT.1 h).1]
 rw[hZ c]at h;clear c;by_cases c:n.op=2
 ·rw[bA c]at h;rw[(zT.1 h).1];rfl
 rw[hZ c]at h;clear c;by_cases c:n.op=3
 ·rw[bA c]at h;rw[(zT.1 h).1]
 rw[hZ c]at h;clear c;by_cases c:n.op=4
 ·rw[bA c]at h;obtain⟨x1,h1,h2⟩:=bJ.1 h;rw[(zT.1 h2).1];exact jA rfl (m0 _ _ hd h1)
 rw[hZ c]at h;clear c;by_cases c:n.op=5
 ·rw[bA c]at h;obtain⟨x1,h1,h'⟩:=bJ.1 h;obtain⟨x2,h2,h3⟩:=bJ.1 h';rw[(zT.1 h3).1]
  show x1.2+x2.2=0
  rw[m0 _ _ hd h1,m1 _ _ hd h2,Rat.add_zero]
 rw[hZ c]at h;clear c;by_cases c:n.op=6
 ·rw[bA c]at h;obtain⟨x1,h1,h'⟩:=bJ.1 h;obtain⟨x2,h2,h3⟩:=bJ.1 h';rw[(zT.1 h3).1]
  show x1.2+(xg (-1,0) x2).2=0
  rw[m0 _ _ hd h1,jA rfl (m1 _ _ hd h2),Rat.add_zero]
 rw[hZ c]at h;clear c;by_cases c:n.op=7
 ·rw[bA c]at h;obtain⟨x1,h1,h'⟩:=bJ.1 h;obtain⟨x2,h2,h3⟩:=bJ.1 h';rw[(zT.1 h3).1];exact jA (m0 _ _ hd h1) (m1 _ _ hd h2)
 rw[hZ c]at h;clear c;by_cases c:n.op=8
 ·rw[bA c]at h;obtain⟨x1,h1,h'⟩:=bJ.1 h;obtain⟨x2,h2,h3⟩:=bJ.1 h';rw[(zT.1 h3).1];exact jA ((zT.1 h1).1 ▸ rfl) (m0 _ _ hd h2)
 rw[hZ c]at h;clear c;by_cases c:n.op=9
 ·rw[bA c]at h;obtain⟨x1,h1,h2⟩:=bJ.1 h;exact zAe (m0 _ _ hd h1) rfl h2
 rw[hZ c]at h;clear c;by_cases c:n.op=12
 ·rw[bA c]at h;obtain⟨x1,h1,h2⟩:=bJ.1 h;rw[(zT.1 h2).1]
 rw[hZ c]at h;clear c;by_cases c:n.op=13
 ·rw[bA c]at h
  cases h;exact hd
 rw[hZ c]at h;clear c;by_cases c:n.kids.length≠0
 ·rw[bA c]at h;obtain⟨x1,h1,h2⟩:=bJ.1 h;exact hs _ _ _ (m0 _ _ hd h1) h2
 rw[hZ c]at h;clear c;exact hs _ _ _ hd h
theorem V9 {B:Nat} {q:Rat} (h:wB q B):wB (-q) B:=by
 unfold wB at *;rw[Rat.neg_num,Rat.neg_den,Int.natAbs_neg];exact h
theorem UM (x:DV):xg (-1,0) x=(-x.1,-x.2):=by
 show (-1*x.1,0*x.1 + -1*x.2)=_
 rw[Rat.neg_mul,Rat.one_mul,Rat.zero_mul,Rat.zero_add,Rat.neg_mul,Rat.one_mul]
theorem zHT (i:Rat) (x:DV):xg (i,0) x=(x.1*i,x.2*i):=by
 show (i*x.1,0*x.1+i*x.2)=_
 rw[Rat.zero_mul,Rat.zero_add,Rat.mul_comm i,Rat.mul_comm i]
def known (I:List Pr) (s:Node):Bool:=I.any fun p=>decide (p.what.cmp s=0)
def jc:List Pr→Node→Option Node
 | [],_=>none
 | p::r,s=>if p.what.cmp s=0 then some p.wth else jc r s
theorem Jh : ∀(I:List Pr) (s:Node),known I s=true→∃w,jc I s=some w∧∃p∈I,p.wth=w∧p.what.cmp s=0
 | [],s,h=>by simp[known]at h
 | p::r,s,h=>by
  unfold jc;by_cases c:p.what.cmp s=0
  ·exact⟨p.wth,by rw[bA c],p,by simp,rfl,c⟩
  ·have h':known r s=true:=by
    unfold known at h ⊢
    rwa [BJ,bI c,bX]at h
   obtain⟨w,h1,q,h2,h3⟩:=Jh r s h';exact⟨w,by rw[hZ c];exact h1,q,by simp[h2],h3⟩
def zMB:Node→DV→Bool→Option DV:=fun _ _ _=>none
def Z5 (B:Nat) (st:List Bd) (I:List Pr) (s:Node):DV→Bool→Option DV:=match jc I s with
 | some w=>w.ev B st zMB
 | none=>fun _ _=>none
def val (B:Nat) (st:List Bd) (I:List Pr) (n:Node):DV→Bool→Option DV:=n.ev B st (Z5 B st I)
theorem W3 {B B':Nat} (hB:B≤B') {st:List Bd} {I:List Pr} (s:Node) (d:DV) (f:Bool) (x:DV) (h:Z5 B st I s d f=some x):Z5 B' st I s d f=some x:=by
 unfold Z5 at h ⊢
 cases e:jc I s with
 | none=>rw[e]at h;cases h
 | some w=>rw[e]at h;exact KI hB (fun _ _ _ _ h=>h) w d f x h
theorem zFK {B B':Nat} (hB:B≤B') {st:List Bd} {I:List Pr} {n:Node} {d:DV} {f:Bool} {x:DV} (h:val B st I n d f=some x):val B' st I n d f=some x:=KI hB (W3 hB) n d f x h
theorem YG {B:Nat} (hB:1≤B) (st:List Bd) (I:List Pr) (s:Node):Vs.W2 B (Z5 B st I s):=by
 unfold Z5;cases jc I s with
 | none=>exact fun _ _ _ _ h=>(by cases h)
 | some w=>exact uz hB (fun _ _ _ _ _ h=>(by cases h)) w
theorem zHU (B:Nat) (st:List Bd) (I:List Pr) (s:Node):ZE (Z5 B st I s):=by
 unfold Z5;cases jc I s with
 | none=>exact fun _ _ _ h=>(by cases h)
 | some w=>exact wv (fun _ _ _ _ h=>(by cases h)) w
section
theorem W4:(tyi Tryz.prog 80).d=.struct [(0,3,true),(3,3,true),(6,1,false),(7,1,false)]:=by kernel_rfl
@[go_sem] theorem zOD:(tyi Tryz.prog 80).size=8:=nr (by kernel_rfl)
@[go_sem] theorem zMC:(tyi Tryz.prog 80).known=true:=nr (by kernel_rfl)
@[go_sem] theorem zIV:(tyi Tryz.prog 80).zero=some [.bool false,.sl [] true,.sl [] true,.bool false,.sl [] true,.sl [] true,.int .i64 0,.bool false]:=nr (by kernel_rfl)
@[go_sem] theorem zSd (n:Nat):zW (tyi Tryz.prog 80) n=some {v:=.mp n 0 0,new:=some ([[.bool false,.sl [] true,.sl [] true,.bool false,.sl [] true,.sl [] true,.int .i64 0,.bool false]],none)} := nr (by unfold zW;rw[zIV];rfl)
@[go_sem] theorem zSe (l:List (Nat × PV)):zX Tryz.prog 80 l=(qd [(0,3,true),(3,3,true),(6,1,false),(7,1,false)] [.bool false,.sl [] true,.sl [] true,.bool false,.sl [] true,.sl [] true,.int .i64 0,.bool false] l).map .agg:=nr (by unfold zX;rw[W4];dsimp only;unfold ze;rw[W4,zIV];rfl)
theorem zMD (row:List PV):part (tyi Tryz.prog 80) row=if 8≤row.length then some (.agg (row.take 8)) else none:=by simp[part,zMC,TI.isAgg,W4,zOD]
@[go_sem] theorem zUG (id i off:Nat):zA (tyi Tryz.prog 80) 0 (.mp id i off)=some (.mp id i (off+0)):=by simp[zA,W4]
@[go_sem] theorem zUH (r:List PV):zA (tyi Tryz.prog 80) 0 (.cp r)=some (.cp (r.drop 0)):=by simp[zA,W4]
@[go_sem] theorem zUI (cs:List PV):zK (tyi Tryz.prog 80) 0 (.agg cs)=if 0+3≤cs.length then some (.agg ((cs.drop 0).take 3)) else none:=by simp[zK,W4]
@[go_sem] theorem zUJ (id i off:Nat):zA (tyi Tryz.prog 80) 1 (.mp id i off)=some (.mp id i (off+3)):=by simp[zA,W4]
@[go_sem] theorem zUK (r:List PV):zA (tyi Tryz.prog 80) 1 (.cp r)=some (.cp (r.drop 3)):=by simp[zA,W4]
@[go_sem] theorem zUL (cs:List PV):zK (tyi Tryz.prog 80) 1 (.agg cs)=if 3+3≤cs.length then some (.agg ((cs.drop 3).take 3)) else none:=by simp[zK,W4]
@[go_sem] theorem zUM (id i off:Nat):zA (tyi Tryz.prog 80) 2 (.mp id i off)=some (.mp id i (off+6)):=by simp[zA,W4]
@[go_sem] theorem zUN (r:List PV):zA (tyi Tryz.prog 80) 2 (.cp r)=some (.cp (r.drop 6)):=by simp[zA,W4]
@[go_sem] theorem zUO (cs:List PV):zK (tyi Tryz.prog 80) 2 (.agg cs)=cs[6]? := by simp[zK,W4]
@[go_sem] theorem zUP (id i off:Nat):zA (tyi Tryz.prog 80) 3 (.mp id i off)=some (.mp id i (off+7)):=by simp[zA,W4]
@[go_sem] theorem zUQ (r:List PV):zA (tyi Tryz.prog 80) 3 (.cp r)=some (.cp (r.drop 7)):=by simp[zA,W4]
@[go_sem] theorem zUR (cs:List PV):zK (tyi Tryz.prog 80) 3 (.agg cs)=cs[7]? := by simp[zK,W4]
attribute [go_sem] zMD
def dc (v d:Rat) (b:Int) (f:Bool):List PV:=[.bool (yT v),zu v.num.natAbs,zu v.den,.bool (yT d),zu d.num.natAbs,zu d.den,.int .i64 b,.bool f]
theorem kb (v d:Rat) (b:Int) (f:Bool):zh (.agg (dc v d b f)):=⟨rfl,fun _=>rfl⟩
def IsD (B:Nat) (r:Option DV) (v d:Rat) (b:Int) (f:Bool):Prop:=match r with
 | some x=>v=x.1∧d=x.2∧b=B∧f=false∧jj B x
 | none=>f=true
theorem zHV (S:zB) (q:Rat) (hq:uE q 1000000):zO (callL Tryz.prog zD) S 32 [rrV q]=some {v:=xY q} := zF (JL q hq) (by simp[qA])
theorem zAf (S:zB) (q:Rat) (B:Nat):zO (callL Tryz.prog zD) S 136 [xY q,.int .i64 B]=some {v:=.bool (Zh B q)} := zF (by rw[QI];simp[Zh]) (by simp[uK,zh.int])
theorem XP (S:zB):zO (callL Tryz.prog zD) S 51 []=some {v:=rrV 0} := zF Y1 (by simp)
theorem zIW (S:zB):zO (callL Tryz.prog zD) S 34 []=some {v:=rrV 1} := zF zEI (by simp)
theorem zC3 (S:zB) (q r:Rat) (hq:uE q 300000) (hr:uE r 300000):zO (callL Tryz.prog zD) S 138 [rrV q,rrV r]=some {v:=rrV (q*r)} := zF (U8 q r hq hr) (by simp[qA])
theorem zC4 (S:zB) (q r:Rat) (hq:uE q 300000) (hr:uE r 300000):zO (callL Tryz.prog zD) S 139 [rrV q,rrV r]=some {v:=rrV (q+r)} := zF (zEJ q r hq hr) (by simp[qA])
theorem WD {B:Nat} (hB:B≤4096) {q:Rat} (h:wB q B):uE q 300000:=h.dec.mono (by omega)
section
attribute [local irreducible] Vs.callL Vs.callRL tyi zO zn zg zR zY za zI zZ zA zK ze zX zG zJ zW zr yJ zq zL zf Vs.gc zH
noncomputable def zPz:FX:=⟨Tryz.f137,zD.of 137,[]⟩
instance ok137_:zPz.ok 137:=FX.mk'
theorem zJv:callL Tryz.prog zD 137 []=some (.agg (dc 0 0 0 true)):=by
 have z:=XP;apply FX.callV ok137_ 1000 rfl rfl
 ·unfold rrV rrL zu yN at *;((repeat((conv=>lhs;whnf);simp only[go_sem,simprocAttr,z]));try rfl)
 ·rfl
theorem zC5 (S:zB):zO (callL Tryz.prog zD) S 137 []=some {v:=.agg (dc 0 0 0 true)} := zF zJv (by simp)
noncomputable def zSf:FX:=⟨Tryz.f90,zD.of 90,[]⟩
instance ok90_:zSf.ok 90:=FX.mk'
def kK (B:Nat) (x:DV):List PV:=if (Zh B x.1&&Zh B x.2)=true then dc x.1 x.2 B false else dc 0 0 0 true
theorem uD (B:Nat) (x:DV) : ∃v d b f,kK B x=dc v d b f∧IsD B (kJ B x) v d b f:=by
 unfold kK
 cases e:kJ B x with
 | some y =>
  obtain⟨rfl,h⟩:=zT.1 e;have:(Zh B y.1&&Zh B y.2)=true:=by rw[vz.2 h.1,vz.2 h.2];rfl
  exact⟨_,_,_,_,bA this,rfl,rfl,rfl,rfl,h⟩
 | none =>
  have : ¬(Zh B x.1&&Zh B x.2)=true:=fun h=>by
   unfold kJ at e;rw[bA h]at e;cases e
  exact⟨_,_,_,_,hZ this,rfl⟩
theorem zFL (v d:Rat) (B:Nat) (hv:uE v 1000000) (hd:uE d 1000000):callL Tryz.prog zD 90 [.agg (dc v d B false)]=some (.agg (kK B (v,d))):=by
 have t1:=fun S=>zHV S v hv;have t2:=fun S=>zHV S d hd;have s1:=fun S=>zAf S v B;have s2:=fun S=>zAf S d B;have lo:=zC5;unfold kK;dsimp only
 cases e1:Zh B v
 ·rw[e1]at s1;rw[bB,hZ (by simp)];apply FX.callV ok90_ 1000 rfl rfl
  ·unfold dc at *;unfold xY ku at *;unfold rrV rrL zu yN at *;((repeat((conv=>lhs;whnf);simp only[go_sem,simprocAttr,t1,s1,lo]));try rfl)
  ·rfl
 rw[e1]at s1
 cases e2:Zh B d
 ·rw[e2]at s2;rw[bQ,hZ (by simp)];apply FX.callV ok90_ 1000 rfl rfl
  ·unfold dc at *;unfold xY ku at *;unfold rrV rrL zu yN at *;((repeat((conv=>lhs;whnf);simp only[go_sem,simprocAttr,t1,s1,t2,s2,lo]));try rfl)
  ·rfl
 rw[e2]at s2;rw[sH,bA rfl];apply FX.callV ok90_ 1000 rfl rfl
 ·unfold dc at *;unfold xY ku at *;unfold rrV rrL zu yN at *;((repeat((conv=>lhs;whnf);simp only[go_sem,simprocAttr,t1,s1,t2,s2,lo]));try rfl)
 ·rfl
theorem XQ (S:zB) (v d:Rat) (B:Nat) (hv:uE v 1000000) (hd:uE d 1000000):zO (callL Tryz.prog zD) S 90 [.agg (dc v d B false)]=some {v:=.agg (kK B (v,d))} := zF (zFL v d B hv hd) (by simp[kb])
noncomputable def zSg:FX:=⟨Tryz.f50,zD.of 50,[]⟩
instance ok50_:zSg.ok 50:=FX.mk'
theorem Ji (S:zB) (B:Nat) (x:DV):vI S (.agg (kK B x))=some (.agg (kK B x)):=by
 obtain⟨v,d,b,f,h,_⟩:=uD B x;rw[h];rfl
theorem UN (B:Nat) (x:DV):(kK B x).length=8:=by
 obtain⟨v,d,b,f,h,_⟩:=uD B x;rw[h];rfl
theorem W5 (B:Nat) (x:DV):(kK B x).all PV.cell=true:=by
 obtain⟨v,d,b,f,h,_⟩:=uD B x;rw[h];rfl
theorem W6 (B:Nat) (x:DV):(kK B x).take 8=kK B x:=by
 obtain⟨v,d,b,f,h,_⟩:=uD B x;rw[h];rfl
theorem zHW (v:Rat) (B:Nat) (hv:uE v 1000000):callL Tryz.prog zD 50 [rrV v,.int .i64 B]=some (.agg (kK B (v,0))):=by
 have z:=XP;have lo:=fun S=>XQ S v 0 B hv ((uC (B:=1) (by omega)).dec.mono (by omega));have l1:=UN B (v,0);have l2:=W5 B (v,0);have l3:=W6 B (v,0);have l4:=fun S=>Ji S B (v,0);generalize kK B (v,0)=C at *;apply FX.callV ok50_ 1000 rfl rfl
 ·unfold dc at *;unfold rrV rrL zu yN at *;((repeat((conv=>lhs;whnf);simp only[go_sem,simprocAttr,z,lo,l1,l2,l3]));try rfl)
 ·exact l4 _
theorem jd (S:zB) (v:Rat) (B:Nat) (hv:uE v 1000000):zO (callL Tryz.prog zD) S 50 [rrV v,.int .i64 B]=some {v:=.agg (kK B (v,0))} := zF (zHW v B hv) (by simp[qA,zh.int])
end
end
section
theorem zUk {n d k:Nat} {neg:Bool} (hd:d≠0) (h1:(dec n).length≤k) (h2:(dec d).length≤k):uE (mkRat (sg neg n) d) k:=by
 unfold uE;rw[Ks hd,Kt hd,jx];exact⟨bO (vE DB2 (HV _ _)) h1,bO (vE DB2 (HV _ _)) h2⟩
theorem zOc {q r:Rat} {j k:Nat} (hq:uE q j) (hr:uE r k):uE (q*r) (j+k):=by
 rw[WU];exact zUk (PH q.den_nz r.den_nz) (ki hq.1 hr.1) (ki hq.2 hr.2)
theorem zME {q r:Rat} {j:Nat} (hq:uE q j) (hr:uE r j):uE (q+r) (2*j+1):=by
 rw[vA];have hX:(dec (q.num.natAbs*r.den)).length≤2*j:=by have:=ki hq.1 hr.2;omega
 have hY:(dec (r.num.natAbs*q.den)).length≤2*j:=by have:=ki hr.1 hq.2;omega
 have hD:(dec (q.den*r.den)).length≤2*j:=by have:=ki hq.2 hr.2;omega
 generalize q.num.natAbs*r.den=X at *;generalize r.num.natAbs*q.den=Y at *;have hd:=PH q.den_nz r.den_nz;generalize q.den*r.den=D at *;generalize yT q=b;generalize yT r=c;have hN:(sg b X+sg c Y).natAbs≤X+Y:=by
  have:=Int.natAbs_add_le (sg b X) (sg c Y)
  rwa [jx,jx]at this
 have hS:=zII hX hY;have hS':=bO (vE DB2 hN) hS;unfold uE;rw[Ks hd,Kt hd];exact⟨bO (vE DB2 (HV _ _)) hS',bO (vE DB2 (HV _ _)) (by show (dec D).length≤_;omega)⟩
section
attribute [local irreducible] Vs.callL Vs.callRL tyi zO zn zg zR zY za zI zZ zA zK ze zX zG zJ zW zr yJ zq zL zf Vs.gc zH
noncomputable def zSh:FX:=⟨Tryz.f91,zD.of 91,[]⟩
instance ok91_:zSh.ok 91:=FX.mk'
theorem je {B:Nat} (hB:B≤4096) {r1 r2:Option DV} {v1 d1 v2 d2:Rat} {b1 b2:Int} {f1 f2:Bool} (h1:IsD B r1 v1 d1 b1 f1) (h2:IsD B r2 v2 d2 b2 f2) : ∃v d b f,callL Tryz.prog zD 91 [.agg (dc v1 d1 b1 f1),.agg (dc v2 d2 b2 f2)]=some (.agg (dc v d b f))∧IsD B (r1.bind fun x=>r2.bind fun y=>kJ B (xg x y)) v d b f:=by
 have lo:=zC5;cases r1 with
 | none =>
  have e1:f1=true:=h1;subst e1;refine⟨0,0,0,true,?_,rfl⟩;apply FX.callV ok91_ 1000 rfl rfl
  ·unfold dc at *;unfold zu yN at *;((repeat((conv=>lhs;whnf);simp only[go_sem,simprocAttr,lo]));try rfl)
  ·rfl
 | some x =>
 obtain⟨rfl,rfl,rfl,rfl,g1,g2⟩:=h1;cases r2 with
 | none =>
  have e1:f2=true:=h2;subst e1;refine⟨0,0,0,true,?_,rfl⟩;apply FX.callV ok91_ 1000 rfl rfl
  ·unfold dc at *;unfold zu yN at *;((repeat((conv=>lhs;whnf);simp only[go_sem,simprocAttr,lo]));try rfl)
  ·rfl
 | some y =>
 obtain⟨rfl,rfl,rfl,rfl,g3,g4⟩:=h2;have m1:=fun S=>zC3 S x.1 y.1 (WD hB g1) (WD hB g3);have m2:=fun S=>zC3 S x.2 y.1 (WD hB g2) (WD hB g3);have m3:=fun S=>zC3 S x.1 y.2 (WD hB g1) (WD hB g4);have k:=fun q r (hq:wB q B) (hr:wB r B)=>zOc (hq.dec.mono (show 3*B≤12288 by omega)) (hr.dec.mono (show 3*B≤12288 by omega));have a1:=fun S=>zC4 S (x.2*y.1) (x.1*y.2) ((k _ _ g2 g3).mono (by omega)) ((k _ _ g1 g4).mono (by omega));have q1:uE (xg x y).1 1000000:=(k _ _ g1 g3).mono (by omega);have q2:uE (xg x y).2 1000000:=(zME (k _ _ g2 g3) (k _ _ g1 g4)).mono (by omega);have lk:=fun S=>XQ S (xg x y).1 (xg x y).2 B q1 q2;have lk' : ∀S,zO (callL Tryz.prog zD) S 90 [.agg (dc (x.1*y.1) (x.2*y.1+x.1*y.2) B false)]=some {v:=.agg (kK B (xg x y))} := lk;obtain⟨v,d,b,f,e,his⟩:=uD B (xg x y);refine⟨v,d,b,f,?_,his⟩;have l1:=UN B (xg x y);have l2:=W5 B (xg x y);have l3:=W6 B (xg x y);have l4:=fun S=>Ji S B (xg x y);rw[←e];generalize kK B (xg x y)=C at *;apply FX.callV ok91_ 1000 rfl rfl
 ·unfold dc at *;unfold rrV rrL zu yN at *;((repeat((conv=>lhs;whnf);simp only[go_sem,simprocAttr,m1,m2,m3,a1,lk',l1,l2,l3]));try rfl)
 ·exact l4 _
noncomputable def zSi:FX:=⟨Tryz.f92,zD.of 92,[]⟩
instance ok92_:zSi.ok 92:=FX.mk'
theorem zFM {B:Nat} (hB:B≤4096) {r1 r2:Option DV} {v1 d1 v2 d2:Rat} {b1 b2:Int} {f1 f2:Bool} (h1:IsD B r1 v1 d1 b1 f1) (h2:IsD B r2 v2 d2 b2 f2) : ∃v d b f,callL Tryz.prog zD 92 [.agg (dc v1 d1 b1 f1),.agg (dc v2 d2 b2 f2)]=some (.agg (dc v d b f))∧IsD B (r1.bind fun x=>r2.bind fun y=>kJ B (Y8 x y)) v d b f:=by
 have lo:=zC5;cases r1 with
 | none =>
  have e1:f1=true:=h1;subst e1;refine⟨0,0,0,true,?_,rfl⟩;apply FX.callV ok92_ 1000 rfl rfl
  ·unfold dc at *;unfold zu yN at *;((repeat((conv=>lhs;whnf);simp only[go_sem,simprocAttr,lo]));try rfl)
  ·rfl
 | some x =>
 obtain⟨rfl,rfl,rfl,rfl,g1,g2⟩:=h1;cases r2 with
 | none =>
  have e1:f2=true:=h2;subst e1;refine⟨0,0,0,true,?_,rfl⟩;apply FX.callV ok92_ 1000 rfl rfl
  ·unfold dc at *;unfold zu yN at *;((repeat((conv=>lhs;whnf);simp only[go_sem,simprocAttr,lo]));try rfl)
  ·rfl
 | some y =>
 obtain⟨rfl,rfl,rfl,rfl,g3,g4⟩:=h2;have k:=fun q (hq:wB q B)=>hq.dec.mono (show 3*B≤12288 by omega);have a1:=fun S=>zC4 S x.1 y.1 (WD hB g1) (WD hB g3);have a2:=fun S=>zC4 S x.2 y.2 (WD hB g2) (WD hB g4);have q1:uE (Y8 x y).1 1000000:=(zME (k _ g1) (k _ g3)).mono (by omega);have q2:uE (Y8 x y).2 1000000:=(zME (k _ g2) (k _ g4)).mono (by omega);have lk:=fun S=>XQ S (Y8 x y).1 (Y8 x y).2 B q1 q2;have lk' : ∀S,zO (callL Tryz.prog zD) S 90 [.agg (dc (x.1+y.1) (x.2+y.2) B false)]=some {v:=.agg (kK B (Y8 x y))} := lk;obtain⟨v,d,b,f,e,his⟩:=uD B (Y8 x y);refine⟨v,d,b,f,?_,his⟩;have l1:=UN B (Y8 x y);have l2:=W5 B (Y8 x y);have l3:=W6 B (Y8 x y);have l4:=fun S=>Ji S B (Y8 x y);rw[←e];generalize kK B (Y8 x y)=C at *;apply FX.callV ok92_ 1000 rfl rfl
 ·unfold dc at *;unfold rrV rrL zu yN at *;((repeat((conv=>lhs;whnf);simp only[go_sem,simprocAttr,a1,a2,lk',l1,l2,l3]));try rfl)
 ·exact l4 _
end
end
section
def Jj (r:Option Node):PV:=match r with
 | some w=>.tup [.agg w.cells,.bool true]
 | none=>.tup [.agg nd0.cells,.bool false]
theorem zAg {I:List Pr} {i:Nat} (h:i<I.length) (s:Node):jc (I.drop i) s=if (I.getD i pr0).what.cmp s=0 then some (I.getD i pr0).wth else jc (I.drop (i+1)) s:=by
 rw[V3 h];rfl
mutual
def Node.unk (I:List Pr):Node→Bool
 | .mk o nm ng nu de f=>decide (o=13)||((yP o&&(jc I (Node.mk o nm ng nu de f).head).isNone)||Node.unks I f)
def Node.unks (I:List Pr):List Node→Bool
 | []=>false
 | n::r=>n.unk I||Node.unks I r
end
theorem Node.unk_eq (I:List Pr) (n:Node):n.unk I=(decide (n.op=13)||((yP n.op&&(jc I n.head).isNone)||Node.unks I n.kids)):=by cases n;rfl
theorem zMF (S:zB) (e:Env) (k:Nat) (h:k=S.length):Vs.gc k e S=S:=by
 unfold Vs.gc
 split
 ·rw[h,SF]
 ·rfl
theorem zSj {P:PV→zB→Prop} {x:Option (PV × zB)} {r:PV} {S':zB} (h:x=some (r,S')) (k:P r S') : ∃r S',x=some (r,S')∧P r S':=⟨r,S',h,k⟩
section
attribute [local irreducible] Vs.callL Vs.callRL tyi zO zn zg zR zY za zI zZ zA zK ze zX zG zJ zW zr yJ zq zL zf Vs.gc zH
noncomputable def zOd:FX:=⟨Tryz.f88,zD.of 88,[]⟩
instance ok88_:zOd.ok 88:=FX.mk'
theorem zC6 (I:List Pr) (hI : ∀p∈I,p.ok) (hl:I.length≤60) (n hd:Node) (hh:hd.ok) : ∀(m i:Nat),i+m=I.length →
  ∃r S',zU 0 zOd 0 116 3 [.blk 0,.seq 0 15] [(1,.sl (zS I) false),(4,.mp 1 0 0),(6,.mp 2 0 0),(7,.int .i64 i)] [.arr [n.cells] none false,.arr [[.int .i64 0,.str ⟨#[]⟩,.bool false,.sl [] true,.sl [] true,.sl [] true]] none false,.arr [hd.cells] none false]=some (r,S')∧vI S' r=some (Jj (jc (I.drop i) hd)):=by
 intro m
 induction m with
 | zero =>
  intro i hi;have h1 : ¬(i:Int)<(I.length:Int):=by omega
  rw[bU (by omega)];apply zSj
  ·apply zC;(repeat((conv=>lhs;whnf);simp only[go_sem,simprocAttr,h1]));apply zN;((repeat((conv=>lhs;whnf);simp only[go_sem,simprocAttr,vO]));try rfl)
  ·rfl
 | succ m hm =>
  intro i hi;have h1:(i:Int)<(I.length:Int):=by omega
  have h2:=zi (i:=i) (n:=I.length) (by omega) (by unfold maxLen;omega);have h4:0≤(i:Int)∧(i:Int)<(I.length:Int):=⟨by omega,h1⟩;have hp:=hI _ (vk (I:=I) (i:=i) (by omega));have hE:=fun S=>zEk S _ hd hp.what hh;rw[zAg (by omega)];by_cases c:(I.getD i pr0).what.cmp hd=0
  ·rw[bA c];apply zSj
   ·apply zC;((repeat((conv=>lhs;whnf);simp only[go_sem,simprocAttr,h1,h4,bD,hE,c]));try rfl)
   ·exact zLg _ _ _
  ·rw[hZ c];obtain⟨r,S',k1,k2⟩:=hm (i+1) (by omega);refine⟨r,S',?_,k2⟩;apply zC;(repeat((conv=>lhs;whnf);simp only[go_sem,simprocAttr,h1,h2,h4,bD,hE,c]));exact k1
theorem zC7 (I:List Pr) (hI : ∀p∈I,p.ok) (hl:I.length≤60) (n:Node) (hn:n.ok):callL Tryz.prog zD 88 [.agg n.cells,.sl (zS I) false]=some (Jj (jc I n.head)):=by
 obtain⟨r,S',k1,k2⟩:=zC6 I hI hl n n.head (zIO hn) I.length 0 (by omega);rw[bY]at k2;have hd:=fun S=>zPq S n;apply FX.callV (r:=(r,S')) ok88_ 1000 rfl rfl
 ·(repeat((conv=>lhs;whnf);simp only[go_sem,simprocAttr,hd]));exact k1
 ·exact k2
theorem UO (S:zB) (I:List Pr) (hI : ∀p∈I,p.ok) (hl:I.length≤60) (n:Node) (hn:n.ok):zO (callL Tryz.prog zD) S 88 [.agg n.cells,.sl (zS I) false]=some {v:=Jj (jc I n.head)} := zF (zC7 I hI hl n hn) (by simp[Node.plain,zh.sl])
noncomputable def zOe:FX:=⟨Tryz.f48,zD.of 48,[]⟩
instance ok48_:zOe.ok 48:=FX.mk'
theorem Va (I:List Pr) (X:zB) (n:Node) (hn:n.ok) (ih : ∀k∈n.kids,callL Tryz.prog zD 48 [.agg k.cells,.sl (zS I) false]=some (.bool (k.unk I))) : ∀(m i:Nat),i+m=n.kids.length →
  ∃S',zU 0 zOe 0 244 (X.length+1) [.blk 0,.seq 0 31] [(1,.sl (zS I) false),(2,.mp 0 0 0),(7,.int .i64 i)] (.arr [n.cells] none false::X)=some (.bool (Node.unks I (n.kids.drop i)),S'):=by
 intro m;have hG:=fun e=>zMF (.arr [n.cells] none false::X) e (X.length+1) rfl
 induction m with
 | zero =>
  intro i hi;have h1 : ¬(i:Int)<(n.kids.length:Int):=by omega
  rw[bU (by omega)];apply Exists.intro;apply zC;(repeat((conv=>lhs;whnf);simp only[go_sem,simprocAttr,h1,hG]));apply zN;unfold Node.unks;((repeat((conv=>lhs;whnf);simp only[go_sem,simprocAttr]));try rfl)
 | succ m hm =>
  intro i hi;have h1:(i:Int)<(n.kids.length:Int):=by omega
  have h2:=zi (i:=i) (n:=n.kids.length) (by omega) hn.len;have h4:0≤(i:Int)∧(i:Int)<(n.kids.length:Int):=⟨by omega,h1⟩;have h5:=fun S=>zF (S:=S) (ih _ (yA (l:=n.kids) (i:=i) (by omega))) (by simp[Node.plain,zh.sl]);obtain⟨S',key⟩:=hm (i+1) (by omega);have h7:Node.unks I (n.kids.drop i)=((n.kids.getD i nd0).unk I||Node.unks I (n.kids.drop (i+1))):=by rw[xO (l:=n.kids) (i:=i) (by omega)];rfl
  rw[h7]
  cases hd:(n.kids.getD i nd0).unk I
  case true =>
   rw[hd]at h5;rw[pI];apply Exists.intro;apply zC;((repeat((conv=>lhs;whnf);simp only[go_sem,simprocAttr,h1,h4,h5]));try rfl)
  case false =>
   rw[hd]at h5;rw[bX];refine⟨S',?_⟩;apply zC;(repeat((conv=>lhs;whnf);simp only[go_sem,simprocAttr,h1,h2,h4,h5,hG]));exact key
theorem zC8 (I:List Pr) (hI : ∀p∈I,p.ok) (hl:I.length≤60) : ∀n:Node,n.ok→callL Tryz.prog zD 48 [.agg n.cells,.sl (zS I) false]=some (.bool (n.unk I)):=by
 refine Node.ind' fun n ih hn=>?_;have hs:=fun S=>vu S n;have hM:=fun S=>UO S I hI hl n hn;rw[Node.unk_eq];by_cases h13:n.op=13
 ·rw[bH h13,pI];apply FX.callB2 ok48_ 1000 rfl rfl;((repeat((conv=>lhs;whnf);simp only[go_sem,simprocAttr,h13]));try rfl)
 rw[bI h13,bX]
 cases e:yP n.op
 ·rw[e]at hs;obtain⟨S',h⟩:=Va I [] n hn (fun k hk'=>ih k hk' (hn.kids k hk')) n.kids.length 0 (by omega);rw[bY]at h;rw[bB,bX];apply FX.callB2 ok48_ 1000 rfl rfl;(repeat((conv=>lhs;whnf);simp only[go_sem,simprocAttr,h13,hs]));exact h
 rw[e]at hs;rw[bC]
 cases em:jc I n.head with
 | none =>
  rw[em]at hM;unfold Jj at hM;rw[Option.isNone_none,pI];apply FX.callB2 ok48_ 1000 rfl rfl;((repeat((conv=>lhs;whnf);simp only[go_sem,simprocAttr,h13,hs,hM,zj]));try rfl)
 | some w =>
  rw[em]at hM;unfold Jj at hM;rw[Option.isNone_some,bX];obtain⟨S',h⟩:=Va I [.arr [w.cells] none false] n hn (fun k hk'=>ih k hk' (hn.kids k hk')) n.kids.length 0 (by omega);rw[bY]at h;apply FX.callB2 ok48_ 1000 rfl rfl;(repeat((conv=>lhs;whnf);simp only[go_sem,simprocAttr,h13,hs,hM,zj]));exact h
theorem Xg (S:zB) (I:List Pr) (hI : ∀p∈I,p.ok) (hl:I.length≤60) (n:Node) (hn:n.ok):zO (callL Tryz.prog zD) S 48 [.agg n.cells,.sl (zS I) false]=some {v:=.bool (n.unk I)} := zF (zC8 I hI hl n hn) (by simp[Node.plain,zh.sl])
end
end
section
structure RC (B:Nat) (L:List Bd) (I:List Pr):Prop where
 b1:1≤B
 b2:B≤4096
 okL:WZ L
 val:Yk L=true
 okI : ∀p∈I,p.ok
 len:I.length≤60
section
variable {B:Nat} {L:List Bd} {I:List Pr} (h:RC B L I)
include h
theorem RC.good : ∀b∈L,b.good:=(JZ.1 h.val).2.1
theorem RC.llen:L.length≤1000000:=by have:=(JZ.1 h.val).1;omega
end
def EvR (B:Nat) (L:List Bd) (I:List Pr) (g:DV→Bool→Option DV) (w:Node):Prop:=∀(a c:Rat) (df:Bool),jj B (a,c)→∃v d b f,callL Tryz.prog zD 49 [.agg w.cells,.sl (yC L) false,.sl (zS I) false,.agg (dc a c B false),.bool df]=some (.agg (dc v d b f))∧IsD B (g (a,c) df) v d b f
theorem EvR.o {B:Nat} {L:List Bd} {I:List Pr} {g:DV→Bool→Option DV} {w:Node} (h:EvR B L I g w) {a c:Rat} (df:Bool) (hf:jj B (a,c)) : ∃v d b f,(∀S,zO (callL Tryz.prog zD) S 49 [.agg w.cells,.sl (yC L) false,.sl (zS I) false,.agg (dc a c B false),.bool df]=some {v:=.agg (dc v d b f)})∧IsD B (g (a,c) df) v d b f:=by
 obtain⟨v,d,b,f,h1,h2⟩:=h a c df hf;exact⟨v,d,b,f,fun S=>zF h1 (by simp[Node.plain,zh.sl,kb,zh.bool]),h2⟩
theorem Jk (S:zB) {c:List PV} {q:Rat} (h:PV.agg c=xY q) (hq:wB q 100000):zO (callL Tryz.prog zD) S 89 [.agg c]=some {v:=rrV q} := zF (by rw[h];exact zG3 q hq) (by rw[h];simp[uK])
theorem zQA:zu 1=.sl [[.int .i64 1]] false:=by unfold zu yN;rw[zG1];rfl
theorem zHX:callL Tryz.prog zD 33 [.int .i64 (-1)]=some (rrV (-1)):=by
 have e:rrV (-1)=.agg [.bool true,.sl [[.int .i64 1]] false,.sl [[.int .i64 1]] false]:=by
  unfold rrV rrL;rw[show yT (-1)=true from rfl,show (-1:Rat).num.natAbs=1 from rfl,show (-1:Rat).den=1 from rfl,zQA]
 rw[e];exact Qz (n:=60) (by kernel_rfl)
theorem zIX (S:zB):zO (callL Tryz.prog zD) S 33 [.int .i64 (-1)]=some {v:=rrV (-1)} := zF zHX (by simp[zh.int])
theorem zC9 (ti:TI) (a b:ByteArray) (h:a.size+b.size≤9223372036854775807):xR .add ti (.str a) (.str b)=some (.str (a++b)):=by
 show (if a.size+b.size≤9223372036854775807 then some (PV.str (a++b)) else none)=_
 rw[bA h]
theorem Xh (ti:TI) {nm:ByteArray} (h:yQ nm=true):xR .add ti (.str nm) (.str ⟨#[39]⟩)=some (.str (wu nm)):=by
 refine zC9 ti nm ⟨#[39]⟩ ?_;have e:(⟨#[39]⟩:ByteArray).size=1:=rfl;rw[e];unfold yQ at h;simp only[bP,bR]at h;omega
theorem zSk {B:Nat} (h:1≤B) (q:Rat) (hq:wB q B):jj B (q,0):=⟨hq,uC h⟩
theorem Vb {B:Nat} {x:DV} (h:jj B x):kJ B x=some x:=zT.2 ⟨rfl,h⟩
section
attribute [local irreducible] Vs.callL Vs.callRL tyi zO zn zg zR zY za zI zZ zA zK ze zX zG zJ zW zr yJ zq zL zf Vs.gc zH
theorem Jl (S:zB) (v d:Rat) (b:Int):zO (callL Tryz.prog zD) S 90 [.agg (dc v d b true)]=some {v:=.agg (dc 0 0 0 true)} := by
 refine zF ?_ (by simp[kb]);have lo:=zC5;apply FX.callV ok90_ 1000 rfl rfl
 ·unfold dc at *;unfold zu yN at *;((repeat((conv=>lhs;whnf);simp only[go_sem,simprocAttr,lo]));try rfl)
 ·rfl
noncomputable def zFN:FX:=⟨Tryz.f49,zD.of 49,[]⟩
instance ok49_:zFN.ok 49:=FX.mk'
theorem zMG {B:Nat} {L:List Bd} {I:List Pr} (h:RC B L I) (sy:Node→DV→Bool→Option DV) (n:Node) (hn:n.ok) (ho:n.op=1) (hc:vt n.neg n.num n.den=true):EvR B L I (n.ev B L sy) n:=by
 intro a c df hf;rw[Node.ev_eq];unfold xe;rw[bA ho];obtain⟨q1,q2,_⟩:=Xf hc hn.val.n;have of:=fun S=>Jk S q1 (q2.mono (by omega));have pl:=fun S=>jd S (Zi n.num) B (q2.dec.mono (by omega));obtain⟨v,d,b,f,e,his⟩:=uD B (Zi n.num,0);rw[e]at pl;refine⟨v,d,b,f,?_,his⟩;apply FX.callV ok49_ 1000 rfl rfl
 ·unfold dc at *;unfold rrV rrL zu yN at *;((repeat((conv=>lhs;whnf);simp only[go_sem,simprocAttr,ho,of,pl]));try rfl)
 ·rfl
theorem zHY {B:Nat} {L:List Bd} {I:List Pr} (h:RC B L I) (sy:Node→DV→Bool→Option DV) (n:Node) (hn:n.ok) (ho:n.op=3) (hnm:yQ n.name=true):EvR B L I (n.ev B L sy) n:=by
 intro a c df hf;rw[Node.ev_eq];unfold xe
 repeat rw[hZ (by rw[ho];decide)]
 rw[bA ho];obtain⟨q1,q2⟩:=YF (qE (nm:=wu n.name) h.okL h.good);have ad:=fun ti=>Xh ti hnm;have gt:=fun S=>zCH S L (wu n.name) h.llen;have of:=fun S=>Jk S q1 (q2.mono (by omega));have pl:=fun S=>jd S (uZ L (wu n.name)) B (q2.dec.mono (by omega));obtain⟨v,d,b,f,e,his⟩:=uD B (uZ L (wu n.name),0);rw[e]at pl;refine⟨v,d,b,f,?_,his⟩;unfold uZ at *;apply FX.callV ok49_ 1000 rfl rfl
 ·unfold dc at *;unfold rrV rrL zu yN at *;((repeat((conv=>lhs;whnf);simp only[go_sem,simprocAttr,ho,ad,gt,of,pl]));try rfl)
 ·rfl
theorem zMH {B:Nat} {L:List Bd} {I:List Pr} (h:RC B L I) (sy:Node→DV→Bool→Option DV) (n:Node) (hn:n.ok) (ho:n.op=13):EvR B L I (n.ev B L sy) n:=by
 intro a c df hf;rw[Node.ev_eq];unfold xe
 repeat rw[hZ (by rw[ho];decide)]
 rw[bA ho];refine⟨a,c,B,false,?_,rfl,rfl,rfl,rfl,hf⟩;apply FX.callV ok49_ 1000 rfl rfl
 ·unfold dc at *;unfold zu yN at *;((repeat((conv=>lhs;whnf);simp only[go_sem,simprocAttr,ho]));try rfl)
 ·rfl
theorem zMI {B:Nat} {L:List Bd} {I:List Pr} (h:RC B L I) (sy:Node→DV→Bool→Option DV) (n:Node) (hn:n.ok) (ho:n.op=2) (hnm:yQ n.name=true):EvR B L I (n.ev B L sy) n:=by
 intro a c df hf;rw[Node.ev_eq];unfold xe;rw[hZ (by rw[ho];decide)];rw[bA ho];obtain⟨q1,q2⟩:=YF (qE (nm:=n.name) h.okL h.good);have gt:=fun S=>zCH S L n.name h.llen;have of:=fun S=>Jk S q1 (q2.mono (by omega));have pl:=fun S=>jd S (uZ L n.name) B (q2.dec.mono (by omega));obtain⟨p1,p2⟩:=YF (qE (nm:=wu n.name) h.okL h.good);have ad:=fun ti=>Xh ti hnm;have gt2:=fun S=>zCH S L (wu n.name) h.llen;have of2:=fun S=>Jk S p1 (p2.mono (by omega));have z:=uC h.b1;by_cases hq:wB (uZ L n.name) B
 ·have e1:kK B (uZ L n.name,0)=dc (uZ L n.name) 0 B false:=bA (by rw[vz.2 hq,vz.2 z];rfl);rw[e1]at pl;cases df
  ·rw[hZ (by simp)];have lk:=fun S=>XQ S (uZ L n.name) 0 B (q2.dec.mono (by omega)) (z.dec.mono (by have:=h.b2;omega));rw[e1]at lk;refine⟨uZ L n.name,0,B,false,?_,?_⟩
   ·apply FX.callV (v:=.agg (dc (uZ L n.name) 0 B false)) ok49_ 1000 rfl rfl
    ·unfold uZ at *;unfold dc at *;unfold rrV rrL zu yN at *;((repeat((conv=>lhs;whnf);simp only[go_sem,simprocAttr,ho,gt,of,pl,lk]));try rfl)
    ·rfl
   ·rw[Vb (zSk h.b1 _ hq)];exact⟨rfl,rfl,rfl,rfl,hq,z⟩
  ·rw[bA rfl];have lk:=fun S=>XQ S (uZ L n.name) (uZ L (wu n.name)) B (q2.dec.mono (by omega)) (p2.dec.mono (by omega));obtain⟨v,d,b,f,e,his⟩:=uD B (uZ L n.name,uZ L (wu n.name));rw[e]at lk;refine⟨v,d,b,f,?_,his⟩;apply FX.callV ok49_ 1000 rfl rfl
   ·unfold uZ at *;unfold dc at *;unfold rrV rrL zu yN at *;((repeat((conv=>lhs;whnf);simp only[go_sem,simprocAttr,ho,gt,of,pl,ad,gt2,of2,lk]));try rfl)
   ·rfl
 ·have hq':Zh B (uZ L n.name)=false:=by
   cases e:Zh B (uZ L n.name)
   ·rfl
   ·exact absurd (vz.1 e) hq
  have e1:kK B (uZ L n.name,0)=dc 0 0 0 true:=hZ (by rw[hq'];simp);rw[e1]at pl;have e2:kJ B (uZ L n.name,if df=true then uZ L (wu n.name) else 0)=none:=hZ (by rw[hq'];simp);rw[e2];refine⟨0,0,0,true,?_,rfl⟩;cases df
  ·have lk:=fun S=>Jl S 0 0 0;apply FX.callV ok49_ 1000 rfl rfl
   ·unfold uZ at *;unfold dc at *;unfold rrV rrL zu yN at *;((repeat((conv=>lhs;whnf);simp only[go_sem,simprocAttr,ho,gt,of,pl,lk]));try rfl)
   ·rfl
  ·have lk:=fun S=>Jl S 0 (uZ L (wu n.name)) 0;apply FX.callV ok49_ 1000 rfl rfl
   ·unfold uZ at *;unfold dc at *;unfold rrV rrL zu yN at *;((repeat((conv=>lhs;whnf);simp only[go_sem,simprocAttr,ho,gt,of,pl,ad,gt2,of2,lk]));try rfl)
   ·rfl
end
end
section
theorem zCa {B:Nat} (h:1≤B):jj B (-1,0):=⟨V9 (V8 h),uC h⟩
theorem XR {n:Node} (h:0<n.kids.length):0≤(0:Int)∧(0:Int)<(n.kids.length:Int):=⟨by omega,by omega⟩
theorem Qa {n:Node} (h:1<n.kids.length):0≤(1:Int)∧(1:Int)<(n.kids.length:Int):=⟨by omega,by omega⟩
section
attribute [local irreducible] Vs.callL Vs.callRL tyi zO zn zg zR zY za zI zZ zA zK ze zX zG zJ zW zr yJ zq zL zf Vs.gc zH
theorem zMJ {B:Nat} {L:List Bd} {I:List Pr} (h:RC B L I) (sy:Node→DV→Bool→Option DV) (n:Node) (hn:n.ok) (ho:n.op=4) (h0:0<n.kids.length) (k0:EvR B L I ((n.kids.getD 0 nd0).ev B L sy) (n.kids.getD 0 nd0)):EvR B L I (n.ev B L sy) n:=by
 intro a c df hf;rw[Node.ev_eq];unfold xe
 repeat rw[hZ (by rw[ho];decide)]
 rw[bA ho];obtain⟨v1,d1,b1,f1,e1,i1⟩:=k0.o df hf;rw[uB _ _ _ _ _ h0];have x0:=XR h0;have mi:=zIX;have pl:=fun S=>jd S (-1) B ((zCa h.b1).1.dec.mono (by have:=h.b2;omega));obtain⟨vm,dm,bm,fm,em,im⟩:=uD B (-1,0);rw[em]at pl;obtain⟨v,d,b,f,ep,ip⟩:=je h.b2 im i1;rw[Vb (zCa h.b1),bG]at ip;have pr:=fun S=>zF (S:=S) ep (by simp[kb]);refine⟨v,d,b,f,?_,ip⟩;apply FX.callV ok49_ 1000 rfl rfl
 ·unfold dc at *
  try unfold rrV rrL at *
  unfold zu yN at *;((repeat((conv=>lhs;whnf);simp only[go_sem,simprocAttr,ho,x0,e1,mi,pl,pr]));try rfl)
 ·rfl
theorem zMK {B:Nat} {L:List Bd} {I:List Pr} (h:RC B L I) (sy:Node→DV→Bool→Option DV) (n:Node) (hn:n.ok) (ho:n.op=5) (h0:0<n.kids.length) (k0:EvR B L I ((n.kids.getD 0 nd0).ev B L sy) (n.kids.getD 0 nd0)) (h1:1<n.kids.length) (k1:EvR B L I ((n.kids.getD 1 nd0).ev B L sy) (n.kids.getD 1 nd0)):EvR B L I (n.ev B L sy) n:=by
 intro a c df hf;rw[Node.ev_eq];unfold xe
 repeat rw[hZ (by rw[ho];decide)]
 rw[bA ho];obtain⟨v1,d1,b1,f1,e1,i1⟩:=k0.o df hf;rw[uB _ _ _ _ _ h0];have x0:=XR h0;obtain⟨v2,d2,b2,f2,e2,i2⟩:=k1.o df hf;rw[uB _ _ _ _ _ h1];have x1:=Qa h1;obtain⟨v,d,b,f,ep,ip⟩:=zFM h.b2 i1 i2;have pr:=fun S=>zF (S:=S) ep (by simp[kb]);refine⟨v,d,b,f,?_,ip⟩;apply FX.callV ok49_ 1000 rfl rfl
 ·unfold dc at *
  try unfold rrV rrL at *
  unfold zu yN at *;((repeat((conv=>lhs;whnf);simp only[go_sem,simprocAttr,ho,x0,x1,e1,e2,pr]));try rfl)
 ·rfl
theorem zML {B:Nat} {L:List Bd} {I:List Pr} (h:RC B L I) (sy:Node→DV→Bool→Option DV) (n:Node) (hn:n.ok) (ho:n.op=7) (h0:0<n.kids.length) (k0:EvR B L I ((n.kids.getD 0 nd0).ev B L sy) (n.kids.getD 0 nd0)) (h1:1<n.kids.length) (k1:EvR B L I ((n.kids.getD 1 nd0).ev B L sy) (n.kids.getD 1 nd0)):EvR B L I (n.ev B L sy) n:=by
 intro a c df hf;rw[Node.ev_eq];unfold xe
 repeat rw[hZ (by rw[ho];decide)]
 rw[bA ho];obtain⟨v1,d1,b1,f1,e1,i1⟩:=k0.o df hf;rw[uB _ _ _ _ _ h0];have x0:=XR h0;obtain⟨v2,d2,b2,f2,e2,i2⟩:=k1.o df hf;rw[uB _ _ _ _ _ h1];have x1:=Qa h1;obtain⟨v,d,b,f,ep,ip⟩:=je h.b2 i1 i2;have pr:=fun S=>zF (S:=S) ep (by simp[kb]);refine⟨v,d,b,f,?_,ip⟩;apply FX.callV ok49_ 1000 rfl rfl
 ·unfold dc at *
  try unfold rrV rrL at *
  unfold zu yN at *;((repeat((conv=>lhs;whnf);simp only[go_sem,simprocAttr,ho,x0,x1,e1,e2,pr]));try rfl)
 ·rfl
theorem zMM {B:Nat} {L:List Bd} {I:List Pr} (h:RC B L I) (sy:Node→DV→Bool→Option DV) (n:Node) (hn:n.ok) (ho:n.op=6) (h0:0<n.kids.length) (k0:EvR B L I ((n.kids.getD 0 nd0).ev B L sy) (n.kids.getD 0 nd0)) (h1:1<n.kids.length) (k1:EvR B L I ((n.kids.getD 1 nd0).ev B L sy) (n.kids.getD 1 nd0)):EvR B L I (n.ev B L sy) n:=by
 intro a c df hf;rw[Node.ev_eq];unfold xe
 repeat rw[hZ (by rw[ho];decide)]
 rw[bA ho];obtain⟨v1,d1,b1,f1,e1,i1⟩:=k0.o df hf;rw[uB _ _ _ _ _ h0];have x0:=XR h0;obtain⟨v2,d2,b2,f2,e2,i2⟩:=k1.o df hf;rw[uB _ _ _ _ _ h1];have x1:=Qa h1;have mi:=zIX;have pl:=fun S=>jd S (-1) B ((zCa h.b1).1.dec.mono (by have:=h.b2;omega));obtain⟨vm,dm,bm,fm,em,im⟩:=uD B (-1,0);rw[em]at pl;obtain⟨v3,d3,b3,f3,e3,i3⟩:=je h.b2 im i2;obtain⟨v,d,b,f,ep,ip⟩:=zFM h.b2 i1 i3;have pr:=fun S=>zF (S:=S) e3 (by simp[kb]);have su:=fun S=>zF (S:=S) ep (by simp[kb]);refine⟨v,d,b,f,?_,?_⟩
 rotate_left
 ·rw[Vb (zCa h.b1),bG]at ip;have e : ∀x:DV,(((n.kids.getD 1 nd0).ev B L sy (a,c) df).bind fun y=>kJ B (xg (-1,0) y)).bind (fun z=>kJ B (Y8 x z))=((n.kids.getD 1 nd0).ev B L sy (a,c) df).bind fun y=>kJ B (Y8 x (xg (-1,0) y)):=by
   intro x
   cases ey:(n.kids.getD 1 nd0).ev B L sy (a,c) df with
   | none=>rfl
   | some y =>
    rw[ey]at i2;obtain⟨_,_,_,_,g1,g2⟩:=i2;rw[bG,bG,Vb (by rw[UM];exact⟨V9 g1,V9 g2⟩),bG]
  simp only[e]at ip;exact ip
 apply FX.callV ok49_ 1000 rfl rfl
 ·unfold dc at *
  try unfold rrV rrL at *
  unfold zu yN at *;((repeat((conv=>lhs;whnf);simp only[go_sem,simprocAttr,ho,x0,x1,e1,e2,mi,pl,pr,su]));try rfl)
 ·rfl
theorem zMN {B:Nat} {L:List Bd} {I:List Pr} (h:RC B L I) (sy:Node→DV→Bool→Option DV) (n:Node) (hn:n.ok) (ho:n.op=8) (h0:0<n.kids.length) (k0:EvR B L I ((n.kids.getD 0 nd0).ev B L sy) (n.kids.getD 0 nd0)) (h1:1<n.kids.length) (hc:vt (n.kids.getD 1 nd0).neg (n.kids.getD 1 nd0).num (n.kids.getD 1 nd0).den=true) (hz:(n.kids.getD 1 nd0).num.length≠0):EvR B L I (n.ev B L sy) n:=by
 intro a c df hf;rw[Node.ev_eq];unfold xe
 repeat rw[hZ (by rw[ho];decide)]
 rw[bA ho];obtain⟨v1,d1,b1,f1,e1,i1⟩:=k0.o df hf;rw[uB _ _ _ _ _ h0];have x0:=XR h0;have x1:=Qa h1;have hk:=hn.kids _ (yA h1);obtain⟨q1,q2,q3⟩:=Xf hc hk.val.n;have q3:=q3 hz;have of:=fun S=>Jk S q1 (q2.mono (by omega));have one:=zIW;have dv:=fun S=>zF (S:=S) (zEK 1 (Zi (n.kids.getD 1 nd0).num) ((V8 (B:=1) (by omega)).dec.mono (by omega)) (q2.dec.mono (by omega)) q3) (by simp[qA]);rw[Rat.one_mul]at dv;have qi:wB (Zi (n.kids.getD 1 nd0).num)⁻¹ 20:=by
  obtain⟨r1,r2⟩:=YV q3;have e:(Zi (n.kids.getD 1 nd0).num)⁻¹.num.natAbs=(Zi (n.kids.getD 1 nd0).num).den:=by
   rw[r1];split <;> simp
  exact⟨by rw[e];exact q2.2,by rw[r2];exact q2.1⟩
 have pl:=fun S=>jd S (Zi (n.kids.getD 1 nd0).num)⁻¹ B (qi.dec.mono (by omega));obtain⟨vm,dm,bm,fm,em,im⟩:=uD B ((Zi (n.kids.getD 1 nd0).num)⁻¹,0);rw[em]at pl;obtain⟨v,d,b,f,ep,ip⟩:=je h.b2 im i1;have pr:=fun S=>zF (S:=S) ep (by simp[kb]);refine⟨v,d,b,f,?_,ip⟩;apply FX.callV ok49_ 1000 rfl rfl
 ·unfold dc at *
  try unfold rrV rrL at *
  unfold zu yN at *;((repeat((conv=>lhs;whnf);simp only[go_sem,simprocAttr,ho,x0,x1,e1,of,one,dv,pl,pr]));try rfl)
 ·rfl
theorem zJw {B:Nat} {L:List Bd} {I:List Pr} (h:RC B L I) (sy:Node→DV→Bool→Option DV) (n:Node) (hn:n.ok) (ho:n.op=12) (h0:0<n.kids.length) (k0:EvR B L I ((n.kids.getD 0 nd0).ev B L sy) (n.kids.getD 0 nd0)):EvR B L I (n.ev B L sy) n:=by
 intro a c df hf;rw[Node.ev_eq];unfold xe
 repeat rw[hZ (by rw[ho];decide)]
 rw[bA ho];obtain⟨v1,d1,b1,f1,e1,i1⟩:=k0.o true hf;rw[uB _ _ _ _ _ h0];have x0:=XR h0
 cases ex:(n.kids.getD 0 nd0).ev B L sy (a,c) true with
 | none =>
  rw[ex]at i1;have ef:f1=true:=i1;subst ef;refine⟨v1,d1,b1,true,?_,rfl⟩;apply FX.callV ok49_ 1000 rfl rfl
  ·unfold dc at *
   try unfold rrV rrL at *
   unfold zu yN at *;((repeat((conv=>lhs;whnf);simp only[go_sem,simprocAttr,ho,x0,e1]));try rfl)
  ·rfl
 | some x =>
  rw[ex]at i1;obtain⟨rfl,rfl,rfl,rfl,g1,g2⟩:=i1;rw[bG];have pl:=fun S=>jd S x.2 B (g2.dec.mono (by have:=h.b2;omega));obtain⟨v,d,b,f,e,his⟩:=uD B (x.2,0);rw[e]at pl;refine⟨v,d,b,f,?_,his⟩;apply FX.callV ok49_ 1000 rfl rfl
  ·unfold dc at *
   try unfold rrV rrL at *
   unfold zu yN at *;((repeat((conv=>lhs;whnf);simp only[go_sem,simprocAttr,ho,x0,e1,pl]));try rfl)
  ·rfl
theorem zHZ {B:Nat} {L:List Bd} {I:List Pr} (h:RC B L I) (sy:Node→DV→Bool→Option DV) (n:Node) (hn:n.ok) (ho:n.op=10) (hh:n.head=n.sym) (hk:0<n.kids.length→EvR B L I ((n.kids.getD 0 nd0).ev B L sy) (n.kids.getD 0 nd0)) {w:Node} (hw:jc I n.sym=some w) (kw:EvR B L I (sy n.sym) w):EvR B L I (n.ev B L sy) n:=by
 intro a c df hf;rw[Node.ev_eq];unfold xe
 repeat rw[hZ (by rw[ho];decide)]
 have hM:=fun S=>UO S I h.okI h.len n hn;rw[hh,hw]at hM;unfold Jj at hM;by_cases h0:0<n.kids.length
 ·rw[bA (by omega)];have x0:=XR h0;have y0:(0:Int)<(n.kids.length:Int):=by omega
  obtain⟨v1,d1,b1,f1,e1,i1⟩:=(hk h0).o df hf;rw[uB _ _ _ _ _ h0]
  cases ex:(n.kids.getD 0 nd0).ev B L sy (a,c) df with
  | none =>
   rw[ex]at i1;have ef:f1=true:=i1;subst ef;refine⟨v1,d1,b1,true,?_,rfl⟩;apply FX.callV ok49_ 1000 rfl rfl
   ·unfold dc at *
    try unfold rrV rrL at *
    unfold zu yN at *;((repeat((conv=>lhs;whnf);simp only[go_sem,simprocAttr,ho,x0,hM,e1,zj]));try rfl)
   ·rfl
  | some x =>
   rw[ex]at i1;obtain⟨rfl,rfl,rfl,rfl,g1,g2⟩:=i1;rw[bG];obtain⟨v,d,b,f,e2,i2⟩:=kw.o df (a:=x.1) (c:=x.2) ⟨g1,g2⟩;refine⟨v,d,b,f,?_,i2⟩;apply FX.callV ok49_ 1000 rfl rfl
   ·unfold dc at *
    try unfold rrV rrL at *
    unfold zu yN at *;((repeat((conv=>lhs;whnf);simp only[go_sem,simprocAttr,ho,x0,hM,e1,e2,zj]));try rfl)
   ·rfl
 ·rw[hZ (by omega)];have y0 : ¬(0:Int)<(n.kids.length:Int):=by omega
  obtain⟨v,d,b,f,e2,i2⟩:=kw.o df hf;refine⟨v,d,b,f,?_,i2⟩;apply FX.callV ok49_ 1000 rfl rfl
  ·unfold dc at *
   try unfold rrV rrL at *
   unfold zu yN at *;((repeat((conv=>lhs;whnf);simp only[go_sem,simprocAttr,ho,y0,hM,e2,zj]));try rfl)
  ·rfl
theorem zH0 {B:Nat} {L:List Bd} {I:List Pr} (h:RC B L I) (sy:Node→DV→Bool→Option DV) (n:Node) (hn:n.ok) (ho:n.op=11) (hh:n.head=n.sym) (hk:0<n.kids.length→EvR B L I ((n.kids.getD 0 nd0).ev B L sy) (n.kids.getD 0 nd0)) {w:Node} (hw:jc I n.sym=some w) (kw:EvR B L I (sy n.sym) w):EvR B L I (n.ev B L sy) n:=by
 intro a c df hf;rw[Node.ev_eq];unfold xe
 repeat rw[hZ (by rw[ho];decide)]
 have hM:=fun S=>UO S I h.okI h.len n hn;rw[hh,hw]at hM;unfold Jj at hM;by_cases h0:0<n.kids.length
 ·rw[bA (by omega)];have x0:=XR h0;have y0:(0:Int)<(n.kids.length:Int):=by omega
  obtain⟨v1,d1,b1,f1,e1,i1⟩:=(hk h0).o df hf;rw[uB _ _ _ _ _ h0]
  cases ex:(n.kids.getD 0 nd0).ev B L sy (a,c) df with
  | none =>
   rw[ex]at i1;have ef:f1=true:=i1;subst ef;refine⟨v1,d1,b1,true,?_,rfl⟩;apply FX.callV ok49_ 1000 rfl rfl
   ·unfold dc at *
    try unfold rrV rrL at *
    unfold zu yN at *;((repeat((conv=>lhs;whnf);simp only[go_sem,simprocAttr,ho,x0,hM,e1,zj]));try rfl)
   ·rfl
  | some x =>
   rw[ex]at i1;obtain⟨rfl,rfl,rfl,rfl,g1,g2⟩:=i1;rw[bG];obtain⟨v,d,b,f,e2,i2⟩:=kw.o df (a:=x.1) (c:=x.2) ⟨g1,g2⟩;refine⟨v,d,b,f,?_,i2⟩;apply FX.callV ok49_ 1000 rfl rfl
   ·unfold dc at *
    try unfold rrV rrL at *
    unfold zu yN at *;((repeat((conv=>lhs;whnf);simp only[go_sem,simprocAttr,ho,x0,hM,e1,e2,zj]));try rfl)
   ·rfl
 ·rw[hZ (by omega)];have y0 : ¬(0:Int)<(n.kids.length:Int):=by omega
  obtain⟨v,d,b,f,e2,i2⟩:=kw.o df hf;refine⟨v,d,b,f,?_,i2⟩;apply FX.callV ok49_ 1000 rfl rfl
  ·unfold dc at *
   try unfold rrV rrL at *
   unfold zu yN at *;((repeat((conv=>lhs;whnf);simp only[go_sem,simprocAttr,ho,y0,hM,e2,zj]));try rfl)
  ·rfl
end
end
section
section
attribute [local irreducible] Vs.callL Vs.callRL tyi zO zn zg zR zY za zI zZ zA zK ze zX zG zJ zW zr yJ zq zL zf Vs.gc zH
theorem zMO {B:Nat} (hB:B≤4096) (a:DV) (ha:jj B a) : ∀(k:Nat),k≤20→∀(r:Option DV) (v d:Rat) (b:Int) (f:Bool),IsD B r v d b f →
  ∃v' d' b' f',IsD B (r.bind (Q9 B a k)) v' d' b' f'∧∀X Y Z fs z,yB 0 zFN 1 fs [(10,.mp 2 0 0),(12,.undef),(13,.mp 4 0 0),(14,.undef),(197,.undef)] [X,Y,Z,.arr [dc a.1 a.2 B false] none false,.arr [dc v' d' b' f'] none false]=some z →
   zU 0 zFN 1 905969524 5 fs [(10,.mp 2 0 0),(12,.mp 3 0 0),(13,.mp 4 0 0),(14,.int .i64 k)] [X,Y,Z,.arr [dc a.1 a.2 B false] none false,.arr [dc v d b f] none false]=some z:=by
 intro k
 induction k with
 | zero =>
  intro _ r v d b f hr;refine⟨v,d,b,f,by cases r <;> exact hr,fun X Y Z fs z hz=>?_⟩;apply zC;(repeat((conv=>lhs;whnf);simp only[go_sem,simprocAttr]));exact hz
 | succ k ih =>
  intro hk r v d b f hr;cases r with
  | none =>
   have ef:f=true:=hr;subst ef;refine⟨v,d,b,true,rfl,fun X Y Z fs z hz=>?_⟩;have c1:(0:Int)<((k+1:Nat):Int):=by omega
   apply zC;unfold dc at *;unfold zu yN at *;(repeat((conv=>lhs;whnf);simp only[go_sem,simprocAttr,c1]));exact hz
  | some x =>
   have hr':=hr;obtain⟨_,_,_,ef,_⟩:=hr';subst ef;obtain⟨v1,d1,b1,f1,ep,ip⟩:=je hB hr (show IsD B (some a) a.1 a.2 B false from⟨rfl,rfl,rfl,rfl,ha⟩);have pr:=fun S=>zF (S:=S) ep (by simp[kb]);obtain⟨v2,d2,b2,f2,i2,key⟩:=ih (by omega) _ v1 d1 b1 f1 ip;refine⟨v2,d2,b2,f2,i2,fun X Y Z fs z hz=>?_⟩;have key:=key X Y Z fs z hz;have c1:(0:Int)<((k+1:Nat):Int):=by omega
   have w1:IntKind.i64.wrap (((k+1:Nat):Int)-1)=(k:Int):=by rw[bE];omega
   apply zC;unfold dc at *;unfold zu yN at *;(repeat((conv=>lhs;whnf);simp only[go_sem,simprocAttr,c1,w1,pr]));exact key
theorem zMP (fs:List Fr) {X Y Z W:Obj} (v d:Rat) (b:Int) : ∀k:Nat,∀z,yB 0 zFN 1 fs [(10,.mp 2 0 0),(12,.undef),(13,.mp 4 0 0),(14,.undef),(197,.undef)] [X,Y,Z,W,.arr [dc v d b true] none false]=some z →
   zU 0 zFN 1 905969524 5 fs [(10,.mp 2 0 0),(12,.mp 3 0 0),(13,.mp 4 0 0),(14,.int .i64 k)] [X,Y,Z,W,.arr [dc v d b true] none false]=some z:=by
 intro k z hz;cases k with
 | zero =>
  apply zC;(repeat((conv=>lhs;whnf);simp only[go_sem,simprocAttr]));exact hz
 | succ k =>
  have c1:(0:Int)<((k+1:Nat):Int):=by omega
  apply zC;unfold dc at *;unfold zu yN at *;(repeat((conv=>lhs;whnf);simp only[go_sem,simprocAttr,c1]));exact hz
theorem zMQ {B:Nat} {L:List Bd} {I:List Pr} (h:RC B L I) (sy:Node→DV→Bool→Option DV) (n:Node) (hn:n.ok) (ho:n.op=9) (h0:0<n.kids.length) (k0:EvR B L I ((n.kids.getD 0 nd0).ev B L sy) (n.kids.getD 0 nd0)) (h1:1<n.kids.length) (hz:0≤vg (n.kids.getD 1 nd0).num 20∧vg (n.kids.getD 1 nd0).num 20≤20):EvR B L I (n.ev B L sy) n:=by
 intro a c df hf;rw[Node.ev_eq];unfold xe
 repeat rw[hZ (by rw[ho];decide)]
 rw[bA ho];obtain⟨v1,d1,b1,f1,e1,i1⟩:=k0.o df hf;rw[uB _ _ _ _ _ h0];have x0:=XR h0;have x1:=Qa h1;have hk:=hn.kids _ (yA h1);have na:=fun S=>JU S _ hk 20;obtain⟨K,hK⟩ : ∃K:Nat,vg (n.kids.getD 1 nd0).num 20=(K:Int):=⟨(vg (n.kids.getD 1 nd0).num 20).toNat,by omega⟩;rw[hK]at na hz;rw[hK,bD];have one:=zIW;have f10:jj B (1,0):=⟨V8 h.b1,uC h.b1⟩;have pl:=fun S=>jd S 1 B (f10.1.dec.mono (by have:=h.b2;omega));have ec:kK B (1,0)=dc 1 0 B false:=bA (by rw[vz.2 f10.1,vz.2 f10.2];rfl);rw[ec]at pl
 cases ex:(n.kids.getD 0 nd0).ev B L sy (a,c) df with
 | none =>
  rw[ex]at i1;have ef:f1=true:=i1;subst ef;refine⟨1,0,B,true,?_,rfl⟩;apply FX.callV ok49_ 1000 rfl rfl
  ·unfold dc at *
   try unfold rrV rrL at *
   unfold zu yN at *;(repeat((conv=>lhs;whnf);simp only[go_sem,simprocAttr,ho,x0,x1,e1,na,one,pl]));apply zMP;apply zN;unfold dc at *;unfold zu yN at *;((repeat((conv=>lhs;whnf);simp only[go_sem,simprocAttr]));try rfl)
  ·rfl
 | some x =>
  rw[ex]at i1;obtain⟨rfl,rfl,rfl,rfl,fx⟩:=i1;obtain⟨v,d,b,f,i2,key⟩:=zMO h.b2 x fx K (by omega) (some (1,0)) 1 0 B false ⟨rfl,rfl,rfl,rfl,f10⟩;refine⟨v,d,b,f,?_,i2⟩;apply FX.callV ok49_ 1000 rfl rfl
  ·unfold dc at *
   try unfold rrV rrL at *
   unfold zu yN at *;(repeat((conv=>lhs;whnf);simp only[go_sem,simprocAttr,ho,x0,x1,e1,na,one,pl]));apply key;apply zN;((repeat((conv=>lhs;whnf);simp only[go_sem,simprocAttr]));try rfl)
  ·rfl
end
end
end Go.Vs
