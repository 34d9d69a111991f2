
import Derived.Test.YtfbkajadbjbfiaaGreatMA8
import Derived.Test.YtfbkajadbjbfiaaGreatMA15
set_option linter.unusedVariables false
set_option linter.unusedSimpArgs false
section
namespace Go.Vs
open Go
def yt (H:Hints) (ora:FuncId→Option (List PV→Option PV)):Hints := {refs:=H.refs,of:=H.of,orc:=ora,reads:=H.reads}
section
variable {P:Program} {H:Hints} {ora:FuncId→Option (List PV→Option PV)} {base:Nat} {h:Hint} {k:Nat}
structure OraOK (P:Program) (H:Hints) (ora:FuncId→Option (List PV→Option PV)):Prop where
 refs : ∀f,H.refs f=true→ora f=none
 call : ∀f g args w,ora f=some g→g args=some w→callL P H f args=some w∧ym [] w=some w
def jn (P:Program) (H:Hints) (ora:FuncId→Option (List PV→Option PV)) (k:Nat):Prop:=∀f,ora f=none→∀args S z,vC P (yt H ora) k f args S=some z→callRL P H f args S=some z
theorem jn.cp (m:jn P H ora k) (hO:OraOK P H ora) {f:FuncId} {args:List PV} {v:PV} (h:uU P (yt H ora) k f args=some v):callL P H f args=some v:=by
 obtain⟨r,h1,h2⟩:=bind_some h
 cases ho:ora f with
 | none =>
  simp only[callL,m f ho _ _ _ h1,bC];exact h2
 | some g =>
  cases k with
  | zero=>cases h1
  | succ k =>
   have e:(yt H ora).orc f=some g:=ho;simp only[vC,e]at h1
   split at h1
   ·obtain⟨w,h3,rfl⟩:=map_some h1;obtain⟨h4,h5⟩:=hO.call f g args w ho h3;have h2:ym [] w=some v:=h2;rw[h5]at h2;cases h2;exact h4
   ·cases h1
theorem zEx (m:jn P H ora k) (hO:OraOK P H ora) {o:Oper} {e:Env} {S:zA} {nid:Nat} {x:Out} (hx:ev1 P (yV P (yt H ora) base h k).cp o e S nid=some x):ev1 P (callL P H) o e S nid=some x:=by
 obtain⟨dst,op,type,pos,after,guard⟩:=o;cases op
 case call c =>
  cases hc:c.callee with
  | value f =>
   simp only[ev1,hc]at hx ⊢
   split at hx
   ·split at hx
    ·rename_i hr;simp only[hr,if_true];obtain⟨aS,h1,h2⟩:=bind_some hx;obtain⟨v,h3,rfl⟩:=map_some h2;simp only[h1,bC];have h3':callL P H _ aS=some v:=m.cp hO h3;rw[h3'];rfl
    ·cases hx
   ·cases hx
  | builtin b=>simp only[ev1,hc]at hx ⊢;cases b <;> exact hx
  | invoke r m=>simp only[ev1,hc]at hx;cases hx
 case makeFunc fn first caps=>cases fn <;> exact hx
 all_goals exact hx
theorem zEy (m:jn P H ora k) (hO:OraOK P H ora) {o:Oper} {e:Env} {S:zA} {x:Eff} (hx:ev2 (yV P (yt H ora) base h k) o e S=some x):ev2 (xM P H base h) o e S=some x:=by
 obtain⟨dst,op,type,pos,after,guard⟩:=o;cases op
 case call c =>
  cases hc:c.callee with
  | value f =>
   cases hf:ev e f <;> simp only[ev2,hc,hf,reduceCtorEq]at hx ⊢
   case fn f first caps =>
    by_cases hr:H.refs f=true
    ·have hK:(yV P (yt H ora) base h k).H.refs f=true:=hr;have hL:(xM P H base h).H.refs f=true:=hr;simp only[hK,if_true]at hx;simp only[hL,if_true];obtain⟨r,h1,h2⟩:=bind_some hx;have h1':(xM P H base h).cr f (first++List.map (ev e) c.args.toList++caps) S=some r:=m f (hO.refs f hr) _ _ _ h1;rw[h1'];exact h2
    ·have hK : ¬(yV P (yt H ora) base h k).H.refs f=true:=hr;have hL : ¬(xM P H base h).H.refs f=true:=hr;simp only[hK,if_false,bH]at hx;simp only[hL,if_false,bH];obtain⟨aS,h1,h2⟩:=bind_some hx;obtain⟨v,h3,rfl⟩:=map_some h2;simp only[h1,bC];have h3':(xM P H base h).cp _ aS=some v:=m.cp hO h3;rw[h3'];rfl
  | builtin b=>simp only[ev2,hc]at hx ⊢;cases b <;> exact hx
  | invoke r m=>simp only[ev2,hc]at hx;cases hx
 all_goals exact hx
theorem W5 (m:jn P H ora k) (hO:OraOK P H ora) {ops:Array Oper} {o:Oper} {e:Env} {S:zA} {x:Env × zA} (hx:xH (yV P (yt H ora) base h k) ops o e S=some x):xH (xM P H base h) ops o e S=some x:=by
 unfold xH at hx ⊢;obtain⟨w,h1,h2⟩:=bind_some hx;simp only[h1,bC];cases w with
 | false=>exact h2
 | true =>
  simp only[if_true]at h2 ⊢;by_cases hf:yN H o e=true
  ·have hK:yN (yV P (yt H ora) base h k).H o e=true:=hf;have hL:yN (xM P H base h).H o e=true:=hf;simp only[hK,if_true]at h2;simp only[hL,if_true];obtain⟨r,h3,rfl⟩:=map_some h2;rw[zEy m hO h3];rfl
  ·have hK : ¬yN (yV P (yt H ora) base h k).H o e=true:=hf;have hL : ¬yN (xM P H base h).H o e=true:=hf;simp only[hK,if_false,bH]at h2;simp only[hL,if_false,bH];obtain⟨r,h3,rfl⟩:=map_some h2;have h3':ev1 (xM P H base h).P (xM P H base h).cp o e S S.length=some r:=zEx m hO h3;rw[h3'];rfl
theorem Z0 (m:jn P H ora k) (hO:OraOK P H ora) {ops:Array Oper} : ∀(l:List Oper) {e:Env} {S:zA} {x:Env × zA},yi (yV P (yt H ora) base h k) ops l e S=some x→yi (xM P H base h) ops l e S=some x
 | [],e,S,x,hx=>hx
 | o::r,e,S,x,hx=>by
  simp only[yi]at hx ⊢;obtain⟨q,h1,h2⟩:=bind_some hx;rw[W5 m hO h1];exact Z0 m hO r h2
theorem XX (m:jn P H ora k) (hO:OraOK P H ora) {ops:Array Oper} : ∀(l:List Oper) {e:Env} {S:zA} {x:Env × zA},yi (yV P (yt H ora) base h k) ops l e S=some x→yj (xM P H base h) ops l e S=yj (yV P (yt H ora) base h k) ops l e S
 | [],e,S,x,hx=>rfl
 | o::r,e,S,x,hx=>by
  simp only[yi]at hx;obtain⟨q,h1,h2⟩:=bind_some hx;simp only[yj,h1,W5 m hO h1,XX m hO r h2];rfl
theorem V9 (m:jn P H ora k) (hO:OraOK P H ora) {ops:Array Oper} {draw:Bool} {e:Env} {S:zA} {x:Env × zA} (hx:yd (yV P (yt H ora) base h k) ops draw e S=some x):yd (xM P H base h) ops draw e S=some x:=by
 unfold yd at hx ⊢;cases draw with
 | false=>simp only[bH,if_false]at hx ⊢;exact Z0 m hO _ hx
 | true =>
  simp only[if_true]at hx ⊢
  split at hx
  case isFalse=>cases hx
  rename_i hd;rw[XX m hO _ hx,Z0 m hO _ hx];exact hZ hd
theorem XY {body:Env→zA→Option (X × Env × zA)} {norm:Env→zA→Option (Env × zA)} : ∀(n n':Nat),n≤n'→∀ {e:Env} {S:zA} {y:X × Env × zA},vX body norm n e S=some y→vX body norm n' e S=some y
 | 0,_,_,_,_,_,hy=>by cases hy
 | n+1,n',hn,e,S,y,hy=>by
  obtain⟨n',rfl⟩ : ∃i,n'=i+1:=⟨n'-1,by omega⟩;simp only[vX]at hy ⊢;obtain⟨⟨q,e1,S1⟩,h4,h5⟩:=bind_some hy;rw[h4];cases q with
  | normal =>
   obtain⟨w,h6,h7⟩:=bind_some h5;simp only[bC,h6];exact XY n n' (by omega) h7
  | exit i=>exact h5
  | ret=>exact h5
theorem zD0 (m:jn P H ora k) (hO:OraOK P H ora) : ∀(c:Code) (b:Nat) {e:Env} {S:zA} {x:X × Env × zA},yx (yV P (yt H ora) base h k) k b c e S=some x→Evt (fun n=>yx (yV P H base h n) n b c e S) (some x):=by
 intro c
 induction c with
 | skip=>intro b e S x hx;simp only[yx]at hx ⊢;exact hx ▸ .const _
 | region id ops draw =>
  intro b e S x hx;simp only[yx]at hx ⊢;obtain⟨r,h1,rfl⟩:=map_some hx;obtain⟨n0,h2⟩:=ji (V9 m hO h1);refine⟨n0,fun n hn=>?_⟩;have h3:=h2 n hn;dsimp only at h3 ⊢;rw[h3];rfl
 | seq p q ihp ihq =>
  intro b e S x hx;simp only[yx]at hx ⊢;obtain⟨⟨r,e1,S1⟩,h1,h2⟩:=bind_some hx;refine Evt.bind (ihp b h1) ?_;cases r with
  | normal=>exact ihq b h2
  | exit i=>simp only at h2 ⊢;exact h2 ▸ .const _
  | ret=>simp only at h2 ⊢;exact h2 ▸ .const _
 | cond o p q ihp ihq =>
  intro b e S x hx;simp only[yx]at hx ⊢;unfold Xe at hx ⊢
  split at hx
  ·rename_i t ht;cases t with
   | true=>exact ihp b hx
   | false=>exact ihq b hx
  ·cases hx
 | block id body ih =>
  intro b e S x hx;simp only[yx]at hx ⊢;obtain⟨r,h1,rfl⟩:=map_some hx;obtain⟨n0,h2⟩:=ih id h1;refine⟨n0,fun n hn=>?_⟩;have h3:=h2 n hn;dsimp only at h3 ⊢;rw[h3];rfl
 | loop body ih =>
  intro b e S x hx;simp only[yx]at hx ⊢;obtain⟨hh,h1,hx⟩:=bind_some hx;obtain⟨r,h2,hx⟩:=bind_some hx;obtain⟨y,h3,rfl⟩:=map_some hx;have h1' : ∀n,(yV P H base h n).h.loops.lookup b=some hh:=fun _=>h1;simp only[h1',bC,h2];have key : ∀(c:Nat) {e:Env} {S:zA} {y:X × Env × zA},vX (yx (yV P (yt H ora) base h k) k b body) (vV hh.live hh.fz r.2.length) c e S=some y→Evt (fun n=>vX (yx (yV P H base h n) n b body) (vV hh.live hh.fz r.2.length) c e S) (some y):=by
   intro c
   induction c with
   | zero=>intro e S y hy;cases hy
   | succ c ihc =>
    intro e S y hy;simp only[vX]at hy ⊢;obtain⟨⟨q,e1,S1⟩,h4,h5⟩:=bind_some hy;refine Evt.bind (ih b h4) ?_;cases q with
    | normal =>
     obtain⟨w,h6,h7⟩:=bind_some h5;simp only[h6,bC];exact ihc h7
    | exit i=>simp only at h5 ⊢;exact h5 ▸ .const _
    | ret=>simp only at h5 ⊢;exact h5 ▸ .const _
  obtain⟨n0,h4⟩:=key k h3;refine⟨max n0 k,fun n hn=>?_⟩;have h5:=XY k n (by omega) (h4 n (by omega));dsimp only at h5 ⊢;rw[h5];rfl
 | exit id=>intro b e S x hx;simp only[yx]at hx ⊢;exact hx ▸ .const _
 | ret=>intro b e S x hx;simp only[yx]at hx ⊢;exact hx ▸ .const _
 | _=>intro b e S x hx;simp[yx]at hx
theorem zEF (hN : ∀f,H.orc f=none) (hO:OraOK P H ora) : ∀k,jn P H ora k
 | 0=>fun f _ args S z h=>by cases h
 | k+1=>fun f hf args S z hz=>by
  have m:=zEF hN hO k;have e:(yt H ora).orc f=none:=hf;simp only[vC,e]at hz
  split at hz
  ·rename_i fn hf
   split at hz
   ·rename_i c hc
    split at hz
    ·rename_i hq;obtain⟨x,h1,h2⟩:=bind_some hz;have h1':=zD0 (base:=S.length) (h:=H.of f) m hO c 0 h1;refine kq (Evt.succ ?_);obtain⟨n0,h3⟩:=h1';refine⟨n0,fun n hn=>?_⟩;have h3:=h3 n hn;simp only[yV]at h3;simp only[vC,hN,hf,hc];rw[hZ hq,h3];exact h2
    ·cases hz
   ·cases hz
  ·cases hz
theorem W6 (hN : ∀f,H.orc f=none) (hO:OraOK P H ora) {n:Nat} {f:FuncId} {args:List PV} {v:PV} (hc:uU P (yt H ora) n f args=some v):callL P H f args=some v:=(zEF hN hO n).cp hO hc
end
end Go.Vs
end
section
set_option maxRecDepth 100000
namespace Go.Vs
open Go Go.Proofs
def w1 (n:Nat):List (List PV):=if n=0 then [] else [[.int .u32 n]]
theorem ve {n:Nat} (h:n<4294967296):zB .u32 (words n)=w1 n:=by
 unfold w1;by_cases h0:n=0
 ·subst h0;rw[hZ rfl,show words 0=[] from (xI WB2).2 rfl];rfl
 ·rw[hI h0];have h1:(words n).length=1:=by
   have a:(words n).length≤1:=(yI WB2 1 n).2 (by show n<WB^1;unfold WB;omega);have b:(words n).length≠0:=fun e=>h0 (zx.1 e);omega
  rw[(jQ h1).1];rfl
theorem kN {n:Nat} (h:n<4294967296):zc n=.sl (w1 n) false:=by unfold zc;rw[ve h]
def Va:PV→Option Nat
 | .sl [] _=>some 0
 | .sl [[.int .u32 (.ofNat n)]] false=>if 0<n∧n<4294967296 then some n else none
 | _=>none
theorem uD {v:PV} {n:Nat} (h:Va v=some n):za n v∧n<4294967296:=by
 unfold Va at h
 split at h
 ·rename_i e;cases h;cases e
  ·exact⟨.inl (by rw[kN (by omega)];rfl),by omega⟩
  ·exact⟨.inr ⟨rfl,rfl⟩,by omega⟩
 ·rename_i m
  split at h
  ·rename_i hc;cases h;refine⟨.inl ?_,hc.2⟩;rw[kN hc.2];unfold w1;rw[hI (by omega)];rfl
  ·cases h
 ·cases h
theorem xZ {n:Nat} (h:n<4294967296):(words n).length≤1:=(yI WB2 1 n).2 (by show n<WB^1;unfold WB;omega)
def zEz:List PV→Option PV
 | [a,b]=>(Va a).bind fun m=>(Va b).bind fun n=>some (.sl (w1 (Nat.gcd m n)) false)
 | _=>none
def zFA:List PV→Option PV
 | [a,b]=>(Va a).bind fun m=>(Va b).bind fun n=>if m=0∨n=0 then some (.sl [] true) else if m*n<4294967296 then some (.sl (w1 (m*n)) false) else none
 | _=>none
def zCO:List PV→Option PV
 | [.bool neg,a,b]=>(Va a).bind fun m=>(Va b).bind fun n=>if n=0 then none else if m=0 then some (.agg [.bool false,.sl [] false,.sl (w1 1) false]) else some (.agg [.bool neg,.sl (w1 (m / Nat.gcd m n)) false,.sl (w1 (n / Nat.gcd m n)) false])
 | _=>none
theorem zEG (r:List (List PV)):ym [] (.sl r false)=some (.sl r false):=(zW.sl r).2 []
theorem zD1 {args:List PV} {w:PV} (h:zEz args=some w):callL Tryz.prog zD 104 args=some w∧ym [] w=some w:=by
 unfold zEz at h
 split at h
 ·rename_i a b;obtain⟨m,h1,k⟩:=sQ.1 h;obtain⟨n,h2,k2⟩:=sQ.1 k;clear h k;have h:=k2;clear k2;cases h;obtain⟨i1,l1⟩:=uD h1;obtain⟨i2,l2⟩:=uD h2;have hg:Nat.gcd m n<4294967296:=by
   by_cases h0:m=0
   ·subst h0;rw[Nat.gcd_zero_left];exact l2
   ·have:=Nat.gcd_le_left n (Nat.pos_of_ne_zero h0);omega
  have:=Yl i1 i2 (bF (xZ l1) (by decide)) (bF (xZ l2) (by decide));rw[kN hg]at this;exact⟨this,zEG _⟩
 ·cases h
theorem zD2 {args:List PV} {w:PV} (h:zFA args=some w):callL Tryz.prog zD 105 args=some w∧ym [] w=some w:=by
 unfold zFA at h
 split at h
 ·rename_i a b;obtain⟨m,h1,k⟩:=sQ.1 h;obtain⟨n,h2,k2⟩:=sQ.1 k;clear h k;have h:=k2;clear k2;obtain⟨i1,l1⟩:=uD h1;obtain⟨i2,l2⟩:=uD h2;obtain⟨e1,rfl,_⟩:=i1.form;obtain⟨e2,rfl,_⟩:=i2.form;have:=UY m n e1 e2 (bF (xZ l1) (by decide)) (bF (xZ l2) (by decide))
  split at h
  ·rename_i hc;cases h;rw[hZ hc]at this;exact⟨this,rfl⟩
  ·rename_i hc
   split at h
   ·rename_i hl;cases h;rw[hI hc,kN hl]at this;exact⟨this,zEG _⟩
   ·cases h
 ·cases h
theorem zCP {args:List PV} {w:PV} (h:zCO args=some w):callL Tryz.prog zD 107 args=some w∧ym [] w=some w:=by
 unfold zCO at h
 split at h
 ·rename_i neg a b;obtain⟨m,h1,k⟩:=sQ.1 h;obtain⟨n,h2,k2⟩:=sQ.1 k;clear h k;have h:=k2;clear k2;obtain⟨i1,l1⟩:=uD h1;obtain⟨i2,l2⟩:=uD h2
  split at h
  ·cases h
  rename_i hn;have:=uS (neg:=neg) i1 i2 hn (bF (xZ l1) (by decide)) (bF (xZ l2) (by decide))
  split at h
  ·rename_i hm;cases h;subst hm;rw[YF,show mkRat 0 n=0 from Rat.zero_mkRat n,vv]at this;have e1:zB .u32 []=w1 0:=rfl;have e2:zB .u32 [(1:Int)]=w1 1:=rfl;refine⟨this,?_⟩;rfl
  ·rename_i hm;cases h;have g1:m / Nat.gcd m n<4294967296:=BH (aF _ _) l1;have g2:n / Nat.gcd m n<4294967296:=BH (aF _ _) l2;rw[YE neg hm hn]at this;unfold kY at this;rw[ve g1,ve g2]at this;exact⟨this,rfl⟩
 ·cases h
def zCQ:PV→Option Nat
 | .sl [] false=>some 0
 | .sl [[.int .u32 (.ofNat n)]] false=>if 0<n∧n<4294967296 then some n else none
 | _=>none
theorem XZ {v:PV} {n:Nat} (h:zCQ v=some n):v=.sl (zB .u32 (words n)) false∧n<4294967296:=by
 unfold zCQ at h
 split at h
 ·cases h;exact⟨by rw[ve (by omega)];rfl,by omega⟩
 ·rename_i m
  split at h
  ·rename_i hc;cases h;refine⟨?_,hc.2⟩;rw[ve hc.2];unfold w1;rw[hI (by omega)];rfl
  ·cases h
 ·cases h
def Jy:PV→Option (Int × Nat)
 | .agg [.bool b,x,y]=>(zCQ x).bind fun m=>(zCQ y).bind fun n=>if n≠0∧Nat.gcd m n=1∧(m=0→b=false∧n=1) then some (sg b m,n) else none
 | _=>none
theorem ZE {v:PV} {s:Int} {n:Nat} (h:Jy v=some (s,n)):v=wM (mkRat s n)∧ze (mkRat s n) 1∧n≠0:=by
 unfold Jy at h
 split at h
 ·rename_i b x y;obtain⟨m,h1,k⟩:=sQ.1 h;obtain⟨d,h2,k2⟩:=sQ.1 k;clear h k
  split at k2
  ·rename_i hc;obtain⟨c1,c2,c3⟩:=hc;cases k2;obtain⟨rfl,l1⟩:=XZ h1;obtain⟨rfl,l2⟩:=XZ h2;refine⟨?_,?_,c1⟩
   ·by_cases h0:m=0
    ·obtain⟨rfl,rfl⟩:=c3 h0;subst h0;rw[YF,show mkRat 0 1=0 from Rat.zero_mkRat 1,vv];unfold kY;rw[show words 0=[] from (xI WB2).2 rfl,vi]
    ·rw[YE b h0 c1,c2,aU,aU];rfl
   ·unfold ze;rw[Yn c1,Yo c1,vu,c2,aU,aU];exact⟨xZ l1,xZ l2⟩
  ·cases k2
 ·cases h
def zD3 (s:Int) (d:Nat):Option PV:=if s=0 then some (.agg [.bool false,.sl [] false,.sl (w1 1) false]) else if s.natAbs / Nat.gcd s.natAbs d<4294967296∧d / Nat.gcd s.natAbs d<4294967296 then some (.agg [.bool (decide (s<0)),.sl (w1 (s.natAbs / Nat.gcd s.natAbs d)) false,.sl (w1 (d / Nat.gcd s.natAbs d)) false]) else none
theorem Qf {s:Int} {d:Nat} {w:PV} (h:zD3 s d=some w) (hd:d≠0):w=wM (mkRat s d)∧ym [] w=some w:=by
 unfold zD3 at h
 split at h
 ·rename_i h0;cases h;subst h0;rw[show mkRat 0 d=0 from Rat.zero_mkRat d,vv];unfold kY;rw[←ve (show 1<4294967296 by decide),vi];exact⟨rfl,rfl⟩
 ·rename_i h0
  split at h
  ·rename_i hc;cases h;have e:s=sg (decide (s<0)) s.natAbs:=by
    unfold sg;by_cases hs:s<0
    ·rw[pM hs,hZ rfl];omega
    ·rw[sA hs,hI (by simp)];omega
   refine⟨?_,rfl⟩;have:=YE (decide (s<0)) (n:=s.natAbs) (by omega) hd;rw[←e]at this;rw[this];unfold kY;rw[ve hc.1,ve hc.2]
  ·cases h
def zCR:List PV→Option PV
 | [a,b]=>(Jy a).bind fun x=>(Jy b).bind fun y=>zD3 (x.1*y.1) (x.2*y.2)
 | _=>none
def zCS:List PV→Option PV
 | [a,b]=>(Jy a).bind fun x=>(Jy b).bind fun y=>zD3 (x.1*y.2+y.1*x.2) (x.2*y.2)
 | _=>none
def Jz:List PV→Option PV
 | [a]=>(Jy a).map fun _=>a
 | _=>none
theorem zCT {args:List PV} {w:PV} (h:zCR args=some w):callL Tryz.prog zD 69 args=some w∧ym [] w=some w:=by
 unfold zCR at h
 split at h
 ·rename_i a b;obtain⟨⟨s,n⟩,h1,k⟩:=sQ.1 h;obtain⟨⟨t,m⟩,h2,k2⟩:=sQ.1 k;obtain⟨rfl,w1',n1⟩:=ZE h1;obtain⟨rfl,w2',n2⟩:=ZE h2;obtain⟨rfl,hf⟩:=Qf k2 (HN n1 n2);refine⟨?_,hf⟩;have:=qu _ _ (w1'.mono (by decide)) (w2'.mono (by decide));rw[Rat.mkRat_mul_mkRat]at this;exact this
 ·cases h
theorem zCU {args:List PV} {w:PV} (h:zCS args=some w):callL Tryz.prog zD 68 args=some w∧ym [] w=some w:=by
 unfold zCS at h
 split at h
 ·rename_i a b;obtain⟨⟨s,n⟩,h1,k⟩:=sQ.1 h;obtain⟨⟨t,m⟩,h2,k2⟩:=sQ.1 k;obtain⟨rfl,w1',n1⟩:=ZE h1;obtain⟨rfl,w2',n2⟩:=ZE h2;obtain⟨rfl,hf⟩:=Qf k2 (HN n1 n2);refine⟨?_,hf⟩;have:=qv _ _ (w1'.mono (by decide)) (w2'.mono (by decide));rw[Rat.mkRat_add_mkRat _ _ n1 n2]at this;exact this
 ·cases h
theorem zA8 {args:List PV} {w:PV} (h:Jz args=some w):callL Tryz.prog zD 71 args=some w∧ym [] w=some w:=by
 unfold Jz at h
 split at h
 ·rename_i a;obtain⟨⟨s,n⟩,h1,rfl⟩:=PI.1 h;obtain⟨rfl,w1',n1⟩:=ZE h1;exact⟨jm _ (w1'.mono (by decide)),(wh _).2 []⟩
 ·cases h
def zFB:List PV→Option PV
 | [a,b]=>(Va a).bind fun m=>(zCQ b).bind fun n=>if n=0 then none else if m<n then some (.tup [.sl [] true,.sl (w1 m) false]) else some (.tup [.sl (w1 (m / n)) false,.sl (w1 (m % n)) false])
 | _=>none
theorem zEH (S:zA) (n:Nat):yZ S (.sl (w1 n) false)=some (.sl (w1 n) false):=by unfold w1;split <;> rfl
theorem zD4 {args:List PV} {w:PV} (h:zFB args=some w):callL Tryz.prog zD 103 args=some w∧ym [] w=some w:=by
 unfold zFB at h
 split at h
 ·rename_i a b;obtain⟨m,h1,k⟩:=sQ.1 h;obtain⟨n,h2,k2⟩:=sQ.1 k;clear h k;obtain⟨i1,l1⟩:=uD h1;obtain⟨rfl,l2⟩:=XZ h2;obtain⟨e1,rfl,hp⟩:=i1.form
  split at k2
  ·cases k2
  rename_i hn;have hl:(words n).length=1:=by
   have a:=xZ l2;have b:(words n).length≠0:=fun e=>hn (zx.1 e);omega
  split at k2
  ·rename_i hlt;cases k2;have:=kx m n e1 hp hlt (bF (xZ l1) (by decide)) (by omega);rw[kN l1]at this;refine⟨this,?_⟩
   show (yG (yZ []) [.sl [] true,.sl (w1 m) false]).map PV.tup=_
   have e:yZ [] (.sl [] true)=some (.sl [] true):=rfl;simp only[yG,e,zEH,bC];rfl
  ·rename_i hlt;cases k2;have:=kV m n e1 hp (by omega) (bF (xZ l1) (by decide)) hl;have g1:m / n<4294967296:=BH (aF _ _) l1;have g2:m % n<4294967296:=BH (Nat.mod_le _ _) l1;rw[kN g1,kN g2]at this;refine⟨this,?_⟩
   show (yG (yZ []) [.sl (w1 (m / n)) false,.sl (w1 (m % n)) false]).map PV.tup=_
   simp only[yG,zEH,bC];rfl
 ·cases h
def zD5 (f:FuncId):Option (List PV→Option PV):=if f=69 then some zCR else if f=68 then some zCS else if f=71 then some Jz else if f=103 then some zFB else if f=104 then some zEz else if f=105 then some zFA else if f=107 then some zCO else none
theorem zD6:OraOK Tryz.prog zD zD5:=by
 refine⟨fun f hf=>?_,fun f g args w hg hw=>?_⟩
 ·unfold zD5;have a:f≠104:=fun e=>by subst e;exact absurd hf (by decide)
  have b:f≠105:=fun e=>by subst e;exact absurd hf (by decide)
  have c:f≠107:=fun e=>by subst e;exact absurd hf (by decide)
  have d:f≠69:=fun e=>by subst e;exact absurd hf (by decide)
  have e:f≠68:=fun e=>by subst e;exact absurd hf (by decide)
  have g:f≠71:=fun e=>by subst e;exact absurd hf (by decide)
  have k:f≠103:=fun e=>by subst e;exact absurd hf (by decide)
  rw[hI d,hI e,hI g,hI k,hI a,hI b,hI c]
 ·unfold zD5 at hg
  split at hg
  ·rename_i e;subst e;cases hg;exact zCT hw
  split at hg
  ·rename_i e;subst e;cases hg;exact zCU hw
  split at hg
  ·rename_i e;subst e;cases hg;exact zA8 hw
  split at hg
  ·rename_i e;subst e;cases hg;exact zD4 hw
  split at hg
  ·rename_i e;subst e;cases hg;exact zD1 hw
  split at hg
  ·rename_i e;subst e;cases hg;exact zD2 hw
  split at hg
  ·rename_i e;subst e;cases hg;exact zCP hw
  ·cases hg
theorem uE {n:Nat} {f:FuncId} {args:List PV} {v:PV} (hc:uU Tryz.prog (yt zD zD5) n f args=some v):callL Tryz.prog zD f args=some v:=W6 (fun _=>rfl) zD6 hc
end Go.Vs
end
section
set_option maxRecDepth 100000
namespace Go.Vs
open Go Go.Proofs
mutual
def eqV:PV→PV→Bool
 | .int k a,.int k' b=>decide (k=k')&&decide (a=b)
 | .bool a,.bool b=>a == b
 | .sl r e,.sl r' e'=>zA9 r r'&&e == e'
 | .agg l,.agg l'=>eqL l l'
 | _,_=>false
def eqL:List PV→List PV→Bool
 | [],[]=>true
 | a::r,b::s=>eqV a b&&eqL r s
 | _,_=>false
def zA9:List (List PV)→List (List PV)→Bool
 | [],[]=>true
 | a::r,b::s=>eqL a b&&zA9 r s
 | _,_=>false
end
mutual
theorem zFC : ∀a b:PV,eqV a b=true→a=b
 | .int k a,b,h=>by
  cases b <;> simp only[eqV,reduceCtorEq,bS,sL]at h
  rw[h.1,h.2]
 | .bool a,b,h=>by
  cases b <;> simp only[eqV,reduceCtorEq,beq_iff_eq]at h
  rw[h]
 | .sl r e,b,h=>by
  cases b <;> simp only[eqV,reduceCtorEq,bS,beq_iff_eq]at h
  rw[Qg r _ h.1,h.2]
 | .agg l,b,h=>by
  cases b <;> simp only[eqV,reduceCtorEq]at h
  rw[Vb l _ h]
 | .str _,b,h=>by simp[eqV]at h
 | .fn _ _ _,b,h=>by simp[eqV]at h
 | .mp _ _ _,b,h=>by simp[eqV]at h
 | .msl _ _ _ _,b,h=>by simp[eqV]at h
 | .cp _,b,h=>by simp[eqV]at h
 | .tup _,b,h=>by simp[eqV]at h
 | .raw _,b,h=>by simp[eqV]at h
 | .undef,b,h=>by simp[eqV]at h
 | .skip,b,h=>by simp[eqV]at h
theorem Vb : ∀a b:List PV,eqL a b=true→a=b
 | [],[],_=>rfl
 | [],_::_,h=>by simp[eqL]at h
 | _::_,[],h=>by simp[eqL]at h
 | a::r,b::s,h=>by
  simp only[eqL,bS]at h;rw[zFC a b h.1,Vb r s h.2]
theorem Qg : ∀a b:List (List PV),zA9 a b=true→a=b
 | [],[],_=>rfl
 | [],_::_,h=>by simp[zA9]at h
 | _::_,[],h=>by simp[zA9]at h
 | a::r,b::s,h=>by
  simp only[zA9,bS]at h;rw[Vb a b h.1,Qg r s h.2]
end
structure Kn where
 f:FuncId
 args:List PV
 v:PV
def Kn.ok (x:Kn):Prop:=callL Tryz.prog zD x.f x.args=some x.v∧ym [] x.v=some x.v∧zD.refs x.f=false
def zD7 (t:List Kn) (f:FuncId):Option (List PV→Option PV):=if t.any (fun x=>decide (x.f=f))=true then some (fun args=>(t.find? fun x=>decide (x.f=f)&&eqL x.args args).map Kn.v) else none
theorem zD8 {t:List Kn} (h : ∀x∈t,x.ok):OraOK Tryz.prog zD (zD7 t):=by
 refine⟨fun f hf=>?_,fun f g args w hg hw=>?_⟩
 ·unfold zD7;rw[hI];intro hc;rw[List.any_eq_true]at hc;obtain⟨x,hx,e⟩:=hc;rw[sL]at e;have:=(h x hx).2.2;rw[e,hf]at this;cases this
 ·unfold zD7 at hg
  split at hg
  ·cases hg;obtain⟨x,hx,rfl⟩:=PI.1 hw
   have h1:=List.find?_some hx;have h2:=List.mem_of_find?_eq_some hx;rw[bS,sL]at h1;have:=h x h2;rw[←h1.1,←Vb _ _ h1.2];exact⟨this.1,this.2.1⟩
  ·cases hg
theorem QA {t:List Kn} (h : ∀x∈t,x.ok) {n:Nat} {f:FuncId} {args:List PV} {v:PV} (hc:uU Tryz.prog (yt zD (zD7 t)) n f args=some v):callL Tryz.prog zD f args=some v:=W6 (fun _=>rfl) (zD8 h) hc
def kR (b:Bool) (n d:Int):List PV:=[.bool b,.sl (if n=0 then [] else [[.int .u32 n]]) false,.sl [[.int .u32 d]] false]
def kP:PV:=.sl [kR true 2 1,kR false 0 1,kR false 1 1] false
def kX:PV:=.sl [kR false 0 1,kR false 1 1] false
def kL0:PV:=.agg (kP::(kR true 3 1++kR false 0 1))
def kL1:PV:=.agg (kP::(kR false 0 1++kR false 3 1))
def kIs:PV:=.tup [.sl [kP::(kR true 3 1++kR false 0 1),kP::(kR false 0 1++kR false 3 1)] false,.int .i64 0]
theorem zD9:callL Tryz.prog zD 27 [.int .i64 (-2)]=some (.agg (kR true 2 1)):=ZO (n:=60) (by kernel_rfl)
theorem zDa:callL Tryz.prog zD 27 [.int .i64 0]=some (.agg (kR false 0 1)):=ZO (n:=60) (by kernel_rfl)
theorem zDb:callL Tryz.prog zD 27 [.int .i64 1]=some (.agg (kR false 1 1)):=ZO (n:=60) (by kernel_rfl)
end Go.Vs
end
