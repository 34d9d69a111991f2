
import Derived.Test.YtkaeejkajfinhaaGreatMV24
set_option linter.unusedVariables false
set_option linter.unusedSimpArgs false
set_option maxRecDepth 100000
namespace Go.Vs
open Go Go.Proofs
structure Tm (n:Node):Prop where
 op:1≤n.op∧n.op≤13
 kids : ∀k∈n.kids,zu k.op=1∧∃a b c,k.formed a b c=true
 len:n.kids.length=(yX n.op n.kids.length).length
 num:n.op=1→vh n.neg n.num n.den=true
 nm:n.op=2∨n.op=3→yP n.name=true
 fn:n.op=10→n.kids.length≤1
 tail:xH n.op n.kids=true
theorem zHe {n:Node} (hs:zu n.op=1) {a b c:Bool} (h:n.formed a b c=true):Tm n:=by
 have ho:=ZG hs;rw[Node.formed_eq]at h;simp only[bO,pA]at h;obtain⟨h1,h2,h3,h4,h5⟩:=h;refine⟨ho,fun k hk=>?_,h3,fun e=>?_,fun e=>?_,fun e=>?_,h5⟩
 ·obtain⟨k1,k2⟩:=jz _ _ _ _ _ h4 h3 (jq ho _) k hk;exact⟨k1,_,_,_,k2⟩
 ·unfold jD at h1;rw[bA e]at h1;simp only[bO]at h1;exact h1.1
 ·unfold jD at h1;simp only[bO]at h1;have hh:yR n.op=true:=by
   unfold yR
   rcases e with e | e <;> rw[e] <;> decide
  have:=h1.2;rw[hh]at this;simp only[bC,bS,bB,pJ,Bool.not_not]at this;exact this
 ·unfold vF at h2;rw[bA (.inl e)]at h2;simp only[bO,pA]at h2;exact h2.2
theorem Tm.two {n:Node} (h:Tm n) (ho:5≤n.op∧n.op≤9):n.kids.length=2:=by
 have:=h.len;unfold yX zP at this;rw[hZ (by omega),hZ (by omega),hZ (by omega),hZ (by omega),hZ (by omega),bA (by omega)]at this;exact this
theorem Tm.one {n:Node} (h:Tm n) (ho:n.op=4∨n.op=12):n.kids.length=1:=by
 have:=h.len;unfold yX zP at this;rw[hZ (by omega),hZ (by omega),bA ho]at this;exact this
theorem Tm.none {n:Node} (h:Tm n) (ho:n.op=11):n.kids.length=0:=by
 have:=h.len;unfold yX zP at this;rw[ho]at this
 simpa using this
theorem Tm.div {n:Node} (h:Tm n) (ho:n.op=8):vh (n.kids.getD 1 nd0).neg (n.kids.getD 1 nd0).num (n.kids.getD 1 nd0).den=true∧(n.kids.getD 1 nd0).num.length≠0:=by
 have ht:=h.tail;have h2:=h.two (by omega);unfold xH at ht;rw[bA ho]at ht;simp only[bO,pA]at ht;obtain⟨k1,a,b,c,k2⟩:=h.kids _ (yA (l:=n.kids) (i:=1) (by omega));exact⟨(zHe k1 k2).num ht.1,by omega⟩
theorem Tm.pow {n:Node} (h:Tm n) (hn:n.ok) (ho:n.op=9):0≤vS (n.kids.getD 1 nd0).num 20∧vS (n.kids.getD 1 nd0).num 20≤20:=by
 have ht:=h.tail;have h2:=h.two (by omega);unfold xH at ht;rw[hZ (by omega),bA ho]at ht;simp only[bO,aV,pA]at ht;have hk:=hn.kids _ (yA (l:=n.kids) (i:=1) (by omega));unfold vS
 rcases ht.2 with h0 | ⟨h1,h3⟩
 ·rw[bA h0];omega
 ·rw[hZ (by omega),hZ (by omega)];have:=hk.val.n.getD (by decide) 0;have e:(n.kids.getD 1 nd0).val.num=(n.kids.getD 1 nd0).num:=rfl;rw[e]at this;omega
theorem Qz : ∀ {l:List Node} {k s:Node},k∈l→s∈k.syms→s∈Node.symss l
 | [],k,s,h,_=>by cases h
 | n::r,k,s,h,hs=>by
  show s∈n.syms++Node.symss r
  rcases sW.1 h with rfl | h
  ·exact SK _ hs
  ·exact SG _ (Qz h hs)
theorem zE7 {n k s:Node} (h:k∈n.kids) (hs:s∈k.syms):s∈n.syms:=by
 rw[Node.syms_eq];exact SG _ (Qz h hs)
theorem XV {n:Node} (h:yO n.op=true):n.sym∈n.syms:=by
 rw[Node.syms_eq,bA h];simp
theorem Tm.head {n:Node} (h:Tm n) (ho:n.op=10∨n.op=11):n.head=n.sym:=by
 rcases ho with e | e
 ·exact (XQ (.inl e)).symm
 ·rw[qR (.inl e)];unfold Node.head;rw[hZ (by rw[h.none e];simp)]
theorem JL {B:Nat} {L:List Bd} {I:List Pr} (h:RC B L I) (sy:Node→DV→Bool→Option DV) : ∀n:Node,n.ok→zu n.op=1→(∃a b c,n.formed a b c=true)→(∀s∈n.syms,∃w,qA I s=some w∧EvR B L I (sy s) w)→EvR B L I (n.ev B L sy) n:=by
 refine Node.ind' fun n ih hn hs hf hsy=>?_;obtain⟨a,b,c,hf⟩:=hf;have tm:=zHe hs hf;have kid : ∀i,i<n.kids.length→EvR B L I ((n.kids.getD i nd0).ev B L sy) (n.kids.getD i nd0):=by
  intro i hi;have hm:=yA hi;obtain⟨k1,k2⟩:=tm.kids _ hm;exact ih _ hm (hn.kids _ hm) k1 k2 fun s h=>hsy s (zE7 hm h)
 obtain⟨o1,o2⟩:=tm.op
 rcases Int.lt_or_le n.op 4 with c4 | c4
 ·by_cases e1:n.op=1
  ·exact zLZ h sy n hn e1 (tm.num e1)
  by_cases e2:n.op=2
  ·exact zL1 h sy n hn e2 (tm.nm (.inl e2))
  have e3:n.op=3:=by omega
  exact zGf h sy n hn e3 (tm.nm (.inr e3))
 by_cases e4:n.op=4
 ·have l:=tm.one (.inl e4);exact zL2 h sy n hn e4 (by omega) (kid 0 (by omega))
 by_cases e12:n.op=12
 ·have l:=tm.one (.inr e12);exact zJO h sy n hn e12 (by omega) (kid 0 (by omega))
 by_cases e13:n.op=13
 ·exact zL0 h sy n hn e13
 by_cases e10:n.op=10
 ·obtain⟨w,hw,kw⟩:=hsy _ (XV (by rw[e10];rfl));exact zGg h sy n hn e10 (tm.head (.inl e10)) (kid 0) hw kw
 by_cases e11:n.op=11
 ·obtain⟨w,hw,kw⟩:=hsy _ (XV (by rw[e11];rfl));exact zGh h sy n hn e11 (tm.head (.inr e11)) (kid 0) hw kw
 have l:=tm.two (by omega);have k0:=kid 0 (by omega);have k1:=kid 1 (by omega);by_cases e5:n.op=5
 ·exact zL3 h sy n hn e5 (by omega) k0 (by omega) k1
 by_cases e6:n.op=6
 ·exact zL5 h sy n hn e6 (by omega) k0 (by omega) k1
 by_cases e7:n.op=7
 ·exact zL4 h sy n hn e7 (by omega) k0 (by omega) k1
 by_cases e8:n.op=8
 ·obtain⟨d1,d2⟩:=tm.div e8;exact zL6 h sy n hn e8 (by omega) k0 (by omega) d1 d2
 have e9:n.op=9:=by omega
 exact zL9 h sy n hn e9 (by omega) k0 (by omega) (tm.pow hn e9)
structure GoodI (I:List Pr):Prop where
 term : ∀p∈I,p.what.op=10∨p.what.op=11→zu p.wth.op=1∧p.wth.formed false false false=true
 form : ∀p∈I,p.what.op=37∨p.what.op=38→zu p.wth.op=2∧p.wth.formed false false false=true
 syms : ∀p∈I,p.wth.syms=[]
 plain : ∀p∈I,p.wth.has (yy 12)=false∧p.wth.has (yy 3)=false∧p.wth.has ye=false
 kind : ∀p∈I,p.what.op=10∨p.what.op=11∨p.what.op=37∨p.what.op=38
 dot : ∀p∈I,p.what.kids.length=0→p.wth.has (yy 13)=false
theorem zHf {I:List Pr} : ∀ {m i:Nat},WF I m i=true→∀j,i≤j→j<i+m→okR I j (I.getD j pr0)=true
 | 0,i,_,j,h1,h2=>by omega
 | m+1,i,h,j,h1,h2=>by
  simp only[WF,bO]at h;by_cases e:j=i
  ·subst e;exact h.1
  ·exact zHf h.2 j (by omega) (by omega)
theorem zLa {I:List Pr} (h:qF I=0):GoodI I:=by
 unfold qF at h;have h0:I.length≤40∧WF I I.length 0=true:=by
  by_cases c:I.length≤40∧WF I I.length 0=true
  ·exact c
  ·rw[hZ c]at h;cases h
 have key : ∀p∈I,∃j,okR I j p=true:=by
  intro p hp;obtain⟨j,hj,rfl⟩:=List.mem_iff_getElem.1 hp;have:=zHf h0.2 j (by omega) (by omega);rw[bL,pP hj,BE]at this;exact⟨j,this⟩
 have all : ∀p∈I,vu p=true∧p.wth.has yO=false∧p.wth.has (yy 12)=false∧p.wth.has (yy 3)=false∧(p.what.kids.length=0→p.wth.has (yy 13)=false):=by
  intro p hp;obtain⟨j,hj⟩:=key p hp;unfold okR at hj;simp only[bO,HZ,Bool.and_eq_false_iff,decide_eq_false_iff_not]at hj;obtain⟨_,_,_,g1,g2,g3,g4,g5⟩:=hj;refine⟨g1,g2,g3,g4,fun e=>?_⟩
  rcases g5 with g | g
  ·exact absurd e g
  ·exact g
 have kind : ∀p∈I,p.what.op=10∨p.what.op=11∨p.what.op=37∨p.what.op=38:=by
  intro p hp;have:=(all p hp).1;unfold vu at this;by_cases c:p.what.op=10∨p.what.op=11
  ·omega
  ·rw[hZ c]at this;by_cases c2:p.what.op=37∨p.what.op=38
   ·omega
   ·rw[hZ c2]at this;cases this
 have term : ∀p∈I,p.what.op=10∨p.what.op=11→zu p.wth.op=1∧p.wth.formed false false false=true:=by
  intro p hp c;have:=(all p hp).1;unfold vu at this;rw[bA c,pA]at this;exact (ji this).2
 have form : ∀p∈I,p.what.op=37∨p.what.op=38→(zu p.wth.op=2∧p.wth.formed false false false=true)∧p.wth.has ye=false:=by
  intro p hp c;have:=(all p hp).1;unfold vu at this;rw[hZ (by omega),bA c,bO,pA,HZ]at this;exact⟨(ji this.1).2,this.2⟩
 refine⟨term,fun p hp c=>(form p hp c).1,fun p hp=>(kE _).2 (all p hp).2.1,fun p hp=>⟨(all p hp).2.2.1,(all p hp).2.2.2.1,?_⟩,kind,fun p hp=>(all p hp).2.2.2.2⟩;by_cases c:p.what.op=10∨p.what.op=11
 ·obtain⟨t1,t2⟩:=term p hp c;exact YJ _ _ _ _ t2 t1
 ·exact (form p hp (by have:=kind p hp;omega)).2
section
theorem zGi {I:List Pr} {j:Nat} (h:j<I.length) (s:Node):known (I.drop j) s=(decide ((I.getD j pr0).what.cmp s=0)||known (I.drop (j+1)) s):=by
 rw[VD h];rfl
section
attribute [local irreducible] Vs.callL Vs.callRL tyi zO zl zf zR zW za zI zY zA zK zb zV zG zJ zU zn yI zm zL ze Vs.gc zH
noncomputable def zHg:FX:=⟨Tryz.f96,zE.of 96,[]⟩
instance ok96_:zHg.ok 96:=FX.mk'
theorem zE8 (I:List Pr) (hI : ∀p∈I,p.ok) (hl:I.length≤60) (s:Node) (hs:s.ok) (n:Node) (sr:List (List PV)) (sx:Bool) (len i:Int) (fs:List Fr) : ∀(m j:Nat),j+m=I.length→∀(acc:Bool) (z:PV × zB),
  yB 0 zHg 2 fs [(1,.sl (zX I) false),(6,.undef),(7,.bool (acc||known (I.drop j) s)),(14,.sl sr sx),(15,.int .i64 len),(16,.int .i64 i),(20,.undef),(21,.undef),(22,.undef),(23,.undef)] [.arr [n.cells] none false,.arr [[PV.int .i64 13]] (some (some 1)) true,.arr [s.cells] none false]=some z →
  zS 0 zHg 2 119604 3 fs [(1,.sl (zX I) false),(6,.mp 2 0 0),(7,.bool acc),(14,.sl sr sx),(15,.int .i64 len),(16,.int .i64 i),(20,.sl (zX I) false),(21,.int .i64 I.length),(22,.int .i64 j)] [.arr [n.cells] none false,.arr [[PV.int .i64 13]] (some (some 1)) true,.arr [s.cells] none false]=some z:=by
 intro m
 induction m with
 | zero =>
  intro j hj acc z hz;have h1 : ¬(j:Int)<(I.length:Int):=by omega
  rw[bT (by omega)]at hz;have e:known [] s=false:=rfl;rw[e,pJ]at hz;apply zC;(repeat((conv=>lhs;whnf);simp only[go_sem,simprocAttr,h1]));exact hz
 | succ m hm =>
  intro j hj acc z hz;have h1:(j:Int)<(I.length:Int):=by omega
  have h2:=zg (i:=j) (n:=I.length) (by omega) (by unfold maxLen;omega);have h4:0≤(j:Int)∧(j:Int)<(I.length:Int):=⟨by omega,h1⟩;have hp:=hI _ (vX (I:=I) (i:=j) (by omega));have hE:=fun S=>jI S _ s hp.what hs;rw[zGi (by omega),←Bool.or_assoc]at hz;have key:=hm (j+1) (by omega) _ z hz;cases acc
  ·rw[bW]at key;apply zC;(repeat((conv=>lhs;whnf);simp only[go_sem,simprocAttr,h1,h2,h4,bD,hE,yF]));exact key
  ·rw[pI]at key;apply zC;(repeat((conv=>lhs;whnf);simp only[go_sem,simprocAttr,h1,h2,h4,bD,yF]));exact key
theorem zGj (I:List Pr) (hI : ∀p∈I,p.ok) (hl:I.length≤60) (n:Node) (Ls:List Node) (ex:Bool) (hLs : ∀m∈Ls,m.ok) (hll:Ls.length≤1000000) : ∀(m i:Nat),i+m=Ls.length →
  ∃S',zS 0 zHg 0 116 2 [.blk 0,.seq 0 15] [(1,.sl (zX I) false),(14,.sl (Node.rows Ls) ex),(15,.int .i64 Ls.length),(16,.int .i64 i)] [.arr [n.cells] none false,.arr [[PV.int .i64 13]] (some (some 1)) true]=some (.int .i64 (if (Ls.drop i).all (known I)=true then 0 else 110),S'):=by
 intro m
 induction m with
 | zero =>
  intro i hi;have h1 : ¬(i:Int)<(Ls.length:Int):=by omega
  rw[bT (by omega),BH,bA rfl];apply Exists.intro;apply zC;(repeat((conv=>lhs;whnf);simp only[go_sem,simprocAttr,h1]));apply zN;((repeat((conv=>lhs;whnf);simp only[go_sem,simprocAttr]));try rfl)
 | succ m hm =>
  intro i hi;have h1:(i:Int)<(Ls.length:Int):=by omega
  have h2:IntKind.i64.wrap ((i:Int)+1)=((i+1:Nat):Int):=by rw[bE];omega
  have h4:0≤(i:Int)∧(i:Int)<(Ls.length:Int):=⟨by omega,h1⟩;have hs:=hLs _ (yA (l:=Ls) (i:=i) (by omega));obtain⟨S',key⟩:=hm (i+1) (by omega);rw[xM (by omega),HP];have L2:=fun fs=>zE8 I hI hl _ hs n (Node.rows Ls) ex Ls.length i fs I.length 0 (by omega) false;simp only[bX,bW]at L2
  cases e:known I (Ls.getD i nd0)
  ·rw[e]at L2;rw[bB,hZ (by simp)];apply Exists.intro;apply zC;(repeat((conv=>lhs;whnf);simp only[go_sem,simprocAttr,h1,h4,bD,zr]));apply L2;apply zN;((repeat((conv=>lhs;whnf);simp only[go_sem,simprocAttr]));try rfl)
  ·rw[e]at L2;rw[bC];refine⟨S',?_⟩;apply zC;(repeat((conv=>lhs;whnf);simp only[go_sem,simprocAttr,h1,h4,bD,zr]));apply L2;apply zN;(repeat((conv=>lhs;whnf);simp only[go_sem,simprocAttr,h2]));exact key
def JM (I:List Pr) (n:Node):Int:=if (!n.has (xn [13])&&n.syms.all (known I))=true then 0 else 110
theorem zGk (I:List Pr) (hI : ∀p∈I,p.ok) (hl:I.length≤60) (n:Node) (hn:n.ok) (hc:n.count≤100000):callL Tryz.prog zE 96 [.agg n.cells,.sl (zX I) false]=some (.int .i64 (JM I n)):=by
 have u:=ZR (S:=[.arr [n.cells] none false,.arr [[PV.int .i64 13]] (some (some 1)) false]) (id:=1) (ops:=[13]) (k:=1) (ex:=true) n hn (by decide) rfl rfl;obtain⟨Ls,ex,so,sok,smem,slen⟩:=zEL n hn hc;unfold JM
 cases e:n.has (xn [13])
 ·rw[e]at u;have ea:n.syms.all (known I)=Ls.all (known I):=by
   rw[Bool.eq_iff_iff,pH,pH];exact⟨fun h x hx=>h x ((smem x).1 hx),fun h x hx=>h x ((smem x).2 hx)⟩
  obtain⟨S',key⟩:=zGj I hI hl n Ls ex sok (by omega) Ls.length 0 (by omega);rw[bX]at key;rw[bJ,bC,ea];apply FX.callV ok96_ 1000 rfl rfl
  ·(repeat((conv=>lhs;whnf);simp only[go_sem,simprocAttr,u,so]));exact key
  ·rfl
 ·rw[e]at u;rw[bS,bB,hZ (by simp)];apply FX.callV ok96_ 1000 rfl rfl
  ·((repeat((conv=>lhs;whnf);simp only[go_sem,simprocAttr,u]));try rfl)
  ·rfl
end
end
section
theorem zBw:(tyi Tryz.prog 89).d=.struct [(0,3,true),(3,3,true)]:=by kernel_rfl
@[go_sem] theorem zNS:(tyi Tryz.prog 89).size=6:=nr (by kernel_rfl)
@[go_sem] theorem zLb:(tyi Tryz.prog 89).known=true:=nr (by kernel_rfl)
@[go_sem] theorem zHh:(tyi Tryz.prog 89).zero=some [.bool false,.sl [] true,.sl [] true,.bool false,.sl [] true,.sl [] true]:=nr (by kernel_rfl)
@[go_sem] theorem zRw (n:Nat):zU (tyi Tryz.prog 89) n=some {v:=.mp n 0 0,new:=some ([[.bool false,.sl [] true,.sl [] true,.bool false,.sl [] true,.sl [] true]],none)} := nr (by unfold zU;rw[zHh];rfl)
@[go_sem] theorem zRx (l:List (Nat × PV)):zV Tryz.prog 89 l=(qH [(0,3,true),(3,3,true)] [.bool false,.sl [] true,.sl [] true,.bool false,.sl [] true,.sl [] true] l).map .agg:=nr (by unfold zV;rw[zBw];dsimp only;unfold zb;rw[zBw,zHh];rfl)
theorem zLc (row:List PV):part (tyi Tryz.prog 89) row=if 6≤row.length then some (.agg (row.take 6)) else none:=by simp[part,zLb,TI.isAgg,zBw,zNS]
@[go_sem] theorem zT1 (id i off:Nat):zA (tyi Tryz.prog 89) 0 (.mp id i off)=some (.mp id i (off+0)):=by simp[zA,zBw]
@[go_sem] theorem zT2 (r:List PV):zA (tyi Tryz.prog 89) 0 (.cp r)=some (.cp (r.drop 0)):=by simp[zA,zBw]
@[go_sem] theorem zT3 (cs:List PV):zK (tyi Tryz.prog 89) 0 (.agg cs)=if 0+3≤cs.length then some (.agg ((cs.drop 0).take 3)) else none:=by simp[zK,zBw]
@[go_sem] theorem zT4 (id i off:Nat):zA (tyi Tryz.prog 89) 1 (.mp id i off)=some (.mp id i (off+3)):=by simp[zA,zBw]
@[go_sem] theorem zT5 (r:List PV):zA (tyi Tryz.prog 89) 1 (.cp r)=some (.cp (r.drop 3)):=by simp[zA,zBw]
@[go_sem] theorem zT6 (cs:List PV):zK (tyi Tryz.prog 89) 1 (.agg cs)=if 3+3≤cs.length then some (.agg ((cs.drop 3).take 3)) else none:=by simp[zK,zBw]
theorem jO:(tyi Tryz.prog 91).d=.struct [(0,1,false),(1,1,false),(2,6,true),(8,1,false),(9,1,false)]:=by kernel_rfl
@[go_sem] theorem zLd:(tyi Tryz.prog 91).size=10:=nr (by kernel_rfl)
@[go_sem] theorem zJP:(tyi Tryz.prog 91).known=true:=nr (by kernel_rfl)
@[go_sem] theorem zLe:(tyi Tryz.prog 91).zero=some [.sl [] true,.sl [] true,.bool false,.sl [] true,.sl [] true,.bool false,.sl [] true,.sl [] true,.bool false,.bool false]:=nr (by kernel_rfl)
@[go_sem] theorem zQH (l:List (Nat × PV)):zV Tryz.prog 91 l=(qH [(0,1,false),(1,1,false),(2,6,true),(8,1,false),(9,1,false)] [.sl [] true,.sl [] true,.bool false,.sl [] true,.sl [] true,.bool false,.sl [] true,.sl [] true,.bool false,.bool false] l).map .agg:=nr (by unfold zV;rw[jO];dsimp only;unfold zb;rw[jO,zLe];rfl)
theorem zJQ (row:List PV):part (tyi Tryz.prog 91) row=if 10≤row.length then some (.agg (row.take 10)) else none:=by simp[part,zJP,TI.isAgg,jO,zLd]
@[go_sem] theorem zRy (id i off:Nat):zA (tyi Tryz.prog 91) 0 (.mp id i off)=some (.mp id i (off+0)):=by simp[zA,jO]
@[go_sem] theorem zRz (r:List PV):zA (tyi Tryz.prog 91) 0 (.cp r)=some (.cp (r.drop 0)):=by simp[zA,jO]
@[go_sem] theorem zSA (cs:List PV):zK (tyi Tryz.prog 91) 0 (.agg cs)=cs[0]? := by simp[zK,jO]
@[go_sem] theorem zSB (id i off:Nat):zA (tyi Tryz.prog 91) 1 (.mp id i off)=some (.mp id i (off+1)):=by simp[zA,jO]
@[go_sem] theorem zSC (r:List PV):zA (tyi Tryz.prog 91) 1 (.cp r)=some (.cp (r.drop 1)):=by simp[zA,jO]
@[go_sem] theorem zSD (cs:List PV):zK (tyi Tryz.prog 91) 1 (.agg cs)=cs[1]? := by simp[zK,jO]
@[go_sem] theorem zSE (id i off:Nat):zA (tyi Tryz.prog 91) 2 (.mp id i off)=some (.mp id i (off+2)):=by simp[zA,jO]
@[go_sem] theorem zSF (r:List PV):zA (tyi Tryz.prog 91) 2 (.cp r)=some (.cp (r.drop 2)):=by simp[zA,jO]
@[go_sem] theorem zSG (cs:List PV):zK (tyi Tryz.prog 91) 2 (.agg cs)=if 2+6≤cs.length then some (.agg ((cs.drop 2).take 6)) else none:=by simp[zK,jO]
@[go_sem] theorem zSH (id i off:Nat):zA (tyi Tryz.prog 91) 3 (.mp id i off)=some (.mp id i (off+8)):=by simp[zA,jO]
@[go_sem] theorem zSI (r:List PV):zA (tyi Tryz.prog 91) 3 (.cp r)=some (.cp (r.drop 8)):=by simp[zA,jO]
@[go_sem] theorem zSJ (cs:List PV):zK (tyi Tryz.prog 91) 3 (.agg cs)=cs[8]? := by simp[zK,jO]
@[go_sem] theorem zSK (id i off:Nat):zA (tyi Tryz.prog 91) 4 (.mp id i off)=some (.mp id i (off+9)):=by simp[zA,jO]
@[go_sem] theorem zSL (r:List PV):zA (tyi Tryz.prog 91) 4 (.cp r)=some (.cp (r.drop 9)):=by simp[zA,jO]
@[go_sem] theorem zSM (cs:List PV):zK (tyi Tryz.prog 91) 4 (.agg cs)=cs[9]? := by simp[zK,jO]
attribute [go_sem] zLc zJQ
theorem zBx {P:zB} {N:Nat} (h:P.length=N) (A:zB) (n:Nat):zj (P++A) (N+n)=zj A n:=by
 subst h;unfold zj;rw[bZ (by omega),aF]
theorem zBy {P:zB} {N:Nat} (h:P.length=N) (A:zB):zj (P++A) N=zj A 0:=zBx h A 0
theorem zGl {P:zB} {N:Nat} (h:P.length=N) (k:Nat) (A:zB) (n i off:Nat) (v:PV):yV k (P++A) (.mp (N+n) i off) v=(yV k A (.mp n i off) v).map fun B=>P++B:=by
 subst h;simp only[yV];rw[bZ (by omega),aF]
 cases A[n]? with
 | none=>rfl
 | some o =>
  cases o with
  | gone=>rfl
  | arr rows g f =>
   cases f with
   | true=>rfl
   | false =>
    dsimp only;by_cases c:i<rows.length∧off+k≤(rows.getD i []).length∧v.cells.length=k∧v.cells.all PV.cell=true
    ·rw[bA c,bA c,pE,BY _ _ (by omega),aF]
    ·rw[hZ c,hZ c,aX]
theorem zHi {P:zB} {N:Nat} (h:P.length=N) (k:Nat) (A:zB) (i off:Nat) (v:PV):yV k (P++A) (.mp N i off) v=(yV k A (.mp 0 i off) v).map fun B=>P++B:=zGl h k A 0 i off v
theorem zNT (P A:zB) (n:Nat):zj (P++A) (P.length+n)=zj A n:=zBx rfl A n
theorem zE9 (P A:zB):zj (P++A) P.length=zj A 0:=zBy rfl A
theorem zNU (P:zB) (k:Nat) (A:zB) (n i off:Nat) (v:PV):yV k (P++A) (.mp (P.length+n) i off) v=(yV k A (.mp n i off) v).map fun B=>P++B:=zGl rfl k A n i off v
theorem zLf (P:zB) (k:Nat) (A:zB) (i off:Nat) (v:PV):yV k (P++A) (.mp P.length i off) v=(yV k A (.mp 0 i off) v).map fun B=>P++B:=zHi rfl k A i off v
theorem xI {P:zB} {N:Nat} (h:P.length=N):(∀A n,zj (P++A) (N+n)=zj A n)∧(∀A,zj (P++A) N=zj A 0)∧(∀k A n i off v,yV k (P++A) (.mp (N+n) i off) v=(yV k A (.mp n i off) v).map fun B=>P++B)∧(∀k A i off v,yV k (P++A) (.mp N i off) v=(yV k A (.mp 0 i off) v).map fun B=>P++B):=⟨zBx h,zBy h,zGl h,zHi h⟩
theorem wF:(∀P A n,zj (P++A) (P.length+n)=zj A n)∧(∀P A,zj (P++A) P.length=zj A 0)∧(∀P k A n i off v,yV k (P++A) (.mp (P.length+n) i off) v=(yV k A (.mp n i off) v).map fun B=>P++B)∧(∀P k A i off v,yV k (P++A) (.mp P.length i off) v=(yV k A (.mp 0 i off) v).map fun B=>P++B):=⟨zNT,zE9,zNU,zLf⟩
theorem xT {α:Type} : (∀a b c:List α,a++b++c=a++(b++c))∧(∀a b:List α,(a++b).length=a.length+b.length)∧(∀(a:α) (l:List α),(a::l).length=l.length+1)∧([]:List α).length=0∧(∀(a:α) (l m:List α),a::l++m=a::(l++m))∧(∀l:List α,[]++l=l):=⟨pB,fun _ _=>bM,fun _ _=>rfl,rfl,fun _ _ _=>rfl,fun _=>rfl⟩
def uO (N:Nat) (A:zB):Bool:=A.all fun | .arr rows _ _=>(zT rows).all (fun i=>decide (i<N)) | .gone=>true
theorem xw (N:Nat) (A B:zB):uO N (A++B)=(uO N A&&uO N B):=by simp[uO]
theorem xZ (N:Nat):uO N []=true:=rfl
theorem yv (N:Nat) (rows:List (List PV)) (g:Option (Option Nat)) (f:Bool) (A:zB):uO N (.arr rows g f::A)=((zT rows).all (fun i=>decide (i<N))&&uO N A):=rfl
theorem ym {N M:Nat} {A:zB} (h:uO N A=true) (hNM:N≤M):uO M A=true:=by
 simp only[uO,pH]at h ⊢;intro o ho;have:=h o ho;cases o with
 | gone=>rfl
 | arr rows g f =>
  simp only[pH,pA]at this ⊢;intro x hx;have:=this x hx;omega
theorem yG {rows:List (List PV)} (h:zT rows=[]) (N:Nat):((zT rows).all fun i=>decide (i<N))=true:=by rw[h];rfl
def d2 (v d:Rat):List PV:=[.bool (yU v),yC v.num.natAbs false,yC v.den false,.bool (yU d),yC d.num.natAbs false,yC d.den false]
theorem qe (v d:Rat):zh (.agg (d2 v d)):=⟨rfl,fun _=>rfl⟩
theorem xB (v d:Rat):zT [d2 v d]=[]:=rfl
def evc (L:List Bd) (I:List Pr) (a c:Rat) (df lg:Bool):List PV:=.sl (yW L) false :: .sl (zX I) false::(d2 a c++[.bool df,.bool lg])
theorem JN (L:List Bd) (I:List Pr) (a c:Rat) (df lg:Bool):zT [evc L I a c df lg]=[]:=rfl
structure ES (S:zB) (id:Nat) (c:List PV):Prop where
 at_:S[id]? = some (.arr [c] none false)
 low:uO S.length S=true
theorem ES.lt {S:zB} {id:Nat} {c:List PV} (h:ES S id c):id<S.length:=(bR.1 h.at_).1
theorem ES.rows {S:zB} {id:Nat} {c:List PV} (h:ES S id c) (A:zB):zj (S++A) id=some [c]:=xE (ue h.at_ A)
theorem ES.app {S:zB} {id:Nat} {c:List PV} (h:ES S id c) {A:zB} (hA:uO (S.length+A.length) A=true):ES (S++A) id c:=⟨ue h.at_ A,by rw[xw,bM,ym h.low (by omega),hA];rfl⟩
theorem zLg {S X:zB} {f:FuncId} {l:List PV} {v:PV} (hr:zE.refs f=true) (hc:callRL Tryz.prog zE f l S=some (v,S++X)) (hcl:xS S=true) (hb:wU S.length l=true):zl Tryz.prog zE S f l=some {v,S:=S++X} := by
 simp only[zl,hr,if_true,hc,bI];rw[bA ⟨by rw[bM];omega,hcl,hb,fun _=>by rw[List.take_append_of_le_length (bF _),PX]⟩]
theorem JO (S:zB) (q r:Rat) (hq:wL q 4096) (hr:wL r 4096):zO (callL Tryz.prog zE) S 102 [xU q,xU r]=some {v:=xU (q*r)} := zF (zAo q r (hq.mono (by omega)) (hr.mono (by omega))) (by simp[vz])
theorem zGm (S:zB) (q r:Rat) (hq:wL q 100000) (hr:wL r 100000):zO (callL Tryz.prog zE) S 143 [xU q,xU r]=some {v:=xU (q+r)} := zF (zAp q r (hq.mono (by omega)) (hr.mono (by omega))) (by simp[vz])
theorem zLh (S:zB) (q:Rat) (hq:wL q 4096):zO (callL Tryz.prog zE) S 142 [xU q]=some {v:=xU (-q)} := zF (zAm q (hq.mono (by omega))) (by simp[vz])
theorem zLi (n:Nat):decide ((n:Int)≤4096)=decide (n≤4096):=decide_eq_decide.2 (by omega)
theorem zBz (S:zB) (q:Rat):zO (callL Tryz.prog zE) S 56 [xU q,.int .i64 4096]=some {v:=.bool (ZS 4096 q)} := zF (by rw[J5,zLi,zLi];rfl) (by simp[vz,zh.int])
theorem vY (S:zB):zO (callL Tryz.prog zE) S 54 []=some {v:=xU 0} := zF ZL (by simp)
theorem zPO (S:zB):zO (callL Tryz.prog zE) S 103 []=some {v:=xU 1} := zF zAr (by simp)
theorem wQ (q:Rat):xU q=.agg [.bool (yU q),yC q.num.natAbs false,yC q.den false]:=rfl
section
attribute [local irreducible] Vs.callL Vs.callRL tyi zO zl zf zR zW za zI zY zA zK zb zV zG zJ zU zn yI zm zL ze Vs.gc zH
noncomputable def zSN:FX:=⟨Tryz.f97,zE.of 97,[]⟩
instance ok97_:zSN.ok 97:=FX.mk'
theorem zAA (v d:Rat) (hv:wL v 4096) (hd:wL d 4096):callL Tryz.prog zE 97 [.agg (d2 v d)]=some (.agg (d2 (-v) (-d))):=by
 have n1:=fun S=>zLh S v hv;have n2:=fun S=>zLh S d hd;simp only[wQ]at *;apply FX.callV ok97_ 1000 rfl rfl
 ·unfold d2;unfold yC at *;((repeat((conv=>lhs;whnf);simp only[go_sem,simprocAttr,n1,n2]));try rfl)
 ·rfl
noncomputable def zSO:FX:=⟨Tryz.f99,zE.of 99,[]⟩
instance ok99_:zSO.ok 99:=FX.mk'
theorem zAB (v d w e:Rat) (hv:wL v 4096) (hd:wL d 4096) (hw:wL w 4096) (he:wL e 4096):callL Tryz.prog zE 99 [.agg (d2 v d),.agg (d2 w e)]=some (.agg (d2 (v+w) (d+e))):=by
 have n1:=fun S=>zGm S v w (hv.mono (by omega)) (hw.mono (by omega));have n2:=fun S=>zGm S d e (hd.mono (by omega)) (he.mono (by omega));simp only[wQ]at *;apply FX.callV ok99_ 1000 rfl rfl
 ·unfold d2;unfold yC at *;((repeat((conv=>lhs;whnf);simp only[go_sem,simprocAttr,n1,n2]));try rfl)
 ·rfl
noncomputable def zSP:FX:=⟨Tryz.f98,zE.of 98,[]⟩
instance ok98_:zSP.ok 98:=FX.mk'
theorem zGn {S:zB} {id:Nat} {L:List Bd} {I:List Pr} {a c:Rat} {df:Bool} (h:ES S id (evc L I a c df false)) (v d:Rat) (hv:ZS 4096 v=true) (hd:df=true→ZS 4096 d=true):callRL Tryz.prog zE 98 [.mp id 0 0,.agg (d2 v d)] S=some (.agg (d2 v (if df=true then d else 0)),S++[.arr [d2 v (if df=true then d else 0)] none false,.arr [d2 v (if df=true then d else 0)] none false]):=by
 have f1:=fun S=>zBz S v;have f2:=fun S=>zBz S d;have z:=vY;rw[hv]at f1;have e:=h.rows;obtain⟨N,hN⟩ : ∃N,S.length=N:=⟨_,rfl⟩;simp only[wQ]at *;refine FX.callRL ok98_ 1000 rfl rfl ?_;cases df
 ·rw[hZ (by simp)];unfold d2 evc d2 at *;unfold yC at *;((repeat((conv=>lhs;whnf);simp only[go_sem,simprocAttr,f1,z,e,hN,xI hN,xT]));try rfl)
 ·rw[bA rfl];rw[hd rfl]at f2;unfold d2 evc d2 at *;unfold yC at *;((repeat((conv=>lhs;whnf);simp only[go_sem,simprocAttr,f1,f2,e,hN,xI hN,xT]));try rfl)
end
end
section
theorem zNs {q r:Rat} (hq:wL q 4096) (hr:wL r 4096):wL (q*r) 100000:=(zNp hq.dec hr.dec).words.mono (by omega)
theorem zHj {k:Nat} {e:Env} {S:zB} (h1:(e.all fun (_,v)=>v.refs.all fun i=>decide (i<k))=true) (h2:uO k (S.take k)=true):Vs.gc k e S=S.take k:=by
 unfold Vs.gc;exact bA ⟨h1,h2⟩
@[go_sem] theorem zSQ (v:PV) (r:List PV):part (tyi Tryz.prog 22) (v::r)=some v:=by
 have e:(tyi Tryz.prog 22).isAgg=false:=by kernel_rfl
 have k:(tyi Tryz.prog 22).known=true:=by kernel_rfl
 simp[part,k,e]
section
attribute [local irreducible] Vs.callL Vs.callRL tyi zO zl zf zR zW za zI zY zA zK zb zV zG zJ zU zn yI zm zL ze Vs.gc zH
noncomputable def zPP:FX:=⟨Tryz.f100,zE.of 100,[]⟩
instance ok100_:zPP.ok 100:=FX.mk'
theorem zLj {S:zB} {id:Nat} {L:List Bd} {I:List Pr} {a c:Rat} {df:Bool} (h:ES S id (evc L I a c df false)) (v d w e:Rat) (hv:wL v 4096) (hd:wL d 4096) (hw:wL w 4096) (he:wL e 4096):callRL Tryz.prog zE 100 [.mp id 0 0,.agg (d2 v d),.agg (d2 w e)] S=some (.agg (d2 (v*w) (if df=true then d*w+v*e else 0)),S++[.arr [d2 v d] none false,.arr [d2 w e] none false,.arr [d2 (v*w) (if df=true then d*w+v*e else 0)] none false,.arr [d2 (v*w) (if df=true then d*w+v*e else 0)] none false]):=by
 have m1:=fun S=>JO S v w hv hw;have m2:=fun S=>JO S d w hd hw;have m3:=fun S=>JO S v e hv he;have a1:=fun S=>zGm S (d*w) (v*e) (zNs hd hw) (zNs hv he);have z:=vY;have ev:=h.rows;obtain⟨N,hN⟩ : ∃N,S.length=N:=⟨_,rfl⟩;simp only[wQ]at *;refine FX.callRL ok100_ 1000 rfl rfl ?_;cases df
 ·rw[hZ (by simp)];unfold d2 evc d2 at *;unfold yC at *;((repeat((conv=>lhs;whnf);simp only[go_sem,simprocAttr,m1,z,ev,hN,xI hN,xT]));try rfl)
 ·rw[bA rfl];unfold d2 evc d2 at *;unfold yC at *;((repeat((conv=>lhs;whnf);simp only[go_sem,simprocAttr,m1,m2,m3,a1,z,ev,hN,xI hN,xT]));try rfl)
noncomputable def zLk:FX:=⟨Tryz.f104,zE.of 104,[]⟩
instance ok104_:zLk.ok 104:=FX.mk'
theorem zJR {S:zB} {N:Nat} (hN:S.length=N) (hS:uO N S=true) (I:List Pr) (hI : ∀p∈I,p.ok) (hl:I.length≤60) (n s w:Node) (hs:s.ok) : ∀(m i:Nat),i+m=I.length→qA (I.drop i) s=some w →
  ∃X,zS N zLk 0 244 (N+3) [.blk 0,.seq 0 31] [(4,.mp (N+1) 0 0),(6,.mp (N+2) 0 0),(21,.sl (zX I) false),(22,.int .i64 I.length),(23,.int .i64 i)] (S++[.arr [n.cells] none false,.arr [zc] none false,.arr [s.cells] none false])=some (.tup [.agg w.cells,.bool true],S++X)∧uO 0 X=true:=by
 intro m
 induction m with
 | zero =>
  intro i hi hm;rw[bT (by omega)]at hm;cases hm
 | succ m ih =>
  intro i hi hm;have h1:(i:Int)<(I.length:Int):=by omega
  have h2:=zg (i:=i) (n:=I.length) (by omega) (by unfold maxLen;omega);have h4:0≤(i:Int)∧(i:Int)<(I.length:Int):=⟨by omega,h1⟩;have hp:=hI _ (vX (I:=I) (i:=i) (by omega));have hE:=fun S=>jI S _ s hp.what hs;rw[Qy (by omega)]at hm;by_cases c:(I.getD i pr0).what.cmp s=0
  ·rw[bA c]at hm;obtain rfl:=Option.some.inj hm;refine⟨[.arr [n.cells] none false,.arr [(I.getD i pr0).wth.cells] none false,.arr [s.cells] none false,.arr [(I.getD i pr0).cells] none false],?_,by
    simp only[yv,xZ,yG (yZ _),yG (zMx _),pD]⟩
   apply zC;unfold zc;((repeat((conv=>lhs;whnf);simp only[go_sem,simprocAttr,h1,h2,h4,bD,hE,c,yF,hN,xI hN,xT]));try rfl)
  ·rw[hZ c]at hm;obtain⟨X,k1,k2⟩:=ih (i+1) (by omega) hm;refine⟨X,?_,k2⟩;have hG:Vs.gc (N+3) [(4,.mp (N+1) 0 0),(6,.mp (N+2) 0 0),(21,.sl (zX I) false),(22,.int .i64 I.length),(23,.int .i64 ((i+1:Nat):Int))] (S++[.arr [n.cells] none false,.arr [zc] none false,.arr [s.cells] none false,.arr [(I.getD i pr0).cells] none false])=S++[.arr [n.cells] none false,.arr [zc] none false,.arr [s.cells] none false]:=by
    have e:(S++[Obj.arr [n.cells] none false,Obj.arr [zc] none false,Obj.arr [s.cells] none false,Obj.arr [(I.getD i pr0).cells] none false]).take (N+3)=S++[.arr [n.cells] none false,.arr [zc] none false,.arr [s.cells] none false]:=by
     rw[List.take_append,hN,aF,aN (by omega)];rfl
    rw[zHj _ _,e]
    ·simp[PV.refs]
    ·rw[e];simp only[xw,yv,xZ,yG (yZ _),ym hS (show N≤N+3 by omega),pD,bC];rfl
   unfold zc at *;apply zC;(repeat((conv=>lhs;whnf);simp only[go_sem,simprocAttr,h1,h2,h4,bD,hE,c,yF,hN,xI hN,xT,hG]));exact k1
theorem zAC {S:zB} {id:Nat} {L:List Bd} {I:List Pr} {a c:Rat} {df:Bool} (h:ES S id (evc L I a c df false)) (hI : ∀p∈I,p.ok) (hl:I.length≤60) (n:Node) (hn:n.ok) (hs:yO n.op=true) {w:Node} (hw:qA I n.sym=some w) : ∃X,callRL Tryz.prog zE 104 [.mp id 0 0,.agg n.cells] S=some (.tup [.agg w.cells,.bool true],S++X)∧uO 0 X=true:=by
 obtain⟨N,hN⟩ : ∃N,S.length=N:=⟨_,rfl⟩;obtain⟨X,k1,k2⟩:=zJR hN (hN ▸ h.low) I hI hl n n.sym w (YG hn) I.length 0 (by omega) hw;refine⟨X,?_,k2⟩;have so:=fun S=>wG S n;rw[hs]at so;have ev:=h.rows;refine FX.callRL ok104_ 1000 rfl rfl ?_;unfold evc d2 zc at *;unfold yC at *;(repeat((conv=>lhs;whnf);simp only[go_sem,simprocAttr,so,ev,zr,hN,xI hN,xT]));exact k1
end
end
section
def wA (L:List Bd) (I:List Pr) (g:DV→Bool→Option DV) (w:Node):Prop:=∀(a c:Rat) (df:Bool) (x:DV) (S:zB) (id:Nat),jN 4096 (a,c)→(df=false→c=0)→(df=true→w.has (yy 12)=false)→g (a,c) df=some x→ES S id (evc L I a c df false)→∃X,callRL Tryz.prog zE 55 [.mp id 0 0,.agg w.cells] S=some (.agg (d2 x.1 x.2),S++X)∧uO (S.length+X.length) X=true
def zd:List PV:=[.bool false,.sl [] true,.sl [] true,.bool false,.sl [] true,.sl [] true]
def r3 (q:Rat):List PV:=[.bool (yU q),yC q.num.natAbs false,yC q.den false]
theorem js (q:Rat):zT [r3 q]=[]:=rfl
theorem wA.m {L:List Bd} {I:List Pr} {g:DV→Bool→Option DV} {w:Node} (h:wA L I g w) {a c:Rat} {df:Bool} {x:DV} {S:zB} {id:Nat} (h1:jN 4096 (a,c)) (h2:df=false→c=0) (h3:df=true→w.has (yy 12)=false) (h4:g (a,c) df=some x) (h5:ES S id (evc L I a c df false)) : ∃X,zl Tryz.prog zE S 55 [.mp id 0 0,.agg w.cells]=some {v:=.agg (d2 x.1 x.2),S:=S++X} ∧ uO (S.length+X.length) X=true:=by
 obtain⟨X,k1,k2⟩:=h a c df x S id h1 h2 h3 h4 h5;refine⟨X,wC (by kernel_rfl) k1 (by rw[bM];omega) h5.low ?_,k2⟩;have:=h5.lt;simp[wU,yQ,yt,vM,kr,Node.refs,this]
def A0 (id:Nat) (n:Node) (r:List PV):zB:=[.arr [[.mp id 0 0]] none false,.arr [n.cells] none false,.arr [r] none false,.arr [r3 0] none false]
theorem kW {id N:Nat} (h:id<N) (n:Node) {r:List PV} (hr:zT [r]=[]):uO N (A0 id n r)=true:=by
 unfold A0;simp only[yv,xZ,yG (yZ _),yG hr,yG (js 0),pD];simp[yn,yQ,yt,vM,wH,h]
theorem ES.A0 {S:zB} {id:Nat} {c:List PV} (h:ES S id c) (n:Node) {r:List PV} (hr:zT [r]=[]):ES (S++Vs.A0 id n r) id c:=h.app (kW (by have:=h.lt;omega) n hr)
@[go_sem] theorem zSR:(tyi Tryz.prog 86).size=1:=nr (by kernel_rfl)
@[go_sem] theorem zJS:(tyi Tryz.prog 86).known=true:=nr (by kernel_rfl)
@[go_sem] theorem zSS (v:PV) (r:List PV):part (tyi Tryz.prog 86) (v::r)=some v:=by
 have e:(tyi Tryz.prog 86).isAgg=false:=by kernel_rfl
 simp[part,zJS,e]
theorem wm:zT [zd]=[]:=rfl
section
attribute [local irreducible] Vs.callL Vs.callRL tyi zO zl zf zR zW za zI zY zA zK zb zV zG zJ zU zn yI zm zL ze Vs.gc zH
noncomputable def zLl:FX:=⟨Tryz.f55,zE.of 55,[]⟩
instance ok55_:zLl.ok 55:=FX.mk'
theorem zLm {L:List Bd} {I:List Pr} (h:RC 4096 L I) (sy:Node→DV→Bool→Option DV) (n:Node) (hn:n.ok) (ho:n.op=1) (hk:vh n.neg n.num n.den=true):wA L I (n.ev 4096 L sy) n:=by
 intro a c df x S id hf hc h12 hx hS;rw[Node.ev_eq]at hx;unfold xb at hx;rw[bA ho]at hx;have ev:=hS.rows;obtain⟨N,hN⟩ : ∃N,S.length=N:=⟨_,rfl⟩;have z:=vY;obtain⟨rfl,_⟩:=zw.1 hx;obtain⟨q1,q2,_⟩:=XS hk hn.val.n;have cp : ∀S,zO (callL Tryz.prog zE) S 63 [.agg [.bool n.neg,.sl (zD .u32 n.num) false,.sl (zD .u32 n.den) false]]=some {v:=xU (ZT n.num)} := fun S=>zF (by rw[q1];exact ZM _ (q2.mono (by omega))) (by rw[q1];simp[vz]);refine⟨A0 id n (d2 (ZT n.num) 0),?_,kW (by have:=hS.lt;omega) n (xB _ _)⟩;simp only[wQ]at *;refine FX.callRL ok55_ 1000 rfl rfl ?_;unfold A0 r3 d2 evc d2 at *;unfold yC at *;((repeat((conv=>lhs;whnf);simp only[go_sem,simprocAttr,ho,z,cp,ev,hN,xI hN,wF,xT]));try rfl)
theorem zGo {L:List Bd} {I:List Pr} (h:RC 4096 L I) (sy:Node→DV→Bool→Option DV) (n:Node) (hn:n.ok) (ho:n.op=3) (hnm:yP n.name=true):wA L I (n.ev 4096 L sy) n:=by
 intro a c df x S id hf hc h12 hx hS;rw[Node.ev_eq]at hx;unfold xb at hx
 repeat rw[hZ (by rw[ho];decide)]at hx
 rw[bA ho]at hx;have ev:=hS.rows;obtain⟨N,hN⟩ : ∃N,S.length=N:=⟨_,rfl⟩;have z:=vY;obtain⟨rfl,_⟩:=zw.1 hx;obtain⟨q1,q2⟩:=Zg (jj (nm:=we n.name) h.okL h.good);have ad:=fun ti=>XU ti hnm;have gt : ∀S,zO (callL Tryz.prog zE) S 59 [.sl (yW L) false,.str (we n.name)]=some {v:=xU (uN L (we n.name))} := fun S=>by rw[zKu S L (we n.name) h.okL h.val,q1];rfl
 refine⟨A0 id n (d2 (uN L (we n.name)) 0),?_,kW (by have:=hS.lt;omega) n (xB _ _)⟩;simp only[wQ]at *;refine FX.callRL ok55_ 1000 rfl rfl ?_;unfold A0 r3 d2 evc d2 at *;unfold yC at *;((repeat((conv=>lhs;whnf);simp only[go_sem,simprocAttr,ho,z,ad,gt,ev,hN,xI hN,wF,xT]));try rfl)
theorem zLn {L:List Bd} {I:List Pr} (h:RC 4096 L I) (sy:Node→DV→Bool→Option DV) (n:Node) (hn:n.ok) (ho:n.op=13):wA L I (n.ev 4096 L sy) n:=by
 intro a c df x S id hf hc h12 hx hS;rw[Node.ev_eq]at hx;unfold xb at hx
 repeat rw[hZ (by rw[ho];decide)]at hx
 rw[bA ho]at hx;have ev:=hS.rows;obtain⟨N,hN⟩ : ∃N,S.length=N:=⟨_,rfl⟩;have z:=vY;obtain rfl:=Option.some.inj hx;refine⟨A0 id n (d2 a c),?_,kW (by have:=hS.lt;omega) n (xB _ _)⟩;simp only[wQ]at *;refine FX.callRL ok55_ 1000 rfl rfl ?_;unfold A0 r3 d2 evc d2 at *;unfold yC at *;((repeat((conv=>lhs;whnf);simp only[go_sem,simprocAttr,ho,z,ho,ev,hN,xI hN,wF,xT]));try rfl)
theorem zLo {L:List Bd} {I:List Pr} (h:RC 4096 L I) (sy:Node→DV→Bool→Option DV) (n:Node) (hn:n.ok) (ho:n.op=2) (hnm:yP n.name=true):wA L I (n.ev 4096 L sy) n:=by
 intro a c df x S id hf hc h12 hx hS;rw[Node.ev_eq]at hx;unfold xb at hx;rw[hZ (by rw[ho];decide)]at hx;rw[bA ho]at hx;have ev:=hS.rows;obtain⟨N,hN⟩ : ∃N,S.length=N:=⟨_,rfl⟩;have z:=vY;obtain⟨rfl,_⟩:=zw.1 hx;obtain⟨q1,q2⟩:=Zg (jj (nm:=n.name) h.okL h.good);have gt : ∀S,zO (callL Tryz.prog zE) S 59 [.sl (yW L) false,.str n.name]=some {v:=xU (uN L n.name)} := fun S=>by rw[zKu S L n.name h.okL h.val,q1];rfl
 obtain⟨p1,p2⟩:=Zg (jj (nm:=we n.name) h.okL h.good);have ad:=fun ti=>XU ti hnm;have gt2 : ∀S,zO (callL Tryz.prog zE) S 59 [.sl (yW L) false,.str (we n.name)]=some {v:=xU (uN L (we n.name))} := fun S=>by rw[zKu S L (we n.name) h.okL h.val,p1];rfl
 have fl : ∀q r:Rat,uO (S.length+(A0 id n (d2 q r)++[Obj.arr [d2 q r] none false]).length) (A0 id n (d2 q r)++[Obj.arr [d2 q r] none false])=true:=fun q r=>by
  rw[xw,kW (by have:=hS.lt;omega) n (xB _ _)];simp only[yv,xZ,yG (xB _ _),pD]
 cases df
 ·rw[hZ (by simp)]at *;refine⟨A0 id n (d2 (uN L n.name) 0)++[.arr [d2 (uN L n.name) 0] none false],?_,fl _ _⟩;simp only[wQ]at *;refine FX.callRL ok55_ 1000 rfl rfl ?_;unfold A0 r3 d2 evc d2 at *;unfold yC at *;((repeat((conv=>lhs;whnf);simp only[go_sem,simprocAttr,ho,z,gt,ev,hN,xI hN,wF,xT]));try rfl)
 ·rw[bA rfl]at *;refine⟨A0 id n (d2 (uN L n.name) (uN L (we n.name)))++[.arr [d2 (uN L n.name) (uN L (we n.name))] none false],?_,fl _ _⟩;simp only[wQ]at *;refine FX.callRL ok55_ 1000 rfl rfl ?_;unfold A0 r3 d2 evc d2 at *;unfold yC at *;((repeat((conv=>lhs;whnf);simp only[go_sem,simprocAttr,ho,z,gt,ad,gt2,ev,hN,xI hN,wF,xT]));try rfl)
end
end
section
theorem kM {p:Int→Bool} {n k:Node} (h:n.has p=false) (hk:k∈n.kids):k.has p=false:=by
 rw[Node.has_eq,PU,Node.hass_any,List.any_eq_false]at h
 simpa using h.2 k hk
theorem uv (id:Nat) (n:Node) (r:List PV):(A0 id n r).length=4:=rfl
theorem ES.flat {S:zB} {id:Nat} {c:List PV} (h:ES S id c) {A:zB} (hA:uO 0 A=true):ES (S++A) id c:=h.app (ym hA (by omega))
theorem qG (v d:Rat):uO 0 [.arr [d2 v d] none false]=true:=by simp only[yv,xZ,yG (xB _ _),pD]
theorem VM {S:zB} {id:Nat} {L:List Bd} {I:List Pr} {a c:Rat} {df:Bool} (h:ES S id (evc L I a c df false)) (x:DV) (hx:jN 4096 x) (hz:df=false→x.2=0):zl Tryz.prog zE S 98 [.mp id 0 0,.agg (d2 x.1 x.2)]=some {v:=.agg (d2 x.1 x.2),S:=S++[.arr [d2 x.1 x.2] none false,.arr [d2 x.1 x.2] none false]} := by
 have e:(if df=true then x.2 else 0)=x.2:=by
  cases df
  ·rw[hZ (by simp)];exact (hz rfl).symm
  ·rfl
 have hb:=zGn h x.1 x.2 (vl.2 hx.1) (fun _=>vl.2 hx.2);rw[e]at hb;refine wC (by kernel_rfl) hb (by rw[bM];omega) h.low ?_;have:=h.lt;simp[wU,yQ,yt,vM,(qe x.1 x.2).1,this]
theorem zNt {S:zB} {id:Nat} {L:List Bd} {I:List Pr} {a c:Rat} {df:Bool} (h:ES S id (evc L I a c df false)) (x y:DV) (hx:jN 4096 x) (hy:jN 4096 y) (zx:df=false→x.2=0) (zy:df=false→y.2=0):zl Tryz.prog zE S 100 [.mp id 0 0,.agg (d2 x.1 x.2),.agg (d2 y.1 y.2)]=some {v:=.agg (d2 (xd x y).1 (xd x y).2),S:=S++[.arr [d2 x.1 x.2] none false,.arr [d2 y.1 y.2] none false,.arr [d2 (xd x y).1 (xd x y).2] none false,.arr [d2 (xd x y).1 (xd x y).2] none false]} := by
 have e:(if df=true then x.2*y.1+x.1*y.2 else 0)=(xd x y).2:=by
  cases df
  ·rw[hZ (by simp)];exact (kV (zx rfl) (zy rfl)).symm
  ·rfl
 have hb:=zLj h x.1 x.2 y.1 y.2 hx.1 hx.2 hy.1 hy.2;rw[e]at hb;refine zLg (by kernel_rfl) hb h.low ?_;have:=h.lt;simp[wU,yQ,yt,vM,(qe x.1 x.2).1,(qe y.1 y.2).1,this]
section
attribute [local irreducible] Vs.callL Vs.callRL tyi zO zl zf zR zW za zI zY zA zK zb zV zG zJ zU zn yI zm zL ze Vs.gc zH
theorem zLp {L:List Bd} {I:List Pr} (h:RC 4096 L I) (sy:Node→DV→Bool→Option DV) (sF : ∀s,Vs.WG 4096 (sy s)) (sZ : ∀s,qd (sy s)) (n:Node) (hn:n.ok) (ho:n.op=4) (h0:0<n.kids.length) (k0:wA L I ((n.kids.getD 0 nd0).ev 4096 L sy) (n.kids.getD 0 nd0)):wA L I (n.ev 4096 L sy) n:=by
 intro a c df x S id hf hc h12 hx hS;have zx:df=false→x.2=0:=fun e=>by
  subst e;exact wj sZ n _ _ (hc rfl) hx
 rw[Node.ev_eq]at hx;unfold xb at hx
 repeat rw[hZ (by rw[ho];decide)]at hx
 rw[bA ho]at hx;have ev:=hS.rows;obtain⟨N,hN⟩ : ∃N,S.length=N:=⟨_,rfl⟩;have z:=vY;obtain⟨y,yh,hx⟩:=bN.1 hx;rw[vo _ _ _ _ _ h0]at yh;have yf:=jL (by omega) sF _ _ _ _ hf yh;have yz:df=false→y.2=0:=fun e=>by
  subst e;exact wj sZ _ _ _ (hc rfl) yh
 have i0:=Yt h0;obtain⟨X0,c0,l0⟩:=k0.m hf hc (fun e=>kM (h12 e) (yA h0)) yh (hS.A0 n wm);obtain⟨rfl,fx⟩:=zw.1 hx;rw[Vk];have ng:=fun S=>zF (S:=S) (zAA y.1 y.2 yf.1 yf.2) (by simp[qe]);refine⟨A0 id n (d2 (-y.1) (-y.2))++(X0),?_,?_⟩
 rotate_left
 ·simp only[xw,yv,xZ,yG (xB _ _),yG (js _),pD,bC];rw[kW (by have:=hS.lt;omega) n (xB _ _),ym l0 (by simp only[bM,bK,bU,uv];omega)];rfl
 simp only[wQ]at *;refine FX.callRL ok55_ 1000 rfl rfl ?_;unfold A0 zd r3 d2 evc d2 at *;unfold yC at *;simp only[pB,pX,pG]at *;((repeat((conv=>lhs;whnf);simp only[go_sem,simprocAttr,ho,z,i0,c0,ng,ev,hN,xI hN,wF,xT]));try rfl)
theorem zLq {L:List Bd} {I:List Pr} (h:RC 4096 L I) (sy:Node→DV→Bool→Option DV) (sF : ∀s,Vs.WG 4096 (sy s)) (sZ : ∀s,qd (sy s)) (n:Node) (hn:n.ok) (ho:n.op=5) (h0:0<n.kids.length) (k0:wA L I ((n.kids.getD 0 nd0).ev 4096 L sy) (n.kids.getD 0 nd0)) (h1:1<n.kids.length) (k1:wA L I ((n.kids.getD 1 nd0).ev 4096 L sy) (n.kids.getD 1 nd0)):wA L I (n.ev 4096 L sy) n:=by
 intro a c df x S id hf hc h12 hx hS;have zx:df=false→x.2=0:=fun e=>by
  subst e;exact wj sZ n _ _ (hc rfl) hx
 rw[Node.ev_eq]at hx;unfold xb at hx
 repeat rw[hZ (by rw[ho];decide)]at hx
 rw[bA ho]at hx;have ev:=hS.rows;obtain⟨N,hN⟩ : ∃N,S.length=N:=⟨_,rfl⟩;have z:=vY;obtain⟨y,yh,hx⟩:=bN.1 hx;obtain⟨w,wh,hx⟩:=bN.1 hx;rw[vo _ _ _ _ _ h0]at yh;have yf:=jL (by omega) sF _ _ _ _ hf yh;have yz:df=false→y.2=0:=fun e=>by
  subst e;exact wj sZ _ _ _ (hc rfl) yh
 have i0:=Yt h0;rw[vo _ _ _ _ _ h1]at wh;have wf:=jL (by omega) sF _ _ _ _ hf wh;have wz:df=false→w.2=0:=fun e=>by
  subst e;exact wj sZ _ _ _ (hc rfl) wh
 have i1:=Jx h1;obtain⟨X0,c0,l0⟩:=k0.m hf hc (fun e=>kM (h12 e) (yA h0)) yh (hS.A0 n wm);obtain⟨X1,c1,l1⟩:=k1.m hf hc (fun e=>kM (h12 e) (yA h1)) wh (((hS.A0 n wm).app l0).flat (qG y.1 y.2));obtain⟨e,fx⟩:=zw.1 hx;subst e;have ad:=fun S=>zF (S:=S) (zAB y.1 y.2 w.1 w.2 yf.1 yf.2 wf.1 wf.2) (by simp[qe]);have bd:=VM (((((hS.A0 n wm).app l0).flat (qG y.1 y.2)).app l1).flat (qG w.1 w.2)) (YY y w) fx zx;change zl _ _ _ _ [_,.agg (d2 (y.1+w.1) (y.2+w.2))]=some {v:=.agg (d2 (y.1+w.1) (y.2+w.2)),S:=_++[.arr [d2 (y.1+w.1) (y.2+w.2)] none false,.arr [d2 (y.1+w.1) (y.2+w.2)] none false]} at bd;change ∃X,callRL Tryz.prog zE 55 [.mp id 0 0,.agg n.cells] S=some (.agg (d2 (y.1+w.1) (y.2+w.2)),S++X)∧uO (S.length+X.length) X=true;refine⟨A0 id n (d2 (y.1+w.1) (y.2+w.2))++(X0++([.arr [d2 y.1 y.2] none false]++(X1++([.arr [d2 w.1 w.2] none false]++([.arr [d2 (y.1+w.1) (y.2+w.2)] none false,.arr [d2 (y.1+w.1) (y.2+w.2)] none false]))))),?_,?_⟩
 rotate_left
 ·simp only[xw,yv,xZ,yG (xB _ _),yG (js _),pD,bC];rw[kW (by have:=hS.lt;omega) n (xB _ _),ym l0 (by simp only[bM,bK,bU,uv];omega),ym l1 (by simp only[bM,bK,bU,uv];omega)];rfl
 simp only[wQ]at *;refine FX.callRL ok55_ 1000 rfl rfl ?_;unfold A0 zd r3 d2 evc d2 at *;unfold yC at *;simp only[pB,pX,pG]at *;((repeat((conv=>lhs;whnf);simp only[go_sem,simprocAttr,ho,z,i0,i1,c0,c1,ad,bd,ev,hN,xI hN,wF,xT]));try rfl)
theorem zLr {L:List Bd} {I:List Pr} (h:RC 4096 L I) (sy:Node→DV→Bool→Option DV) (sF : ∀s,Vs.WG 4096 (sy s)) (sZ : ∀s,qd (sy s)) (n:Node) (hn:n.ok) (ho:n.op=6) (h0:0<n.kids.length) (k0:wA L I ((n.kids.getD 0 nd0).ev 4096 L sy) (n.kids.getD 0 nd0)) (h1:1<n.kids.length) (k1:wA L I ((n.kids.getD 1 nd0).ev 4096 L sy) (n.kids.getD 1 nd0)):wA L I (n.ev 4096 L sy) n:=by
 intro a c df x S id hf hc h12 hx hS;have zx:df=false→x.2=0:=fun e=>by
  subst e;exact wj sZ n _ _ (hc rfl) hx
 rw[Node.ev_eq]at hx;unfold xb at hx
 repeat rw[hZ (by rw[ho];decide)]at hx
 rw[bA ho]at hx;have ev:=hS.rows;obtain⟨N,hN⟩ : ∃N,S.length=N:=⟨_,rfl⟩;have z:=vY;obtain⟨y,yh,hx⟩:=bN.1 hx;obtain⟨w,wh,hx⟩:=bN.1 hx;rw[vo _ _ _ _ _ h0]at yh;have yf:=jL (by omega) sF _ _ _ _ hf yh;have yz:df=false→y.2=0:=fun e=>by
  subst e;exact wj sZ _ _ _ (hc rfl) yh
 have i0:=Yt h0;rw[vo _ _ _ _ _ h1]at wh;have wf:=jL (by omega) sF _ _ _ _ hf wh;have wz:df=false→w.2=0:=fun e=>by
  subst e;exact wj sZ _ _ _ (hc rfl) wh
 have i1:=Jx h1;obtain⟨X0,c0,l0⟩:=k0.m hf hc (fun e=>kM (h12 e) (yA h0)) yh (hS.A0 n wm);obtain⟨X1,c1,l1⟩:=k1.m hf hc (fun e=>kM (h12 e) (yA h1)) wh (((hS.A0 n wm).app l0).flat (qG y.1 y.2));obtain⟨e,fx⟩:=zw.1 hx;subst e;have ng:=fun S=>zF (S:=S) (zAA w.1 w.2 wf.1 wf.2) (by simp[qe]);have ad:=fun S=>zF (S:=S) (zAB y.1 y.2 (-w.1) (-w.2) yf.1 yf.2 (VI wf.1) (VI wf.2)) (by simp[qe]);have bd:=VM (((((hS.A0 n wm).app l0).flat (qG y.1 y.2)).app l1).flat (qG (-w.1) (-w.2))) (YY y (xd (-1,0) w)) fx zx;rw[Vk]at bd ⊢;change zl _ _ _ _ [_,.agg (d2 (y.1 + -w.1) (y.2 + -w.2))]=some {v:=.agg (d2 (y.1 + -w.1) (y.2 + -w.2)),S:=_++[.arr [d2 (y.1 + -w.1) (y.2 + -w.2)] none false,.arr [d2 (y.1 + -w.1) (y.2 + -w.2)] none false]} at bd;change ∃X,callRL Tryz.prog zE 55 [.mp id 0 0,.agg n.cells] S=some (.agg (d2 (y.1 + -w.1) (y.2 + -w.2)),S++X)∧uO (S.length+X.length) X=true;refine⟨A0 id n (d2 (y.1 + -w.1) (y.2 + -w.2))++(X0++([.arr [d2 y.1 y.2] none false]++(X1++([.arr [d2 (-w.1) (-w.2)] none false]++([.arr [d2 (y.1 + -w.1) (y.2 + -w.2)] none false,.arr [d2 (y.1 + -w.1) (y.2 + -w.2)] none false]))))),?_,?_⟩
 rotate_left
 ·simp only[xw,yv,xZ,yG (xB _ _),yG (js _),pD,bC];rw[kW (by have:=hS.lt;omega) n (xB _ _),ym l0 (by simp only[bM,bK,bU,uv];omega),ym l1 (by simp only[bM,bK,bU,uv];omega)];rfl
 simp only[wQ]at *;refine FX.callRL ok55_ 1000 rfl rfl ?_;unfold A0 zd r3 d2 evc d2 at *;unfold yC at *;simp only[pB,pX,pG]at *;((repeat((conv=>lhs;whnf);simp only[go_sem,simprocAttr,ho,z,i0,i1,c0,c1,ng,ad,bd,ev,hN,xI hN,wF,xT]));try rfl)
theorem zLs {L:List Bd} {I:List Pr} (h:RC 4096 L I) (sy:Node→DV→Bool→Option DV) (sF : ∀s,Vs.WG 4096 (sy s)) (sZ : ∀s,qd (sy s)) (n:Node) (hn:n.ok) (ho:n.op=7) (h0:0<n.kids.length) (k0:wA L I ((n.kids.getD 0 nd0).ev 4096 L sy) (n.kids.getD 0 nd0)) (h1:1<n.kids.length) (k1:wA L I ((n.kids.getD 1 nd0).ev 4096 L sy) (n.kids.getD 1 nd0)):wA L I (n.ev 4096 L sy) n:=by
 intro a c df x S id hf hc h12 hx hS;have zx:df=false→x.2=0:=fun e=>by
  subst e;exact wj sZ n _ _ (hc rfl) hx
 rw[Node.ev_eq]at hx;unfold xb at hx
 repeat rw[hZ (by rw[ho];decide)]at hx
 rw[bA ho]at hx;have ev:=hS.rows;obtain⟨N,hN⟩ : ∃N,S.length=N:=⟨_,rfl⟩;have z:=vY;obtain⟨y,yh,hx⟩:=bN.1 hx;obtain⟨w,wh,hx⟩:=bN.1 hx;rw[vo _ _ _ _ _ h0]at yh;have yf:=jL (by omega) sF _ _ _ _ hf yh;have yz:df=false→y.2=0:=fun e=>by
  subst e;exact wj sZ _ _ _ (hc rfl) yh
 have i0:=Yt h0;rw[vo _ _ _ _ _ h1]at wh;have wf:=jL (by omega) sF _ _ _ _ hf wh;have wz:df=false→w.2=0:=fun e=>by
  subst e;exact wj sZ _ _ _ (hc rfl) wh
 have i1:=Jx h1;obtain⟨X0,c0,l0⟩:=k0.m hf hc (fun e=>kM (h12 e) (yA h0)) yh (hS.A0 n wm);obtain⟨X1,c1,l1⟩:=k1.m hf hc (fun e=>kM (h12 e) (yA h1)) wh (((hS.A0 n wm).app l0).flat (qG y.1 y.2));obtain⟨e,fx⟩:=zw.1 hx;subst e;have e2:=((((hS.A0 n wm).app l0).flat (qG y.1 y.2)).app l1).flat (qG w.1 w.2);have mu:=zNt e2 y w yf wf yz wz;have bd:=VM (e2.flat (A:=[.arr [d2 y.1 y.2] none false,.arr [d2 w.1 w.2] none false,.arr [d2 (xd y w).1 (xd y w).2] none false,.arr [d2 (xd y w).1 (xd y w).2] none false]) (by simp only[yv,xZ,yG (xB _ _),pD])) (xd y w) fx zx;generalize xd y w=x at *;refine⟨A0 id n (d2 x.1 x.2)++(X0++([.arr [d2 y.1 y.2] none false]++(X1++([.arr [d2 w.1 w.2] none false]++([.arr [d2 y.1 y.2] none false,.arr [d2 w.1 w.2] none false,.arr [d2 x.1 x.2] none false,.arr [d2 x.1 x.2] none false]++([.arr [d2 x.1 x.2] none false,.arr [d2 x.1 x.2] none false])))))),?_,?_⟩
 rotate_left
 ·simp only[xw,yv,xZ,yG (xB _ _),yG (js _),pD,bC];rw[kW (by have:=hS.lt;omega) n (xB _ _),ym l0 (by simp only[bM,bK,bU,uv];omega),ym l1 (by simp only[bM,bK,bU,uv];omega)];rfl
 simp only[wQ]at *;refine FX.callRL ok55_ 1000 rfl rfl ?_;unfold A0 zd r3 d2 evc d2 at *;unfold yC at *;simp only[pB,pX,pG]at *;((repeat((conv=>lhs;whnf);simp only[go_sem,simprocAttr,ho,z,i0,i1,c0,c1,mu,bd,ev,hN,xI hN,wF,xT]));try rfl)
theorem zLt {L:List Bd} {I:List Pr} (h:RC 4096 L I) (sy:Node→DV→Bool→Option DV) (sF : ∀s,Vs.WG 4096 (sy s)) (sZ : ∀s,qd (sy s)) (n:Node) (hn:n.ok) (ho:n.op=8) (h0:0<n.kids.length) (k0:wA L I ((n.kids.getD 0 nd0).ev 4096 L sy) (n.kids.getD 0 nd0)) (h1:1<n.kids.length) (hk:vh (n.kids.getD 1 nd0).neg (n.kids.getD 1 nd0).num (n.kids.getD 1 nd0).den=true) (hz:(n.kids.getD 1 nd0).num.length≠0):wA L I (n.ev 4096 L sy) n:=by
 intro a c df x S id hf hc h12 hx hS;have zx:df=false→x.2=0:=fun e=>by
  subst e;exact wj sZ n _ _ (hc rfl) hx
 rw[Node.ev_eq]at hx;unfold xb at hx
 repeat rw[hZ (by rw[ho];decide)]at hx
 rw[bA ho]at hx;have ev:=hS.rows;obtain⟨N,hN⟩ : ∃N,S.length=N:=⟨_,rfl⟩;have z:=vY;obtain⟨j,jh,hx⟩:=bN.1 hx;obtain⟨y,yh,hx⟩:=bN.1 hx;obtain⟨e,jf⟩:=zw.1 jh;subst e;rw[vo _ _ _ _ _ h0]at yh;have yf:=jL (by omega) sF _ _ _ _ hf yh;have yz:df=false→y.2=0:=fun e=>by
  subst e;exact wj sZ _ _ _ (hc rfl) yh
 have i0:=Yt h0;obtain⟨X0,c0,l0⟩:=k0.m hf hc (fun e=>kM (h12 e) (yA h0)) yh (hS.A0 n wm);obtain⟨e,fx⟩:=zw.1 hx;subst e;have i1:=Jx h1;have hkn:=hn.kids _ (yA h1);obtain⟨q1,q2,q3⟩:=XS hk hkn.val.n;have iv : ∀S,zO (callL Tryz.prog zE) S 101 [.agg [.bool (n.kids.getD 1 nd0).neg,.sl (zD .u32 (n.kids.getD 1 nd0).num) false,.sl (zD .u32 (n.kids.getD 1 nd0).den) false]]=some {v:=xU (ZT (n.kids.getD 1 nd0).num)⁻¹ } := fun S=>zF (by rw[q1];exact zAn _ (q2.mono (by omega)) (q3 hz)) (by rw[q1];simp[vz]);clear q1 q2 q3;generalize (ZT (n.kids.getD 1 nd0).num)⁻¹ = q at *;have m1:=fun S=>JO S y.1 q yf.1 jf.1;have m2:=fun S=>JO S y.2 q yf.2 jf.1;rw[zG9]at fx zx ⊢;have bd:=VM ((((hS.A0 n wm).app l0).flat (qG y.1 y.2)).flat (A:=[.arr [r3 q] none false]) (by simp only[yv,xZ,yG (js _),pD])) (y.1*q,y.2*q) fx zx;dsimp only at bd ⊢;refine⟨A0 id n (d2 (y.1*q) (y.2*q))++(X0++([.arr [d2 y.1 y.2] none false]++([.arr [r3 q] none false]++([.arr [d2 (y.1*q) (y.2*q)] none false,.arr [d2 (y.1*q) (y.2*q)] none false])))),?_,?_⟩
 rotate_left
 ·simp only[xw,yv,xZ,yG (xB _ _),yG (js _),pD,bC];rw[kW (by have:=hS.lt;omega) n (xB _ _),ym l0 (by simp only[bM,bK,bU,uv];omega)];rfl
 simp only[wQ]at *;refine FX.callRL ok55_ 1000 rfl rfl ?_;unfold A0 zd r3 d2 evc d2 at *;unfold yC at *;simp only[pB,pX,pG]at *;((repeat((conv=>lhs;whnf);simp only[go_sem,simprocAttr,ho,z,i0,i1,c0,iv,m1,m2,bd,ev,hN,xI hN,wF,xT]));try rfl)
end
end
section
theorem Vn {S:zB} {id:Nat} {c:List PV} (h:S[id]? = some (.arr [c] none false)) (k off:Nat) (v:PV) (h1:off+k≤c.length) (h2:v.cells.length=k) (h3:v.cells.all PV.cell=true) (A:zB):yV k (S++A) (.mp id 0 off) v=some (S.set id (.arr [kN c off v.cells] none false)++A):=by
 have hlt:=(bR.1 h).1;simp only[yV];rw[ue h A];dsimp only;rw[bA ⟨Nat.zero_lt_one,h1,h2,h3⟩,List.set_append_left _ _ hlt];rfl
theorem ES.set {S:zB} {id:Nat} {c:List PV} (h:ES S id c) {c':List PV} (hr:zT [c']=[]):ES (S.set id (.arr [c'] none false)) id c':=by
 refine⟨by rw[BG h.lt],?_⟩;exact qb h.low id (by rw[hr];intro x hx;cases hx)
theorem JP {S:zB} {id:Nat} {o o':Obj} (h:S[id]? = some o):(S.set id o').set id o=S:=by
 have hlt:=(bR.1 h).1;rw[List.set_set];refine PR fun i=>?_;rw[HO];by_cases e:id=i
 ·rw[bA e,bA hlt,←e,h]
 ·rw[hZ e]
section
attribute [local irreducible] Vs.callL Vs.callRL tyi zO zl zf zR zW za zI zY zA zK zb zV zG zJ zU zn yI zm zL ze Vs.gc zH
theorem zJT {L:List Bd} {I:List Pr} (h:RC 4096 L I) (sy:Node→DV→Bool→Option DV) (sF : ∀s,Vs.WG 4096 (sy s)) (sZ : ∀s,qd (sy s)) (n:Node) (hn:n.ok) (ho:n.op=12) (h0:0<n.kids.length) (k0:wA L I ((n.kids.getD 0 nd0).ev 4096 L sy) (n.kids.getD 0 nd0)) (hk:(n.kids.getD 0 nd0).has (yy 12)=false):wA L I (n.ev 4096 L sy) n:=by
 intro a c df x S id hf hc h12 hx hS;have zx:df=false→x.2=0:=fun e=>by
  subst e;exact wj sZ n _ _ (hc rfl) hx
 rw[Node.ev_eq]at hx;unfold xb at hx
 repeat rw[hZ (by rw[ho];decide)]at hx
 rw[bA ho]at hx;have ev:=hS.rows;obtain⟨N,hN⟩ : ∃N,S.length=N:=⟨_,rfl⟩;have z:=vY;have ed:df=false:=by
  cases df
  ·rfl
  ·have:=h12 rfl;rw[Node.has_eq,ho]at this;exact absurd this (by simp[yy])
 subst ed;obtain rfl:=hc rfl;obtain⟨y,yh,hx⟩:=bN.1 hx;rw[vo _ _ _ _ _ h0]at yh;have yf:=jL (by omega) sF _ _ _ _ hf yh;have i0:=Yt h0;have hS1:=hS.set (JN L I a 0 true false);have s1:=Vn hS.at_ 1 8 (.bool true) (by show 9≤10;decide) rfl rfl;have s2:=Vn hS1.at_ 1 8 (.bool false) (by show 9≤10;decide) rfl rfl;change ∀A,yV 1 (S++A) (.mp id 0 8) (.bool true)=some (S.set id (.arr [evc L I a 0 true false] none false)++A) at s1;change ∀A,yV 1 (S.set id (.arr [evc L I a 0 true false] none false)++A) (.mp id 0 8) (.bool false)=some ((S.set id (.arr [evc L I a 0 true false] none false)).set id (.arr [evc L I a 0 false false] none false)++A) at s2;rw[JP hS.at_]at s2;have hN1:(S.set id (.arr [evc L I a 0 true false] none false)).length=N:=by rw[aP,hN]
 generalize S.set id (.arr [evc L I a 0 true false] none false)=S1 at *;have ev1:=hS1.rows;obtain⟨X0,c0,l0⟩:=k0.m hf (fun e=>by cases e) (fun _=>hk) yh (hS1.A0 n wm);obtain⟨e,fx⟩:=zw.1 hx;subst e;rw[bM,hN1,←hN,←bM (bs:=A0 id n zd)]at l0;dsimp only;refine⟨A0 id n (d2 y.2 0)++(X0++([.arr [d2 y.1 y.2] none false])),?_,?_⟩
 rotate_left
 ·simp only[xw,yv,xZ,yG (xB _ _),yG (js _),pD,bC];rw[kW (by have:=hS.lt;omega) n (xB _ _),ym l0 (by simp only[bM,bK,bU,uv];omega)];rfl
 simp only[wQ]at *;refine FX.callRL ok55_ 1000 rfl rfl ?_;unfold A0 zd r3 d2 evc d2 at *;unfold yC at *;simp only[pB,pX,pG]at *;((repeat((conv=>lhs;whnf);simp only[go_sem,simprocAttr,ho,z,i0,c0,s1,s2,ev1,hN1,xI hN1,ev,hN,xI hN,wF,xT]));try rfl)
theorem zJU {L:List Bd} {I:List Pr} {a c:Rat} {df:Bool} (al:DV) (hal:jN 4096 al) (zal:df=false→al.2=0) {T:zB} {N M id pa:Nat} (hM:T.length=M) (hT : ∀A,uO 0 A=true→ES (T++A) id (evc L I a c df false)) (pT : ∀A,zj (T++A) N=some [[.mp id 0 0]]) (pa_ : ∀A,zj (T++A) pa=some [d2 al.1 al.2]) (hNM:N+2<M) (hpa:pa<M) (fs:List Fr) (K1:Nat) (hK1:K1=M+1) : ∀(k:Nat),k≤20→∀(o x:DV),jN 4096 o→(df=false→o.2=0)→zE2 4096 al k o=some x→∀z,
  yB N zLl 1 fs [(2,.undef),(4,.mp (N+2) 0 0),(13,.undef),(14,.undef),(16,.mp M 0 0),(186,.undef)] (T++[.arr [d2 x.1 x.2] none false])=some z →
  zS N zLl 1 1031798648 K1 fs [(2,.mp N 0 0),(4,.mp (N+2) 0 0),(13,.mp pa 0 0),(14,.int .i64 k),(16,.mp M 0 0)] (T++[.arr [d2 o.1 o.2] none false])=some z:=by
 subst hK1;intro k
 induction k with
 | zero =>
  intro _ o x hfo zo hx z hz;cases hx;have gl:=fun e=>zLY (T++[.arr [d2 o.1 o.2] none false]) e (M+1) (by simp[hM]);apply zC;unfold d2 evc d2 at *;unfold yC at *;(repeat((conv=>lhs;whnf);simp only[go_sem,simprocAttr,gl]));exact hz
 | succ k ih =>
  intro hk o x hfo zo hx z hz;obtain⟨p,ph,hx⟩:=bN.1 hx;obtain⟨e,fp⟩:=zw.1 ph;subst e;have zp:df=false→(xd o al).2=0:=fun e=>kV (zo e) (zal e);have key:=ih (by omega) _ x fp zp hx z hz;have e1:=hT [.arr [d2 o.1 o.2] none false] (qG _ _);have mu:=zNt e1 o al hfo hal zo zal;have bd:=VM (e1.flat (A:=[.arr [d2 o.1 o.2] none false,.arr [d2 al.1 al.2] none false,.arr [d2 (xd o al).1 (xd o al).2] none false,.arr [d2 (xd o al).1 (xd o al).2] none false]) (by simp only[yv,xZ,yG (xB _ _),pD])) (xd o al) fp zp;have c1:(0:Int)<((k+1:Nat):Int):=by omega
  have w1:IntKind.i64.wrap (((k+1:Nat):Int)-1)=(k:Int):=by rw[bE];omega
  have pid:=fun A=>e1.rows A;have tp:=fun (o':Obj) (A:zB)=>hT (o'::A);have lT:=(hT [] rfl).low;rw[pU,hM]at lT;have p1 : ∀A,zj (T++A) id=some [evc L I a c df false]:=fun A=>by
   have:=(hT [] rfl).rows A
   rwa [pU]at this
  generalize xd o al=p at *;have hG : ∀A,Vs.gc (M+1) [(2,.mp N 0 0),(4,.mp (N+2) 0 0),(13,.mp pa 0 0),(14,.int .i64 k),(16,.mp M 0 0)] (T ++ .arr [d2 p.1 p.2] none false::A)=T++[.arr [d2 p.1 p.2] none false]:=fun A=>by
   have e:(T++Obj.arr [d2 p.1 p.2] none false::A).take (M+1)=T++[Obj.arr [d2 p.1 p.2] none false]:=by
    rw[List.take_append,hM,aF,aN (by omega)];rfl
   rw[zHj _ _,e]
   ·simp[vM,kq];omega
   ·rw[e];simp only[xw,yv,xZ,yG (xB _ _),ym lT (show M≤M+1 by omega),pD]
  clear hT tp e1 lT pid;apply zC;unfold d2 evc d2 at *;unfold yC at *;simp only[pB,pX,pG]at *;(repeat((conv=>lhs;whnf);simp only[go_sem,simprocAttr,c1,w1,pT,pa_,p1,mu,bd,hG,hM,xI hM,xT]));exact key
end
end
section
theorem zAD {A:zB} (h:uO 0 A=true) (N:Nat):uO N A=true:=ym h (sJ N)
section
attribute [local irreducible] Vs.callL Vs.callRL tyi zO zl zf zR zW za zI zY zA zK zb zV zG zJ zU zn yI zm zL ze Vs.gc zH
theorem zLu {L:List Bd} {I:List Pr} (h:RC 4096 L I) (sy:Node→DV→Bool→Option DV) (sF : ∀s,Vs.WG 4096 (sy s)) (sZ : ∀s,qd (sy s)) (n:Node) (hn:n.ok) (ho:n.op=9) (h0:0<n.kids.length) (k0:wA L I ((n.kids.getD 0 nd0).ev 4096 L sy) (n.kids.getD 0 nd0)) (h1:1<n.kids.length) (hz:0≤vS (n.kids.getD 1 nd0).num 20∧vS (n.kids.getD 1 nd0).num 20≤20):wA L I (n.ev 4096 L sy) n:=by
 intro a c df x S id hf hc h12 hx hS;have zx:df=false→x.2=0:=fun e=>by
  subst e;exact wj sZ n _ _ (hc rfl) hx
 rw[Node.ev_eq]at hx;unfold xb at hx
 repeat rw[hZ (by rw[ho];decide)]at hx
 rw[bA ho]at hx;have ev:=hS.rows;obtain⟨N,hN⟩ : ∃N,S.length=N:=⟨_,rfl⟩;have z:=vY;obtain⟨y,yh,hx⟩:=bN.1 hx;rw[vo _ _ _ _ _ h0]at yh;have yf:=jL (by omega) sF _ _ _ _ hf yh;have yz:df=false→y.2=0:=fun e=>by
  subst e;exact wj sZ _ _ _ (hc rfl) yh
 have i0:=Yt h0;obtain⟨X0,c0,l0⟩:=k0.m hf hc (fun e=>kM (h12 e) (yA h0)) yh (hS.A0 n wm);have i1:=Jx h1;obtain⟨K,hK⟩ : ∃K:Nat,vS (n.kids.getD 1 nd0).num 20=(K:Int):=⟨(vS (n.kids.getD 1 nd0).num 20).toNat,by omega⟩;rw[hK,bD]at hx;rw[hK]at hz;have on:=zPO;have f10:jN 4096 (1,0):=⟨VH (by omega),uh (by omega)⟩;obtain⟨T,hT⟩ : ∃T,T=S++(A0 id n zd++(X0++[.arr [d2 y.1 y.2] none false])):=⟨_,rfl⟩;have eT : ∀A,T++A=S++(A0 id n zd++(X0++(.arr [d2 y.1 y.2] none false::A))):=fun A=>by rw[hT];simp
 have hM:T.length=N+(X0.length+1+1+1+1+1):=by
  rw[hT];simp[uv,hN];omega
 have q1 : ∀A,uO 0 A=true→ES (T++A) id (evc L I a c df false):=fun A hA=>by
  have e:=(((hS.A0 n wm).app l0).flat (qG y.1 y.2)).flat hA;have:T++A=S++A0 id n zd++X0++[.arr [d2 y.1 y.2] none false]++A:=by rw[eT];simp
  rw[this];exact e
 have q2 : ∀A,zj (T++A) N=some [[.mp id 0 0]]:=fun A=>by rw[eT,zBy hN];rfl
 have q3 : ∀A,zj (T++A) (N+(X0.length+1+1+1+1))=some [d2 y.1 y.2]:=fun A=>by
  rw[eT,zBx hN]
  show zj (X0++(.arr [d2 y.1 y.2] none false::A)) X0.length=_
  rw[zE9];rfl
 have key:=fun fs K1 (hK1:K1=N+(X0.length+1+1+1+1+1)+1)=>zJU y yf yz hM q1 q2 q3 (by omega) (by omega) fs K1 hK1 K (by omega) (1,0) x f10 (fun _=>rfl) hx;simp only[eT]at key;clear q1 q2 q3 eT hM hT;by_cases hl:(n.kids.getD 1 nd0).num.length=0
 ·have k0:K=0:=by
   unfold vS at hK;rw[bA hl]at hK;omega
  subst k0;have g1 : ¬(0:Int)<((n.kids.getD 1 nd0).num.length:Int):=by omega
  refine⟨A0 id n (d2 x.1 x.2)++(X0++([.arr [d2 y.1 y.2] none false,.arr [d2 x.1 x.2] none false])),?_,?_⟩
  rotate_left
  ·simp only[xw,yv,xZ,yG (xB _ _),yG (js _),pD,bC];rw[kW (by have:=hS.lt;omega) n (xB _ _),ym l0 (by simp only[bM,bK,bU,uv];omega)];rfl
  simp only[wQ]at *;refine FX.callRL ok55_ 1000 rfl rfl ?_;unfold A0 zd r3 d2 evc d2 at *;unfold yC at *;simp only[pB,pX,pG]at *;(repeat((conv=>lhs;whnf);simp only[go_sem,simprocAttr,ho,z,i0,i1,c0,on,g1,ev,hN,xI hN,wF,xT]));refine key _ _ (by omega) _ ?_;apply zN;((repeat((conv=>lhs;whnf);simp only[go_sem,simprocAttr,ho,z,ev,hN,xI hN,wF,xT]));try rfl)
 ·have kk:(n.kids.getD 1 nd0).num.getD 0 0=(K:Int):=by
   unfold vS at hK;rw[hZ hl]at hK;by_cases hc:1<(n.kids.getD 1 nd0).num.length∨20<(n.kids.getD 1 nd0).num.getD 0 0
   ·rw[bA hc]at hK;omega
   ·rw[hZ hc]at hK;exact hK
  have g1:(0:Int)<((n.kids.getD 1 nd0).num.length:Int):=by omega
  have g2:0≤(0:Int)∧(0:Int)<((n.kids.getD 1 nd0).num.length:Int):=⟨by omega,by omega⟩;have wk:IntKind.i64.wrap (K:Int)=(K:Int):=by rw[bE];omega
  refine⟨A0 id n (d2 x.1 x.2)++(X0++([.arr [d2 y.1 y.2] none false,.arr [d2 x.1 x.2] none false])),?_,?_⟩
  rotate_left
  ·simp only[xw,yv,xZ,yG (xB _ _),yG (js _),pD,bC];rw[kW (by have:=hS.lt;omega) n (xB _ _),ym l0 (by simp only[bM,bK,bU,uv];omega)];rfl
  simp only[wQ]at *;refine FX.callRL ok55_ 1000 rfl rfl ?_;unfold A0 zd r3 d2 evc d2 at *;unfold yC at *;simp only[pB,pX,pG]at *;(repeat((conv=>lhs;whnf);simp only[go_sem,simprocAttr,ho,z,i0,i1,c0,on,g1,g2,kk,wk,ev,hN,xI hN,wF,xT]));refine key _ _ (by omega) _ ?_;apply zN;((repeat((conv=>lhs;whnf);simp only[go_sem,simprocAttr,ho,z,ev,hN,xI hN,wF,xT]));try rfl)
end
end
end Go.Vs
