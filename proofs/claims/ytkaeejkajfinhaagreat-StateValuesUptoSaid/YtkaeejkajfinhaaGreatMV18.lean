
import Derived.Test.YtkaeejkajfinhaaGreatMV12
import Derived.Test.YtkaeejkajfinhaaGreatMV16
import Derived.Test.YtkaeejkajfinhaaGreatMV17
set_option linter.unusedVariables false
set_option linter.unusedSimpArgs false
set_option maxRecDepth 100000
namespace Go.Vs
open Go Go.Proofs
section
section
attribute [local irreducible] Vs.callL Vs.callRL tyi zO zl zf zR zW za zI zY zA zK zb zV zG zJ zU zn yI zm zL ze Vs.gc zH
noncomputable def zKl:FX:=⟨Tryz.f124,zE.of 124,[]⟩
instance ok124_:zKl.ok 124:=FX.mk'
theorem Jk (n:Node) (hn:n.ok) (ih : ∀k∈n.kids,callL Tryz.prog zE 124 [.agg k.cells]=some (.bool k.diff)) : ∀(m i:Nat),i+m=n.kids.length →
  ∃S',zS 0 zKl 1 6884 1 [.blk 1,.seq 0 861,.blk 0,.seq 0 7] [(22,.sl (Node.rows n.kids) false),(23,.int .i64 n.kids.length),(24,.int .i64 i)] [.arr [n.cells] none false]=some (.bool (Node.diffs (n.kids.drop i)),S'):=by
 intro m
 induction m with
 | zero =>
  intro i hi;have h1 : ¬(i:Int)<(n.kids.length:Int):=by omega
  rw[bT (by omega)];apply Exists.intro;apply zC;(repeat((conv=>lhs;whnf);simp only[go_sem,simprocAttr,h1]));apply zN;unfold Node.diffs;((repeat((conv=>lhs;whnf);simp only[go_sem,simprocAttr]));try rfl)
 | succ m hm =>
  intro i hi;have h1:(i:Int)<(n.kids.length:Int):=by omega
  have h2:=zg (i:=i) (n:=n.kids.length) (by omega) hn.len;have h4:0≤(i:Int)∧(i:Int)<(n.kids.length:Int):=⟨by omega,h1⟩;have h5:=fun S=>uR S (ih _ (yA (l:=n.kids) (i:=i) (by omega)));obtain⟨S',key⟩:=hm (i+1) (by omega);have h7:Node.diffs (n.kids.drop i)=((n.kids.getD i nd0).diff&&Node.diffs (n.kids.drop (i+1))):=by rw[xM (l:=n.kids) (i:=i) (by omega)];rfl
  rw[h7]
  cases hd:(n.kids.getD i nd0).diff
  case false =>
   rw[hd]at h5;rw[bB];apply Exists.intro;apply zC;((repeat((conv=>lhs;whnf);simp only[go_sem,simprocAttr,h1,h2,h4,h5]));try rfl)
  case true =>
   rw[hd]at h5;rw[bC];refine⟨S',?_⟩;apply zC;(repeat((conv=>lhs;whnf);simp only[go_sem,simprocAttr,h1,h2,h4,h5]));exact key
theorem Jl : ∀n:Node,n.ok→callL Tryz.prog zE 124 [.agg n.cells]=some (.bool n.diff):=by
 refine Node.ind' fun n ih hn=>?_;obtain⟨S',h⟩:=Jk n hn (fun k hk'=>ih k hk' (hn.kids k hk')) n.kids.length 0 (by omega);rw[bX]at h;rw[Node.diff_eq];unfold Wm;by_cases e20:n.op=20
 ·rw[e20];apply FX.callB2 ok124_ 1000 rfl rfl;((repeat((conv=>lhs;whnf);simp only[go_sem,simprocAttr,e20]));try rfl)
 by_cases e21:n.op=21
 ·rw[e21];apply FX.callB2 ok124_ 1000 rfl rfl;((repeat((conv=>lhs;whnf);simp only[go_sem,simprocAttr,e21]));try rfl)
 by_cases e22:n.op=22
 ·rw[e22];apply FX.callB2 ok124_ 1000 rfl rfl;((repeat((conv=>lhs;whnf);simp only[go_sem,simprocAttr,e22]));try rfl)
 by_cases e23:n.op=23
 ·rw[e23];apply FX.callB2 ok124_ 1000 rfl rfl;((repeat((conv=>lhs;whnf);simp only[go_sem,simprocAttr,e23]));try rfl)
 by_cases e24:n.op=24
 ·rw[e24];apply FX.callB2 ok124_ 1000 rfl rfl;((repeat((conv=>lhs;whnf);simp only[go_sem,simprocAttr,e24]));try rfl)
 by_cases e25:n.op=25
 ·rw[e25];apply FX.callB2 ok124_ 1000 rfl rfl;((repeat((conv=>lhs;whnf);simp only[go_sem,simprocAttr,e25]));try rfl)
 by_cases e26:n.op=26
 ·rw[e26];apply FX.callB2 ok124_ 1000 rfl rfl;((repeat((conv=>lhs;whnf);simp only[go_sem,simprocAttr,e26]));try rfl)
 by_cases e27:n.op=27
 ·rw[e27];apply FX.callB2 ok124_ 1000 rfl rfl;((repeat((conv=>lhs;whnf);simp only[go_sem,simprocAttr,e27]));try rfl)
 by_cases e37:n.op=37
 ·rw[e37];apply FX.callB2 ok124_ 1000 rfl rfl;((repeat((conv=>lhs;whnf);simp only[go_sem,simprocAttr,e37]));try rfl)
 by_cases e38:n.op=38
 ·rw[e38];apply FX.callB2 ok124_ 1000 rfl rfl;((repeat((conv=>lhs;whnf);simp only[go_sem,simprocAttr,e38]));try rfl)
 by_cases e29:n.op=29
 ·rw[e29];apply FX.callB2 ok124_ 1000 rfl rfl;(repeat((conv=>lhs;whnf);simp only[go_sem,simprocAttr,e29]));exact h
 by_cases e30:n.op=30
 ·rw[e30];apply FX.callB2 ok124_ 1000 rfl rfl;(repeat((conv=>lhs;whnf);simp only[go_sem,simprocAttr,e30]));exact h
 have hf:(decide (n.op=20)||decide (n.op=21)||decide (22≤n.op∧n.op≤27)||decide (n.op=37)||decide (n.op=38)||((decide (n.op=29)||decide (n.op=30))&&Node.diffs n.kids))=false:=by
  have : ¬(22≤n.op∧n.op≤27):=by omega
  simp only[e20,e21,e37,e38,e29,e30,this,decide_false,sO,bB]
 rw[hf];apply FX.callB2 ok124_ 1000 rfl rfl;((repeat((conv=>lhs;whnf);simp only[go_sem,simprocAttr,e20,e21,e22,e23,e24,e25,e26,e27,e37,e38,e29,e30]));try rfl)
theorem zFu (S:zB) (n:Node) (h:n.ok):zO (callL Tryz.prog zE) S 124 [.agg n.cells]=some {v:=.bool n.diff} := uR S (Jl n h)
noncomputable def zKm:FX:=⟨Tryz.f133,zE.of 133,[]⟩
instance ok133_:zKm.ok 133:=FX.mk'
theorem zFv (n:Node) (hn:n.ok) (ih : ∀k∈n.kids,callL Tryz.prog zE 133 [.agg k.cells]=some (.bool k.diff)) : ∀(m i:Nat),i+m=n.kids.length →
  ∃S',zS 0 zKm 1 3300 1 [.blk 1,.seq 0 413,.blk 0,.seq 0 7] [(1,.mp 0 0 0),(3,.int .i64 i)] [.arr [n.cells] none false]=some (.bool (Node.diffs (n.kids.drop i)),S'):=by
 intro m
 induction m with
 | zero =>
  intro i hi;have h1 : ¬(i:Int)<(n.kids.length:Int):=by omega
  rw[bT (by omega)];apply Exists.intro;apply zC;(repeat((conv=>lhs;whnf);simp only[go_sem,simprocAttr,h1]));apply zN;unfold Node.diffs;((repeat((conv=>lhs;whnf);simp only[go_sem,simprocAttr]));try rfl)
 | succ m hm =>
  intro i hi;have h1:(i:Int)<(n.kids.length:Int):=by omega
  have h2:=zg (i:=i) (n:=n.kids.length) (by omega) hn.len;have h4:0≤(i:Int)∧(i:Int)<(n.kids.length:Int):=⟨by omega,h1⟩;have h5:=fun S=>uR S (ih _ (yA (l:=n.kids) (i:=i) (by omega)));obtain⟨S',key⟩:=hm (i+1) (by omega);have h7:Node.diffs (n.kids.drop i)=((n.kids.getD i nd0).diff&&Node.diffs (n.kids.drop (i+1))):=by rw[xM (l:=n.kids) (i:=i) (by omega)];rfl
  rw[h7]
  cases hd:(n.kids.getD i nd0).diff
  case false =>
   rw[hd]at h5;rw[bB];apply Exists.intro;apply zC;((repeat((conv=>lhs;whnf);simp only[go_sem,simprocAttr,h1,h2,h4,h5]));try rfl)
  case true =>
   rw[hd]at h5;rw[bC];refine⟨S',?_⟩;apply zC;(repeat((conv=>lhs;whnf);simp only[go_sem,simprocAttr,h1,h2,h4,h5]));exact key
theorem zFw : ∀n:Node,n.ok→callL Tryz.prog zE 133 [.agg n.cells]=some (.bool n.diff):=by
 refine Node.ind' fun n ih hn=>?_;obtain⟨S',h⟩:=zFv n hn (fun k hk'=>ih k hk' (hn.kids k hk')) n.kids.length 0 (by omega);rw[bX]at h;rw[Node.diff_eq];unfold Wm;by_cases e20:n.op=20
 ·rw[e20];apply FX.callB2 ok133_ 1000 rfl rfl;((repeat((conv=>lhs;whnf);simp only[go_sem,simprocAttr,e20]));try rfl)
 by_cases e21:n.op=21
 ·rw[e21];apply FX.callB2 ok133_ 1000 rfl rfl;((repeat((conv=>lhs;whnf);simp only[go_sem,simprocAttr,e21]));try rfl)
 by_cases e22:n.op=22
 ·rw[e22];apply FX.callB2 ok133_ 1000 rfl rfl;((repeat((conv=>lhs;whnf);simp only[go_sem,simprocAttr,e22]));try rfl)
 by_cases e23:n.op=23
 ·rw[e23];apply FX.callB2 ok133_ 1000 rfl rfl;((repeat((conv=>lhs;whnf);simp only[go_sem,simprocAttr,e23]));try rfl)
 by_cases e24:n.op=24
 ·rw[e24];apply FX.callB2 ok133_ 1000 rfl rfl;((repeat((conv=>lhs;whnf);simp only[go_sem,simprocAttr,e24]));try rfl)
 by_cases e25:n.op=25
 ·rw[e25];apply FX.callB2 ok133_ 1000 rfl rfl;((repeat((conv=>lhs;whnf);simp only[go_sem,simprocAttr,e25]));try rfl)
 by_cases e26:n.op=26
 ·rw[e26];apply FX.callB2 ok133_ 1000 rfl rfl;((repeat((conv=>lhs;whnf);simp only[go_sem,simprocAttr,e26]));try rfl)
 by_cases e27:n.op=27
 ·rw[e27];apply FX.callB2 ok133_ 1000 rfl rfl;((repeat((conv=>lhs;whnf);simp only[go_sem,simprocAttr,e27]));try rfl)
 by_cases e37:n.op=37
 ·rw[e37];apply FX.callB2 ok133_ 1000 rfl rfl;((repeat((conv=>lhs;whnf);simp only[go_sem,simprocAttr,e37]));try rfl)
 by_cases e38:n.op=38
 ·rw[e38];apply FX.callB2 ok133_ 1000 rfl rfl;((repeat((conv=>lhs;whnf);simp only[go_sem,simprocAttr,e38]));try rfl)
 by_cases e29:n.op=29
 ·rw[e29];apply FX.callB2 ok133_ 1000 rfl rfl;(repeat((conv=>lhs;whnf);simp only[go_sem,simprocAttr,e29]));exact h
 by_cases e30:n.op=30
 ·rw[e30];apply FX.callB2 ok133_ 1000 rfl rfl;(repeat((conv=>lhs;whnf);simp only[go_sem,simprocAttr,e30]));exact h
 have hf:(decide (n.op=20)||decide (n.op=21)||decide (22≤n.op∧n.op≤27)||decide (n.op=37)||decide (n.op=38)||((decide (n.op=29)||decide (n.op=30))&&Node.diffs n.kids))=false:=by
  have : ¬(22≤n.op∧n.op≤27):=by omega
  simp only[e20,e21,e37,e38,e29,e30,this,decide_false,sO,bB]
 rw[hf];apply FX.callB2 ok133_ 1000 rfl rfl;by_cases c1:22≤n.op
 ·have c2 : ¬n.op≤27:=by omega
  ((repeat((conv=>lhs;whnf);simp only[go_sem,simprocAttr,e20,e21,c1,c2,e37,e38,e29,e30]));try rfl)
 ·((repeat((conv=>lhs;whnf);simp only[go_sem,simprocAttr,e20,e21,c1,e37,e38,e29,e30]));try rfl)
theorem zMr (S:zB) (n:Node) (h:n.ok):zO (callL Tryz.prog zE) S 133 [.agg n.cells]=some {v:=.bool n.diff} := uR S (zFw n h)
noncomputable def zKn:FX:=⟨Tryz.f159,zE.of 159,[]⟩
instance ok159_:zKn.ok 159:=FX.mk'
theorem zBR (n:Node) (hn:n.ok) (ih : ∀k∈n.kids,callL Tryz.prog zE 159 [.agg k.cells]=some (.bool k.primed)) : ∀(m i:Nat),i+m=n.kids.length →
  ∃S',zS 0 zKn 0 116 1 [.blk 0,.seq 0 15] [(1,.mp 0 0 0),(3,.int .i64 i)] [.arr [n.cells] none false]=some (.bool (Node.primeds (n.kids.drop i)),S'):=by
 intro m
 induction m with
 | zero =>
  intro i hi;have h1 : ¬(i:Int)<(n.kids.length:Int):=by omega
  rw[bT (by omega)];apply Exists.intro;apply zC;(repeat((conv=>lhs;whnf);simp only[go_sem,simprocAttr,h1]));apply zN;unfold Node.primeds;((repeat((conv=>lhs;whnf);simp only[go_sem,simprocAttr]));try rfl)
 | succ m hm =>
  intro i hi;have h1:(i:Int)<(n.kids.length:Int):=by omega
  have h2:=zg (i:=i) (n:=n.kids.length) (by omega) hn.len;have h4:0≤(i:Int)∧(i:Int)<(n.kids.length:Int):=⟨by omega,h1⟩;have h5:=fun S=>uR S (ih _ (yA (l:=n.kids) (i:=i) (by omega)));obtain⟨S',key⟩:=hm (i+1) (by omega);have h7:Node.primeds (n.kids.drop i)=((n.kids.getD i nd0).primed||Node.primeds (n.kids.drop (i+1))):=by rw[xM (l:=n.kids) (i:=i) (by omega)];rfl
  rw[h7]
  cases hd:(n.kids.getD i nd0).primed
  case true =>
   rw[hd]at h5;rw[pI];apply Exists.intro;apply zC;((repeat((conv=>lhs;whnf);simp only[go_sem,simprocAttr,h1,h2,h4,h5]));try rfl)
  case false =>
   rw[hd]at h5;rw[bW];refine⟨S',?_⟩;apply zC;(repeat((conv=>lhs;whnf);simp only[go_sem,simprocAttr,h1,h2,h4,h5]));exact key
theorem zBS : ∀n:Node,n.ok→callL Tryz.prog zE 159 [.agg n.cells]=some (.bool n.primed):=by
 refine Node.ind' fun n ih hn=>?_;obtain⟨S',h⟩:=zBR n hn (fun k hk'=>ih k hk' (hn.kids k hk')) n.kids.length 0 (by omega);rw[bX]at h;rw[Node.primed_eq];by_cases e3:n.op=3
 ·rw[e3];apply FX.callB2 ok159_ 1000 rfl rfl;((repeat((conv=>lhs;whnf);simp only[go_sem,simprocAttr,e3]));try rfl)
 by_cases e12:n.op=12
 ·rw[e12];apply FX.callB2 ok159_ 1000 rfl rfl;((repeat((conv=>lhs;whnf);simp only[go_sem,simprocAttr,e12]));try rfl)
 by_cases e39:n.op=39
 ·rw[e39];apply FX.callB2 ok159_ 1000 rfl rfl;((repeat((conv=>lhs;whnf);simp only[go_sem,simprocAttr,e39]));try rfl)
 have hf:((decide (n.op=3)||(decide (n.op=12)||decide (n.op=39)))||Node.primeds n.kids)=Node.primeds n.kids:=by simp only[e3,e12,e39,decide_false,sO,bW]
 rw[hf];apply FX.callB2 ok159_ 1000 rfl rfl;(repeat((conv=>lhs;whnf);simp only[go_sem,simprocAttr,e3,e12,e39]));exact h
theorem zId (S:zB) (n:Node) (h:n.ok):zO (callL Tryz.prog zE) S 159 [.agg n.cells]=some {v:=.bool n.primed} := uR S (zBS n h)
end
end
section
section
attribute [local irreducible] Vs.callL Vs.callRL tyi zO zl zf zR zW za zI zY zA zK zb zV zG zJ zU zn yI zm zL ze Vs.gc zH
noncomputable def zRU:FX:=⟨Tryz.f77,zE.of 77,[]⟩
instance ok77_:zRU.ok 77:=FX.mk'
theorem zIe (n:Int):callL Tryz.prog zE 77 [.int .i64 n]=some (.int .i64 (zu n)):=by
 refine FX.callL (r:=(.int .i64 (zu n),[])) ok77_ 1000 rfl rfl ?_ rfl;by_cases h1:1≤n <;> by_cases h2:n≤13 <;> by_cases h3:20≤n <;> (try (exfalso;omega)) <;> by_cases h4:n≤39 <;> (try (exfalso;omega)) <;> by_cases h5:n=55 <;> (try (exfalso;omega)) <;> by_cases h6:n=56 <;> (try (exfalso;omega)) <;> by_cases h7:50≤n <;> (try (exfalso;omega)) <;> by_cases h8:n≤62 <;> (try (exfalso;omega)) <;>
  (simp only[zu,h1,h2,h3,h4,h5,h6,h7,h8,and_self,and_true,true_and,and_false,false_and,or_self,or_true,true_or,or_false,false_or,if_true,if_false,Int.reduceLE,Int.reduceEq,Int.reduceLT,reduceCtorEq];((repeat((conv=>lhs;whnf);simp only[go_sem,simprocAttr,h1,h2,h3,h4,h5,h6,h7,h8]));try rfl))
noncomputable def zRV:FX:=⟨Tryz.f12,zE.of 12,[]⟩
instance ok12_:zRV.ok 12:=FX.mk'
theorem zFx (n:Int):callL Tryz.prog zE 12 [.int .i64 n]=some (.int .i64 (zu n)):=by
 refine FX.callL (r:=(.int .i64 (zu n),[])) ok12_ 1000 rfl rfl ?_ rfl;by_cases h1:1≤n <;> by_cases h2:n≤13 <;> by_cases h3:20≤n <;> (try (exfalso;omega)) <;> by_cases h4:n≤39 <;> (try (exfalso;omega)) <;> by_cases h5:n=55 <;> (try (exfalso;omega)) <;> by_cases h6:n=56 <;> (try (exfalso;omega)) <;> by_cases h7:50≤n <;> (try (exfalso;omega)) <;> by_cases h8:n≤62 <;> (try (exfalso;omega)) <;>
  (simp only[zu,h1,h2,h3,h4,h5,h6,h7,h8,and_self,and_true,true_and,and_false,false_and,or_self,or_true,true_or,or_false,false_or,if_true,if_false,Int.reduceLE,Int.reduceEq,Int.reduceLT,reduceCtorEq];((repeat((conv=>lhs;whnf);simp only[go_sem,simprocAttr,h1,h2,h3,h4,h5,h6,h7,h8]));try rfl))
theorem Vb (S:zB) (n:Int):zO (callL Tryz.prog zE) S 77 [.int .i64 n]=some {v:=.int .i64 (zu n)} := zF (zIe n) (by simp[zh.int])
theorem yS (S:zB) (n:Int):zO (callL Tryz.prog zE) S 12 [.int .i64 n]=some {v:=.int .i64 (zu n)} := zF (zFx n) (by simp[zh.int])
noncomputable def zNa:FX:=⟨Tryz.f17,zE.of 17,[]⟩
instance ok17_:zNa.ok 17:=FX.mk'
theorem zIf (n:Node) (hn:n.ok) (ih : ∀k∈n.kids,callL Tryz.prog zE 17 [.agg k.cells]=some (.int .i64 k.size)) : ∀(m i:Nat),i+m=n.kids.length→∀(a:Int),
  zS 0 zNa 0 116 1 [.blk 0,.seq 0 15] [(1,.mp 0 0 0),(3,.int .i64 a),(4,.int .i64 i)] [.arr [n.cells] none false]=some (.int .i64 (Node.sizes a (n.kids.drop i)),[.arr [n.cells] none false]):=by
 intro m
 induction m with
 | zero =>
  intro i hi a;have h1 : ¬(i:Int)<(n.kids.length:Int):=by omega
  rw[bT (by omega)];apply zC;(repeat((conv=>lhs;whnf);simp only[go_sem,simprocAttr,h1]));apply zN;unfold Node.sizes;((repeat((conv=>lhs;whnf);simp only[go_sem,simprocAttr]));try rfl)
 | succ m hm =>
  intro i hi a;have h1:(i:Int)<(n.kids.length:Int):=by omega
  have h2:=zg (i:=i) (n:=n.kids.length) (by omega) hn.len;have h4:0≤(i:Int)∧(i:Int)<(n.kids.length:Int):=⟨by omega,h1⟩;have h5:=fun S=>uR S (ih _ (yA (l:=n.kids) (i:=i) (by omega)));have key:=hm (i+1) (by omega) (IntKind.i64.wrap (a+(n.kids.getD i nd0).size));rw[xM (l:=n.kids) (i:=i) (by omega)];apply zC;(repeat((conv=>lhs;whnf);simp only[go_sem,simprocAttr,h1,h2,h4,h5]));exact key
theorem XK : ∀n:Node,n.ok→callL Tryz.prog zE 17 [.agg n.cells]=some (.int .i64 n.size):=by
 refine Node.ind' fun n ih hn=>?_;have h:=zIf n hn (fun k hk'=>ih k hk' (hn.kids k hk')) n.kids.length 0 (by omega) 1;rw[bX,Node.size_eq]at h;refine FX.callL (r:=(.int .i64 n.size,[.arr [n.cells] none false])) ok17_ 1000 rfl rfl ?_ rfl;(repeat((conv=>lhs;whnf);simp only[go_sem,simprocAttr]));exact h
noncomputable def zNb:FX:=⟨Tryz.f86,zE.of 86,[]⟩
instance ok86_:zNb.ok 86:=FX.mk'
theorem zDa (n:Node) (hn:n.ok) (ih : ∀k∈n.kids,callL Tryz.prog zE 86 [.agg k.cells]=some (.int .i64 k.levels)) : ∀(m i:Nat),i+m=n.kids.length→∀(a:Int),
  zS 0 zNb 0 116 1 [.blk 0,.seq 0 15] [(1,.mp 0 0 0),(3,.int .i64 a),(4,.int .i64 i)] [.arr [n.cells] none false]=some (.int .i64 (IntKind.i64.wrap (Node.most a (n.kids.drop i)+1)),[.arr [n.cells] none false]):=by
 intro m
 induction m with
 | zero =>
  intro i hi a;have h1 : ¬(i:Int)<(n.kids.length:Int):=by omega
  rw[bT (by omega)];apply zC;(repeat((conv=>lhs;whnf);simp only[go_sem,simprocAttr,h1]));apply zN;unfold Node.most;((repeat((conv=>lhs;whnf);simp only[go_sem,simprocAttr]));try rfl)
 | succ m hm =>
  intro i hi a;have h1:(i:Int)<(n.kids.length:Int):=by omega
  have h2:=zg (i:=i) (n:=n.kids.length) (by omega) hn.len;have h4:0≤(i:Int)∧(i:Int)<(n.kids.length:Int):=⟨by omega,h1⟩;have h5:=fun S=>uR S (ih _ (yA (l:=n.kids) (i:=i) (by omega)));have key:=hm (i+1) (by omega) (if a<(n.kids.getD i nd0).levels then (n.kids.getD i nd0).levels else a);rw[xM (l:=n.kids) (i:=i) (by omega)];apply zC;(repeat((conv=>lhs;whnf);simp only[go_sem,simprocAttr,h1,h2,h4,h5]));exact key
theorem zDb : ∀n:Node,n.ok→callL Tryz.prog zE 86 [.agg n.cells]=some (.int .i64 n.levels):=by
 refine Node.ind' fun n ih hn=>?_;have h:=zDa n hn (fun k hk'=>ih k hk' (hn.kids k hk')) n.kids.length 0 (by omega) 0;rw[bX,Node.levels_eq]at h;refine FX.callL (r:=(.int .i64 n.levels,[.arr [n.cells] none false])) ok86_ 1000 rfl rfl ?_ rfl;(repeat((conv=>lhs;whnf);simp only[go_sem,simprocAttr]));exact h
end
end
section
def uq (S:zB):Prop:=∀o∈S,∃rows g f,o=.arr rows g f∧zT rows=[]
theorem uq.held : ∀ {S:zB},uq S→∀n m,xk n m S=true
 | [],_,n,m=>by cases m <;> rfl
 | o::S,h,n,0=>rfl
 | o::S,h,n,m+1=>by
  obtain⟨rows,g,f,rfl,h1⟩:=h o (by simp);simp only[xk,h1,BH,bC];exact uq.held (fun x hx=>h x (by simp[hx])) n m
theorem uq.closed {S:zB} (h:uq S):xS S=true:=by
 simp only[xS,pH];intro o ho;obtain⟨rows,g,f,rfl,h1⟩:=h o ho;simp only[h1,BH]
theorem uq.nil:uq []:=fun o h=>by cases h
theorem uq.cons {rows:List (List PV)} {g:Option (Option Nat)} {f:Bool} {S:zB} (h:zT rows=[]) (hS:uq S):uq (.arr rows g f::S):=fun o ho=>by
 rcases sW.1 ho with rfl | ho
 ·exact⟨_,_,_,rfl,h⟩
 ·exact hS o ho
theorem uq.app {S T:zB} (h:uq S) (k:uq T):uq (S++T):=fun o ho=>by
 rcases sB.1 ho with ho | ho
 ·exact h o ho
 ·exact k o ho
theorem uq.gc {S G:zB} (hS:uq S) {n:Nat} (hn:n=S.length) {e:Env} (he:vc n e=true):Vs.gc n e (S++G)=S:=by
 subst hn;have e1:Vs.gc S.length e (S++G)=if vc S.length e=true∧xk S.length S.length (S++G)=true then (S++G).take S.length else S++G:=by
  rw[←Zp,←kt];rfl
 have e2:xk S.length S.length (S++G)=true:=by
  rw[←kt,List.take_left];simp only[pH];intro o ho;obtain⟨rows,g,f,rfl,h1⟩:=hS o ho;simp only[h1,BH]
 rw[e1,bA ⟨he,e2⟩,List.take_left]
theorem yZ (n:Node):zT [n.cells]=[]:=by
 show vK n.cells++[]=[]
 rw[Node.refs];rfl
theorem qv (T U:zB):zj (T++U) T.length=zj U 0:=by
 simp only[zj];rw[bZ (bF _),sQ]
theorem jx (a b c:Nat):XB (.mp a b c)=some (.mp a b c):=rfl
theorem XL (id:Nat):zU (tyi Tryz.prog 3) id=some {v:=.mp id 0 0,new:=some ([[.int .i64 0]],none)} := by
 have e:(tyi Tryz.prog 3).zero=some [.int .i64 0]:=by kernel_rfl
 simp[zU,e,PV.cell]
def st2 (a b:Obj) (T:zB):zB:=a::b::T
theorem jo (a b:Obj) (T:zB):(st2 a b T).length=T.length+2:=rfl
theorem Wq (a b:Obj) (T U:zB):st2 a b T++U=st2 a b (T++U):=rfl
theorem Wr {ra rb:List (List PV)} {g g':Option (Option Nat)} {f f':Bool} (hr:zT ra=[]) (hb:zT rb=[]) {T:zB} (hT:uq T):uq (st2 (.arr ra g f) (.arr rb g' f') T):=.cons hr (.cons hb hT)
theorem Ws (a:Obj) (rb:List (List PV)) (g:Option (Option Nat)) (f:Bool) (T:zB):zj (st2 a (.arr rb g f) T) 1=some rb:=rfl
theorem Kk (a b:Obj) (T U:zB):zj (st2 a b (T++U)) (T.length+2)=zj U 0:=qv T U
theorem zBT (n:Nat) (a:Obj) (row:List PV) (g:Option (Option Nat)) (T:zB) (off:Nat) (v:PV) (h:off+n≤row.length) (hv:v.cells.length=n) (hc:v.cells.all PV.cell=true):yV n (st2 a (.arr [row] g false) T) (.mp 1 0 off) v=some (st2 a (.arr [kN row off v.cells] g false) T):=by
 simp only[st2,qM,W6];simp[h,hv,hc]
theorem zFy {ti:TI} (a:Obj) (row:List PV) (g:Option (Option Nat)) (T:zB) (off:Nat) (v:PV) (hk:ti.known=true) (h:off+ti.size≤row.length) (hv:v.cells.length=ti.size) (hc:v.cells.all PV.cell=true):zW ti (st2 a (.arr [row] g false) T) (.mp 1 0 off) v=some {v:=.skip,S:=st2 a (.arr [kN row off v.cells] g false) T} := by
 rw[VX,bA hk,zBT _ _ _ _ _ _ _ h hv hc];rfl
theorem zFz {ti:TI} (a b:Obj) (T:zB) (r:List PV) (v:PV) (hk:ti.known=true) (hs:ti.size=r.length) (hv:v.cells.length=r.length) (hc:v.cells.all PV.cell=true) (U:zB):zW ti (st2 a b (T ++ .arr [r] none false::U)) (.mp (T.length+2) 0 0) v=some {v:=.skip,S:=st2 a b (T ++ .arr [v.cells] none false::U)} := by
 have key : ∀T:zB,yV ti.size (T ++ .arr [r] none false::U) (.mp T.length 0 0) v=some (T ++ .arr [v.cells] none false::U):=by
  intro T
  induction T with
  | nil =>
   rw[pG,hs];simp[W6,hv,hc,QW]
  | cons o T ih =>
   rw[pX,bK,qM,ih];rfl
 rw[VX,bA hk];have:yV ti.size (st2 a b (T ++ .arr [r] none false::U)) (.mp (T.length+2) 0 0) v=(some (st2 a b (T ++ .arr [v.cells] none false::U))):=by
  show yV ti.size (_::_::(T ++ .arr [r] none false::U)) (.mp (T.length+1+1) 0 0) v=_
  rw[qM,qM,key];rfl
 rw[this];rfl
theorem Kl (a b:Obj) (T:zB) (n:Node):zW (tyi Tryz.prog 30) (st2 a b (T++[.arr [[.int .i64 0,.str ⟨#[]⟩,.bool false,.sl [] true,.sl [] true,.sl [] true]] none false])) (.mp (T.length+2) 0 0) (.agg n.cells)=some {v:=.skip,S:=st2 a b (T++[.arr [n.cells] none false])} :=
 zFz a b T [.int .i64 0,.str ⟨#[]⟩,.bool false,.sl [] true,.sl [] true,.sl [] true] (.agg n.cells) jB qu (Node.cells_length n) (Node.cells_cell n) []
theorem zKo {a b:Obj} {T G:zB} (h:uq (st2 a b T)) {e:Env} (he:vc (T.length+2) e=true):Vs.gc (T.length+2) e (st2 a b (T++G))=st2 a b T:=h.gc rfl he
theorem Wt {a b:Obj} {T:zB} (e:Env):Vs.gc (T.length+2) e (st2 a b T)=st2 a b T:=KD (bF _)
abbrev wSt (ra:List (List PV)) (left:Int) (T:zB):zB:=st2 (.arr ra none false) (.arr [[.int .i64 left]] none false) T
theorem Vc (ra:List (List PV)) (left x:Int) (T:zB):zW (tyi Tryz.prog 3) (st2 (.arr ra none false) (.arr [[.int .i64 left]] none false) T) (.mp 1 0 0) (.int .i64 x)=some {v:=.skip,S:=st2 (.arr ra none false) (.arr [[.int .i64 x]] none false) T} :=
 zFy _ [.int .i64 left] none T 0 (.int .i64 x) KW (by rw[zK0];exact bF _) (by rw[zK0];rfl) rfl
theorem zDc (left lv:Int):Node.withins [] left lv=(true,left):=rfl
theorem jd (v:PV) (r:List PV):part (tyi Tryz.prog 3) (v::r)=some v:=by
 have e:(tyi Tryz.prog 3).isAgg=false:=by kernel_rfl
 simp[part,KW,e]
section
attribute [local irreducible] Vs.callL Vs.callRL tyi zO zl zf zR zW za zI zY zA zK zb zV zG zJ zU zn yI zm zL ze Vs.gc zH
noncomputable def zNc:FX:=⟨Tryz.f76,zE.of 76,[]⟩
instance ok76_:zNc.ok 76:=FX.mk'
theorem zDd (n:Node) (hn:n.ok) (lv:Int) (hlv:0≤lv∧lv≤1000) (b:Nat) (ra:List (List PV)) (hr:zT ra=[]) (T:zB) (hT:uq T)
  (ih : ∀k∈n.kids,∀(left:Int),(0≤left∧left≤100000)→∀T:zB,uq T→∃G,callRL Tryz.prog zE 76 [.agg k.cells,.mp 1 0 0,.int .i64 lv] (wSt ra left T)=some (.bool (k.within left lv).1,wSt ra (k.within left lv).2 (T++G))) :
  ∀(m i:Nat),i+m=n.kids.length→∀(left:Int),(0≤left∧left≤100000) →
   ∃G,zS b zNc 0 244 (T.length+2) [.blk 0,.seq 0 31] [(1,.mp 1 0 0),(2,.int .i64 (lv+1)),(23,.sl (Node.rows n.kids) false),(24,.int .i64 n.kids.length),(25,.int .i64 i)] (wSt ra left T) =
    some (.bool (Node.withins (n.kids.drop i) left lv).1,wSt ra (Node.withins (n.kids.drop i) left lv).2 (T++G)):=by
 have c1:1<T.length+2:=by omega
 intro m
 induction m with
 | zero =>
  intro i hi left hleft;have h1 : ¬(i:Int)<(n.kids.length:Int):=by omega
  rw[bT (by omega),zDc];refine⟨[],?_⟩;rw[pU];apply zC;(repeat((conv=>lhs;whnf);simp only[go_sem,simprocAttr,h1,Wt]));apply zN;((repeat((conv=>lhs;whnf);simp only[go_sem,simprocAttr]));try rfl)
 | succ m hm =>
  intro i hi left hleft;have h1:(i:Int)<(n.kids.length:Int):=by omega
  have h2:=zg (i:=i) (n:=n.kids.length) (by omega) hn.len;have h3:IntKind.i64.wrap (lv+1-1)=lv:=by rw[bE];omega
  have h4:0≤(i:Int)∧(i:Int)<(n.kids.length:Int):=⟨by omega,h1⟩;have hT':uq (T++[.arr [(n.kids.getD i nd0).cells] none false]):=hT.app (.cons (yZ _) .nil);have hgc:=fun left G e he=>zKo (a:=.arr ra none false) (b:=.arr [[.int .i64 left]] none false) (T:=T) (G:=G) (Wr hr rfl hT) (e:=e) he;obtain⟨G,hG⟩:=ih _ (yA (l:=n.kids) (i:=i) (by omega)) left hleft _ hT';have hc:=wC (by kernel_rfl) hG (by rw[jo,jo];simp) (Wr hr rfl hT').closed (by simp[wU,yQ,yt,kr,Node.refs,vM,kq,jo]);rw[pB]at hc;have hrange:=YE (n.kids.getD i nd0) left lv hleft.1;rw[zAx (by omega)]
  cases hok:((n.kids.getD i nd0).within left lv).1 with
  | true =>
   rw[hok]at hc;obtain⟨G',hG'⟩:=hm (i+1) (by omega) ((n.kids.getD i nd0).within left lv).2 ⟨hrange.2.2 hok,by omega⟩;refine⟨G',?_⟩;rw[bA rfl];apply zC;(repeat((conv=>lhs;whnf);simp only[go_sem,simprocAttr,h1,h2,h3,h4,hc,Wt,hgc,jo,Wq,jx,Kk,Ws,Kl,c1]));exact hG'
  | false =>
   rw[hok]at hc;refine⟨.arr [(n.kids.getD i nd0).cells] none false::G,?_⟩;rw[hZ (by simp)];apply zC;((repeat((conv=>lhs;whnf);simp only[go_sem,simprocAttr,h1,h2,h3,h4,hc,Wt,hgc,jo,Wq,jx,Kk,Ws,Kl,c1]));try rfl)
theorem zDe : ∀n:Node,n.ok→∀(lv left:Int),(0≤lv∧lv≤1000)→(0≤left∧left≤100000)→∀(ra:List (List PV)),zT ra=[]→∀(T:zB),uq T →
  ∃G,callRL Tryz.prog zE 76 [.agg n.cells,.mp 1 0 0,.int .i64 lv] (wSt ra left T)=some (.bool (n.within left lv).1,wSt ra (n.within left lv).2 (T++G)):=by
 refine Node.ind' fun n ih hn lv left hlv hleft ra hr T hT=>?_;have hw:IntKind.i64.wrap (left-1)=left-1:=by rw[bE];omega
 have hT':uq (T++[.arr [n.cells] none false]):=hT.app (.cons (yZ _) .nil);rw[Node.within_eq];by_cases h1:left-1<0
 ·refine⟨[.arr [n.cells] none false],?_⟩;rw[bA (.inl h1)];refine FX.callRL ok76_ 1000 rfl rfl ?_;((repeat((conv=>lhs;whnf);simp only[go_sem,simprocAttr,hw,h1,jo,Wq,Ws,Vc,jx,jd]));try rfl)
 by_cases h2:lv≤0
 ·refine⟨[.arr [n.cells] none false],?_⟩;rw[bA (.inr h2)];refine FX.callRL ok76_ 1000 rfl rfl ?_;((repeat((conv=>lhs;whnf);simp only[go_sem,simprocAttr,hw,h1,h2,jo,Wq,Ws,Vc,jx,jd]));try rfl)
 ·obtain⟨G,hG⟩:=zDd n hn (lv-1) (by omega) (T.length+2) ra hr _ hT' (fun k hk left hl T hT=>ih k hk (hn.kids k hk) (lv-1) left (by omega) hl ra hr T hT) n.kids.length 0 (by omega) (left-1) (by omega);have e1:lv-1+1=lv:=by omega
  rw[e1,pB]at hG;simp only[bX]at hG;refine⟨.arr [n.cells] none false::G,?_⟩;rw[hZ (fun h=>h.elim h1 h2)];refine FX.callRL ok76_ 1000 rfl rfl ?_;(repeat((conv=>lhs;whnf);simp only[go_sem,simprocAttr,hw,h1,h2,jo,Wq,Ws,Vc,jx,jd,Kk,Wt]));exact hG
end
end
section
theorem YQ:(tyi Tryz.prog 112).d=.struct [(0,1,false),(1,1,false),(2,1,false)]:=by kernel_rfl
@[go_sem] theorem zKp:(tyi Tryz.prog 112).size=3:=nr (by kernel_rfl)
@[go_sem] theorem zIg:(tyi Tryz.prog 112).known=true:=nr (by kernel_rfl)
@[go_sem] theorem zKq:(tyi Tryz.prog 112).zero=some [.bool false,.bool false,.bool false]:=nr (by kernel_rfl)
@[go_sem] theorem zRW (id i off:Nat):zA (tyi Tryz.prog 112) 0 (.mp id i off)=some (.mp id i (off+0)):=by simp[zA,YQ]
@[go_sem] theorem zRX (r:List PV):zA (tyi Tryz.prog 112) 0 (.cp r)=some (.cp (r.drop 0)):=by simp[zA,YQ]
@[go_sem] theorem zRY (cs:List PV):zK (tyi Tryz.prog 112) 0 (.agg cs)=cs[0]? := by simp[zK,YQ]
@[go_sem] theorem zRZ (id i off:Nat):zA (tyi Tryz.prog 112) 1 (.mp id i off)=some (.mp id i (off+1)):=by simp[zA,YQ]
@[go_sem] theorem zR0 (r:List PV):zA (tyi Tryz.prog 112) 1 (.cp r)=some (.cp (r.drop 1)):=by simp[zA,YQ]
@[go_sem] theorem zR1 (cs:List PV):zK (tyi Tryz.prog 112) 1 (.agg cs)=cs[1]? := by simp[zK,YQ]
@[go_sem] theorem zR2 (id i off:Nat):zA (tyi Tryz.prog 112) 2 (.mp id i off)=some (.mp id i (off+2)):=by simp[zA,YQ]
@[go_sem] theorem zR3 (r:List PV):zA (tyi Tryz.prog 112) 2 (.cp r)=some (.cp (r.drop 2)):=by simp[zA,YQ]
@[go_sem] theorem zR4 (cs:List PV):zK (tyi Tryz.prog 112) 2 (.agg cs)=cs[2]? := by simp[zK,YQ]
def yE (a b c:Bool):List PV:=[.bool a,.bool b,.bool c]
theorem Vd (a b c:Bool):zh (.agg (yE a b c)):=⟨rfl,fun _=>rfl⟩
@[go_sem] theorem zR5 (x y z:PV) (r:List PV):part (tyi Tryz.prog 112) (x::y::z::r)=some (.agg [x,y,z]):=by simp[part,zIg,TI.isAgg,YQ,zKp]
theorem XM (S:zB) (L:List Int) (ex:Bool) (i:Int):zI Tryz.prog 59 S (.sl (zD .i64 L) ex) (.int .i64 i)=if 0≤i∧i<L.length then some (.cp [.int .i64 (L.getD i.toNat 0)]) else none:=qs.idxk .i64 S L ex i
def f2 (n:Node) (a b c:Bool) (T:zB):zB:=st2 (.arr [n.cells] none false) (.arr [yE a b c] none false) T
theorem zMs (n:Node) (a b c:Bool) {T:zB} (hT:uq T):uq (f2 n a b c T):=Wr (yZ n) rfl hT
theorem Yn (n:Node) (a b c:Bool) (T:zB):(f2 n a b c T).length=T.length+2:=rfl
theorem Yo (n:Node) (a b c:Bool) (T U:zB):f2 n a b c T++U=f2 n a b c (T++U):=rfl
theorem qD (n:Node) (a b c:Bool) (T:zB):zj (f2 n a b c T) 0=some [n.cells]:=rfl
theorem zGA (n:Node) (a b c:Bool) (T:zB):zj (f2 n a b c T) 1=some [[.bool a,.bool b,.bool c]]:=rfl
theorem qx (n:Node) (a b c:Bool) (T U:zB):zj (f2 n a b c (T++U)) (T.length+2)=zj U 0:=qv T U
theorem qy (n:Node) (a b c:Bool) (T:zB) (k:Node):zW (tyi Tryz.prog 30) (f2 n a b c (T++[.arr [[.int .i64 0,.str ⟨#[]⟩,.bool false,.sl [] true,.sl [] true,.sl [] true]] none false])) (.mp (T.length+2) 0 0) (.agg k.cells)=some {v:=.skip,S:=f2 n a b c (T++[.arr [k.cells] none false])} := Kl _ _ T k
theorem zR6 {n:Node} {a b c:Bool} {T:zB} (hT:uq T) (G:zB) {e:Env} (he:vc (T.length+2) e=true):Vs.gc (T.length+2) e (f2 n a b c (T++G))=f2 n a b c T:=zKo (zMs n a b c hT) he
theorem zBU (n:Node) (a b c:Bool) (T:zB) (e:Env):Vs.gc (T.length+2) e (f2 n a b c T)=f2 n a b c T:=Wt e
theorem zDf (n:Node) (a b c:Bool):n.formed a b c=(jD n.op n.name n.neg n.num n.den&&n.rest a b c):=by rw[Node.formed_eq];rfl
section
attribute [local irreducible] Vs.callL Vs.callRL tyi zO zl zf zR zW za zI zY zA zK zb zV zG zJ zU zn yI zm zL ze Vs.gc zH
noncomputable def qz:FX:=⟨Tryz.f78,zE.of 78,[]⟩
instance ok78_:qz.ok 78:=FX.mk'
theorem zDg (n:Node) (a b c:Bool) (T:zB) (h2:n.op=8∨n.op=9→n.kids.length=2) :
  ∃S',yB 0 qz 7 [.blk 7,.seq 0 255] [(2,.mp 0 0 0),(3,.undef),(6,.undef),(208,.undef),(209,.undef),(210,.undef),(211,.undef)] (f2 n a b c T)=some (.bool (xH n.op n.kids),S'):=by
 unfold xH;by_cases h8:n.op=8
 ·have h1:(n.kids.length:Int)=2:=by have:=h2 (.inl h8);omega
  rw[bA h8];generalize hk:n.kids.getD 1 nd0=k;apply Exists.intro;apply zN;by_cases e1:k.op=1
  ·by_cases e2:0<k.num.length
   ·have e2':0<(k.num.length:Int):=by omega
    rw[bG e1,bG e2,sC];((repeat((conv=>lhs;whnf);simp only[go_sem,simprocAttr,qD,h8,h1,hk,e1,e2']));try rfl)
   ·have e2' : ¬ 0<(k.num.length:Int):=by omega
    rw[bG e1,bH e2,bQ];((repeat((conv=>lhs;whnf);simp only[go_sem,simprocAttr,qD,h8,h1,hk,e1,e2']));try rfl)
  ·rw[bH e1,bB];((repeat((conv=>lhs;whnf);simp only[go_sem,simprocAttr,qD,h8,h1,hk,e1]));try rfl)
 by_cases h9:n.op=9
 ·have h1:(n.kids.length:Int)=2:=by have:=h2 (.inr h9);omega
  rw[hZ h8,bA h9];generalize hk:n.kids.getD 1 nd0=k;generalize hw:k.num.getD 0 0=w;apply Exists.intro;apply zN;by_cases e1:k.op=1
  ·rw[bG e1,bC];by_cases e2:k.num.length=0
   ·have e2':(k.num.length:Int)=0:=by omega
    rw[bG e2,pI];((repeat((conv=>lhs;whnf);simp only[go_sem,simprocAttr,qD,h8,h9,h1,hk,e1,e2,e2',Yn,Yo,qy,qx]));try rfl)
   ·have e2' : ¬(k.num.length:Int)=0:=by omega
    rw[bH e2,bW];by_cases e3:k.num.length=1
    ·have e3':(k.num.length:Int)=1:=by omega
     rw[bG e3,bC];by_cases e5:w≤20
     ·rw[bG e5];((repeat((conv=>lhs;whnf);simp only[go_sem,simprocAttr,qD,h8,h9,h1,hk,e1,e2,e2',e3,e3',hw,e5,Yn,Yo,qy,qx]));try rfl)
     ·rw[bH e5];((repeat((conv=>lhs;whnf);simp only[go_sem,simprocAttr,qD,h8,h9,h1,hk,e1,e2,e2',e3,e3',hw,e5,Yn,Yo,qy,qx]));try rfl)
    ·have e3' : ¬(k.num.length:Int)=1:=by omega
     rw[bH e3,bB];((repeat((conv=>lhs;whnf);simp only[go_sem,simprocAttr,qD,h8,h9,h1,hk,e1,e2,e2',e3,e3',Yn,Yo,qy,qx]));try rfl)
  ·rw[bH e1,bB];((repeat((conv=>lhs;whnf);simp only[go_sem,simprocAttr,qD,h8,h9,h1,hk,e1,Yn,Yo,qy,qx]));try rfl)
 ·rw[hZ h8,hZ h9];apply Exists.intro;apply zN;((repeat((conv=>lhs;whnf);simp only[go_sem,simprocAttr,qD,h8,h9]));try rfl)
theorem Km {k:Node} {a b c v:Bool} (S:zB) (h:callL Tryz.prog zE 78 [.agg k.cells,.agg (yE a b c)]=some (.bool v)):zO (callL Tryz.prog zE) S 78 [.agg k.cells,.agg [.bool a,.bool b,.bool c]]=some {v:=.bool v} := zF h (by simp[Node.plain];exact Vd a b c)
theorem zDh (n:Node) (hn:n.ok) (a b c:Bool) (s:List Int) (hs:s.length=n.kids.length) (e:Bool) (he:e=false∨s=[]) (h2:n.op=8∨n.op=9→n.kids.length=2)
  (ih : ∀k∈n.kids,callL Tryz.prog zE 78 [.agg k.cells,.agg (yE a b c)]=some (.bool (k.formed a b c))) (T:zB) (hT:uq T) :
  ∀(m i:Nat),i+m=n.kids.length→∃S',zS 0 qz 7 2036 (T.length+2) [.blk 7,.seq 0 255] [(2,.mp 0 0 0),(3,.mp 1 0 0),(6,.sl (zD .i64 s) e),(208,.sl (Node.rows n.kids) false),(209,.int .i64 n.kids.length),(210,.int .i64 i)] (f2 n a b c T) =
   some (.bool (Node.formeds (n.kids.drop i) (s.drop i) a b c&&xH n.op n.kids),S'):=by
 have d0:0<T.length+2:=by omega
 have d1:1<T.length+2:=by omega
 have hz : ∀S,wy S (.sl (zD .i64 s) e)=some (.sl (zD .i64 s) e):=fun S=>by
  rcases he with rfl | rfl
  ·simp only[go_sem]
  ·cases e <;> simp only[yD,go_sem]
 intro m
 induction m with
 | zero =>
  intro i hi;have h1 : ¬(i:Int)<(n.kids.length:Int):=by omega
  obtain⟨S',hS'⟩:=zDg n a b c T h2;rw[bT (by omega)];refine⟨S',?_⟩;apply zC;unfold Node.formeds;rw[bC];(repeat((conv=>lhs;whnf);simp only[go_sem,simprocAttr,h1,zBU,hz]));exact hS'
 | succ m hm =>
  intro i hi;have h1:(i:Int)<(n.kids.length:Int):=by omega
  have h1':(i:Int)<(s.length:Int):=by omega
  have h4:(0:Int)≤(i:Int):=by omega
  have h3:=zg (i:=i) (n:=n.kids.length) (by omega) hn.len;have h5:=fun S=>Km S (ih _ (yA (l:=n.kids) (i:=i) (by omega)));have hgc:=fun G e he=>zR6 (n:=n) (a:=a) (b:=b) (c:=c) hT G (e:=e) he;rw[zAz (by omega)];obtain⟨S',h6⟩:=hm (i+1) (by omega);by_cases c1:zu (n.kids.getD i nd0).op=s.getD i 0
  ·cases c2:(n.kids.getD i nd0).formed a b c with
   | true =>
    rw[c2]at h5;rw[bG c1,bC,bC];refine⟨S',?_⟩;apply zC;(repeat((conv=>lhs;whnf);simp only[go_sem,simprocAttr,h1,h1',h3,h4,zBU,hgc,hz,Yn,Yo,qy,qx,zGA,qD,Vb,c1,XM,bD,h5,d0,d1]));exact h6
   | false =>
    rw[c2]at h5;rw[bG c1,bB,bQ,bB];apply Exists.intro;apply zC;((repeat((conv=>lhs;whnf);simp only[go_sem,simprocAttr,h1,h1',h3,h4,zBU,hgc,hz,Yn,Yo,qy,qx,zGA,qD,Vb,c1,XM,bD,h5,d0,d1]));try rfl)
  ·rw[bH c1,bB,bB];apply Exists.intro;apply zC;((repeat((conv=>lhs;whnf);simp only[go_sem,simprocAttr,h1,h1',h3,h4,zBU,hgc,hz,Yn,Yo,qy,qx,zGA,qD,Vb,c1,XM,bD,d0,d1]));try rfl)
end
end
section
def zBV (L:List Bd) (i:Nat):Bool :=
 YP (L.getD i bd0).name&&(decide (i=0)||Op.bytesLess (L.getD (i-1) bd0).name.toList (L.getD i bd0).name.toList)&&decide ((L.getD i bd0).val.num.length≠0)&&(L.getD i bd0).val.fit
def ZA (L:List Bd):Nat→Nat→Bool
 | 0,_=>true
 | m+1,i=>zBV L i&&ZA L m (i+1)
def YX (L:List Bd):Bool:=decide (L.length≤40)&&ZA L L.length 0
def WD (L:List Bd):Prop:=∀b∈L,b.ok
theorem WD.at {L:List Bd} (h:WD L) {i:Nat} (hi:i<L.length):(L.getD i bd0).ok:=by
 rw[bL,pP hi];exact h _ (PE hi)
section
attribute [local irreducible] Vs.callL Vs.callRL tyi zO zl zf zR zW za zI zY zA zK zb zV zG zJ zU zn yI zm zL ze Vs.gc zH
noncomputable def zNd:FX:=⟨Tryz.f24,zE.of 24,[]⟩
instance ok24_:zNd.ok 24:=FX.mk'
theorem zGB (L:List Bd) (hL:WD L) (hl:L.length≤40) : ∀(m i:Nat),i+m=L.length→∃S',zS 0 zNd 0 116 0 [.blk 0,.seq 0 15] [(0,.sl (yW L) false),(8,.sl (yW L) false),(9,.int .i64 L.length),(10,.int .i64 i)] []=some (.bool (ZA L m i),S'):=by
 intro m
 induction m with
 | zero =>
  intro i hi;have h1 : ¬(i:Int)<(L.length:Int):=by omega
  apply Exists.intro;apply zC;simp only[ZA];(repeat((conv=>lhs;whnf);simp only[go_sem,simprocAttr,h1]));apply zN;((repeat((conv=>lhs;whnf);simp only[go_sem,simprocAttr]));try rfl)
 | succ m ih =>
  intro i hi;have h1:(i:Int)<(L.length:Int):=by omega
  have h2:=zg (i:=i) (n:=L.length) (by omega) (by unfold maxLen;omega);have x1:0≤(i:Int)∧(i:Int)<(L.length:Int):=⟨by omega,h1⟩;obtain⟨S',key⟩:=ih (i+1) (by omega);have hb:=hL.at (i:=i) (by omega);have hp:=hL.at (i:=i-1) (by omega);simp only[ZA,zBV];generalize hB:L.getD i bd0=B at hb ⊢;generalize hP:L.getD (i-1) bd0=Q at hp ⊢;obtain⟨nm,v⟩:=B;have cv:=fun S=>zRF S nm hb.s;have cf:=fun S=>zOr S v hb.v;unfold RV.cells at cf
  cases k1:YP nm
  ·rw[k1]at cv;simp only[bB];apply Exists.intro;apply zC;((repeat((conv=>lhs;whnf);simp only[go_sem,simprocAttr,h1,x1,bD,hB,Bd.cells,cv]));try rfl)
  ·rw[k1]at cv;simp only[bC];by_cases c0:i=0
   ·have c0' : ¬(0:Int)<(i:Int):=by omega
    simp only[c0,decide_true,pI,bC];simp only[c0,ST]at *;by_cases c1:v.num.length=0
    ·have c1':(v.num.length:Int)=0:=by omega
     simp only[c1,ne_eq,not_true,decide_false,bB];apply Exists.intro;apply zC;((repeat((conv=>lhs;whnf);simp only[go_sem,simprocAttr,h1,x1,sD,hB,Bd.cells,cv,c0',c1']));try rfl)
    ·have c1' : ¬(v.num.length:Int)=0:=by omega
     simp only[c1,ne_eq,not_false_eq_true,decide_true,bC]
     cases k2:v.fit
     ·rw[k2]at cf;simp only[bB];apply Exists.intro;apply zC;((repeat((conv=>lhs;whnf);simp only[go_sem,simprocAttr,h1,x1,sD,hB,Bd.cells,cv,c0',c1',cf]));try rfl)
     ·rw[k2]at cf;simp only[bC];apply Exists.intro;apply zC;(repeat((conv=>lhs;whnf);simp only[go_sem,simprocAttr,h1,x1,sD,hB,Bd.cells,cv,c0',c1',cf,h2]));exact key
   ·have c0':(0:Int)<(i:Int):=by omega
    have w1:IntKind.i64.wrap ((i:Int)-1)=((i-1:Nat):Int):=by rw[bE];omega
    have x2:0≤((i-1:Nat):Int)∧((i-1:Nat):Int)<(L.length:Int):=⟨by omega,by omega⟩;simp only[c0,decide_false,bW]
    cases k3:Op.bytesLess Q.name.toList nm.toList
    ·simp only[bB];apply Exists.intro;apply zC;((repeat((conv=>lhs;whnf);simp only[go_sem,simprocAttr,h1,x1,bD,hB,hP,Bd.cells,cv,c0',w1,x2,k3]));try rfl)
    ·simp only[bC];by_cases c1:v.num.length=0
     ·have c1':(v.num.length:Int)=0:=by omega
      simp only[c1,ne_eq,not_true,decide_false,bB];apply Exists.intro;apply zC;((repeat((conv=>lhs;whnf);simp only[go_sem,simprocAttr,h1,x1,bD,hB,hP,Bd.cells,cv,c0',w1,x2,k3,c1']));try rfl)
     ·have c1' : ¬(v.num.length:Int)=0:=by omega
      simp only[c1,ne_eq,not_false_eq_true,decide_true,bC]
      cases k2:v.fit
      ·rw[k2]at cf;simp only[bB];apply Exists.intro;apply zC;((repeat((conv=>lhs;whnf);simp only[go_sem,simprocAttr,h1,x1,bD,hB,hP,Bd.cells,cv,c0',w1,x2,k3,c1',cf]));try rfl)
      ·rw[k2]at cf;simp only[bC];apply Exists.intro;apply zC;(repeat((conv=>lhs;whnf);simp only[go_sem,simprocAttr,h1,x1,bD,hB,hP,Bd.cells,cv,c0',w1,x2,k3,c1',cf,h2]));exact key
theorem zBW (L:List Bd) (hL:WD L) (hl:L.length≤maxLen):callL Tryz.prog zE 24 [.sl (yW L) false]=some (.bool (YX L)):=by
 unfold YX;by_cases h:L.length≤40
 ·have h' : ¬(40:Int)<(L.length:Int):=by omega
  obtain⟨S',key⟩:=zGB L hL h L.length 0 (by omega);simp only[h,decide_true,bC];refine FX.callL (r:=(.bool (ZA L L.length 0),S')) ok24_ 1000 rfl rfl ?_ rfl;(repeat((conv=>lhs;whnf);simp only[go_sem,simprocAttr,h']));exact key
 ·have h':(40:Int)<(L.length:Int):=by omega
  simp only[h,decide_false,bB];refine FX.callL (r:=(.bool false,[])) ok24_ 1000 rfl rfl ?_ rfl;((repeat((conv=>lhs;whnf);simp only[go_sem,simprocAttr,h']));try rfl)
end
end
section
section
attribute [local irreducible] Vs.callL Vs.callRL tyi zO zl zf zR zW za zI zY zA zK zb zV zG zJ zU zn yI zm zL ze Vs.gc zH
noncomputable def zNe:FX:=⟨Tryz.f25,zE.of 25,[]⟩
instance ok25_:zNe.ok 25:=FX.mk'
theorem zBX (L:List Bd) (hL:WD L) (hl:L.length≤40) : ∀(m i:Nat),i+m=L.length→zS 0 zNe 0 116 0 [.blk 0,.seq 0 15] [(0,.sl (yW L) false),(3,.int .i64 i)] []=some (.bool (ZA L m i),[]):=by
 intro m
 induction m with
 | zero =>
  intro i hi;have h1 : ¬(i:Int)<(L.length:Int):=by omega
  apply zC;simp only[ZA];(repeat((conv=>lhs;whnf);simp only[go_sem,simprocAttr,h1]));apply zN;((repeat((conv=>lhs;whnf);simp only[go_sem,simprocAttr]));try rfl)
 | succ m ih =>
  intro i hi;have h1:(i:Int)<(L.length:Int):=by omega
  have h2:=zg (i:=i) (n:=L.length) (by omega) (by unfold maxLen;omega);have x1:0≤(i:Int)∧(i:Int)<(L.length:Int):=⟨by omega,h1⟩;have key:=ih (i+1) (by omega);have hb:=hL.at (i:=i) (by omega);have hp:=hL.at (i:=i-1) (by omega);apply zC;simp only[ZA,zBV];generalize hB:L.getD i bd0=B at hb ⊢;generalize hP:L.getD (i-1) bd0=Q at hp ⊢;obtain⟨nm,v⟩:=B;have cv:=fun S=>zRG S nm hb.s;have cf:=fun S=>zI8 S v hb.v;unfold RV.cells at cf
  cases k1:YP nm
  ·rw[k1]at cv;simp only[bB];((repeat((conv=>lhs;whnf);simp only[go_sem,simprocAttr,h1,x1,bD,hB,Bd.cells,cv]));try rfl)
  ·rw[k1]at cv;simp only[bC]
   cases k2:v.fit
   ·rw[k2]at cf;simp only[bQ,bB];((repeat((conv=>lhs;whnf);simp only[go_sem,simprocAttr,h1,x1,bD,hB,Bd.cells,cv,cf]));try rfl)
   ·rw[k2]at cf;simp only[pD];by_cases c1:v.num.length=0
    ·have c1':(v.num.length:Int)=0:=by omega
     simp only[c1,ne_eq,not_true,decide_false,bQ,bB];((repeat((conv=>lhs;whnf);simp only[go_sem,simprocAttr,h1,x1,bD,hB,Bd.cells,cv,cf,c1']));try rfl)
    ·have c1' : ¬(v.num.length:Int)=0:=by omega
     simp only[c1,ne_eq,not_false_eq_true,decide_true,pD];by_cases c0:i=0
     ·have c0' : ¬(0:Int)<(i:Int):=by omega
      simp only[c0,decide_true,pI,bC];simp only[c0,ST]at *;(repeat((conv=>lhs;whnf);simp only[go_sem,simprocAttr,h1,x1,sD,hB,Bd.cells,cv,cf,c1',c0',h2]));exact key
     ·have c0':(0:Int)<(i:Int):=by omega
      have w1:IntKind.i64.wrap ((i:Int)-1)=((i-1:Nat):Int):=by rw[bE];omega
      have x2:0≤((i-1:Nat):Int)∧((i-1:Nat):Int)<(L.length:Int):=⟨by omega,by omega⟩;simp only[c0,decide_false,bW]
      cases k3:Op.bytesLess Q.name.toList nm.toList
      ·simp only[bB];((repeat((conv=>lhs;whnf);simp only[go_sem,simprocAttr,h1,x1,bD,hB,hP,Bd.cells,cv,cf,c1',c0',w1,x2,k3]));try rfl)
      ·simp only[bC];(repeat((conv=>lhs;whnf);simp only[go_sem,simprocAttr,h1,x1,bD,hB,hP,Bd.cells,cv,cf,c1',c0',w1,x2,k3,h2]));exact key
theorem zBY (L:List Bd) (hL:WD L) (hl:L.length≤maxLen):callL Tryz.prog zE 25 [.sl (yW L) false]=some (.bool (YX L)):=by
 unfold YX;refine FX.callL (r:=(.bool (decide (L.length≤40)&&ZA L L.length 0),[])) ok25_ 1000 rfl rfl ?_ rfl;by_cases h:L.length≤40
 ·have h' : ¬(40:Int)<(L.length:Int):=by omega
  have key:=zBX L hL h L.length 0 (by omega);simp only[h,decide_true,bC];(repeat((conv=>lhs;whnf);simp only[go_sem,simprocAttr,h']));exact key
 ·have h':(40:Int)<(L.length:Int):=by omega
  simp only[h,decide_false,bB];((repeat((conv=>lhs;whnf);simp only[go_sem,simprocAttr,h']));try rfl)
end
theorem Z9 (L:List Bd):zh (.sl (yW L) false):=zh.sl _
theorem zIh (S:zB) (L:List Bd) (hL:WD L) (hl:L.length≤maxLen):zO (callL Tryz.prog zE) S 24 [.sl (yW L) false]=some {v:=.bool (YX L)} := zF (zBW L hL hl) (by simp[Z9])
theorem XN (S:zB) (L:List Bd) (hL:WD L) (hl:L.length≤maxLen):zO (callL Tryz.prog zE) S 25 [.sl (yW L) false]=some {v:=.bool (YX L)} := zF (zBY L hL hl) (by simp[Z9])
end
section
@[go_sem] theorem zNf (S:zB) (k:IntKind) (n:Int):zL Tryz.prog 143 3 S (.int k n)=some (.int .i64 (IntKind.i64.wrap n)):=by
 simp[zL,show (tyi Tryz.prog 143).known=true by kernel_rfl,xL,show (tyi Tryz.prog 3).d=.int .i64 by kernel_rfl]
theorem Za {S:zB} {f:FuncId} {a b xs:List PV} : zf Tryz.prog zE S (.fn f a b) xs=zl Tryz.prog zE S f (a++xs++b):=rfl
def zOx (x:PV) (nm:ByteArray) (f:PV) (n:Nat) (p:Nat→Bool):Prop:=∀i:Nat,i<n→zf Tryz.prog zE [.arr [[x]] none false,.arr [[.str nm]] none false] f [.int .i64 i]=some {v:=.bool (p i),S:=[.arr [[x]] none false,.arr [[.str nm]] none false]}
def zHZ (n:Nat) (p:Nat→Bool) (r:Nat):Prop:=r≤n∧(∀k,k<r→p k=false)∧∀k,r≤k→k<n→p k=true
section
attribute [local irreducible] Vs.callL Vs.callRL tyi zO zl zf zR zW za zI zY zA zK zb zV zG zJ zU zn yI zm zL ze Vs.gc zH
noncomputable def zKr:FX:=⟨Tryz.f82,zE.of 82,[]⟩
instance ok82_:zKr.ok 82:=FX.mk'
theorem zDi (x:PV) (nm:ByteArray) (f:PV) {n:Nat} {p:Nat→Bool} (hf:zOx x nm f n p) (hn:n≤1000000000) {r:Nat} (hr:zHZ n p r) : ∀(m i j:Nat),j-i≤m→i≤r→r≤j→j≤n→zS 2 zKr 0 56 2 [.blk 0,.seq 0 15] [(1,f),(5,.int .i64 i),(6,.int .i64 j)] [.arr [[x]] none false,.arr [[.str nm]] none false]=some (.int .i64 r,[.arr [[x]] none false,.arr [[.str nm]] none false]):=by
 intro m
 induction m with
 | zero =>
  intro i j h1 h2 h3 h4;have e:i=r:=by omega
  have c : ¬(i:Int)<(j:Int):=by omega
  apply zC;(repeat((conv=>lhs;whnf);simp only[go_sem,simprocAttr,c]));apply zN;subst e;((repeat((conv=>lhs;whnf);simp only[go_sem,simprocAttr]));try rfl)
 | succ m ih =>
  intro i j h1 h2 h3 h4;by_cases c:i<j
  ·have c':(i:Int)<(j:Int):=by omega
   have w1:IntKind.i64.wrap ((i:Int)+j)=((i+j:Nat):Int):=by rw[bE];omega
   have w2:IntKind.u64.wrap ((i+j:Nat):Int)=((i+j:Nat):Int):=by rw[xJ];omega
   have w3:((((i+j:Nat):Int)).fdiv (2^min 1 64))=(((i+j) / 2:Nat):Int):=by
    show (((i+j:Nat):Int)).fdiv 2=_
    rw[BS _ (by omega)];omega
   have w4:IntKind.i64.wrap ((((i+j) / 2:Nat)):Int)=(((i+j) / 2:Nat):Int):=by rw[bE];omega
   have ask:=hf ((i+j) / 2) (by omega);have zFi : ¬(1:Int)<0:=by omega
   apply zC
   cases hp:p ((i+j) / 2)
   ·have lo:(i+j) / 2+1≤r:=by
     rcases HY ((i+j) / 2) r with h | h
     ·exact h
     ·rw[hr.2.2 _ h (by omega)]at hp;cases hp
    have w5:IntKind.i64.wrap ((((i+j) / 2:Nat):Int)+1)=(((i+j) / 2+1:Nat):Int):=by rw[bE];omega
    have key:=ih ((i+j) / 2+1) j (by omega) lo h3 h4;rw[hp]at ask;(repeat((conv=>lhs;whnf);simp only[go_sem,simprocAttr,c',w1,w2,w3,w4,w5,ask,zFi]));exact key
   ·have hi:r≤(i+j) / 2:=by
     rcases HY ((i+j) / 2) r with h | h
     ·rw[hr.2.1 _ h]at hp;cases hp
     ·exact h
    have key:=ih i ((i+j) / 2) (by omega) h2 hi (by omega);rw[hp]at ask;(repeat((conv=>lhs;whnf);simp only[go_sem,simprocAttr,c',w1,w2,w3,w4,ask,zFi]));exact key
  ·have e:i=r:=by omega
   have c' : ¬(i:Int)<(j:Int):=by omega
   apply zC;(repeat((conv=>lhs;whnf);simp only[go_sem,simprocAttr,c']));apply zN;subst e;((repeat((conv=>lhs;whnf);simp only[go_sem,simprocAttr]));try rfl)
theorem zDj (x:PV) (nm:ByteArray) (f:PV) {n:Nat} {p:Nat→Bool} (hf:zOx x nm f n p) (hn:n≤1000000000) {r:Nat} (hr:zHZ n p r):callRL Tryz.prog zE 82 [.int .i64 n,f] [.arr [[x]] none false,.arr [[.str nm]] none false]=some (.int .i64 r,[.arr [[x]] none false,.arr [[.str nm]] none false]):=by
 refine FX.callRL (r:=(.int .i64 r,[.arr [[x]] none false,.arr [[.str nm]] none false])) ok82_ 1000 rfl rfl ?_;have key:=zDi x nm f hf hn hr n 0 n (by omega) (by omega) hr.1 (bF _);(repeat((conv=>lhs;whnf);simp only[go_sem,simprocAttr]));exact key
end
end
section
def jF (L:List Bd) (nm:ByteArray) (k:Nat):Bool := !(Op.bytesLess (L.getD k bd0).name.toList nm.toList)
section
attribute [local irreducible] Vs.callL Vs.callRL tyi zO zl zf zR zW za zI zY zA zK zb zV zG zJ zU zn yI zm zL ze Vs.gc zH
noncomputable def zOy:FX:=⟨Tryz.f110,zE.of 110,[]⟩
instance ok110_:zOy.ok 110:=FX.mk'
theorem zGC (L:List Bd) (nm:ByteArray) (i:Nat) (hi:i<L.length):callRL Tryz.prog zE 110 [.int .i64 i,.mp 0 0 0,.mp 1 0 0] [.arr [[.sl (yW L) false]] none false,.arr [[.str nm]] none false]=some (.bool (jF L nm i),[.arr [[.sl (yW L) false]] none false,.arr [[.str nm]] none false]):=by
 refine FX.callRL (r:=(.bool (jF L nm i),[.arr [[.sl (yW L) false]] none false,.arr [[.str nm]] none false])) ok110_ 1000 rfl rfl ?_;have x1:0≤(i:Int)∧(i:Int)<(L.length:Int):=⟨by omega,by omega⟩;unfold jF;((repeat((conv=>lhs;whnf);simp only[go_sem,simprocAttr,x1,bD,Bd.cells]));try rfl)
theorem zIi (L:List Bd) (nm:ByteArray):zOx (.sl (yW L) false) nm (.fn 110 [] [.mp 0 0 0,.mp 1 0 0]) L.length (jF L nm):=fun i hi=>by
 have h:=wC (by kernel_rfl) (zGC L nm i hi) (by simp);rw[Za];exact h
noncomputable def zR7:FX:=⟨Tryz.f62,zE.of 62,[]⟩
instance ok62_:zR7.ok 62:=FX.mk'
theorem zIj (L:List Bd) (nm:ByteArray) (hl:L.length≤1000000) {r:Nat} (hr:zHZ L.length (jF L nm) r):callL Tryz.prog zE 62 [.sl (yW L) false,.str nm]=some (.tup [.int .i64 r,.bool (decide (r<L.length)&&((L.getD r bd0).name.toList == nm.toList))]):=by
 have co:=wC (by kernel_rfl) (zDj _ nm _ (zIi L nm) (by omega) hr) (by simp);refine FX.callL (r:=(.tup [.int .i64 r,.bool (decide (r<L.length)&&((L.getD r bd0).name.toList == nm.toList))],[.arr [[.sl (yW L) false]] none false,.arr [[.str nm]] none false])) ok62_ 1000 rfl rfl ?_ rfl;by_cases c:r<L.length
 ·have c':(r:Int)<(L.length:Int):=by omega
  have x1:0≤(r:Int)∧(r:Int)<(L.length:Int):=⟨by omega,by omega⟩;simp only[c,decide_true,bC];((repeat((conv=>lhs;whnf);simp only[go_sem,simprocAttr,co,c',x1,bD,Bd.cells]));try rfl)
 ·have c' : ¬(r:Int)<(L.length:Int):=by omega
  simp only[c,decide_false,bB];((repeat((conv=>lhs;whnf);simp only[go_sem,simprocAttr,co,c']));try rfl)
end
end
theorem Zb : ∀a,Op.bytesLess a a=false
 | []=>rfl
 | a::r=>by simp[Op.bytesLess,Zb r]
theorem YR : ∀a b,a≠b→(Op.bytesLess b a = !Op.bytesLess a b)
 | [],[],h=>absurd rfl h
 | [],_::_,_=>rfl
 | _::_,[],_=>rfl
 | a::x,b::y,h=>by
  simp only[Op.bytesLess];by_cases hab:a=b
  ·subst hab;have:x≠y:=fun e=>h (by rw[e]);simp[YR x y this]
  ·have h1:(a == b)=false:=by simpa using hab
   have h2:(b == a)=false:=by simpa using fun e:b=a=>hab e.symm
   have h3:a.toNat≠b.toNat:=fun e=>hab (UInt8.toNat.inj e);simp only[h1,h2,bB,pJ,UInt8.lt_iff_toNat_lt];by_cases h4:a.toNat<b.toNat <;> simp[h4] <;> omega
theorem YS : ∀a b c,Op.bytesLess a b=true→Op.bytesLess b c=true→Op.bytesLess a c=true
 | _,[],_,h,_=>by simp[Op.bytesLess]at h
 | _,_::_,[],_,h=>by simp[Op.bytesLess]at h
 | [],_::_,_::_,_,_=>rfl
 | a::x,b::y,c::z,h,k=>by
  simp only[Op.bytesLess,aV,bO,beq_iff_eq,pA,UInt8.lt_iff_toNat_lt]at h k ⊢
  rcases h with h | ⟨rfl,h⟩
  ·rcases k with k | ⟨rfl,k⟩
   ·left;omega
   ·left;exact h
  ·rcases k with k | ⟨rfl,k⟩
   ·left;exact k
   ·right;exact⟨rfl,YS x y z h k⟩
def before (a b:ByteArray):Prop:=Op.bytesLess a.toList b.toList=true
theorem before.trans {a b c:ByteArray} (h:before a b) (k:before b c):before a c:=YS _ _ _ h k
theorem before.ne {a b:ByteArray} (h:before a b):a.toList≠b.toList:=fun e=>by
 unfold before at h;rw[e,Zb]at h;cases h
theorem zIk (a b:ByteArray):before a b∨a.toList=b.toList∨before b a:=by
 by_cases h:a.toList=b.toList
 ·exact .inr (.inl h)
 ·have:=YR _ _ h;unfold before
  cases k:Op.bytesLess a.toList b.toList
  ·right;right;rw[this,k];rfl
  ·left;rfl
theorem Kn {a b:ByteArray} : Op.bytesLess a.toList b.toList=false↔a.toList=b.toList∨before b a:=by
 constructor
 ·intro h
  rcases zIk a b with k | k | k
  ·unfold before at k;rw[h]at k;cases k
  ·exact .inl k
  ·exact .inr k
 ·intro h
  cases k:Op.bytesLess a.toList b.toList
  ·rfl
  ·rcases h with h | h
   ·exact absurd h (before.ne k)
   ·exact absurd rfl (before.ne (before.trans k h))
def WE (L:List Bd):Prop:=L.Pairwise fun a b=>before a.name b.name
theorem zDk {L:List Bd} : ∀ {m i:Nat},ZA L m i=true→∀j,i≤j→j<i+m→zBV L j=true
 | 0,i,_,j,h1,h2=>by omega
 | m+1,i,h,j,h1,h2=>by
  simp only[ZA,bO]at h
  rcases Nat.eq_or_lt_of_le h1 with rfl | h3
  ·exact h.1
  ·exact zDk h.2 j h3 (by omega)
theorem zDl {L:List Bd} : ∀ {m i:Nat},(∀j,i≤j→j<i+m→zBV L j=true)→ZA L m i=true
 | 0,i,_=>rfl
 | m+1,i,h=>by
  simp only[ZA,bO];exact⟨h i (bF _) (by omega),zDl fun j h1 h2=>h j (by omega) (by omega)⟩
structure Bd.good (b:Bd):Prop where
 var:YP b.name=true
 some:b.val.num.length≠0
 fit:b.val.fit=true
theorem ZB {α:Type} {L:List α} {d:α} {i:Nat} (h:i<L.length):L.getD i d=L[i]:=by
 rw[bL,pP h,BE]
theorem Ko {L:List Bd} : YX L=true↔L.length≤40∧(∀b∈L,b.good)∧WE L:=by
 unfold YX;simp only[bO,pA];constructor
 ·rintro⟨h1,h2⟩
  have h3 : ∀j,j<L.length→zBV L j=true:=fun j hj=>zDk h2 j (by omega) (by omega);refine⟨h1,fun b hb=>?_,?_⟩
  ·obtain⟨i,hi,rfl⟩:=List.mem_iff_getElem.1 hb;have:=h3 i hi;unfold zBV at this;simp only[bO,pA,ZB hi]at this;exact⟨this.1.1.1,this.1.2,this.2⟩
  ·have step : ∀j,0<j→j<L.length→before (L.getD (j-1) bd0).name (L.getD j bd0).name:=fun j h0 hj=>by
    have:=h3 j hj;unfold zBV at this;simp only[bO,aV,pA]at this
    rcases this.1.1.2 with h | h
    ·omega
    ·exact h
   have far : ∀d i,i+d+1<L.length→before (L.getD i bd0).name (L.getD (i+d+1) bd0).name:=by
    intro d
    induction d with
    | zero=>intro i hi;have:=step (i+1) (by omega) hi;rwa [Nat.add_sub_cancel]at this
    | succ d ih =>
     intro i hi;have a:=ih i (by omega);have b:=step (i+(d+1)+1) (by omega) hi;rw[Nat.add_sub_cancel]at b;exact a.trans b
   unfold WE;rw[List.pairwise_iff_getElem];intro i j hi hj hij;have:=far (j-i-1) i (by omega);rw[show i+(j-i-1)+1=j by omega,ZB hi,ZB hj]at this;exact this
 ·rintro⟨h1,h2,h3⟩
  refine⟨h1,zDl fun j _ hj=>?_⟩;have hj':j<L.length:=by omega
  have g:=h2 _ (PE hj');unfold zBV;simp only[bO,aV,pA,ZB hj'];refine⟨⟨⟨g.var,?_⟩,g.some⟩,g.fit⟩;by_cases h0:j=0
  ·exact .inl h0
  ·right
   rw[ZB (show j-1<L.length by omega)];exact (List.pairwise_iff_getElem.1 h3) (j-1) j (by omega) hj' (by omega)
def Zc (nm:ByteArray):List Bd→Nat
 | []=>0
 | b::r=>if Op.bytesLess b.name.toList nm.toList=true then Zc nm r+1 else 0
theorem Kp (nm:ByteArray) : ∀ {L:List Bd},WE L→zHZ L.length (jF L nm) (Zc nm L)
 | [],_=>⟨by simp[Zc],fun k hk=>by simp[Zc]at hk,fun k _ hk=>by simp at hk⟩
 | b::r,h=>by
  unfold WE at h;rw[List.pairwise_cons]at h;obtain⟨t1,t2,t3⟩:=Kp nm h.2;simp only[Zc]
  split
  ·rename_i hb;refine⟨by simp;exact t1,fun k hk=>?_,fun k h1 h2=>?_⟩
   ·cases k with
    | zero=>unfold jF;simp[hb]
    | succ k=>have:=t2 k (by omega);unfold jF at this ⊢;simpa using this
   ·cases k with
    | zero=>omega
    | succ k=>have:=t3 k (by omega) (by simpa using h2);unfold jF at this ⊢;simpa using this
  ·rename_i hb;have hb':Op.bytesLess b.name.toList nm.toList=false:=by simpa using hb
   refine⟨by simp,fun k hk=>by omega,fun k _ h2=>?_⟩;cases k with
   | zero=>unfold jF;simp[hb']
   | succ k =>
    have hk:k<r.length:=by simpa using h2
    have q:=h.1 _ (PE hk);have:Op.bytesLess r[k].name.toList nm.toList=false:=by
     rw[Kn]at hb' ⊢
     right
     rcases hb' with e | e
     ·unfold before at q ⊢;rw[←e];exact q
     ·exact e.trans q
    unfold jF;simp[bL,pP hk,this]
def rv0:RV:=⟨false,[],[1]⟩
def Zd (nm:ByteArray):List Bd→RV
 | []=>rv0
 | b::r=>if b.name.toList=nm.toList then b.val else Zd nm r
theorem Ql {nm:ByteArray} : ∀ {L:List Bd},(∀b∈L,b.name.toList≠nm.toList)→Zd nm L=rv0
 | [],_=>rfl
 | b::r,h=>by
  simp only[Zd,h b (by simp),if_false];exact Ql fun c hc=>h c (by simp[hc])
def Kq (nm:ByteArray) (L:List Bd):Bool:=decide (Zc nm L<L.length)&&((L.getD (Zc nm L) bd0).name.toList == nm.toList)
theorem zDm (nm:ByteArray) : ∀ {L:List Bd},WE L→(if Kq nm L=true then (L.getD (Zc nm L) bd0).val else rv0)=Zd nm L
 | [],_=>rfl
 | b::r,h=>by
  unfold WE at h;rw[List.pairwise_cons]at h;have ih:=zDm nm h.2;unfold Kq at ih ⊢;by_cases hb:Op.bytesLess b.name.toList nm.toList=true
  ·have e0:Zc nm (b::r)=Zc nm r+1:=by simp[Zc,hb]
   rw[e0];simp only[bK,Nat.add_lt_add_iff_right,List.getD_cons_succ,Zd,before.ne hb,if_false];exact ih
  ·have e0:Zc nm (b::r)=0:=by simp[Zc,hb]
   rw[e0];simp only[bK,Nat.zero_lt_succ,decide_true,bC,BR,beq_iff_eq,Zd];by_cases e:b.name.toList=nm.toList
   ·rw[bA e,bA e]
   ·rw[hZ e,hZ e];have hb':Op.bytesLess b.name.toList nm.toList=false:=by simpa using hb
    have e2:before nm b.name:=(Kn.1 hb').resolve_left e;exact (Ql fun c hc ec=>before.ne (e2.trans (h.1 c hc)) ec.symm).symm
end Go.Vs
