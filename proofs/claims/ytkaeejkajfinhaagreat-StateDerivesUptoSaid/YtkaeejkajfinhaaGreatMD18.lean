
import Derived.Test.YtkaeejkajfinhaaGreatMD12
import Derived.Test.YtkaeejkajfinhaaGreatMD16
import Derived.Test.YtkaeejkajfinhaaGreatMD17
set_option linter.unusedVariables false
set_option linter.unusedSimpArgs false
set_option maxRecDepth 100000
namespace Go.Vs
open Go Go.Proofs
section
section
attribute [local irreducible] Vs.callL Vs.callRL tyi zO zn zg zR zY za zI zZ zA zK ze zX zG zJ zW zr yJ zq zL zf Vs.gc zH
noncomputable def zL3:FX:=⟨Tryz.f124,zD.of 124,[]⟩
instance ok124_:zL3.ok 124:=FX.mk'
theorem QW (n:Node) (hn:n.ok) (ih : ∀k∈n.kids,callL Tryz.prog zD 124 [.agg k.cells]=some (.bool k.diff)) : ∀(m i:Nat),i+m=n.kids.length →
  ∃S',zU 0 zL3 1 6884 1 [.blk 1,.seq 0 861,.blk 0,.seq 0 7] [(22,.sl (Node.rows n.kids) false),(23,.int .i64 n.kids.length),(24,.int .i64 i)] [.arr [n.cells] none false]=some (.bool (Node.diffs (n.kids.drop i)),S'):=by
 intro m
 induction m with
 | zero =>
  intro i hi;have h1 : ¬(i:Int)<(n.kids.length:Int):=by omega
  rw[bU (by omega)];apply Exists.intro;apply zC;(repeat((conv=>lhs;whnf);simp only[go_sem,simprocAttr,h1]));apply zN;unfold Node.diffs;((repeat((conv=>lhs;whnf);simp only[go_sem,simprocAttr]));try rfl)
 | succ m hm =>
  intro i hi;have h1:(i:Int)<(n.kids.length:Int):=by omega
  have h2:=zi (i:=i) (n:=n.kids.length) (by omega) hn.len;have h4:0≤(i:Int)∧(i:Int)<(n.kids.length:Int):=⟨by omega,h1⟩;have h5:=fun S=>uQ S (ih _ (yA (l:=n.kids) (i:=i) (by omega)));obtain⟨S',key⟩:=hm (i+1) (by omega);have h7:Node.diffs (n.kids.drop i)=((n.kids.getD i nd0).diff&&Node.diffs (n.kids.drop (i+1))):=by rw[xO (l:=n.kids) (i:=i) (by omega)];rfl
  rw[h7]
  cases hd:(n.kids.getD i nd0).diff
  case false =>
   rw[hd]at h5;rw[bB];apply Exists.intro;apply zC;((repeat((conv=>lhs;whnf);simp only[go_sem,simprocAttr,h1,h2,h4,h5]));try rfl)
  case true =>
   rw[hd]at h5;rw[bC];refine⟨S',?_⟩;apply zC;(repeat((conv=>lhs;whnf);simp only[go_sem,simprocAttr,h1,h2,h4,h5]));exact key
theorem QX : ∀n:Node,n.ok→callL Tryz.prog zD 124 [.agg n.cells]=some (.bool n.diff):=by
 refine Node.ind' fun n ih hn=>?_;obtain⟨S',h⟩:=QW n hn (fun k hk'=>ih k hk' (hn.kids k hk')) n.kids.length 0 (by omega);rw[bY]at h;rw[Node.diff_eq];unfold VL;by_cases e20:n.op=20
 ·rw[e20];apply FX.callB2 ok124_ 1000 rfl rfl;((repeat((conv=>lhs;whnf);simp only[go_sem,simprocAttr,e20]));try rfl)
 by_cases e21:n.op=21
 ·rw[e21];apply FX.callB2 ok124_ 1000 rfl rfl;((repeat((conv=>lhs;whnf);simp only[go_sem,simprocAttr,e21]));try rfl)
 by_cases e22:n.op=22
 ·rw[e22];apply FX.callB2 ok124_ 1000 rfl rfl;((repeat((conv=>lhs;whnf);simp only[go_sem,simprocAttr,e22]));try rfl)
 by_cases e23:n.op=23
 ·rw[e23];apply FX.callB2 ok124_ 1000 rfl rfl;((repeat((conv=>lhs;whnf);simp only[go_sem,simprocAttr,e23]));try rfl)
 by_cases e24:n.op=24
 ·rw[e24];apply FX.callB2 ok124_ 1000 rfl rfl;((repeat((conv=>lhs;whnf);simp only[go_sem,simprocAttr,e24]));try rfl)
 by_cases e25:n.op=25
 ·rw[e25];apply FX.callB2 ok124_ 1000 rfl rfl;((repeat((conv=>lhs;whnf);simp only[go_sem,simprocAttr,e25]));try rfl)
 by_cases e26:n.op=26
 ·rw[e26];apply FX.callB2 ok124_ 1000 rfl rfl;((repeat((conv=>lhs;whnf);simp only[go_sem,simprocAttr,e26]));try rfl)
 by_cases e27:n.op=27
 ·rw[e27];apply FX.callB2 ok124_ 1000 rfl rfl;((repeat((conv=>lhs;whnf);simp only[go_sem,simprocAttr,e27]));try rfl)
 by_cases e37:n.op=37
 ·rw[e37];apply FX.callB2 ok124_ 1000 rfl rfl;((repeat((conv=>lhs;whnf);simp only[go_sem,simprocAttr,e37]));try rfl)
 by_cases e38:n.op=38
 ·rw[e38];apply FX.callB2 ok124_ 1000 rfl rfl;((repeat((conv=>lhs;whnf);simp only[go_sem,simprocAttr,e38]));try rfl)
 by_cases e29:n.op=29
 ·rw[e29];apply FX.callB2 ok124_ 1000 rfl rfl;(repeat((conv=>lhs;whnf);simp only[go_sem,simprocAttr,e29]));exact h
 by_cases e30:n.op=30
 ·rw[e30];apply FX.callB2 ok124_ 1000 rfl rfl;(repeat((conv=>lhs;whnf);simp only[go_sem,simprocAttr,e30]));exact h
 have hf:(decide (n.op=20)||decide (n.op=21)||decide (22≤n.op∧n.op≤27)||decide (n.op=37)||decide (n.op=38)||((decide (n.op=29)||decide (n.op=30))&&Node.diffs n.kids))=false:=by
  have : ¬(22≤n.op∧n.op≤27):=by omega
  simp only[e20,e21,e37,e38,e29,e30,this,decide_false,sX,bB]
 rw[hf];apply FX.callB2 ok124_ 1000 rfl rfl;((repeat((conv=>lhs;whnf);simp only[go_sem,simprocAttr,e20,e21,e22,e23,e24,e25,e26,e27,e37,e38,e29,e30]));try rfl)
theorem zGe (S:zB) (n:Node) (h:n.ok):zO (callL Tryz.prog zD) S 124 [.agg n.cells]=some {v:=.bool n.diff} := uQ S (QX n h)
noncomputable def zL4:FX:=⟨Tryz.f133,zD.of 133,[]⟩
instance ok133_:zL4.ok 133:=FX.mk'
theorem zGf (n:Node) (hn:n.ok) (ih : ∀k∈n.kids,callL Tryz.prog zD 133 [.agg k.cells]=some (.bool k.diff)) : ∀(m i:Nat),i+m=n.kids.length →
  ∃S',zU 0 zL4 1 3300 1 [.blk 1,.seq 0 413,.blk 0,.seq 0 7] [(1,.mp 0 0 0),(3,.int .i64 i)] [.arr [n.cells] none false]=some (.bool (Node.diffs (n.kids.drop i)),S'):=by
 intro m
 induction m with
 | zero =>
  intro i hi;have h1 : ¬(i:Int)<(n.kids.length:Int):=by omega
  rw[bU (by omega)];apply Exists.intro;apply zC;(repeat((conv=>lhs;whnf);simp only[go_sem,simprocAttr,h1]));apply zN;unfold Node.diffs;((repeat((conv=>lhs;whnf);simp only[go_sem,simprocAttr]));try rfl)
 | succ m hm =>
  intro i hi;have h1:(i:Int)<(n.kids.length:Int):=by omega
  have h2:=zi (i:=i) (n:=n.kids.length) (by omega) hn.len;have h4:0≤(i:Int)∧(i:Int)<(n.kids.length:Int):=⟨by omega,h1⟩;have h5:=fun S=>uQ S (ih _ (yA (l:=n.kids) (i:=i) (by omega)));obtain⟨S',key⟩:=hm (i+1) (by omega);have h7:Node.diffs (n.kids.drop i)=((n.kids.getD i nd0).diff&&Node.diffs (n.kids.drop (i+1))):=by rw[xO (l:=n.kids) (i:=i) (by omega)];rfl
  rw[h7]
  cases hd:(n.kids.getD i nd0).diff
  case false =>
   rw[hd]at h5;rw[bB];apply Exists.intro;apply zC;((repeat((conv=>lhs;whnf);simp only[go_sem,simprocAttr,h1,h2,h4,h5]));try rfl)
  case true =>
   rw[hd]at h5;rw[bC];refine⟨S',?_⟩;apply zC;(repeat((conv=>lhs;whnf);simp only[go_sem,simprocAttr,h1,h2,h4,h5]));exact key
theorem zGg : ∀n:Node,n.ok→callL Tryz.prog zD 133 [.agg n.cells]=some (.bool n.diff):=by
 refine Node.ind' fun n ih hn=>?_;obtain⟨S',h⟩:=zGf n hn (fun k hk'=>ih k hk' (hn.kids k hk')) n.kids.length 0 (by omega);rw[bY]at h;rw[Node.diff_eq];unfold VL;by_cases e20:n.op=20
 ·rw[e20];apply FX.callB2 ok133_ 1000 rfl rfl;((repeat((conv=>lhs;whnf);simp only[go_sem,simprocAttr,e20]));try rfl)
 by_cases e21:n.op=21
 ·rw[e21];apply FX.callB2 ok133_ 1000 rfl rfl;((repeat((conv=>lhs;whnf);simp only[go_sem,simprocAttr,e21]));try rfl)
 by_cases e22:n.op=22
 ·rw[e22];apply FX.callB2 ok133_ 1000 rfl rfl;((repeat((conv=>lhs;whnf);simp only[go_sem,simprocAttr,e22]));try rfl)
 by_cases e23:n.op=23
 ·rw[e23];apply FX.callB2 ok133_ 1000 rfl rfl;((repeat((conv=>lhs;whnf);simp only[go_sem,simprocAttr,e23]));try rfl)
 by_cases e24:n.op=24
 ·rw[e24];apply FX.callB2 ok133_ 1000 rfl rfl;((repeat((conv=>lhs;whnf);simp only[go_sem,simprocAttr,e24]));try rfl)
 by_cases e25:n.op=25
 ·rw[e25];apply FX.callB2 ok133_ 1000 rfl rfl;((repeat((conv=>lhs;whnf);simp only[go_sem,simprocAttr,e25]));try rfl)
 by_cases e26:n.op=26
 ·rw[e26];apply FX.callB2 ok133_ 1000 rfl rfl;((repeat((conv=>lhs;whnf);simp only[go_sem,simprocAttr,e26]));try rfl)
 by_cases e27:n.op=27
 ·rw[e27];apply FX.callB2 ok133_ 1000 rfl rfl;((repeat((conv=>lhs;whnf);simp only[go_sem,simprocAttr,e27]));try rfl)
 by_cases e37:n.op=37
 ·rw[e37];apply FX.callB2 ok133_ 1000 rfl rfl;((repeat((conv=>lhs;whnf);simp only[go_sem,simprocAttr,e37]));try rfl)
 by_cases e38:n.op=38
 ·rw[e38];apply FX.callB2 ok133_ 1000 rfl rfl;((repeat((conv=>lhs;whnf);simp only[go_sem,simprocAttr,e38]));try rfl)
 by_cases e29:n.op=29
 ·rw[e29];apply FX.callB2 ok133_ 1000 rfl rfl;(repeat((conv=>lhs;whnf);simp only[go_sem,simprocAttr,e29]));exact h
 by_cases e30:n.op=30
 ·rw[e30];apply FX.callB2 ok133_ 1000 rfl rfl;(repeat((conv=>lhs;whnf);simp only[go_sem,simprocAttr,e30]));exact h
 have hf:(decide (n.op=20)||decide (n.op=21)||decide (22≤n.op∧n.op≤27)||decide (n.op=37)||decide (n.op=38)||((decide (n.op=29)||decide (n.op=30))&&Node.diffs n.kids))=false:=by
  have : ¬(22≤n.op∧n.op≤27):=by omega
  simp only[e20,e21,e37,e38,e29,e30,this,decide_false,sX,bB]
 rw[hf];apply FX.callB2 ok133_ 1000 rfl rfl;by_cases c1:22≤n.op
 ·have c2 : ¬n.op≤27:=by omega
  ((repeat((conv=>lhs;whnf);simp only[go_sem,simprocAttr,e20,e21,c1,c2,e37,e38,e29,e30]));try rfl)
 ·((repeat((conv=>lhs;whnf);simp only[go_sem,simprocAttr,e20,e21,c1,e37,e38,e29,e30]));try rfl)
theorem zNd (S:zB) (n:Node) (h:n.ok):zO (callL Tryz.prog zD) S 133 [.agg n.cells]=some {v:=.bool n.diff} := uQ S (zGg n h)
noncomputable def zL5:FX:=⟨Tryz.f159,zD.of 159,[]⟩
instance ok159_:zL5.ok 159:=FX.mk'
theorem zBz (n:Node) (hn:n.ok) (ih : ∀k∈n.kids,callL Tryz.prog zD 159 [.agg k.cells]=some (.bool k.primed)) : ∀(m i:Nat),i+m=n.kids.length →
  ∃S',zU 0 zL5 0 116 1 [.blk 0,.seq 0 15] [(1,.mp 0 0 0),(3,.int .i64 i)] [.arr [n.cells] none false]=some (.bool (Node.primeds (n.kids.drop i)),S'):=by
 intro m
 induction m with
 | zero =>
  intro i hi;have h1 : ¬(i:Int)<(n.kids.length:Int):=by omega
  rw[bU (by omega)];apply Exists.intro;apply zC;(repeat((conv=>lhs;whnf);simp only[go_sem,simprocAttr,h1]));apply zN;unfold Node.primeds;((repeat((conv=>lhs;whnf);simp only[go_sem,simprocAttr]));try rfl)
 | succ m hm =>
  intro i hi;have h1:(i:Int)<(n.kids.length:Int):=by omega
  have h2:=zi (i:=i) (n:=n.kids.length) (by omega) hn.len;have h4:0≤(i:Int)∧(i:Int)<(n.kids.length:Int):=⟨by omega,h1⟩;have h5:=fun S=>uQ S (ih _ (yA (l:=n.kids) (i:=i) (by omega)));obtain⟨S',key⟩:=hm (i+1) (by omega);have h7:Node.primeds (n.kids.drop i)=((n.kids.getD i nd0).primed||Node.primeds (n.kids.drop (i+1))):=by rw[xO (l:=n.kids) (i:=i) (by omega)];rfl
  rw[h7]
  cases hd:(n.kids.getD i nd0).primed
  case true =>
   rw[hd]at h5;rw[pI];apply Exists.intro;apply zC;((repeat((conv=>lhs;whnf);simp only[go_sem,simprocAttr,h1,h2,h4,h5]));try rfl)
  case false =>
   rw[hd]at h5;rw[bX];refine⟨S',?_⟩;apply zC;(repeat((conv=>lhs;whnf);simp only[go_sem,simprocAttr,h1,h2,h4,h5]));exact key
theorem zCA : ∀n:Node,n.ok→callL Tryz.prog zD 159 [.agg n.cells]=some (.bool n.primed):=by
 refine Node.ind' fun n ih hn=>?_;obtain⟨S',h⟩:=zBz n hn (fun k hk'=>ih k hk' (hn.kids k hk')) n.kids.length 0 (by omega);rw[bY]at h;rw[Node.primed_eq];by_cases e3:n.op=3
 ·rw[e3];apply FX.callB2 ok159_ 1000 rfl rfl;((repeat((conv=>lhs;whnf);simp only[go_sem,simprocAttr,e3]));try rfl)
 by_cases e12:n.op=12
 ·rw[e12];apply FX.callB2 ok159_ 1000 rfl rfl;((repeat((conv=>lhs;whnf);simp only[go_sem,simprocAttr,e12]));try rfl)
 by_cases e39:n.op=39
 ·rw[e39];apply FX.callB2 ok159_ 1000 rfl rfl;((repeat((conv=>lhs;whnf);simp only[go_sem,simprocAttr,e39]));try rfl)
 have hf:((decide (n.op=3)||(decide (n.op=12)||decide (n.op=39)))||Node.primeds n.kids)=Node.primeds n.kids:=by simp only[e3,e12,e39,decide_false,sX,bX]
 rw[hf];apply FX.callB2 ok159_ 1000 rfl rfl;(repeat((conv=>lhs;whnf);simp only[go_sem,simprocAttr,e3,e12,e39]));exact h
theorem zJV (S:zB) (n:Node) (h:n.ok):zO (callL Tryz.prog zD) S 159 [.agg n.cells]=some {v:=.bool n.primed} := uQ S (zCA n h)
end
end
section
section
attribute [local irreducible] Vs.callL Vs.callRL tyi zO zn zg zR zY za zI zZ zA zK ze zX zG zJ zW zr yJ zq zL zf Vs.gc zH
noncomputable def zSJ:FX:=⟨Tryz.f77,zD.of 77,[]⟩
instance ok77_:zSJ.ok 77:=FX.mk'
theorem zJW (n:Int):callL Tryz.prog zD 77 [.int .i64 n]=some (.int .i64 (zv n)):=by
 refine FX.callL (r:=(.int .i64 (zv n),[])) ok77_ 1000 rfl rfl ?_ rfl;by_cases h1:1≤n <;> by_cases h2:n≤13 <;> by_cases h3:20≤n <;> (try (exfalso;omega)) <;> by_cases h4:n≤39 <;> (try (exfalso;omega)) <;> by_cases h5:n=55 <;> (try (exfalso;omega)) <;> by_cases h6:n=56 <;> (try (exfalso;omega)) <;> by_cases h7:50≤n <;> (try (exfalso;omega)) <;> by_cases h8:n≤62 <;> (try (exfalso;omega)) <;>
  (simp only[zv,h1,h2,h3,h4,h5,h6,h7,h8,and_self,and_true,true_and,and_false,false_and,or_self,or_true,true_or,or_false,false_or,if_true,if_false,Int.reduceLE,Int.reduceEq,Int.reduceLT,reduceCtorEq];((repeat((conv=>lhs;whnf);simp only[go_sem,simprocAttr,h1,h2,h3,h4,h5,h6,h7,h8]));try rfl))
noncomputable def zSK:FX:=⟨Tryz.f12,zD.of 12,[]⟩
instance ok12_:zSK.ok 12:=FX.mk'
theorem zGh (n:Int):callL Tryz.prog zD 12 [.int .i64 n]=some (.int .i64 (zv n)):=by
 refine FX.callL (r:=(.int .i64 (zv n),[])) ok12_ 1000 rfl rfl ?_ rfl;by_cases h1:1≤n <;> by_cases h2:n≤13 <;> by_cases h3:20≤n <;> (try (exfalso;omega)) <;> by_cases h4:n≤39 <;> (try (exfalso;omega)) <;> by_cases h5:n=55 <;> (try (exfalso;omega)) <;> by_cases h6:n=56 <;> (try (exfalso;omega)) <;> by_cases h7:50≤n <;> (try (exfalso;omega)) <;> by_cases h8:n≤62 <;> (try (exfalso;omega)) <;>
  (simp only[zv,h1,h2,h3,h4,h5,h6,h7,h8,and_self,and_true,true_and,and_false,false_and,or_self,or_true,true_or,or_false,false_or,if_true,if_false,Int.reduceLE,Int.reduceEq,Int.reduceLT,reduceCtorEq];((repeat((conv=>lhs;whnf);simp only[go_sem,simprocAttr,h1,h2,h3,h4,h5,h6,h7,h8]));try rfl))
theorem UD (S:zB) (n:Int):zO (callL Tryz.prog zD) S 77 [.int .i64 n]=some {v:=.int .i64 (zv n)} := zF (zJW n) (by simp[zh.int])
theorem yY (S:zB) (n:Int):zO (callL Tryz.prog zD) S 12 [.int .i64 n]=some {v:=.int .i64 (zv n)} := zF (zGh n) (by simp[zh.int])
noncomputable def zOX:FX:=⟨Tryz.f17,zD.of 17,[]⟩
instance ok17_:zOX.ok 17:=FX.mk'
theorem zJX (n:Node) (hn:n.ok) (ih : ∀k∈n.kids,callL Tryz.prog zD 17 [.agg k.cells]=some (.int .i64 k.size)) : ∀(m i:Nat),i+m=n.kids.length→∀(a:Int),
  zU 0 zOX 0 116 1 [.blk 0,.seq 0 15] [(1,.mp 0 0 0),(3,.int .i64 a),(4,.int .i64 i)] [.arr [n.cells] none false]=some (.int .i64 (Node.sizes a (n.kids.drop i)),[.arr [n.cells] none false]):=by
 intro m
 induction m with
 | zero =>
  intro i hi a;have h1 : ¬(i:Int)<(n.kids.length:Int):=by omega
  rw[bU (by omega)];apply zC;(repeat((conv=>lhs;whnf);simp only[go_sem,simprocAttr,h1]));apply zN;unfold Node.sizes;((repeat((conv=>lhs;whnf);simp only[go_sem,simprocAttr]));try rfl)
 | succ m hm =>
  intro i hi a;have h1:(i:Int)<(n.kids.length:Int):=by omega
  have h2:=zi (i:=i) (n:=n.kids.length) (by omega) hn.len;have h4:0≤(i:Int)∧(i:Int)<(n.kids.length:Int):=⟨by omega,h1⟩;have h5:=fun S=>uQ S (ih _ (yA (l:=n.kids) (i:=i) (by omega)));have key:=hm (i+1) (by omega) (IntKind.i64.wrap (a+(n.kids.getD i nd0).size));rw[xO (l:=n.kids) (i:=i) (by omega)];apply zC;(repeat((conv=>lhs;whnf);simp only[go_sem,simprocAttr,h1,h2,h4,h5]));exact key
theorem Zx : ∀n:Node,n.ok→callL Tryz.prog zD 17 [.agg n.cells]=some (.int .i64 n.size):=by
 refine Node.ind' fun n ih hn=>?_;have h:=zJX n hn (fun k hk'=>ih k hk' (hn.kids k hk')) n.kids.length 0 (by omega) 1;rw[bY,Node.size_eq]at h;refine FX.callL (r:=(.int .i64 n.size,[.arr [n.cells] none false])) ok17_ 1000 rfl rfl ?_ rfl;(repeat((conv=>lhs;whnf);simp only[go_sem,simprocAttr]));exact h
noncomputable def zOY:FX:=⟨Tryz.f86,zD.of 86,[]⟩
instance ok86_:zOY.ok 86:=FX.mk'
theorem zER (n:Node) (hn:n.ok) (ih : ∀k∈n.kids,callL Tryz.prog zD 86 [.agg k.cells]=some (.int .i64 k.levels)) : ∀(m i:Nat),i+m=n.kids.length→∀(a:Int),
  zU 0 zOY 0 116 1 [.blk 0,.seq 0 15] [(1,.mp 0 0 0),(3,.int .i64 a),(4,.int .i64 i)] [.arr [n.cells] none false]=some (.int .i64 (IntKind.i64.wrap (Node.most a (n.kids.drop i)+1)),[.arr [n.cells] none false]):=by
 intro m
 induction m with
 | zero =>
  intro i hi a;have h1 : ¬(i:Int)<(n.kids.length:Int):=by omega
  rw[bU (by omega)];apply zC;(repeat((conv=>lhs;whnf);simp only[go_sem,simprocAttr,h1]));apply zN;unfold Node.most;((repeat((conv=>lhs;whnf);simp only[go_sem,simprocAttr]));try rfl)
 | succ m hm =>
  intro i hi a;have h1:(i:Int)<(n.kids.length:Int):=by omega
  have h2:=zi (i:=i) (n:=n.kids.length) (by omega) hn.len;have h4:0≤(i:Int)∧(i:Int)<(n.kids.length:Int):=⟨by omega,h1⟩;have h5:=fun S=>uQ S (ih _ (yA (l:=n.kids) (i:=i) (by omega)));have key:=hm (i+1) (by omega) (if a<(n.kids.getD i nd0).levels then (n.kids.getD i nd0).levels else a);rw[xO (l:=n.kids) (i:=i) (by omega)];apply zC;(repeat((conv=>lhs;whnf);simp only[go_sem,simprocAttr,h1,h2,h4,h5]));exact key
theorem zES : ∀n:Node,n.ok→callL Tryz.prog zD 86 [.agg n.cells]=some (.int .i64 n.levels):=by
 refine Node.ind' fun n ih hn=>?_;have h:=zER n hn (fun k hk'=>ih k hk' (hn.kids k hk')) n.kids.length 0 (by omega) 0;rw[bY,Node.levels_eq]at h;refine FX.callL (r:=(.int .i64 n.levels,[.arr [n.cells] none false])) ok86_ 1000 rfl rfl ?_ rfl;(repeat((conv=>lhs;whnf);simp only[go_sem,simprocAttr]));exact h
end
end
section
def kG (S:zB):Prop:=∀o∈S,∃rows g f,o=.arr rows g f∧zV rows=[]
theorem kG.held : ∀ {S:zB},kG S→∀n m,xv n m S=true
 | [],_,n,m=>by cases m <;> rfl
 | o::S,h,n,0=>rfl
 | o::S,h,n,m+1=>by
  obtain⟨rows,g,f,rfl,h1⟩:=h o (by simp);simp only[xv,h1,BP,bC];exact kG.held (fun x hx=>h x (by simp[hx])) n m
theorem kG.closed {S:zB} (h:kG S):xW S=true:=by
 simp only[xW,pH];intro o ho;obtain⟨rows,g,f,rfl,h1⟩:=h o ho;simp only[h1,BP]
theorem kG.nil:kG []:=fun o h=>by cases h
theorem kG.cons {rows:List (List PV)} {g:Option (Option Nat)} {f:Bool} {S:zB} (h:zV rows=[]) (hS:kG S):kG (.arr rows g f::S):=fun o ho=>by
 rcases aF.1 ho with rfl | ho
 ·exact⟨_,_,_,rfl,h⟩
 ·exact hS o ho
theorem kG.app {S T:zB} (h:kG S) (k:kG T):kG (S++T):=fun o ho=>by
 rcases sG.1 ho with ho | ho
 ·exact h o ho
 ·exact k o ho
theorem kG.gc {S G:zB} (hS:kG S) {n:Nat} (hn:n=S.length) {e:Env} (he:vo n e=true):Vs.gc n e (S++G)=S:=by
 subst hn;have e1:Vs.gc S.length e (S++G)=if vo S.length e=true∧xv S.length S.length (S++G)=true then (S++G).take S.length else S++G:=by
  rw[←YO,←jO];rfl
 have e2:xv S.length S.length (S++G)=true:=by
  rw[←jO,List.take_left];simp only[pH];intro o ho;obtain⟨rows,g,f,rfl,h1⟩:=hS o ho;simp only[h1,BP]
 rw[e1,bA ⟨he,e2⟩,List.take_left]
theorem yZ (n:Node):zV [n.cells]=[]:=by
 show vX n.cells++[]=[]
 rw[Node.refs];rfl
theorem ZU (T U:zB):zl (T++U) T.length=zl U 0:=by
 simp only[zl];rw[pA (bF _),aB]
theorem qS (a b c:Nat):XW (.mp a b c)=some (.mp a b c):=rfl
theorem X7 (id:Nat):zW (tyi Tryz.prog 3) id=some {v:=.mp id 0 0,new:=some ([[.int .i64 0]],none)} := by
 have e:(tyi Tryz.prog 3).zero=some [.int .i64 0]:=by kernel_rfl
 simp[zW,e,PV.cell]
def st2 (a b:Obj) (T:zB):zB:=a::b::T
theorem qL (a b:Obj) (T:zB):(st2 a b T).length=T.length+2:=rfl
theorem VP (a b:Obj) (T U:zB):st2 a b T++U=st2 a b (T++U):=rfl
theorem VQ {ra rb:List (List PV)} {g g':Option (Option Nat)} {f f':Bool} (hr:zV ra=[]) (hb:zV rb=[]) {T:zB} (hT:kG T):kG (st2 (.arr ra g f) (.arr rb g' f') T):=.cons hr (.cons hb hT)
theorem VS (a:Obj) (rb:List (List PV)) (g:Option (Option Nat)) (f:Bool) (T:zB):zl (st2 a (.arr rb g f) T) 1=some rb:=rfl
theorem JV (a b:Obj) (T U:zB):zl (st2 a b (T++U)) (T.length+2)=zl U 0:=ZU T U
theorem zCB (n:Nat) (a:Obj) (row:List PV) (g:Option (Option Nat)) (T:zB) (off:Nat) (v:PV) (h:off+n≤row.length) (hv:v.cells.length=n) (hc:v.cells.all PV.cell=true):yW n (st2 a (.arr [row] g false) T) (.mp 1 0 off) v=some (st2 a (.arr [kq row off v.cells] g false) T):=by
 simp only[st2,qj,Ww];simp[h,hv,hc]
theorem zGi {ti:TI} (a:Obj) (row:List PV) (g:Option (Option Nat)) (T:zB) (off:Nat) (v:PV) (hk:ti.known=true) (h:off+ti.size≤row.length) (hv:v.cells.length=ti.size) (hc:v.cells.all PV.cell=true):zY ti (st2 a (.arr [row] g false) T) (.mp 1 0 off) v=some {v:=.skip,S:=st2 a (.arr [kq row off v.cells] g false) T} := by
 rw[Vo,bA hk,zCB _ _ _ _ _ _ _ h hv hc];rfl
theorem zGj {ti:TI} (a b:Obj) (T:zB) (r:List PV) (v:PV) (hk:ti.known=true) (hs:ti.size=r.length) (hv:v.cells.length=r.length) (hc:v.cells.all PV.cell=true) (U:zB):zY ti (st2 a b (T ++ .arr [r] none false::U)) (.mp (T.length+2) 0 0) v=some {v:=.skip,S:=st2 a b (T ++ .arr [v.cells] none false::U)} := by
 have key : ∀T:zB,yW ti.size (T ++ .arr [r] none false::U) (.mp T.length 0 0) v=some (T ++ .arr [v.cells] none false::U):=by
  intro T
  induction T with
  | nil =>
   rw[pG,hs];simp[Ww,hv,hc,zAE]
  | cons o T ih =>
   rw[sB,bL,qj,ih];rfl
 rw[Vo,bA hk];have:yW ti.size (st2 a b (T ++ .arr [r] none false::U)) (.mp (T.length+2) 0 0) v=(some (st2 a b (T ++ .arr [v.cells] none false::U))):=by
  show yW ti.size (_::_::(T ++ .arr [r] none false::U)) (.mp (T.length+1+1) 0 0) v=_
  rw[qj,qj,key];rfl
 rw[this];rfl
theorem JW (a b:Obj) (T:zB) (n:Node):zY (tyi Tryz.prog 30) (st2 a b (T++[.arr [[.int .i64 0,.str ⟨#[]⟩,.bool false,.sl [] true,.sl [] true,.sl [] true]] none false])) (.mp (T.length+2) 0 0) (.agg n.cells)=some {v:=.skip,S:=st2 a b (T++[.arr [n.cells] none false])} :=
 zGj a b T [.int .i64 0,.str ⟨#[]⟩,.bool false,.sl [] true,.sl [] true,.sl [] true] (.agg n.cells) jT ZT (Node.cells_length n) (Node.cells_cell n) []
theorem zL6 {a b:Obj} {T G:zB} (h:kG (st2 a b T)) {e:Env} (he:vo (T.length+2) e=true):Vs.gc (T.length+2) e (st2 a b (T++G))=st2 a b T:=h.gc rfl he
theorem VT {a b:Obj} {T:zB} (e:Env):Vs.gc (T.length+2) e (st2 a b T)=st2 a b T:=Kf (bF _)
abbrev wSt (ra:List (List PV)) (left:Int) (T:zB):zB:=st2 (.arr ra none false) (.arr [[.int .i64 left]] none false) T
theorem UE (ra:List (List PV)) (left x:Int) (T:zB):zY (tyi Tryz.prog 3) (st2 (.arr ra none false) (.arr [[.int .i64 left]] none false) T) (.mp 1 0 0) (.int .i64 x)=some {v:=.skip,S:=st2 (.arr ra none false) (.arr [[.int .i64 x]] none false) T} :=
 zGi _ [.int .i64 left] none T 0 (.int .i64 x) Kz (by rw[zLI];exact bF _) (by rw[zLI];rfl) rfl
theorem zET (left lv:Int):Node.withins [] left lv=(true,left):=rfl
theorem qB (v:PV) (r:List PV):part (tyi Tryz.prog 3) (v::r)=some v:=by
 have e:(tyi Tryz.prog 3).isAgg=false:=by kernel_rfl
 simp[part,Kz,e]
section
attribute [local irreducible] Vs.callL Vs.callRL tyi zO zn zg zR zY za zI zZ zA zK ze zX zG zJ zW zr yJ zq zL zf Vs.gc zH
noncomputable def zOZ:FX:=⟨Tryz.f76,zD.of 76,[]⟩
instance ok76_:zOZ.ok 76:=FX.mk'
theorem zEU (n:Node) (hn:n.ok) (lv:Int) (hlv:0≤lv∧lv≤1000) (b:Nat) (ra:List (List PV)) (hr:zV ra=[]) (T:zB) (hT:kG T)
  (ih : ∀k∈n.kids,∀(left:Int),(0≤left∧left≤100000)→∀T:zB,kG T→∃G,callRL Tryz.prog zD 76 [.agg k.cells,.mp 1 0 0,.int .i64 lv] (wSt ra left T)=some (.bool (k.within left lv).1,wSt ra (k.within left lv).2 (T++G))) :
  ∀(m i:Nat),i+m=n.kids.length→∀(left:Int),(0≤left∧left≤100000) →
   ∃G,zU b zOZ 0 244 (T.length+2) [.blk 0,.seq 0 31] [(1,.mp 1 0 0),(2,.int .i64 (lv+1)),(23,.sl (Node.rows n.kids) false),(24,.int .i64 n.kids.length),(25,.int .i64 i)] (wSt ra left T) =
    some (.bool (Node.withins (n.kids.drop i) left lv).1,wSt ra (Node.withins (n.kids.drop i) left lv).2 (T++G)):=by
 have c1:1<T.length+2:=by omega
 intro m
 induction m with
 | zero =>
  intro i hi left hleft;have h1 : ¬(i:Int)<(n.kids.length:Int):=by omega
  rw[bU (by omega),zET];refine⟨[],?_⟩;rw[pX];apply zC;(repeat((conv=>lhs;whnf);simp only[go_sem,simprocAttr,h1,VT]));apply zN;((repeat((conv=>lhs;whnf);simp only[go_sem,simprocAttr]));try rfl)
 | succ m hm =>
  intro i hi left hleft;have h1:(i:Int)<(n.kids.length:Int):=by omega
  have h2:=zi (i:=i) (n:=n.kids.length) (by omega) hn.len;have h3:IntKind.i64.wrap (lv+1-1)=lv:=by rw[bE];omega
  have h4:0≤(i:Int)∧(i:Int)<(n.kids.length:Int):=⟨by omega,h1⟩;have hT':kG (T++[.arr [(n.kids.getD i nd0).cells] none false]):=hT.app (.cons (yZ _) .nil);have hgc:=fun left G e he=>zL6 (a:=.arr ra none false) (b:=.arr [[.int .i64 left]] none false) (T:=T) (G:=G) (VQ hr rfl hT) (e:=e) he;obtain⟨G,hG⟩:=ih _ (yA (l:=n.kids) (i:=i) (by omega)) left hleft _ hT';have hc:=wL (by kernel_rfl) hG (by rw[qL,qL];simp) (VQ hr rfl hT').closed (by simp[wj,yR,yy,jN,Node.refs,vc,jM,qL]);rw[pB]at hc;have hrange:=Y3 (n.kids.getD i nd0) left lv hleft.1;rw[zBf (by omega)]
  cases hok:((n.kids.getD i nd0).within left lv).1 with
  | true =>
   rw[hok]at hc;obtain⟨G',hG'⟩:=hm (i+1) (by omega) ((n.kids.getD i nd0).within left lv).2 ⟨hrange.2.2 hok,by omega⟩;refine⟨G',?_⟩;rw[bA rfl];apply zC;(repeat((conv=>lhs;whnf);simp only[go_sem,simprocAttr,h1,h2,h3,h4,hc,VT,hgc,qL,VP,qS,JV,VS,JW,c1]));exact hG'
  | false =>
   rw[hok]at hc;refine⟨.arr [(n.kids.getD i nd0).cells] none false::G,?_⟩;rw[hZ (by simp)];apply zC;((repeat((conv=>lhs;whnf);simp only[go_sem,simprocAttr,h1,h2,h3,h4,hc,VT,hgc,qL,VP,qS,JV,VS,JW,c1]));try rfl)
theorem zEV : ∀n:Node,n.ok→∀(lv left:Int),(0≤lv∧lv≤1000)→(0≤left∧left≤100000)→∀(ra:List (List PV)),zV ra=[]→∀(T:zB),kG T →
  ∃G,callRL Tryz.prog zD 76 [.agg n.cells,.mp 1 0 0,.int .i64 lv] (wSt ra left T)=some (.bool (n.within left lv).1,wSt ra (n.within left lv).2 (T++G)):=by
 refine Node.ind' fun n ih hn lv left hlv hleft ra hr T hT=>?_;have hw:IntKind.i64.wrap (left-1)=left-1:=by rw[bE];omega
 have hT':kG (T++[.arr [n.cells] none false]):=hT.app (.cons (yZ _) .nil);rw[Node.within_eq];by_cases h1:left-1<0
 ·refine⟨[.arr [n.cells] none false],?_⟩;rw[bA (.inl h1)];refine FX.callRL ok76_ 1000 rfl rfl ?_;((repeat((conv=>lhs;whnf);simp only[go_sem,simprocAttr,hw,h1,qL,VP,VS,UE,qS,qB]));try rfl)
 by_cases h2:lv≤0
 ·refine⟨[.arr [n.cells] none false],?_⟩;rw[bA (.inr h2)];refine FX.callRL ok76_ 1000 rfl rfl ?_;((repeat((conv=>lhs;whnf);simp only[go_sem,simprocAttr,hw,h1,h2,qL,VP,VS,UE,qS,qB]));try rfl)
 ·obtain⟨G,hG⟩:=zEU n hn (lv-1) (by omega) (T.length+2) ra hr _ hT' (fun k hk left hl T hT=>ih k hk (hn.kids k hk) (lv-1) left (by omega) hl ra hr T hT) n.kids.length 0 (by omega) (left-1) (by omega);have e1:lv-1+1=lv:=by omega
  rw[e1,pB]at hG;simp only[bY]at hG;refine⟨.arr [n.cells] none false::G,?_⟩;rw[hZ (fun h=>h.elim h1 h2)];refine FX.callRL ok76_ 1000 rfl rfl ?_;(repeat((conv=>lhs;whnf);simp only[go_sem,simprocAttr,hw,h1,h2,qL,VP,VS,UE,qS,qB,JV,VT]));exact hG
end
end
section
theorem Ye:(tyi Tryz.prog 112).d=.struct [(0,1,false),(1,1,false),(2,1,false)]:=by kernel_rfl
@[go_sem] theorem zL7:(tyi Tryz.prog 112).size=3:=nr (by kernel_rfl)
@[go_sem] theorem zJY:(tyi Tryz.prog 112).known=true:=nr (by kernel_rfl)
@[go_sem] theorem zL8:(tyi Tryz.prog 112).zero=some [.bool false,.bool false,.bool false]:=nr (by kernel_rfl)
@[go_sem] theorem zSL (id i off:Nat):zA (tyi Tryz.prog 112) 0 (.mp id i off)=some (.mp id i (off+0)):=by simp[zA,Ye]
@[go_sem] theorem zSM (r:List PV):zA (tyi Tryz.prog 112) 0 (.cp r)=some (.cp (r.drop 0)):=by simp[zA,Ye]
@[go_sem] theorem zSN (cs:List PV):zK (tyi Tryz.prog 112) 0 (.agg cs)=cs[0]? := by simp[zK,Ye]
@[go_sem] theorem zSO (id i off:Nat):zA (tyi Tryz.prog 112) 1 (.mp id i off)=some (.mp id i (off+1)):=by simp[zA,Ye]
@[go_sem] theorem zSP (r:List PV):zA (tyi Tryz.prog 112) 1 (.cp r)=some (.cp (r.drop 1)):=by simp[zA,Ye]
@[go_sem] theorem zSQ (cs:List PV):zK (tyi Tryz.prog 112) 1 (.agg cs)=cs[1]? := by simp[zK,Ye]
@[go_sem] theorem zSR (id i off:Nat):zA (tyi Tryz.prog 112) 2 (.mp id i off)=some (.mp id i (off+2)):=by simp[zA,Ye]
@[go_sem] theorem zSS (r:List PV):zA (tyi Tryz.prog 112) 2 (.cp r)=some (.cp (r.drop 2)):=by simp[zA,Ye]
@[go_sem] theorem zST (cs:List PV):zK (tyi Tryz.prog 112) 2 (.agg cs)=cs[2]? := by simp[zK,Ye]
def yF (a b c:Bool):List PV:=[.bool a,.bool b,.bool c]
theorem UF (a b c:Bool):zh (.agg (yF a b c)):=⟨rfl,fun _=>rfl⟩
@[go_sem] theorem zSU (x y z:PV) (r:List PV):part (tyi Tryz.prog 112) (x::y::z::r)=some (.agg [x,y,z]):=by simp[part,zJY,TI.isAgg,Ye,zL7]
theorem X8 (S:zB) (L:List Int) (ex:Bool) (i:Int):zI Tryz.prog 59 S (.sl (zE .i64 L) ex) (.int .i64 i)=if 0≤i∧i<L.length then some (.cp [.int .i64 (L.getD i.toNat 0)]) else none:=ZR.idxk .i64 S L ex i
def f2 (n:Node) (a b c:Bool) (T:zB):zB:=st2 (.arr [n.cells] none false) (.arr [yF a b c] none false) T
theorem zNe (n:Node) (a b c:Bool) {T:zB} (hT:kG T):kG (f2 n a b c T):=VQ (yZ n) rfl hT
theorem XJ (n:Node) (a b c:Bool) (T:zB):(f2 n a b c T).length=T.length+2:=rfl
theorem XK (n:Node) (a b c:Bool) (T U:zB):f2 n a b c T++U=f2 n a b c (T++U):=rfl
theorem qY (n:Node) (a b c:Bool) (T:zB):zl (f2 n a b c T) 0=some [n.cells]:=rfl
theorem zGk (n:Node) (a b c:Bool) (T:zB):zl (f2 n a b c T) 1=some [[.bool a,.bool b,.bool c]]:=rfl
theorem ZV (n:Node) (a b c:Bool) (T U:zB):zl (f2 n a b c (T++U)) (T.length+2)=zl U 0:=ZU T U
theorem ZW (n:Node) (a b c:Bool) (T:zB) (k:Node):zY (tyi Tryz.prog 30) (f2 n a b c (T++[.arr [[.int .i64 0,.str ⟨#[]⟩,.bool false,.sl [] true,.sl [] true,.sl [] true]] none false])) (.mp (T.length+2) 0 0) (.agg k.cells)=some {v:=.skip,S:=f2 n a b c (T++[.arr [k.cells] none false])} := JW _ _ T k
theorem zSV {n:Node} {a b c:Bool} {T:zB} (hT:kG T) (G:zB) {e:Env} (he:vo (T.length+2) e=true):Vs.gc (T.length+2) e (f2 n a b c (T++G))=f2 n a b c T:=zL6 (zNe n a b c hT) he
theorem zCC (n:Node) (a b c:Bool) (T:zB) (e:Env):Vs.gc (T.length+2) e (f2 n a b c T)=f2 n a b c T:=VT e
theorem zEW (n:Node) (a b c:Bool):n.formed a b c=(uq n.op n.name n.neg n.num n.den&&n.rest a b c):=by rw[Node.formed_eq];rfl
section
attribute [local irreducible] Vs.callL Vs.callRL tyi zO zn zg zR zY za zI zZ zA zK ze zX zG zJ zW zr yJ zq zL zf Vs.gc zH
noncomputable def ZX:FX:=⟨Tryz.f78,zD.of 78,[]⟩
instance ok78_:ZX.ok 78:=FX.mk'
theorem zEX (n:Node) (a b c:Bool) (T:zB) (h2:n.op=8∨n.op=9→n.kids.length=2) :
  ∃S',yB 0 ZX 7 [.blk 7,.seq 0 255] [(2,.mp 0 0 0),(3,.undef),(6,.undef),(208,.undef),(209,.undef),(210,.undef),(211,.undef)] (f2 n a b c T)=some (.bool (xF n.op n.kids),S'):=by
 unfold xF;by_cases h8:n.op=8
 ·have h1:(n.kids.length:Int)=2:=by have:=h2 (.inl h8);omega
  rw[bA h8];generalize hk:n.kids.getD 1 nd0=k;apply Exists.intro;apply zN;by_cases e1:k.op=1
  ·by_cases e2:0<k.num.length
   ·have e2':0<(k.num.length:Int):=by omega
    rw[bH e1,bH e2,sH];((repeat((conv=>lhs;whnf);simp only[go_sem,simprocAttr,qY,h8,h1,hk,e1,e2']));try rfl)
   ·have e2' : ¬ 0<(k.num.length:Int):=by omega
    rw[bH e1,bI e2,bQ];((repeat((conv=>lhs;whnf);simp only[go_sem,simprocAttr,qY,h8,h1,hk,e1,e2']));try rfl)
  ·rw[bI e1,bB];((repeat((conv=>lhs;whnf);simp only[go_sem,simprocAttr,qY,h8,h1,hk,e1]));try rfl)
 by_cases h9:n.op=9
 ·have h1:(n.kids.length:Int)=2:=by have:=h2 (.inr h9);omega
  rw[hZ h8,bA h9];generalize hk:n.kids.getD 1 nd0=k;generalize hw:k.num.getD 0 0=w;apply Exists.intro;apply zN;by_cases e1:k.op=1
  ·rw[bH e1,bC];by_cases e2:k.num.length=0
   ·have e2':(k.num.length:Int)=0:=by omega
    rw[bH e2,pI];((repeat((conv=>lhs;whnf);simp only[go_sem,simprocAttr,qY,h8,h9,h1,hk,e1,e2,e2',XJ,XK,ZW,ZV]));try rfl)
   ·have e2' : ¬(k.num.length:Int)=0:=by omega
    rw[bI e2,bX];by_cases e3:k.num.length=1
    ·have e3':(k.num.length:Int)=1:=by omega
     rw[bH e3,bC];by_cases e5:w≤20
     ·rw[bH e5];((repeat((conv=>lhs;whnf);simp only[go_sem,simprocAttr,qY,h8,h9,h1,hk,e1,e2,e2',e3,e3',hw,e5,XJ,XK,ZW,ZV]));try rfl)
     ·rw[bI e5];((repeat((conv=>lhs;whnf);simp only[go_sem,simprocAttr,qY,h8,h9,h1,hk,e1,e2,e2',e3,e3',hw,e5,XJ,XK,ZW,ZV]));try rfl)
    ·have e3' : ¬(k.num.length:Int)=1:=by omega
     rw[bI e3,bB];((repeat((conv=>lhs;whnf);simp only[go_sem,simprocAttr,qY,h8,h9,h1,hk,e1,e2,e2',e3,e3',XJ,XK,ZW,ZV]));try rfl)
  ·rw[bI e1,bB];((repeat((conv=>lhs;whnf);simp only[go_sem,simprocAttr,qY,h8,h9,h1,hk,e1,XJ,XK,ZW,ZV]));try rfl)
 ·rw[hZ h8,hZ h9];apply Exists.intro;apply zN;((repeat((conv=>lhs;whnf);simp only[go_sem,simprocAttr,qY,h8,h9]));try rfl)
theorem JX {k:Node} {a b c v:Bool} (S:zB) (h:callL Tryz.prog zD 78 [.agg k.cells,.agg (yF a b c)]=some (.bool v)):zO (callL Tryz.prog zD) S 78 [.agg k.cells,.agg [.bool a,.bool b,.bool c]]=some {v:=.bool v} := zF h (by simp[Node.plain];exact UF a b c)
theorem zEY (n:Node) (hn:n.ok) (a b c:Bool) (s:List Int) (hs:s.length=n.kids.length) (e:Bool) (he:e=false∨s=[]) (h2:n.op=8∨n.op=9→n.kids.length=2)
  (ih : ∀k∈n.kids,callL Tryz.prog zD 78 [.agg k.cells,.agg (yF a b c)]=some (.bool (k.formed a b c))) (T:zB) (hT:kG T) :
  ∀(m i:Nat),i+m=n.kids.length→∃S',zU 0 ZX 7 2036 (T.length+2) [.blk 7,.seq 0 255] [(2,.mp 0 0 0),(3,.mp 1 0 0),(6,.sl (zE .i64 s) e),(208,.sl (Node.rows n.kids) false),(209,.int .i64 n.kids.length),(210,.int .i64 i)] (f2 n a b c T) =
   some (.bool (Node.formeds (n.kids.drop i) (s.drop i) a b c&&xF n.op n.kids),S'):=by
 have d0:0<T.length+2:=by omega
 have d1:1<T.length+2:=by omega
 have hz : ∀S,vI S (.sl (zE .i64 s) e)=some (.sl (zE .i64 s) e):=fun S=>by
  rcases he with rfl | rfl
  ·simp only[go_sem]
  ·cases e <;> simp only[yE,go_sem]
 intro m
 induction m with
 | zero =>
  intro i hi;have h1 : ¬(i:Int)<(n.kids.length:Int):=by omega
  obtain⟨S',hS'⟩:=zEX n a b c T h2;rw[bU (by omega)];refine⟨S',?_⟩;apply zC;unfold Node.formeds;rw[bC];(repeat((conv=>lhs;whnf);simp only[go_sem,simprocAttr,h1,zCC,hz]));exact hS'
 | succ m hm =>
  intro i hi;have h1:(i:Int)<(n.kids.length:Int):=by omega
  have h1':(i:Int)<(s.length:Int):=by omega
  have h4:(0:Int)≤(i:Int):=by omega
  have h3:=zi (i:=i) (n:=n.kids.length) (by omega) hn.len;have h5:=fun S=>JX S (ih _ (yA (l:=n.kids) (i:=i) (by omega)));have hgc:=fun G e he=>zSV (n:=n) (a:=a) (b:=b) (c:=c) hT G (e:=e) he;rw[zBh (by omega)];obtain⟨S',h6⟩:=hm (i+1) (by omega);by_cases c1:zv (n.kids.getD i nd0).op=s.getD i 0
  ·cases c2:(n.kids.getD i nd0).formed a b c with
   | true =>
    rw[c2]at h5;rw[bH c1,bC,bC];refine⟨S',?_⟩;apply zC;(repeat((conv=>lhs;whnf);simp only[go_sem,simprocAttr,h1,h1',h3,h4,zCC,hgc,hz,XJ,XK,ZW,ZV,zGk,qY,UD,c1,X8,bD,h5,d0,d1]));exact h6
   | false =>
    rw[c2]at h5;rw[bH c1,bB,bQ,bB];apply Exists.intro;apply zC;((repeat((conv=>lhs;whnf);simp only[go_sem,simprocAttr,h1,h1',h3,h4,zCC,hgc,hz,XJ,XK,ZW,ZV,zGk,qY,UD,c1,X8,bD,h5,d0,d1]));try rfl)
  ·rw[bI c1,bB,bB];apply Exists.intro;apply zC;((repeat((conv=>lhs;whnf);simp only[go_sem,simprocAttr,h1,h1',h3,h4,zCC,hgc,hz,XJ,XK,ZW,ZV,zGk,qY,UD,c1,X8,bD,d0,d1]));try rfl)
end
end
section
def zCD (L:List Bd) (i:Nat):Bool :=
 Yd (L.getD i bd0).name&&(decide (i=0)||Op.bytesLess (L.getD (i-1) bd0).name.toList (L.getD i bd0).name.toList)&&decide ((L.getD i bd0).val.num.length≠0)&&(L.getD i bd0).val.fit
def ZY (L:List Bd):Nat→Nat→Bool
 | 0,_=>true
 | m+1,i=>zCD L i&&ZY L m (i+1)
def Yk (L:List Bd):Bool:=decide (L.length≤40)&&ZY L L.length 0
def WZ (L:List Bd):Prop:=∀b∈L,b.ok
theorem WZ.at {L:List Bd} (h:WZ L) {i:Nat} (hi:i<L.length):(L.getD i bd0).ok:=by
 rw[bM,pR hi];exact h _ (PO hi)
section
attribute [local irreducible] Vs.callL Vs.callRL tyi zO zn zg zR zY za zI zZ zA zK ze zX zG zJ zW zr yJ zq zL zf Vs.gc zH
noncomputable def zO0:FX:=⟨Tryz.f24,zD.of 24,[]⟩
instance ok24_:zO0.ok 24:=FX.mk'
theorem zGl (L:List Bd) (hL:WZ L) (hl:L.length≤40) : ∀(m i:Nat),i+m=L.length→∃S',zU 0 zO0 0 116 0 [.blk 0,.seq 0 15] [(0,.sl (yC L) false),(8,.sl (yC L) false),(9,.int .i64 L.length),(10,.int .i64 i)] []=some (.bool (ZY L m i),S'):=by
 intro m
 induction m with
 | zero =>
  intro i hi;have h1 : ¬(i:Int)<(L.length:Int):=by omega
  apply Exists.intro;apply zC;simp only[ZY];(repeat((conv=>lhs;whnf);simp only[go_sem,simprocAttr,h1]));apply zN;((repeat((conv=>lhs;whnf);simp only[go_sem,simprocAttr]));try rfl)
 | succ m ih =>
  intro i hi;have h1:(i:Int)<(L.length:Int):=by omega
  have h2:=zi (i:=i) (n:=L.length) (by omega) (by unfold maxLen;omega);have x1:0≤(i:Int)∧(i:Int)<(L.length:Int):=⟨by omega,h1⟩;obtain⟨S',key⟩:=ih (i+1) (by omega);have hb:=hL.at (i:=i) (by omega);have hp:=hL.at (i:=i-1) (by omega);simp only[ZY,zCD];generalize hB:L.getD i bd0=B at hb ⊢;generalize hP:L.getD (i-1) bd0=Q at hp ⊢;obtain⟨nm,v⟩:=B;have cv:=fun S=>zRu S nm hb.s;have cf:=fun S=>zPe S v hb.v;unfold RV.cells at cf
  cases k1:Yd nm
  ·rw[k1]at cv;simp only[bB];apply Exists.intro;apply zC;((repeat((conv=>lhs;whnf);simp only[go_sem,simprocAttr,h1,x1,bD,hB,Bd.cells,cv]));try rfl)
  ·rw[k1]at cv;simp only[bC];by_cases c0:i=0
   ·have c0' : ¬(0:Int)<(i:Int):=by omega
    simp only[c0,decide_true,pI,bC];simp only[c0,AB]at *;by_cases c1:v.num.length=0
    ·have c1':(v.num.length:Int)=0:=by omega
     simp only[c1,ne_eq,not_true,decide_false,bB];apply Exists.intro;apply zC;((repeat((conv=>lhs;whnf);simp only[go_sem,simprocAttr,h1,x1,sI,hB,Bd.cells,cv,c0',c1']));try rfl)
    ·have c1' : ¬(v.num.length:Int)=0:=by omega
     simp only[c1,ne_eq,not_false_eq_true,decide_true,bC]
     cases k2:v.fit
     ·rw[k2]at cf;simp only[bB];apply Exists.intro;apply zC;((repeat((conv=>lhs;whnf);simp only[go_sem,simprocAttr,h1,x1,sI,hB,Bd.cells,cv,c0',c1',cf]));try rfl)
     ·rw[k2]at cf;simp only[bC];apply Exists.intro;apply zC;(repeat((conv=>lhs;whnf);simp only[go_sem,simprocAttr,h1,x1,sI,hB,Bd.cells,cv,c0',c1',cf,h2]));exact key
   ·have c0':(0:Int)<(i:Int):=by omega
    have w1:IntKind.i64.wrap ((i:Int)-1)=((i-1:Nat):Int):=by rw[bE];omega
    have x2:0≤((i-1:Nat):Int)∧((i-1:Nat):Int)<(L.length:Int):=⟨by omega,by omega⟩;simp only[c0,decide_false,bX]
    cases k3:Op.bytesLess Q.name.toList nm.toList
    ·simp only[bB];apply Exists.intro;apply zC;((repeat((conv=>lhs;whnf);simp only[go_sem,simprocAttr,h1,x1,bD,hB,hP,Bd.cells,cv,c0',w1,x2,k3]));try rfl)
    ·simp only[bC];by_cases c1:v.num.length=0
     ·have c1':(v.num.length:Int)=0:=by omega
      simp only[c1,ne_eq,not_true,decide_false,bB];apply Exists.intro;apply zC;((repeat((conv=>lhs;whnf);simp only[go_sem,simprocAttr,h1,x1,bD,hB,hP,Bd.cells,cv,c0',w1,x2,k3,c1']));try rfl)
     ·have c1' : ¬(v.num.length:Int)=0:=by omega
      simp only[c1,ne_eq,not_false_eq_true,decide_true,bC]
      cases k2:v.fit
      ·rw[k2]at cf;simp only[bB];apply Exists.intro;apply zC;((repeat((conv=>lhs;whnf);simp only[go_sem,simprocAttr,h1,x1,bD,hB,hP,Bd.cells,cv,c0',w1,x2,k3,c1',cf]));try rfl)
      ·rw[k2]at cf;simp only[bC];apply Exists.intro;apply zC;(repeat((conv=>lhs;whnf);simp only[go_sem,simprocAttr,h1,x1,bD,hB,hP,Bd.cells,cv,c0',w1,x2,k3,c1',cf,h2]));exact key
theorem zCE (L:List Bd) (hL:WZ L) (hl:L.length≤maxLen):callL Tryz.prog zD 24 [.sl (yC L) false]=some (.bool (Yk L)):=by
 unfold Yk;by_cases h:L.length≤40
 ·have h' : ¬(40:Int)<(L.length:Int):=by omega
  obtain⟨S',key⟩:=zGl L hL h L.length 0 (by omega);simp only[h,decide_true,bC];refine FX.callL (r:=(.bool (ZY L L.length 0),S')) ok24_ 1000 rfl rfl ?_ rfl;(repeat((conv=>lhs;whnf);simp only[go_sem,simprocAttr,h']));exact key
 ·have h':(40:Int)<(L.length:Int):=by omega
  simp only[h,decide_false,bB];refine FX.callL (r:=(.bool false,[])) ok24_ 1000 rfl rfl ?_ rfl;((repeat((conv=>lhs;whnf);simp only[go_sem,simprocAttr,h']));try rfl)
end
end
section
section
attribute [local irreducible] Vs.callL Vs.callRL tyi zO zn zg zR zY za zI zZ zA zK ze zX zG zJ zW zr yJ zq zL zf Vs.gc zH
noncomputable def zO1:FX:=⟨Tryz.f25,zD.of 25,[]⟩
instance ok25_:zO1.ok 25:=FX.mk'
theorem zCF (L:List Bd) (hL:WZ L) (hl:L.length≤40) : ∀(m i:Nat),i+m=L.length→zU 0 zO1 0 116 0 [.blk 0,.seq 0 15] [(0,.sl (yC L) false),(3,.int .i64 i)] []=some (.bool (ZY L m i),[]):=by
 intro m
 induction m with
 | zero =>
  intro i hi;have h1 : ¬(i:Int)<(L.length:Int):=by omega
  apply zC;simp only[ZY];(repeat((conv=>lhs;whnf);simp only[go_sem,simprocAttr,h1]));apply zN;((repeat((conv=>lhs;whnf);simp only[go_sem,simprocAttr]));try rfl)
 | succ m ih =>
  intro i hi;have h1:(i:Int)<(L.length:Int):=by omega
  have h2:=zi (i:=i) (n:=L.length) (by omega) (by unfold maxLen;omega);have x1:0≤(i:Int)∧(i:Int)<(L.length:Int):=⟨by omega,h1⟩;have key:=ih (i+1) (by omega);have hb:=hL.at (i:=i) (by omega);have hp:=hL.at (i:=i-1) (by omega);apply zC;simp only[ZY,zCD];generalize hB:L.getD i bd0=B at hb ⊢;generalize hP:L.getD (i-1) bd0=Q at hp ⊢;obtain⟨nm,v⟩:=B;have cv:=fun S=>zRv S nm hb.s;have cf:=fun S=>zJQ S v hb.v;unfold RV.cells at cf
  cases k1:Yd nm
  ·rw[k1]at cv;simp only[bB];((repeat((conv=>lhs;whnf);simp only[go_sem,simprocAttr,h1,x1,bD,hB,Bd.cells,cv]));try rfl)
  ·rw[k1]at cv;simp only[bC]
   cases k2:v.fit
   ·rw[k2]at cf;simp only[bQ,bB];((repeat((conv=>lhs;whnf);simp only[go_sem,simprocAttr,h1,x1,bD,hB,Bd.cells,cv,cf]));try rfl)
   ·rw[k2]at cf;simp only[pD];by_cases c1:v.num.length=0
    ·have c1':(v.num.length:Int)=0:=by omega
     simp only[c1,ne_eq,not_true,decide_false,bQ,bB];((repeat((conv=>lhs;whnf);simp only[go_sem,simprocAttr,h1,x1,bD,hB,Bd.cells,cv,cf,c1']));try rfl)
    ·have c1' : ¬(v.num.length:Int)=0:=by omega
     simp only[c1,ne_eq,not_false_eq_true,decide_true,pD];by_cases c0:i=0
     ·have c0' : ¬(0:Int)<(i:Int):=by omega
      simp only[c0,decide_true,pI,bC];simp only[c0,AB]at *;(repeat((conv=>lhs;whnf);simp only[go_sem,simprocAttr,h1,x1,sI,hB,Bd.cells,cv,cf,c1',c0',h2]));exact key
     ·have c0':(0:Int)<(i:Int):=by omega
      have w1:IntKind.i64.wrap ((i:Int)-1)=((i-1:Nat):Int):=by rw[bE];omega
      have x2:0≤((i-1:Nat):Int)∧((i-1:Nat):Int)<(L.length:Int):=⟨by omega,by omega⟩;simp only[c0,decide_false,bX]
      cases k3:Op.bytesLess Q.name.toList nm.toList
      ·simp only[bB];((repeat((conv=>lhs;whnf);simp only[go_sem,simprocAttr,h1,x1,bD,hB,hP,Bd.cells,cv,cf,c1',c0',w1,x2,k3]));try rfl)
      ·simp only[bC];(repeat((conv=>lhs;whnf);simp only[go_sem,simprocAttr,h1,x1,bD,hB,hP,Bd.cells,cv,cf,c1',c0',w1,x2,k3,h2]));exact key
theorem zCG (L:List Bd) (hL:WZ L) (hl:L.length≤maxLen):callL Tryz.prog zD 25 [.sl (yC L) false]=some (.bool (Yk L)):=by
 unfold Yk;refine FX.callL (r:=(.bool (decide (L.length≤40)&&ZY L L.length 0),[])) ok25_ 1000 rfl rfl ?_ rfl;by_cases h:L.length≤40
 ·have h' : ¬(40:Int)<(L.length:Int):=by omega
  have key:=zCF L hL h L.length 0 (by omega);simp only[h,decide_true,bC];(repeat((conv=>lhs;whnf);simp only[go_sem,simprocAttr,h']));exact key
 ·have h':(40:Int)<(L.length:Int):=by omega
  simp only[h,decide_false,bB];((repeat((conv=>lhs;whnf);simp only[go_sem,simprocAttr,h']));try rfl)
end
theorem Zy (L:List Bd):zh (.sl (yC L) false):=zh.sl _
theorem zJZ (S:zB) (L:List Bd) (hL:WZ L) (hl:L.length≤maxLen):zO (callL Tryz.prog zD) S 24 [.sl (yC L) false]=some {v:=.bool (Yk L)} := zF (zCE L hL hl) (by simp[Zy])
theorem X9 (S:zB) (L:List Bd) (hL:WZ L) (hl:L.length≤maxLen):zO (callL Tryz.prog zD) S 25 [.sl (yC L) false]=some {v:=.bool (Yk L)} := zF (zCG L hL hl) (by simp[Zy])
end
section
@[go_sem] theorem zO2 (S:zB) (k:IntKind) (n:Int):zL Tryz.prog 143 3 S (.int k n)=some (.int .i64 (IntKind.i64.wrap n)):=by
 simp[zL,show (tyi Tryz.prog 143).known=true by kernel_rfl,xN,show (tyi Tryz.prog 3).d=.int .i64 by kernel_rfl]
theorem Zz {S:zB} {f:FuncId} {a b xs:List PV} : zg Tryz.prog zD S (.fn f a b) xs=zn Tryz.prog zD S f (a++xs++b):=rfl
def zPk (x:PV) (nm:ByteArray) (f:PV) (n:Nat) (p:Nat→Bool):Prop:=∀i:Nat,i<n→zg Tryz.prog zD [.arr [[x]] none false,.arr [[.str nm]] none false] f [.int .i64 i]=some {v:=.bool (p i),S:=[.arr [[x]] none false,.arr [[.str nm]] none false]}
def zIK (n:Nat) (p:Nat→Bool) (r:Nat):Prop:=r≤n∧(∀k,k<r→p k=false)∧∀k,r≤k→k<n→p k=true
section
attribute [local irreducible] Vs.callL Vs.callRL tyi zO zn zg zR zY za zI zZ zA zK ze zX zG zJ zW zr yJ zq zL zf Vs.gc zH
noncomputable def zL9:FX:=⟨Tryz.f82,zD.of 82,[]⟩
instance ok82_:zL9.ok 82:=FX.mk'
theorem zEZ (x:PV) (nm:ByteArray) (f:PV) {n:Nat} {p:Nat→Bool} (hf:zPk x nm f n p) (hn:n≤1000000000) {r:Nat} (hr:zIK n p r) : ∀(m i j:Nat),j-i≤m→i≤r→r≤j→j≤n→zU 2 zL9 0 56 2 [.blk 0,.seq 0 15] [(1,f),(5,.int .i64 i),(6,.int .i64 j)] [.arr [[x]] none false,.arr [[.str nm]] none false]=some (.int .i64 r,[.arr [[x]] none false,.arr [[.str nm]] none false]):=by
 intro m
 induction m with
 | zero =>
  intro i j h1 h2 h3 h4;have e:i=r:=by omega
  have c : ¬(i:Int)<(j:Int):=by omega
  apply zC;(repeat((conv=>lhs;whnf);simp only[go_sem,simprocAttr,c]));apply zN;subst e;((repeat((conv=>lhs;whnf);simp only[go_sem,simprocAttr]));try rfl)
 | succ m ih =>
  intro i j h1 h2 h3 h4;by_cases c:i<j
  ·have c':(i:Int)<(j:Int):=by omega
   have w1:IntKind.i64.wrap ((i:Int)+j)=((i+j:Nat):Int):=by rw[bE];omega
   have w2:IntKind.u64.wrap ((i+j:Nat):Int)=((i+j:Nat):Int):=by rw[xL];omega
   have w3:((((i+j:Nat):Int)).fdiv (2^min 1 64))=(((i+j) / 2:Nat):Int):=by
    show (((i+j:Nat):Int)).fdiv 2=_
    rw[PB _ (by omega)];omega
   have w4:IntKind.i64.wrap ((((i+j) / 2:Nat)):Int)=(((i+j) / 2:Nat):Int):=by rw[bE];omega
   have ask:=hf ((i+j) / 2) (by omega);have zG2 : ¬(1:Int)<0:=by omega
   apply zC
   cases hp:p ((i+j) / 2)
   ·have lo:(i+j) / 2+1≤r:=by
     rcases BH ((i+j) / 2) r with h | h
     ·exact h
     ·rw[hr.2.2 _ h (by omega)]at hp;cases hp
    have w5:IntKind.i64.wrap ((((i+j) / 2:Nat):Int)+1)=(((i+j) / 2+1:Nat):Int):=by rw[bE];omega
    have key:=ih ((i+j) / 2+1) j (by omega) lo h3 h4;rw[hp]at ask;(repeat((conv=>lhs;whnf);simp only[go_sem,simprocAttr,c',w1,w2,w3,w4,w5,ask,zG2]));exact key
   ·have hi:r≤(i+j) / 2:=by
     rcases BH ((i+j) / 2) r with h | h
     ·rw[hr.2.1 _ h]at hp;cases hp
     ·exact h
    have key:=ih i ((i+j) / 2) (by omega) h2 hi (by omega);rw[hp]at ask;(repeat((conv=>lhs;whnf);simp only[go_sem,simprocAttr,c',w1,w2,w3,w4,ask,zG2]));exact key
  ·have e:i=r:=by omega
   have c' : ¬(i:Int)<(j:Int):=by omega
   apply zC;(repeat((conv=>lhs;whnf);simp only[go_sem,simprocAttr,c']));apply zN;subst e;((repeat((conv=>lhs;whnf);simp only[go_sem,simprocAttr]));try rfl)
theorem zE0 (x:PV) (nm:ByteArray) (f:PV) {n:Nat} {p:Nat→Bool} (hf:zPk x nm f n p) (hn:n≤1000000000) {r:Nat} (hr:zIK n p r):callRL Tryz.prog zD 82 [.int .i64 n,f] [.arr [[x]] none false,.arr [[.str nm]] none false]=some (.int .i64 r,[.arr [[x]] none false,.arr [[.str nm]] none false]):=by
 refine FX.callRL (r:=(.int .i64 r,[.arr [[x]] none false,.arr [[.str nm]] none false])) ok82_ 1000 rfl rfl ?_;have key:=zEZ x nm f hf hn hr n 0 n (by omega) (by omega) hr.1 (bF _);(repeat((conv=>lhs;whnf);simp only[go_sem,simprocAttr]));exact key
end
end
section
def jW (L:List Bd) (nm:ByteArray) (k:Nat):Bool := !(Op.bytesLess (L.getD k bd0).name.toList nm.toList)
section
attribute [local irreducible] Vs.callL Vs.callRL tyi zO zn zg zR zY za zI zZ zA zK ze zX zG zJ zW zr yJ zq zL zf Vs.gc zH
noncomputable def zPl:FX:=⟨Tryz.f110,zD.of 110,[]⟩
instance ok110_:zPl.ok 110:=FX.mk'
theorem zGm (L:List Bd) (nm:ByteArray) (i:Nat) (hi:i<L.length):callRL Tryz.prog zD 110 [.int .i64 i,.mp 0 0 0,.mp 1 0 0] [.arr [[.sl (yC L) false]] none false,.arr [[.str nm]] none false]=some (.bool (jW L nm i),[.arr [[.sl (yC L) false]] none false,.arr [[.str nm]] none false]):=by
 refine FX.callRL (r:=(.bool (jW L nm i),[.arr [[.sl (yC L) false]] none false,.arr [[.str nm]] none false])) ok110_ 1000 rfl rfl ?_;have x1:0≤(i:Int)∧(i:Int)<(L.length:Int):=⟨by omega,by omega⟩;unfold jW;((repeat((conv=>lhs;whnf);simp only[go_sem,simprocAttr,x1,bD,Bd.cells]));try rfl)
theorem zJ0 (L:List Bd) (nm:ByteArray):zPk (.sl (yC L) false) nm (.fn 110 [] [.mp 0 0 0,.mp 1 0 0]) L.length (jW L nm):=fun i hi=>by
 have h:=wL (by kernel_rfl) (zGm L nm i hi) (by simp);rw[Zz];exact h
noncomputable def zSW:FX:=⟨Tryz.f62,zD.of 62,[]⟩
instance ok62_:zSW.ok 62:=FX.mk'
theorem zJ1 (L:List Bd) (nm:ByteArray) (hl:L.length≤1000000) {r:Nat} (hr:zIK L.length (jW L nm) r):callL Tryz.prog zD 62 [.sl (yC L) false,.str nm]=some (.tup [.int .i64 r,.bool (decide (r<L.length)&&((L.getD r bd0).name.toList == nm.toList))]):=by
 have co:=wL (by kernel_rfl) (zE0 _ nm _ (zJ0 L nm) (by omega) hr) (by simp);refine FX.callL (r:=(.tup [.int .i64 r,.bool (decide (r<L.length)&&((L.getD r bd0).name.toList == nm.toList))],[.arr [[.sl (yC L) false]] none false,.arr [[.str nm]] none false])) ok62_ 1000 rfl rfl ?_ rfl;by_cases c:r<L.length
 ·have c':(r:Int)<(L.length:Int):=by omega
  have x1:0≤(r:Int)∧(r:Int)<(L.length:Int):=⟨by omega,by omega⟩;simp only[c,decide_true,bC];((repeat((conv=>lhs;whnf);simp only[go_sem,simprocAttr,co,c',x1,bD,Bd.cells]));try rfl)
 ·have c' : ¬(r:Int)<(L.length:Int):=by omega
  simp only[c,decide_false,bB];((repeat((conv=>lhs;whnf);simp only[go_sem,simprocAttr,co,c']));try rfl)
end
end
theorem YA : ∀a,Op.bytesLess a a=false
 | []=>rfl
 | a::r=>by simp[Op.bytesLess,YA r]
theorem Yf : ∀a b,a≠b→(Op.bytesLess b a = !Op.bytesLess a b)
 | [],[],h=>absurd rfl h
 | [],_::_,_=>rfl
 | _::_,[],_=>rfl
 | a::x,b::y,h=>by
  simp only[Op.bytesLess];by_cases hab:a=b
  ·subst hab;have:x≠y:=fun e=>h (by rw[e]);simp[Yf x y this]
  ·have h1:(a == b)=false:=by simpa using hab
   have h2:(b == a)=false:=by simpa using fun e:b=a=>hab e.symm
   have h3:a.toNat≠b.toNat:=fun e=>hab (UInt8.toNat.inj e);simp only[h1,h2,bB,pJ,UInt8.lt_iff_toNat_lt];by_cases h4:a.toNat<b.toNat <;> simp[h4] <;> omega
theorem Yg : ∀a b c,Op.bytesLess a b=true→Op.bytesLess b c=true→Op.bytesLess a c=true
 | _,[],_,h,_=>by simp[Op.bytesLess]at h
 | _,_::_,[],_,h=>by simp[Op.bytesLess]at h
 | [],_::_,_::_,_,_=>rfl
 | a::x,b::y,c::z,h,k=>by
  simp only[Op.bytesLess,HD,bP,beq_iff_eq,bR,UInt8.lt_iff_toNat_lt]at h k ⊢
  rcases h with h | ⟨rfl,h⟩
  ·rcases k with k | ⟨rfl,k⟩
   ·left;omega
   ·left;exact h
  ·rcases k with k | ⟨rfl,k⟩
   ·left;exact k
   ·right;exact⟨rfl,Yg x y z h k⟩
def before (a b:ByteArray):Prop:=Op.bytesLess a.toList b.toList=true
theorem before.trans {a b c:ByteArray} (h:before a b) (k:before b c):before a c:=Yg _ _ _ h k
theorem before.ne {a b:ByteArray} (h:before a b):a.toList≠b.toList:=fun e=>by
 unfold before at h;rw[e,YA]at h;cases h
theorem zJ2 (a b:ByteArray):before a b∨a.toList=b.toList∨before b a:=by
 by_cases h:a.toList=b.toList
 ·exact .inr (.inl h)
 ·have:=Yf _ _ h;unfold before
  cases k:Op.bytesLess a.toList b.toList
  ·right;right;rw[this,k];rfl
  ·left;rfl
theorem JY {a b:ByteArray} : Op.bytesLess a.toList b.toList=false↔a.toList=b.toList∨before b a:=by
 constructor
 ·intro h
  rcases zJ2 a b with k | k | k
  ·unfold before at k;rw[h]at k;cases k
  ·exact .inl k
  ·exact .inr k
 ·intro h
  cases k:Op.bytesLess a.toList b.toList
  ·rfl
  ·rcases h with h | h
   ·exact absurd h (before.ne k)
   ·exact absurd rfl (before.ne (before.trans k h))
def W0 (L:List Bd):Prop:=L.Pairwise fun a b=>before a.name b.name
theorem zE1 {L:List Bd} : ∀ {m i:Nat},ZY L m i=true→∀j,i≤j→j<i+m→zCD L j=true
 | 0,i,_,j,h1,h2=>by omega
 | m+1,i,h,j,h1,h2=>by
  simp only[ZY,bP]at h
  rcases Nat.eq_or_lt_of_le h1 with rfl | h3
  ·exact h.1
  ·exact zE1 h.2 j h3 (by omega)
theorem zE2 {L:List Bd} : ∀ {m i:Nat},(∀j,i≤j→j<i+m→zCD L j=true)→ZY L m i=true
 | 0,i,_=>rfl
 | m+1,i,h=>by
  simp only[ZY,bP];exact⟨h i (bF _) (by omega),zE2 fun j h1 h2=>h j (by omega) (by omega)⟩
structure Bd.good (b:Bd):Prop where
 var:Yd b.name=true
 some:b.val.num.length≠0
 fit:b.val.fit=true
theorem ZZ {α:Type} {L:List α} {d:α} {i:Nat} (h:i<L.length):L.getD i d=L[i]:=by
 rw[bM,pR h,BM]
theorem JZ {L:List Bd} : Yk L=true↔L.length≤40∧(∀b∈L,b.good)∧W0 L:=by
 unfold Yk;simp only[bP,bR];constructor
 ·rintro⟨h1,h2⟩
  have h3 : ∀j,j<L.length→zCD L j=true:=fun j hj=>zE1 h2 j (by omega) (by omega);refine⟨h1,fun b hb=>?_,?_⟩
  ·obtain⟨i,hi,rfl⟩:=List.mem_iff_getElem.1 hb;have:=h3 i hi;unfold zCD at this;simp only[bP,bR,ZZ hi]at this;exact⟨this.1.1.1,this.1.2,this.2⟩
  ·have step : ∀j,0<j→j<L.length→before (L.getD (j-1) bd0).name (L.getD j bd0).name:=fun j h0 hj=>by
    have:=h3 j hj;unfold zCD at this;simp only[bP,HD,bR]at this
    rcases this.1.1.2 with h | h
    ·omega
    ·exact h
   have far : ∀d i,i+d+1<L.length→before (L.getD i bd0).name (L.getD (i+d+1) bd0).name:=by
    intro d
    induction d with
    | zero=>intro i hi;have:=step (i+1) (by omega) hi;rwa [Nat.add_sub_cancel]at this
    | succ d ih =>
     intro i hi;have a:=ih i (by omega);have b:=step (i+(d+1)+1) (by omega) hi;rw[Nat.add_sub_cancel]at b;exact a.trans b
   unfold W0;rw[List.pairwise_iff_getElem];intro i j hi hj hij;have:=far (j-i-1) i (by omega);rw[show i+(j-i-1)+1=j by omega,ZZ hi,ZZ hj]at this;exact this
 ·rintro⟨h1,h2,h3⟩
  refine⟨h1,zE2 fun j _ hj=>?_⟩;have hj':j<L.length:=by omega
  have g:=h2 _ (PO hj');unfold zCD;simp only[bP,HD,bR,ZZ hj'];refine⟨⟨⟨g.var,?_⟩,g.some⟩,g.fit⟩;by_cases h0:j=0
  ·exact .inl h0
  ·right
   rw[ZZ (show j-1<L.length by omega)];exact (List.pairwise_iff_getElem.1 h3) (j-1) j (by omega) hj' (by omega)
def YB (nm:ByteArray):List Bd→Nat
 | []=>0
 | b::r=>if Op.bytesLess b.name.toList nm.toList=true then YB nm r+1 else 0
theorem J0 (nm:ByteArray) : ∀ {L:List Bd},W0 L→zIK L.length (jW L nm) (YB nm L)
 | [],_=>⟨by simp[YB],fun k hk=>by simp[YB]at hk,fun k _ hk=>by simp at hk⟩
 | b::r,h=>by
  unfold W0 at h;rw[List.pairwise_cons]at h;obtain⟨t1,t2,t3⟩:=J0 nm h.2;simp only[YB]
  split
  ·rename_i hb;refine⟨by simp;exact t1,fun k hk=>?_,fun k h1 h2=>?_⟩
   ·cases k with
    | zero=>unfold jW;simp[hb]
    | succ k=>have:=t2 k (by omega);unfold jW at this ⊢;simpa using this
   ·cases k with
    | zero=>omega
    | succ k=>have:=t3 k (by omega) (by simpa using h2);unfold jW at this ⊢;simpa using this
  ·rename_i hb;have hb':Op.bytesLess b.name.toList nm.toList=false:=by simpa using hb
   refine⟨by simp,fun k hk=>by omega,fun k _ h2=>?_⟩;cases k with
   | zero=>unfold jW;simp[hb']
   | succ k =>
    have hk:k<r.length:=by simpa using h2
    have q:=h.1 _ (PO hk);have:Op.bytesLess r[k].name.toList nm.toList=false:=by
     rw[JY]at hb' ⊢
     right
     rcases hb' with e | e
     ·unfold before at q ⊢;rw[←e];exact q
     ·exact e.trans q
    unfold jW;simp[bM,pR hk,this]
def rv0:RV:=⟨false,[],[1]⟩
def YC (nm:ByteArray):List Bd→RV
 | []=>rv0
 | b::r=>if b.name.toList=nm.toList then b.val else YC nm r
theorem zA4 {nm:ByteArray} : ∀ {L:List Bd},(∀b∈L,b.name.toList≠nm.toList)→YC nm L=rv0
 | [],_=>rfl
 | b::r,h=>by
  simp only[YC,h b (by simp),if_false];exact zA4 fun c hc=>h c (by simp[hc])
def J1 (nm:ByteArray) (L:List Bd):Bool:=decide (YB nm L<L.length)&&((L.getD (YB nm L) bd0).name.toList == nm.toList)
theorem zE3 (nm:ByteArray) : ∀ {L:List Bd},W0 L→(if J1 nm L=true then (L.getD (YB nm L) bd0).val else rv0)=YC nm L
 | [],_=>rfl
 | b::r,h=>by
  unfold W0 at h;rw[List.pairwise_cons]at h;have ih:=zE3 nm h.2;unfold J1 at ih ⊢;by_cases hb:Op.bytesLess b.name.toList nm.toList=true
  ·have e0:YB nm (b::r)=YB nm r+1:=by simp[YB,hb]
   rw[e0];simp only[bL,Nat.add_lt_add_iff_right,List.getD_cons_succ,YC,before.ne hb,if_false];exact ih
  ·have e0:YB nm (b::r)=0:=by simp[YB,hb]
   rw[e0];simp only[bL,Nat.zero_lt_succ,decide_true,bC,PA,beq_iff_eq,YC];by_cases e:b.name.toList=nm.toList
   ·rw[bA e,bA e]
   ·rw[hZ e,hZ e];have hb':Op.bytesLess b.name.toList nm.toList=false:=by simpa using hb
    have e2:before nm b.name:=(JY.1 hb').resolve_left e;exact (zA4 fun c hc ec=>before.ne (e2.trans (h.1 c hc)) ec.symm).symm
end Go.Vs
