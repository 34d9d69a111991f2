
import Derived.Test.YtfbkajadbjbfiaaGreatMA4
set_option linter.unusedVariables false
set_option linter.unusedSimpArgs false
section
namespace Go.Vs
open Go
theorem je (f:Edge→Bool) (g:Edge→Nat) (i:Nat) : ∀(l:List Edge) (s:Nat),(l.foldl (fun s e=>if f e then s ||| 2^e.on ||| g e else s) s).testBit i=true →
  s.testBit i=true∨∃e∈l,f e=true∧(i=e.on∨(g e).testBit i=true)
 | [],s,h=>.inl h
 | e::l,s,h=>by
  simp only[List.foldl_cons]at h
  rcases je f g i l _ h with h | ⟨e',h1,h2⟩
  ·by_cases he:f e=true
   ·rw[hZ he]at h;simp only[Nat.testBit_or,BO]at h
    rcases h with (h | h) | h
    ·exact .inl h
    ·rw[Nat.testBit_two_pow]at h;exact .inr ⟨e,by simp,he,.inl (by simpa using (BW h).symm)⟩
    ·exact .inr ⟨e,by simp,he,.inr h⟩
   ·rw[hI he]at h;exact .inl h
  ·exact .inr ⟨e',by simp[h1],h2⟩
def wv (acc:Array Nat) (o:Oper):Array Nat:=acc.push (o.after.toList.foldl (fun s e=>if Region.binds .any e then s ||| 2^e.on ||| acc.getD e.on 0 else s) 0)
theorem Xo (ops:Array Oper):Region.before ops=ops.toList.foldl wv #[]:=by
 unfold Region.before;rw[←Array.foldl_toList]
 congr 1
 funext acc o
 unfold wv;rw[←Array.foldl_toList]
theorem Ke : ∀(l:List Oper),(l.foldl wv #[]).size=l.length∧∀j i,((l.foldl wv #[]).getD j 0).testBit i=true →
  ∃o,l[j]? = some o∧∃e∈o.after,Region.binds .any e=true∧(i=e.on∨((l.foldl wv #[]).getD e.on 0).testBit i=true):=by
 intro l
 induction hn:l.length generalizing l with
 | zero =>
  have:=bT hn;subst this;simp
 | succ n ih =>
  obtain⟨l',o,rfl⟩ : ∃l' o,l=l'++[o]:=by
   have hne:l≠[]:=by intro h;subst h;cases hn
   exact⟨l.dropLast,l.getLast hne,(List.dropLast_concat_getLast hne).symm⟩
  have hl:l'.length=n:=by simpa using hn
  obtain⟨h1,h2⟩:=ih l' hl;have e1:(l'++[o]).foldl wv #[]=wv (l'.foldl wv #[]) o:=by rw[List.foldl_append];rfl
  rw[e1];generalize l'.foldl wv #[]=acc at h1 h2 ⊢;have hlt : ∀k b,k<acc.size→(acc.push b).getD k 0=acc.getD k 0:=fun k b hk=>by
   simp[sK,Array.getElem?_push,Nat.ne_of_lt hk]
  have hbit : ∀k i,(acc.getD k 0).testBit i=true→k<acc.size:=fun k i h=>by
   by_cases hk:k<acc.size
   ·exact hk
   ·simp[sK,hk]at h
  refine⟨by simp[wv,h1],fun j i h=>?_⟩;unfold wv at h ⊢;by_cases hj:j<acc.size
  ·rw[hlt j _ hj]at h;obtain⟨o',e2,e,e3,e4,e5⟩:=h2 j i h;refine⟨o',by rw[pP (by omega)];exact e2,e,e3,e4,?_⟩
   rcases e5 with e5 | e5
   ·exact .inl e5
   ·rw[hlt _ _ (hbit _ _ e5)];exact .inr e5
  ·by_cases hj2:j=acc.size
   ·subst hj2;have : ∀b,(acc.push b).getD acc.size 0=b:=fun b=>by simp[sK]
    rw[this]at h
    rcases je (Region.binds .any) (fun e=>acc.getD e.on 0) i _ _ h with h | ⟨e,e3,e4,e5⟩
    ·simp at h
    ·refine⟨o,by rw[h1,←hl];simp,e,by simpa using e3,e4,?_⟩
     rcases e5 with e5 | e5
     ·exact .inl e5
     ·rw[hlt _ _ (hbit _ _ e5)];exact .inr e5
   ·have hno : ∀b,(acc.push b).getD j 0=0:=fun b=>by
     have:(acc.push b)[j]? = none:=Array.getElem?_eq_none (by simp;omega);simp[sK,this]
    rw[hno]at h;simp at h
def Wm (ops:Array Oper) (D:Nat→Bool):Prop:=∀j o,D j=true→ops[j]? = some o→∀e∈o.after,Region.binds .any e=true→D e.on=true
def qT (ops:Array Oper) (sw:Nat→Nat→Oper→Oper→Prop):Prop:=∀j o,ops[j]? = some o→(∀e∈o.after,Region.binds .any e=true→e.on<j) ∧
  ∀i p,i<j→ops[i]? = some p→((Region.before ops).getD j 0).testBit i=true∨sw i j p o
theorem qT.mono {ops:Array Oper} {sw sw':Nat→Nat→Oper→Oper→Prop} (h:qT ops sw) (hs : ∀i j p o,ops[i]? = some p→ops[j]? = some o→sw i j p o→sw' i j p o):qT ops sw':=fun j o ho=>⟨(h j o ho).1,fun i p hi hp=>((h j o ho).2 i p hi hp).imp_right (hs i j p o hp ho)⟩
theorem Z4 {ops:Array Oper} {kd:Nat→Nat} (h:wY ops kd=true):qT ops fun i j p o=>ZG ops (kd i % 8) (kd j % 8) p o=true∨(Oper.apart ops p o=true∧zCb (kd i % 8) (kd j % 8) (kd i / 8) (kd j / 8)=true):=by
 intro j o ho;unfold wY at h;have hj:=(pR.1 ho).1;rw[pN]at h;have h1:=h j (BU.2 hj);rw[ho]at h1;simp only[bS]at h1;refine⟨fun e he hb=>?_,fun i p hi hp=>?_⟩
 ·have:=(Array.all_eq_true_iff_forall_mem.1 h1.1) e he;simp only[hb,HQ,HI,sL]at this;exact this
 ·have:=(pN.1 h1.2) i (BU.2 hi);rw[hp]at this
  simpa using this
theorem Xp {ops:Array Oper} {sw:Nat→Nat→Oper→Oper→Prop} (h:qT ops sw) {D:Nat→Bool} (hD:Wm ops D) : ∀(n j:Nat),j<n→∀o i,ops[j]? = some o→(∀e∈o.after,Region.binds .any e=true→D e.on=true)→((Region.before ops).getD j 0).testBit i=true→D i=true:=by
 intro n
 induction n with
 | zero=>intro j hj;exact absurd hj (Nat.not_lt_zero _)
 | succ n ih =>
  intro j hj o i ho he hb;rw[Xo]at hb;obtain⟨o',e1,e,e2,e3,e4⟩:=(Ke ops.toList).2 j i hb;rw[pE,ho]at e1;cases e1
  rcases e4 with rfl | e4
  ·exact he e e2 e3
  ·rw[←Xo]at e4;have hlt:=(h j o ho).1 e e2 e3;have hd:=he e e2 e3;have hsz:e.on<ops.size:=Nat.lt_trans hlt (pR.1 ho).1;exact ih e.on (by omega) ops[e.on] i (bR hsz) (fun e' h1 h2=>hD e.on _ hd (bR hsz) e' h1 h2) e4
theorem zCf {ops:Array Oper} {sw:Nat→Nat→Oper→Oper→Prop} (h:qT ops sw) {D:Nat→Bool} (hD:Wm ops D) {i:Nat} {oi:Oper} (hi:ops[i]? = some oi) (hni:D i=false) (he : ∀e∈oi.after,Region.binds .any e=true→D e.on=true) :
  (∀j oj,j<i→D j=false→ops[j]? = some oj→sw j i oj oi)∧(∀j oj,i<j→D j=true→ops[j]? = some oj→sw i j oi oj):=by
 refine⟨fun j oj hj hd ho=>?_,fun j oj hj hd ho=>?_⟩
 ·rcases (h i oi hi).2 j oj hj ho with hb | hs
  ·have:=Xp h hD (i+1) i (BC _) oi j hi he hb;rw[hd]at this;cases this
  ·exact hs
 ·rcases (h j oj ho).2 i oi hj hi with hb | hs
  ·have:=Xp h hD (j+1) j (BC _) oj i ho (fun e h1 h2=>hD j oj hd ho e h1 h2) hb;rw[hni]at this;cases this
  ·exact hs
theorem yg {ops:Array Oper} {kp ko:Nat} {p o:Oper} (h:ZG ops kp ko p o=true):Oper.apart ops p o=true∧kp≠4∧ko≠4∧(kp=3→ko≠1∧ko≠3)∧(ko=3→kp≠1∧kp≠3) ∧
  (kp=5∨kp=6→ko=2)∧(ko=5→kp=0)∧(ko=6→kp=0∨(kp=1∧kZ p=true)):=by
 unfold ZG at h;rw[bS]at h;obtain⟨h1,h⟩:=h;refine⟨h1,?_⟩;unfold zDh at h
 split at h
 ·cases h
 rename_i h4
 split at h
 ·rename_i h5;have h2:ko=2:=by simpa using h
  omega
 rename_i h5
 split at h
 ·rename_i h6;have h2:kp=0:=by simpa using h
  omega
 rename_i h6
 split at h
 ·rename_i h7;have h2:kp=0∨(kp=1∧kZ p=true):=by simpa using h
  refine⟨by omega,by omega,by omega,by omega,by omega,by omega,fun _=>h2⟩
 ·rename_i h7;simp only[bS,PL,Bool.and_eq_false_iff,Bool.or_eq_false_iff,beq_eq_false_iff_ne]at h;obtain⟨h8,h9⟩:=h;refine⟨by omega,by omega,?_,?_,by omega,by omega,by omega⟩
  ·intro hp
   rcases h8 with h8 | h8
   ·exact absurd hp h8
   ·exact h8
  ·intro ho;refine⟨?_,?_⟩
   ·rcases h9 with h9 | h9
    ·exact absurd ho h9
    ·exact h9
   ·intro hp
    rcases h8 with h8 | h8
    ·exact h8 hp
    ·exact h8.2 ho
def Sw (ops:Array Oper) (kd:Nat→Nat) (e:Nat→Env) (i j:Nat) (p o:Oper):Prop :=
 ZG ops (kd i) (kd j) p o=true∨(Oper.apart ops p o=true∧(kd i=1∨kd i=3)∧(kd j=1∨kd j=3)∧yl p (e i)≠0∧yl o (e j)≠0∧yl p (e i)≠yl o (e j))
theorem Sw.basic {ops:Array Oper} {kd:Nat→Nat} {e:Nat→Env} {i j:Nat} {p o:Oper} (h:Sw ops kd e i j p o):Oper.apart ops p o=true∧kd i≠4∧kd j≠4:=by
 rcases h with h | ⟨h1,h2,h3,_⟩
 ·obtain⟨a,b,c,_⟩:=yg h;exact⟨a,b,c⟩
 ·exact⟨h1,by omega,by omega⟩
theorem Sw.near {ops:Array Oper} {kd:Nat→Nat} {e:Nat→Env} {i j:Nat} {p o:Oper} (h:Sw ops kd e i j p o) (hk:(kd i≠1∧kd i≠3)∨(kd j≠1∧kd j≠3)∨yl p (e i)=0∨yl o (e j)=0):ZG ops (kd i) (kd j) p o=true:=by
 rcases h with h | ⟨_,h2,h3,h4,h5,_⟩
 ·exact h
 ·exfalso;omega
inductive Ef where
 | new (fz:List Nat) (nid:Nat) (nw:Option (List (List PV) × Option (Option Nat)))
 | st (id:Nat) (a:Arr)
 | all (A:yT)
 | call (lo:Nat) (B:zA)
def Ef.app:Ef→yT→yT
 | .new fz nid nw,A=>zw (frz A fz) nid nw
 | .st id a,A=>upd A id a
 | .all B,_=>B
 | .call lo B,A=>over lo B A
def Ef.isCall:Ef→Bool
 | .call .. => true
 | _=>false
def Ef.isAll:Ef→Bool
 | .all _=>true
 | _=>false
inductive EfOK (C:Ctx) (ops:Array Oper) (o:Oper) (e:Env) (S:zA):Env→zA→Ef→Nat→Prop
 | skip (hw:xP ops e o=some false) (k:Nat):EfOK C ops o e S (putD e o.dst .skip) S (.new [] S.length none) k
 | one (out:Out) (hw:xP ops e o=some true) (he:yN C.H o e=false) (h:ev1 C.P C.cp o e S S.length=some out) :
   EfOK C ops o e S (putD e o.dst out.v) (xn (zH S out.fz) out.new) (.new out.fz S.length out.new) (kind C.H o e)
 | st (t:TypeId) (x y:Operand) (hop:o.op=.store t x y) (hw:xP ops e o=some true) (hk:(tyi C.P t).known=true) (id i off:Nat) (rows:List (List PV)) (g:Option (Option Nat)) (hx:ev e x=.mp id i off)
   (hS:S[id]? = some (.arr rows g false)) (c1:i<rows.length) (c2:off+(tyi C.P t).size≤(rows.getD i []).length) (c3:(ev e y).cells.length=(tyi C.P t).size) (c4:(ev e y).cells.all PV.cell=true) :
   EfOK C ops o e S (putD e o.dst .skip) (S.set id (.arr (rows.set i (wH (rows.getD i []) off (ev e y).cells)) g false)) (.st id ⟨rows.set i (wH (rows.getD i []) off (ev e y).cells),g,false⟩) 3
 | all (r:Eff) (hw:xP ops e o=some true) (h:ev2 C o e S=some r):EfOK C ops o e S (putD (uH r.kill e) o.dst r.v) r.S (.all (arrs r.S)) 4
 | call (c:Call) (f:Operand) (g:FuncId) (first caps:List PV) (v:PV) (S':zA) (hop:o.op=.call c) (hce:c.callee=.value f) (hf:ev e f=.fn g first caps) (hw:xP ops e o=some true) (hr:C.H.refs g=true)
   (hc:C.cr g (first++c.args.toList.map (ev e)++caps) S=some (v,S')) (hl:S.length≤S'.length) (hcl:uI S=true) (hbl:jp S.length (first++c.args.toList.map (ev e)++caps)=true) (k lo:Nat)
   (hk:(k=5∧lo=0)∨(k=6∧lo=S.length∧S'.take S.length=S)):EfOK C ops o e S (putD e o.dst v) S' (.call lo S') k
theorem zHe {C:Ctx} {ops:Array Oper} {o:Oper} {e e':Env} {S S':zA} (h:xH C ops o e S=some (e',S')) : ∃ef,EfOK C ops o e S e' S' ef (kind C.H o e):=by
 unfold xH at h;obtain⟨b,hw,h⟩:=bind_some h;cases b with
 | false =>
  simp only[bH,if_false,Option.some.injEq,Prod.mk.injEq]at h;obtain⟨rfl,rfl⟩:=h;exact⟨_,.skip hw _⟩
 | true =>
  simp only[if_true]at h
  split at h
  ·rename_i he;obtain⟨r,h1,h2⟩:=map_some h;simp only[Prod.mk.injEq]at h2;obtain⟨rfl,rfl⟩:=h2;by_cases hk:kind C.H o e=4
   ·rw[hk];exact⟨_,.all r hw h1⟩
   by_cases hkc : ∃c f g first caps,o.op=.call c∧c.callee=.value f∧ev e f=.fn g first caps∧C.H.refs g=true
   ·obtain⟨c,f,g,first,caps,q1,q2,q3,q4⟩:=hkc;have hkd:kind C.H o e=if C.H.reads g then 6 else 5:=by
     unfold kind;rw[he];simp only[if_true,q1,q2,q3,q4]
    unfold ev2 at h1;simp only[q1,q2,q3,q4,if_true]at h1;obtain⟨⟨v,S'⟩,h3,h4⟩:=bind_some h1;simp only at h4
    split at h4
    ·rename_i hc;cases h4;have hkill:putD (uH [] e) o.dst v=putD e o.dst v:=by rfl
     rw[hkill,hkd];by_cases hrd:C.H.reads g=true
     ·rw[hZ hrd];exact⟨_,.call c f g first caps v S' q1 q2 q3 hw q4 h3 hc.1 hc.2.1 hc.2.2.1 6 S.length (.inr ⟨rfl,rfl,hc.2.2.2 hrd⟩)⟩
     ·rw[hI hrd];exact⟨_,.call c f g first caps v S' q1 q2 q3 hw q4 h3 hc.1 hc.2.1 hc.2.2.1 5 0 (.inl ⟨rfl,rfl⟩)⟩
    ·cases h4
   ·have hk3 : ∃t x y,o.op=.store t x y:=by
     unfold kind at hk;rw[he]at hk;simp only[if_true]at hk
     split at hk
     ·rename_i t x y hop;exact⟨t,x,y,hop⟩
     ·rename_i c hop
      exfalso
      split at hk
      ·rename_i f hce
       split at hk
       ·rename_i g first caps hf
        split at hk
        ·rename_i hr;exact hkc ⟨c,f,g,first,caps,hop,hce,hf,hr⟩
        ·exact hk rfl
       ·exact hk rfl
      ·exact hk rfl
     ·exact absurd rfl hk
    obtain⟨t,x,y,hop⟩:=hk3;have hkd:kind C.H o e=3:=by unfold kind;rw[he,hop];rfl
    rw[hkd];unfold ev2 at h1;rw[hop]at h1;simp only at h1
    split at h1
    ·rename_i hkn;obtain⟨S',h3,rfl⟩:=map_some h1;unfold yr at h3
     split at h3
     ·rename_i id i off hx
      split at h3
      ·rename_i rows g hS
       split at h3
       ·rename_i hc;cases h3;exact⟨_,.st t x y hop hw hkn id i off rows g hx hS hc.1 hc.2.1 hc.2.2.1 hc.2.2.2⟩
       ·cases h3
      ·cases h3
     ·cases h3
    ·cases h1
  ·rename_i he;obtain⟨out,h1,h2⟩:=map_some h;simp only[Prod.mk.injEq]at h2;obtain⟨rfl,rfl⟩:=h2;exact⟨_,.one out hw (by simpa using he) h1⟩
section
variable {C:Ctx} {ops:Array Oper} {o:Oper} {e e':Env} {S S':zA} {ef:Ef} {kd:Nat}
theorem EfOK.arrs (h:EfOK C ops o e S e' S' ef kd):Vs.arrs S'=ef.app (Vs.arrs S):=by
 cases h with
 | skip hw k=>simp[Ef.app,zw,yy]
 | one out hw he h=>simp only[Ef.app];rw[uB,yp,zp]
 | st t x y hop hw hk id i off rows g hx hS c1 c2 c3 c4 =>
  simp only[Ef.app];exact ke (bL.1 hS).1 rfl
 | all r hw h=>rfl
 | call c f g first caps v B hop hce hf hw hr hc hl hcl hbl k lo hk =>
  simp only[Ef.app]
  funext id
  unfold over;by_cases hlt:id<S'.length
  ·by_cases hlo:lo≤id
   ·rw[hZ ⟨hlo,hlt⟩]
   ·rw[hI fun h=>hlo h.1]
    rcases hk with hk | ⟨_,h1,h2⟩
    ·omega
    ·have:S[id]? = S'[id]? := by
      rw[←h2,sR (by omega)]
     unfold Vs.arrs;rw[this]
  ·rw[hI fun h=>hlt h.2];unfold Vs.arrs;rw[bY (by omega),bY (by omega)]
theorem EfOK.len (h:EfOK C ops o e S e' S' ef kd):S.length≤S'.length:=by
 cases h with
 | skip hw k=>exact bB _
 | one out hw he h=>have:=(wE (zH S out.fz) out.new).1;rwa [zp]at this
 | st t x y hop hw hk id i off rows g hx hS c1 c2 c3 c4=>simp
 | all r hw h=>exact Kd h
 | call c f g first caps v B hop hce hf hw hr hc hl hcl hbl k lo hk=>exact hl
theorem EfOK.get (h:EfOK C ops o e S e' S' ef kd) (ha:ef.isAll=false) {t:Nat} (ht:o.dst≠some t):get e' t=Vs.get e t:=by
 have key : ∀v,Vs.get (putD e o.dst v) t=Vs.get e t:=fun v=>by
  cases hd:o.dst with
  | none=>rfl
  | some d =>
   simp only[putD];rw[ut,hI];intro hc;exact ht (by rw[hd,hc])
 cases h with
 | skip hw k=>exact key _
 | one out hw he h=>exact key _
 | st t x y hop hw hk id i off rows g hx hS c1 c2 c3 c4=>exact key _
 | all r hw h=>cases ha
 | call c f g first caps v B hop hce hf hw hr hc hl hcl hbl k lo hk=>exact key _
theorem EfOK.kindAll (h:EfOK C ops o e S e' S' ef kd) (ha:ef.isAll=true):kd=4:=by
 cases h <;> first | rfl | cases ha
theorem EfOK.new (h:EfOK C ops o e S e' S' ef kd) {fz:List Nat} {nid:Nat} {nw:Option (List (List PV) × Option (Option Nat))} (he:ef=.new fz nid nw) :
  nid=S.length∧(∀i∈fz,i<S.length)∧(kd≠1→fz=[])∧(nw≠none→S'.length=S.length+1)∧(kd=3∨kd=4∨kd=0→nw=none):=by
 cases h with
 | skip hw k=>cases he;simp
 | one out hw hef h =>
  cases he;obtain⟨h1,h2,h3,h4⟩:=ZK hef h
  refine⟨rfl,h1,h2,fun hn=>?_,fun hk=>by
   rcases hk with hk | hk | hk
   ·omega
   ·omega
   ·exact h3 hk⟩
  have:=(wE (zH S out.fz) out.new).2.2
  cases hq:out.new with
  | none=>exact absurd hq hn
  | some p=>rw[hq]at this;rw[this p rfl,zp]
 | st=>cases he
 | all=>cases he
 | call=>cases he
theorem EfOK.calls (h:EfOK C ops o e S e' S' ef kd) (he:ef.isCall=true) : ∃lo,ef=.call lo S'∧((kd=5∧lo=0)∨(kd=6∧lo=S.length∧S'.take S.length=S)):=by
 cases h with
 | call c f g first caps v B hop hce hf hw hr hc hl hcl hbl k lo hk=>exact⟨lo,rfl,hk⟩
 | _=>cases he
theorem EfOK.load (h:EfOK C ops o e S e' S' ef kd) (ho:kZ o=true) : ∃nid,ef=.new [] nid none∧nid=S.length∧S'.length=S.length:=by
 obtain⟨dst,op,type,pos,after,guard⟩:=o
 cases op <;> simp only[kZ,bH]at ho
 cases h with
 | skip hw k=>exact⟨_,rfl,rfl,rfl⟩
 | one out hw hef h =>
  simp only[ev1]at h;obtain⟨v,_,rfl⟩:=map_some h;refine⟨_,rfl,rfl,?_⟩;have:=(wE (zH S ([]:List Nat)) none).2.1;simp[xn,zH]
 | st t x y hop=>cases hop
 | all r hw h=>simp[ev2]at h
 | call c f g first caps v B hop=>cases hop
theorem EfOK.touched (h:EfOK C ops o e S e' S' ef kd) (ht:yl o e≠0) (hk:kd=1∨kd=3):(∃nid,ef=.new [] nid none∧S'.length=S.length)∨(∃id a,ef=.st id a∧yl o e=id+1):=by
 cases h with
 | skip hw k=>exact .inl ⟨_,rfl,rfl⟩
 | one out hw hef h =>
  obtain⟨dst,op,type,pos,after,guard⟩:=o
  cases op <;> simp only[yl,ne_eq,not_true]at ht
  case indexAddr t x i =>
   simp only[ev1]at h
   split at h
   ·obtain⟨v,_,rfl⟩:=map_some h;exact .inl ⟨_,rfl,by simp[xn,zH]⟩
   ·cases h
  case store t a x=>simp[yN]at hef
 | st t x y hop hw hk id i off rows g hx hS c1 c2 c3 c4=>exact .inr ⟨id,_,rfl,by simp only[yl,hop,hx]⟩
 | all r hw h=>omega
 | call c f g first caps v B hop hce hf hw hr hc hl hcl hbl k lo hk=>omega
theorem EfOK.len0 (h:EfOK C ops o e S e' S' ef kd) (h0:kd=0):S'.length=S.length:=by
 cases h with
 | skip hw k=>rfl
 | one out hw hef h =>
  obtain⟨h1,h2,h3,h4⟩:=ZK hef h;rw[h3 h0]
  show (zH S out.fz).length=_
  rw[zp]
 | st t x y hop hw hk id i off rows g hx hS c1 c2 c3 c4=>cases h0
 | all r hw h=>cases h0
 | call c f g first caps v B hop hce hf hw hr hc hl hcl hbl k lo hk=>omega
theorem EfOK.store (h:EfOK C ops o e S e' S' ef kd) {id:Nat} {a:Arr} (he:ef=.st id a):kd=3∧id<S.length∧(∃a0,Vs.arrs S id=some a0):=by
 cases h with
 | skip hw k=>cases he
 | one out hw hef h=>cases he
 | st t x y hop hw hk id i off rows g hx hS c1 c2 c3 c4=>cases he;exact⟨rfl,(bL.1 hS).1,_,uX hS⟩
 | all=>cases he
 | call=>cases he
end
def Le (A A':yT):Prop:=∀id,(A id=none→A' id=none)∧∀a,A id=some a→∃f,A' id=some ⟨a.rows,a.g,f⟩∧(a.f=true→f=true)
theorem Le.refl (A:yT):Le A A:=fun id=>⟨_root_.id,fun a h=>⟨a.f,h,_root_.id⟩⟩
theorem Le.trans {A B B':yT} (h:Le A B) (k:Le B B'):Le A B':=fun id=>⟨fun x=>(k id).1 ((h id).1 x),fun a ha=>by
 obtain⟨f,h1,h2⟩:=(h id).2 a ha;obtain⟨f',k1,k2⟩:=(k id).2 _ h1;exact⟨f',k1,fun x=>k2 (h2 x)⟩⟩
theorem xN (A:yT) (ids:List Nat) (id:Nat):frz A ids id=(A id).map fun a=>if ids.contains id then {a with f:=true} else a:=rfl
theorem Le.frz_mono {A A':yT} (h:Le A A') (ids:List Nat):Le (frz A ids) (frz A' ids):=fun id=>by
 refine⟨fun hn=>?_,fun a ha=>?_⟩
 ·rw[xN]at hn ⊢
  cases hA:A id with
  | none=>rw[(h id).1 hA];rfl
  | some a=>rw[hA]at hn;cases hn
 ·rw[xN]at ha
  cases hA:A id with
  | none=>rw[hA]at ha;cases ha
  | some a0 =>
   rw[hA]at ha;simp only[bJ,Option.some.injEq]at ha;obtain⟨f,h1,h2⟩:=(h id).2 a0 hA;rw[xN,h1];simp only[bJ]
   split at ha
   ·rename_i hc;rw[hZ hc];subst ha;exact⟨true,rfl,fun _=>rfl⟩
   ·rename_i hc;rw[hI hc];subst ha;exact⟨f,rfl,h2⟩
theorem Le.upd_mono {A A':yT} (h:Le A A') (i:Nat) (a:Arr):Le (upd A i a) (upd A' i a):=fun id=>by
 by_cases hi:id=i
 ·subst hi;rw[zM,zM];exact⟨by simp,fun b hb=>by cases hb;exact⟨a.f,rfl,_root_.id⟩⟩
 ·rw[zP _ _ _ hi,zP _ _ _ hi];exact h id
theorem Le.place_mono {A A':yT} (h:Le A A') (i:Nat) (nw:Option (List (List PV) × Option (Option Nat))):Le (zw A i nw) (zw A' i nw):=by
 cases nw with
 | none=>exact h
 | some p=>exact h.upd_mono _ _
theorem Le.app_mono {A A':yT} (h:Le A A') (ef:Ef):Le (ef.app A) (ef.app A'):=by
 cases ef with
 | new fz nid nw=>exact (h.frz_mono fz).place_mono _ _
 | st id a=>exact h.upd_mono _ _
 | all B=>exact .refl _
 | call lo B =>
  intro id;simp only[Ef.app,over];by_cases hc:lo≤id∧id<B.length
  ·rw[hZ hc,hZ hc];exact Le.refl (arrs B) id
  ·rw[hI hc,hI hc];exact h id
theorem SR.more {w:World} {X:Nat→Prop} {A A':yT} {n:Nat} {μ : Mu} (hS:SR w X A n μ) (h:Le A A') (base:Nat):SR w X A' n μ ∧ Tr base w A μ w A' μ := by
 have e:A'=Vs.frz A ((List.range n).filter fun i=>match A' i with | some a=>a.f | none=>false):=by
  funext id
  rw[xN]
  cases hA:A id with
  | none=>rw[(h id).1 hA];rfl
  | some a =>
   obtain⟨f,h1,h2⟩:=(h id).2 a hA;have hlt:id<n:=by
    by_cases hlt:id<n
    ·exact hlt
    ·rw[(hS.lt id (by omega)).2]at hA;cases hA
   have hc:((List.range n).filter fun i=>match A' i with | some a=>a.f | none=>false).contains id=f:=by
    rw[BR];by_cases hf:f=true
    ·subst hf;simp[List.mem_filter,hlt,h1]
    ·simp[List.mem_filter,h1,hf]
   rw[h1];simp only[bJ,hc];cases f with
   | true=>rfl
   | false =>
    have:a.f=false:=by cases hq:a.f with
     | false=>rfl
     | true=>exact absurd (h2 hq) (by simp)
    cases a;simp_all
 rw[e];exact hS.frz _ base
theorem SR.relt {w:World} {X:Nat→Prop} {A:yT} {n n':Nat} {μ : Mu} (hS:SR w X A n μ) (h : ∀id,n'≤id → μ id=none∧A id=none):SR w X A n' μ := ⟨h,hS.blk,hS.nob,hS.gsz,hS.inj,hS.out,hS.xlt⟩
end Go.Vs
end
section
namespace Go.Vs
open Go
structure Run (C:Ctx) (ops:Array Oper) (e:Nat→Env) (S:Nat→zA) (r:Nat→Ef) (kd:Nat→Nat):Prop where
 ok : ∀j o,ops[j]? = some o→EfOK C ops o (e j) (S j) (e (j+1)) (S (j+1)) (r j) (kd j)
def jf (ops:Array Oper) (j:Nat):Option Nat:=(ops[j]?).bind (·.dst)
def gf (ops:Array Oper) (e:Nat→Env) (r:Nat→Ef) (D:Nat→Bool):Nat→Nat→PV
 | 0,t=>get (e 0) t
 | j+1,t=>if D j=true then (if (r j).isAll=true∨jf ops j=some t then get (e (j+1)) t else gf ops e r D j t) else gf ops e r D j t
def af (S:Nat→zA) (r:Nat→Ef) (D:Nat→Bool):Nat→yT
 | 0=>arrs (S 0)
 | j+1=>if D j=true then (r j).app (af S r D j) else af S r D j
section
variable {C:Ctx} {ops:Array Oper} {e:Nat→Env} {S:Nat→zA} {r:Nat→Ef} {kd:Nat→Nat} {D:Nat→Bool}
theorem Run.mono (hr:Run C ops e S r kd) {i j:Nat} (h:i≤j) (hj:j≤ops.size):(S i).length≤(S j).length:=by
 induction h with
 | refl=>exact bB _
 | step h ih =>
  rename_i m;exact bF (ih (by omega)) (hr.ok m ops[m] (bR (by omega))).len
theorem uJ (j t:Nat):gf ops e r D (j+1) t=if D j=true then (if (r j).isAll=true∨jf ops j=some t then get (e (j+1)) t else gf ops e r D j t) else gf ops e r D j t:=rfl
theorem xV (j:Nat):af S r D (j+1)=if D j=true then (r j).app (af S r D j) else af S r D j:=rfl
theorem zAo (hr:Run C ops e S r kd) {i t:Nat} (hi:i≤ops.size) (h : ∀j oj,j<i→ops[j]? = some oj→D j=true∨((r j).isAll=false∧oj.dst≠some t)) : ∀j,j≤i→gf ops e r D j t=get (e j) t:=by
 intro j
 induction j with
 | zero=>intro _;rfl
 | succ j ih =>
  intro hj;have ho:ops[j]? = some ops[j]:=bR (by omega);have hd:jf ops j=ops[j].dst:=by unfold jf;rw[ho];rfl
  rw[uJ,hd]
  split
  ·split
   ·rfl
   ·rename_i hc;rw[ih (by omega)];exact ((hr.ok j _ ho).get (by simpa using fun h=>hc (.inl h)) (fun h=>hc (.inr h))).symm
  ·rename_i hD
   rcases h j _ (by omega) ho with h1 | ⟨h1,h2⟩
   ·exact absurd h1 hD
   ·rw[ih (by omega)];exact ((hr.ok j _ ho).get h1 h2).symm
theorem zAp {i t:Nat} (h : ∀j oj,i≤j→D j=true→ops[j]? = some oj→(r j).isAll=false∧oj.dst≠some t) : ∀j,i≤j→j≤ops.size→gf ops e r D j t=gf ops e r D i t:=by
 intro j hij
 induction hij with
 | refl=>intro _;rfl
 | step hij ih =>
  rename_i m;intro hj;have hm:m<ops.size:=by omega
  have ho:ops[m]? = some ops[m]:=bR hm;have hd:jf ops m=ops[m].dst:=by unfold jf;rw[ho];rfl
  rw[uJ,hd,←ih (by omega)]
  split
  ·rename_i hD;obtain⟨h1,h2⟩:=h m _ hij hD ho;rw[hI (by simp[h1,h2])]
  ·rfl
theorem zCg (hr:Run C ops e S r kd) (h : ∀j,j<ops.size→D j=true) (t:Nat):gf ops e r D ops.size t=get (e ops.size) t :=
 zAo hr (bB _) (fun j oj hj ho=>.inl (h j hj)) _ (bB _)
theorem zAq (hr:Run C ops e S r kd) {i:Nat} (hi:i≤ops.size) (h : ∀j,j<i→D j=true) : ∀j,j≤i→af S r D j=arrs (S j):=by
 intro j
 induction j with
 | zero=>intro _;rfl
 | succ j ih =>
  intro hj;rw[xV,hZ (h j (by omega)),ih (by omega)];exact (hr.ok j ops[j] (bR (by omega))).arrs.symm
theorem zAr {i m:Nat} (h : ∀j,i≤j→j<m→D j=false) : ∀j,i≤j→j≤m→af S r D j=af S r D i:=by
 intro j hij
 induction hij with
 | refl=>intro _;rfl
 | step hij ih =>
  rename_i k;intro hj;rw[xV,h k hij (by omega),←ih (by omega)];simp
theorem QE (hr:Run C ops e S r kd) {μ : Mu} {i:Nat} (hi:i≤ops.size) (hfr : ∀j,j<ops.size→D j=false→(S j).length≠(S (j+1)).length → μ (S j).length=none)
  {id:Nat} (h : ∀j oj,j<i→D j=false→ops[j]? = some oj→(kd j≠3∧kd j≠4∧kd j≠5∧kd j≠6)∨(yl oj (e j)≠0∧(kd j=1∨kd j=3)∧yl oj (e j)≠id+1)) : ∀j,j≤i→∀a b,arrs (S j) id=some a → μ id=some b→∃f,af S r D j id=some ⟨a.rows,a.g,f⟩:=by
 intro j
 induction j with
 | zero=>intro _ a b ha _;exact⟨a.f,ha⟩
 | succ j ih =>
  intro hj a b ha hb;have ho:ops[j]? = some ops[j]:=bR (by omega);have hok:=hr.ok j _ ho;rw[hok.arrs]at ha;rw[xV];have IH:=ih (by omega);by_cases hD:D j=true
  ·rw[hZ hD]
   cases hef:r j with
   | all B=>rw[hef]at ha;exact⟨a.f,ha⟩
   | call lo B =>
    rw[hef]at ha;simp only[Ef.app,over]at ha ⊢;by_cases hc:lo≤id∧id<B.length
    ·rw[hZ hc]at ha ⊢;exact⟨a.f,ha⟩
    ·rw[hI hc]at ha ⊢;exact IH a b ha hb
   | st id0 a0 =>
    rw[hef]at ha;simp only[Ef.app]at ha ⊢;by_cases hid:id=id0
    ·subst hid;rw[zM]at ha ⊢;cases ha;exact⟨_,rfl⟩
    ·rw[zP _ _ _ hid]at ha ⊢;exact IH a b ha hb
   | new fz nid nw =>
    rw[hef]at ha;simp only[Ef.app]at ha ⊢;have fzc : ∀a,frz (arrs (S j)) fz id=some a→∃f,frz (af S r D j) fz id=some ⟨a.rows,a.g,f⟩:=fun a ha=>by
     obtain⟨a0,k1,k2,k3⟩:=wK ha;obtain⟨f,k4⟩:=IH a0 b k1 hb;rw[xN,k4,k2.1,k2.2];simp only[bJ]
     split <;> exact⟨_,rfl⟩
    cases nw with
    | none=>exact fzc a ha
    | some p =>
     obtain⟨rows,g⟩:=p;simp only[zw]at ha ⊢;by_cases hid:id=nid
     ·subst hid;rw[zM]at ha ⊢;cases ha;exact⟨_,rfl⟩
     ·rw[zP _ _ _ hid]at ha ⊢;exact fzc a ha
  ·rw[hI hD];have hD':D j=false:=by simpa using hD
   rcases h j _ (by omega) hD' ho with⟨h3,h4,h5,h6⟩ | ⟨h3,h4,h5⟩
   case inr =>
    rcases hok.touched h3 h4 with⟨nid,q1,_⟩ | ⟨id0,a0,q1,q2⟩
    ·rw[q1]at ha;simp only[Ef.app,yy,zw]at ha;exact IH a b ha hb
    ·rw[q1]at ha;simp only[Ef.app]at ha;rw[zP _ _ _ (by omega)]at ha;exact IH a b ha hb
   cases hef:r j with
   | all B=>exact absurd (hok.kindAll (by rw[hef];rfl)) h4
   | st id0 a0=>exact absurd (hok.store hef).1 h3
   | call lo B =>
    obtain⟨_,_,hk⟩:=hok.calls (by rw[hef];rfl);omega
   | new fz nid nw =>
    rw[hef]at ha;obtain⟨n1,n2,n3,n4,n5⟩:=hok.new hef;simp only[Ef.app]at ha;have fzc : ∀a,frz (arrs (S j)) fz id=some a→∃f,af S r D j id=some ⟨a.rows,a.g,f⟩:=fun a ha=>by
     obtain⟨a0,k1,k2,k3⟩:=wK ha;obtain⟨f,k4⟩:=IH a0 b k1 hb;rw[k4,k2.1,k2.2];exact⟨_,rfl⟩
    cases nw with
    | none=>exact fzc a ha
    | some p =>
     obtain⟨rows,g⟩:=p;simp only[zw]at ha;by_cases hid:id=nid
     ·subst hid;have:=hfr j (by omega) hD' (by have:=n4 (by simp);omega);rw[←n1,hb]at this;cases this
     ·rw[zP _ _ _ hid]at ha;exact fzc a ha
theorem QF (hr:Run C ops e S r kd) {i:Nat} {id:Nat} (h : ∀j oj,i≤j→D j=true→ops[j]? = some oj→(kd j≠3∧kd j≠4∧kd j≠5)∨(yl oj (e j)≠0∧(kd j=1∨kd j=3)∧yl oj (e j)≠id+1)) (hid:id<(S i).length) {rows:List (List PV)} {g:Option (Option Nat)} :
  ∀j,i≤j→j≤ops.size→(∃f,af S r D i id=some ⟨rows,g,f⟩)→∃f,af S r D j id=some ⟨rows,g,f⟩:=by
 intro j hij
 induction hij with
 | refl=>intro _ h;exact h
 | step hij ih =>
  rename_i k;intro hj h0;obtain⟨f,hf⟩:=ih (by omega) h0;have ho:ops[k]? = some ops[k]:=bR (by omega);have hok:=hr.ok k _ ho;rw[xV]
  split
  ·rename_i hD
   rcases h k _ hij hD ho with⟨h3,h4,h5⟩ | ⟨h3,h4,h5⟩
   case inr =>
    rcases hok.touched h3 h4 with⟨nid,q1,_⟩ | ⟨id0,a0,q1,q2⟩
    ·rw[q1];simp only[Ef.app,yy,zw];exact⟨f,hf⟩
    ·rw[q1];simp only[Ef.app];rw[zP _ _ _ (by omega)];exact⟨f,hf⟩
   cases hef:r k with
   | all B=>exact absurd (hok.kindAll (by rw[hef];rfl)) h4
   | st id0 a0=>exact absurd (hok.store hef).1 h3
   | call lo B =>
    obtain⟨lo',e1,hk⟩:=hok.calls (by rw[hef];rfl);rw[hef]at e1;cases e1
    rcases hk with hk | ⟨_,hlo,_⟩
    ·omega
    ·have:=hr.mono hij (by omega);simp only[Ef.app,over];rw[hI (by omega)];exact⟨f,hf⟩
   | new fz nid nw =>
    obtain⟨n1,n2,n3,n4,n5⟩:=hok.new hef;have hne:id≠nid:=by rw[n1];have:=hr.mono hij (by omega);omega
    have fzc : ∃f',frz (af S r D k) fz id=some ⟨rows,g,f'⟩:=by
     rw[xN,hf];simp only[bJ]
     split <;> exact⟨_,rfl⟩
    cases nw with
    | none=>exact fzc
    | some p =>
     obtain⟨rows',g'⟩:=p;simp only[Ef.app,zw];rw[zP _ _ _ hne];exact fzc
  ·exact⟨f,hf⟩
theorem zCh (hr:Run C ops e S r kd) {μ : Mu} {i:Nat} (hi:i≤ops.size) (hfr : ∀j,j<ops.size→D j=false→(S j).length≠(S (j+1)).length → μ (S j).length=none)
  {id:Nat} (h : ∀j oj,j<i→D j=false→ops[j]? = some oj→(kd j≠1∧kd j≠3∧kd j≠4∧kd j≠5∧kd j≠6)∨(yl oj (e j)≠0∧(kd j=1∨kd j=3)∧yl oj (e j)≠id+1)) : ∀j,j≤i→∀b,μ id=some b→af S r D j id=arrs (S j) id:=by
 intro j
 induction j with
 | zero=>intro _ b _;rfl
 | succ j ih =>
  intro hj b hb;have ho:ops[j]? = some ops[j]:=bR (by omega);have hok:=hr.ok j _ ho;rw[hok.arrs,xV];have IH:=ih (by omega) b hb;by_cases hD:D j=true
  ·rw[hZ hD]
   cases hef:r j with
   | all B=>rfl
   | call lo B =>
    simp only[Ef.app,over];by_cases hc:lo≤id∧id<B.length
    ·rw[hZ hc,hZ hc]
    ·rw[hI hc,hI hc];exact IH
   | st id0 a0 =>
    simp only[Ef.app];by_cases hid:id=id0
    ·subst hid;rw[zM,zM]
    ·rw[zP _ _ _ hid,zP _ _ _ hid];exact IH
   | new fz nid nw =>
    simp only[Ef.app];have fzc:frz (af S r D j) fz id=frz (arrs (S j)) fz id:=by rw[xN,xN,IH]
    cases nw with
    | none=>exact fzc
    | some p =>
     obtain⟨rows,g⟩:=p;simp only[zw];by_cases hid:id=nid
     ·subst hid;rw[zM,zM]
     ·rw[zP _ _ _ hid,zP _ _ _ hid];exact fzc
  ·rw[hI hD];have hD':D j=false:=by simpa using hD
   rcases h j _ (by omega) hD' ho with⟨h1,h3,h4,h5,h6⟩ | ⟨h3,h4,h5⟩
   case inr =>
    rcases hok.touched h3 h4 with⟨nid,q1,_⟩ | ⟨id0,a0,q1,q2⟩
    ·rw[q1];simp only[Ef.app,yy,zw];exact IH
    ·rw[q1];simp only[Ef.app];rw[zP _ _ _ (by omega)];exact IH
   cases hef:r j with
   | all B=>exact absurd (hok.kindAll (by rw[hef];rfl)) h4
   | st id0 a0=>exact absurd (hok.store hef).1 h3
   | call lo B =>
    obtain⟨_,_,hk⟩:=hok.calls (by rw[hef];rfl);omega
   | new fz nid nw =>
    obtain⟨n1,n2,n3,n4,n5⟩:=hok.new hef;have:=n3 h1;subst this;simp only[Ef.app,yy];cases nw with
    | none=>exact IH
    | some p =>
     obtain⟨rows,g⟩:=p;simp only[zw];by_cases hid:id=nid
     ·subst hid;have:=hfr j (by omega) hD' (by have:=n4 (by simp);omega);rw[←n1,hb]at this;cases this
     ·rw[zP _ _ _ hid];exact IH
theorem zCi (hr:Run C ops e S r kd) {i:Nat} {id:Nat} (h : ∀j oj,i≤j→D j=true→ops[j]? = some oj→(kd j≠1∧kd j≠3∧kd j≠4∧kd j≠5∧kd j≠6)∨(yl oj (e j)≠0∧(kd j=1∨kd j=3)∧yl oj (e j)≠id+1)) (hid:id<(S i).length) :
  ∀j,i≤j→j≤ops.size→af S r D j id=af S r D i id:=by
 intro j hij
 induction hij with
 | refl=>intro _;rfl
 | step hij ih =>
  rename_i k;intro hj;have ho:ops[k]? = some ops[k]:=bR (by omega);have hok:=hr.ok k _ ho;rw[xV,←ih (by omega)]
  split
  ·rename_i hD
   rcases h k _ hij hD ho with⟨h1,h3,h4,h5,h6⟩ | ⟨h3,h4,h5⟩
   case inr =>
    rcases hok.touched h3 h4 with⟨nid,q1,_⟩ | ⟨id0,a0,q1,q2⟩
    ·rw[q1];simp only[Ef.app,yy,zw]
    ·rw[q1];simp only[Ef.app];rw[zP _ _ _ (by omega)]
   cases hef:r k with
   | all B=>exact absurd (hok.kindAll (by rw[hef];rfl)) h4
   | st id0 a0=>exact absurd (hok.store hef).1 h3
   | call lo B =>
    obtain⟨_,_,hk⟩:=hok.calls (by rw[hef];rfl);omega
   | new fz nid nw =>
    obtain⟨n1,n2,n3,n4,n5⟩:=hok.new hef;have:=n3 h1;subst this;have hne:id≠nid:=by rw[n1];have:=hr.mono hij (by omega);omega
    simp only[Ef.app,yy];cases nw with
    | none=>rfl
    | some p =>
     obtain⟨rows',g'⟩:=p;simp only[zw];rw[zP _ _ _ hne]
  ·rfl
theorem zAs (hr:Run C ops e S r kd) {i:Nat} (h : ∀j,i≤j→j<ops.size→D j=true→(r j).isAll=false∧(r j).isCall=false) : ∀j,i≤j→j≤ops.size→∀k id a,i≤k→k<j→D k=true→r k=.st id a→∃a',af S r D j id=some a':=by
 intro j hij
 induction hij with
 | refl=>intro _ k id a h1 h2;omega
 | step hij ih =>
  rename_i m;intro hj k id a h1 h2 h3 h4;have keep : ∀A:yT,(∃a',A id=some a')→∀ef:Ef,ef.isAll=false∧ef.isCall=false→∃a',ef.app A id=some a':=by
   rintro A ⟨a',ha⟩ ef ⟨hef,hec⟩
   cases ef with
   | all B=>cases hef
   | call lo B=>cases hec
   | st id0 a0 =>
    simp only[Ef.app];by_cases hid:id=id0
    ·subst hid;rw[zM];exact⟨_,rfl⟩
    ·rw[zP _ _ _ hid];exact⟨_,ha⟩
   | new fz nid nw =>
    have hf : ∃a',frz A fz id=some a':=by rw[xN,ha];exact⟨_,rfl⟩
    cases nw with
    | none=>exact hf
    | some p =>
     obtain⟨rows,g⟩:=p;simp only[Ef.app,zw];by_cases hid:id=nid
     ·subst hid;rw[zM];exact⟨_,rfl⟩
     ·rw[zP _ _ _ hid];exact hf
  rw[xV];by_cases hk:k=m
  ·subst hk;rw[hZ h3,h4];simp only[Ef.app,zM];exact⟨_,rfl⟩
  ·have:=ih (by omega) k id a h1 (by omega) h3 h4
   split
   ·rename_i hD;exact keep _ this _ (h m hij (by omega) hD)
   ·exact this
end
end Go.Vs
end
section
namespace Go.Vs
open Go
theorem Le.of_pt {A A':yT} (h : ∀id,A id=A' id∨∃a f,A id=some a∧A' id=some ⟨a.rows,a.g,f⟩∧(a.f=true→f=true)):Le A A':=fun id=>by
 rcases h id with h | ⟨a,f,h1,h2,h3⟩
 ·rw[h];exact⟨_root_.id,fun a h=>⟨a.f,h,_root_.id⟩⟩
 ·refine⟨fun hn=>(by rw[hn]at h1;cases h1),fun a' ha=>?_⟩;rw[h1]at ha;cases ha;exact⟨f,h2,h3⟩
theorem qU (A:yT) (x y:List Nat):frz (frz A x) y=frz (frz A y) x:=by
 funext id
 simp only[xN];cases A id with
 | none=>rfl
 | some a=>simp only[bJ];split <;> split <;> rfl
theorem QG {A:yT} {x:List Nat} {id:Nat} (h:id ∉ x):frz A x id=A id:=by
 rw[xN];have:x.contains id=false:=by rw[BR];simpa using h
 rw[this]
 cases A id <;> rfl
section
variable {C:Ctx} {ops:Array Oper} {e:Nat→Env} {S:Nat→zA} {r:Nat→Ef} {kd:Nat→Nat} {D D':Nat→Bool}
theorem zAt {i:Nat} (h : ∀j,j<i→D' j=D j) : ∀j,j≤i→af S r D' j=af S r D j:=by
 intro j
 induction j with
 | zero=>intro _;rfl
 | succ j ih=>intro hj;rw[xV,xV,h j (by omega),ih (by omega)]
theorem zAu (hr:Run C ops e S r kd) {i j:Nat} {oi oj:Oper} (hij:i<j) (hoi:ops[i]? = some oi) (hoj:ops[j]? = some oj) (hs:Sw ops kd e i j oi oj)
  (hne : ∀id a,r j=.st id a→(S i).length≠(S (i+1)).length→id≠(S i).length) (B:yT):Le ((r i).app ((r j).app B)) ((r j).app ((r i).app B)):=by
 have oki:=hr.ok i _ hoi;have okj:=hr.ok j _ hoj
 rcases hs with hs | ⟨_,f1,f2,f3,f4,f5⟩
 case inr =>
  rcases oki.touched f3 f1 with⟨nid,q1,_⟩ | ⟨id0,a0,q1,q2⟩
  ·rw[q1];simp only[Ef.app,yy,zw];exact .refl _
  ·rcases okj.touched f4 f2 with⟨nid,p1,_⟩ | ⟨id1,a1,p1,p2⟩
   ·rw[p1];simp only[Ef.app,yy,zw];exact .refl _
   ·rw[q1,p1];simp only[Ef.app];have hne:id0≠id1:=by omega
    refine .of_pt fun id=>.inl ?_;by_cases h1:id=id0
    ·subst h1;rw[zM,zP _ _ _ hne,zM]
    ·rw[zP _ _ _ h1];by_cases h2:id=id1
     ·subst h2;rw[zM,zM]
     ·rw[zP _ _ _ h2,zP _ _ _ h2,zP _ _ _ h1]
 obtain⟨_,k1,k2,k3,k4,k5,k6,k7⟩:=yg hs;have hjs:=(pR.1 hoj).1;have hlen:(S (i+1)).length≤(S j).length:=hr.mono hij (by omega);by_cases hcj:(r j).isCall=true
 ·obtain⟨loj,ej,hkj⟩:=okj.calls hcj;have quiet : ∃nid,r i=.new [] nid none:=by
   have h0:kd i=0∨(kd i=1∧kZ oi=true):=by
    rcases hkj with hkj | hkj
    ·exact .inl (k6 hkj.1)
    ·exact k7 hkj.1
   rcases h0 with h0 | ⟨_,h0⟩
   ·cases hi:r i with
    | all B=>exact absurd (oki.kindAll (by rw[hi];rfl)) k1
    | st id a=>have:=(oki.store hi).1;omega
    | call lo B =>
     obtain⟨_,_,hk⟩:=oki.calls (by rw[hi];rfl);omega
    | new fz nid nw =>
     obtain⟨m1,m2,m3,m4,m5⟩:=oki.new hi;have e1:=m3 (by omega);have e2:=m5 (.inr (.inr h0));subst e1 e2;exact⟨nid,rfl⟩
   ·obtain⟨nid,e1,_⟩:=oki.load h0;exact⟨nid,e1⟩
  obtain⟨nid,ei⟩:=quiet;rw[ei];simp only[Ef.app,yy,zw];exact .refl _
 cases hi:r i with
 | call lo B0 =>
  obtain⟨lo',e1,hk⟩:=oki.calls (by rw[hi];rfl);rw[hi]at e1;cases e1;have h2:kd j=2:=k5 (by omega)
  cases hj:r j with
  | all B=>exact absurd (okj.kindAll (by rw[hj];rfl)) k2
  | st idj aj=>have:=(okj.store hj).1;omega
  | call lo2 B2=>exact absurd (by rw[hj];rfl) hcj
  | new fz nid nw =>
   obtain⟨n1,n2,n3,n4,n5⟩:=okj.new hj;have:=n3 (by omega);subst this;simp only[Ef.app,yy];cases nw with
   | none=>exact .refl _
   | some p =>
    obtain⟨rows,g⟩:=p;simp only[zw];refine .of_pt fun id=>.inl ?_;unfold over;by_cases h2:id=nid
    ·subst h2;rw[zM,hI (by omega),zM]
    ·rw[zP _ _ _ h2,zP _ _ _ h2]
 | all B=>exact absurd (oki.kindAll (by rw[hi];rfl)) k1
 | st idi ai =>
  obtain⟨s1,s2,_⟩:=oki.store hi
  cases hj:r j with
  | all B=>exact absurd (okj.kindAll (by rw[hj];rfl)) k2
  | st idj aj=>exact absurd (okj.store hj).1 (k3 s1).2
  | call lo B=>exact absurd (by rw[hj];rfl) hcj
  | new fz nid nw =>
   obtain⟨n1,n2,n3,n4,n5⟩:=okj.new hj;have:=n3 (k3 s1).1;subst this;simp only[Ef.app,yy];cases nw with
   | none=>exact .refl _
   | some p =>
    obtain⟨rows,g⟩:=p;simp only[zw];have hne':idi≠nid:=by rw[n1];have:=oki.len;omega
    refine .of_pt fun id=>.inl ?_;by_cases h1:id=idi
    ·subst h1;rw[zM,zP _ _ _ hne',zM]
    ·rw[zP _ _ _ h1];by_cases h2:id=nid
     ·subst h2;rw[zM,zM]
     ·rw[zP _ _ _ h2,zP _ _ _ h2,zP _ _ _ h1]
 | new fzi nidi nwi =>
  obtain⟨m1,m2,m3,m4,m5⟩:=oki.new hi
  cases hj:r j with
  | all B=>exact absurd (okj.kindAll (by rw[hj];rfl)) k2
  | call lo B=>exact absurd (by rw[hj];rfl) hcj
  | st idj aj =>
   obtain⟨s1,s2,_⟩:=okj.store hj;have:=m3 (k4 s1).1;subst this;simp only[Ef.app,yy];cases nwi with
   | none=>exact .refl _
   | some p =>
    obtain⟨rows,g⟩:=p;simp only[zw];have hne':idj≠nidi:=by rw[m1];exact hne _ _ hj (by have:=m4 (by simp);omega)
    refine .of_pt fun id=>.inl ?_;by_cases h1:id=idj
    ·subst h1;rw[zM,zP _ _ _ hne',zM]
    ·rw[zP _ _ _ h1];by_cases h2:id=nidi
     ·subst h2;rw[zM,zM]
     ·rw[zP _ _ _ h2,zP _ _ _ h2,zP _ _ _ h1]
  | new fzj nidj nwj =>
   obtain⟨n1,n2,n3,n4,n5⟩:=okj.new hj;have hout:nidj ∉ fzi:=fun hm=>by have:=m2 _ hm;have:=oki.len;omega
   cases nwi with
   | none =>
    cases nwj with
    | none=>simp only[Ef.app,zw];rw[qU];exact .refl _
    | some q =>
     obtain⟨rj,gj⟩:=q;simp only[Ef.app,zw];refine .of_pt fun id=>.inl ?_;by_cases h2:id=nidj
     ·subst h2;rw[QG hout,zM,zM]
     ·rw[zP _ _ _ h2,xN,zP _ _ _ h2,←xN,qU]
   | some p =>
    obtain⟨ri,gi⟩:=p;have hlt:nidi<(S j).length:=by have:=m4 (by simp);omega
    cases nwj with
    | none =>
     simp only[Ef.app,zw];refine .of_pt fun id=>?_;by_cases h2:id=nidi
     ·subst h2;refine .inr ⟨⟨ri,gi,false⟩,fzj.contains id,by rw[zM],?_,by simp⟩;rw[xN,zM];simp only[bJ]
      cases fzj.contains id <;> rfl
     ·refine .inl ?_;rw[zP _ _ _ h2,qU,xN,xN (upd _ _ _),zP _ _ _ h2]
    | some q =>
     obtain⟨rj,gj⟩:=q;simp only[Ef.app,zw];refine .of_pt fun id=>?_;by_cases h1:id=nidj
     ·subst h1;refine .inl ?_;rw[zP _ _ _ (by omega),QG hout,zM,zM]
     ·rw[zP _ nidj _ h1];by_cases h2:id=nidi
      ·subst h2;refine .inr ⟨⟨ri,gi,false⟩,fzj.contains id,by rw[zM],?_,by simp⟩;rw[xN,zM];simp only[bJ]
       cases fzj.contains id <;> rfl
      ·refine .inl ?_;rw[zP _ _ _ h2,xN,zP _ _ _ h1,←xN,qU,xN,xN (upd _ _ _),zP _ _ _ h2]
theorem zCj (hr:Run C ops e S r kd) {i:Nat} {oi:Oper} (hoi:ops[i]? = some oi) (hD:D i=false) (hD' : ∀j,D' j=(D j||j == i)) (hs : ∀j oj,i<j→D j=true→ops[j]? = some oj→Sw ops kd e i j oi oj)
  (hne : ∀j,i<j→j<ops.size→D j=true→∀id a,r j=.st id a→(S i).length≠(S (i+1)).length→id≠(S i).length) :
  ∀j,i+1≤j→j≤ops.size→Le ((r i).app (af S r D j)) (af S r D' j):=by
 intro j hij
 induction hij with
 | refl =>
  intro _;rw[xV,xV,hD,hD' i];simp only[bH,if_false,HI,beq_self_eq_true,if_true];rw[zAt (D:=D) (D':=D') (i:=i) (fun j hj=>by rw[hD' j,beq_eq_false_iff_ne.2 (by omega),HJ]) i (bB _),hD];simp only[HI,if_true];exact .refl _
 | step hij ih =>
  rename_i m;intro hm;have ho:ops[m]? = some ops[m]:=bR (by omega);have hmi:i<m:=hij;have hDm:D' m=D m:=by rw[hD' m,beq_eq_false_iff_ne.2 (by omega),HJ]
  rw[xV,xV,hDm];by_cases hd:D m=true
  ·rw[hZ hd,hZ hd];exact (zAu hr hmi hoi ho (hs m _ hmi hd ho) (hne m hmi (by omega) hd) _).trans ((ih (by omega)).app_mono _)
  ·rw[hI hd,hI hd];exact ih (by omega)
theorem zAv {i:Nat} (h : ∀j,j<i→D' j=D j) (t:Nat) : ∀j,j≤i→gf ops e r D' j t=gf ops e r D j t:=by
 intro j
 induction j with
 | zero=>intro _;rfl
 | succ j ih=>intro hj;rw[uJ,uJ,h j (by omega),ih (by omega)]
theorem zCk {i:Nat} {oi:Oper} (hoi:ops[i]? = some oi) (hD:D i=false) (hD' : ∀j,D' j=(D j||j == i)) (hall:(r i).isAll=false) (hr:Run C ops e S r kd)
  (hs : ∀j oj,i<j→D j=true→ops[j]? = some oj→Sw ops kd e i j oi oj) (t:Nat) : ∀j,i+1≤j→j≤ops.size→gf ops e r D' j t=if oi.dst=some t then get (e (i+1)) t else gf ops e r D j t:=by
 intro j hij
 induction hij with
 | refl =>
  intro _;have hd:jf ops i=oi.dst:=by unfold jf;rw[hoi];rfl
  rw[uJ,uJ,hD,hD' i,hd,hall];simp only[bH,if_false,hD,HI,beq_self_eq_true,if_true,false_or];rw[zAv (D:=D) (D':=D') (i:=i) (fun j hj=>by rw[hD' j,beq_eq_false_iff_ne.2 (by omega),HJ]) t i (bB _)]
 | step hij ih =>
  rename_i m;intro hm;have ho:ops[m]? = some ops[m]:=bR (by omega);have hmi:i<m:=hij;have hDm:D' m=D m:=by rw[hD' m,beq_eq_false_iff_ne.2 (by omega),HJ]
  have hdm:jf ops m=ops[m].dst:=by unfold jf;rw[ho];rfl
  rw[uJ,uJ,hDm,hdm,ih (by omega)];by_cases hd:D m=true
  ·rw[hZ hd,hZ hd];obtain⟨hap,k1,k2⟩:=(hs m _ hmi hd ho).basic;have hna:(r m).isAll=false:=by
    cases hq:(r m).isAll with
    | false=>rfl
    | true=>exact absurd ((hr.ok m _ ho).kindAll hq) k2
   obtain⟨_,hdd,_⟩:=Oper.apart_spec hap;by_cases h1:ops[m].dst=some t
   ·have hnot : ¬oi.dst=some t:=fun h=>hdd t h h1;simp[h1,hnot]
   ·simp[hna,h1]
  ·rw[hI hd,hI hd]
def QH (S:Nat→zA) (r:Nat→Ef) (N:Nat) (D:Nat→Bool) (μ : Mu):Prop :=
 ∀id,(S 0).length≤id→(∀j,j<N→D j=true→¬((S j).length≤id∧id<(S (j+1)).length)) → μ id=none∧af S r D N id=none
theorem QH.undone (hr:Run C ops e S r kd) {μ : Mu} (h:QH S r ops.size D μ) {j:Nat} (hj:j<ops.size) (hD:D j=false) (hne:(S j).length≠(S (j+1)).length) : μ (S j).length=none∧af S r D ops.size (S j).length=none:=by
 refine h _ (hr.mono (sD _) (by omega)) fun k hk hDk hc=>?_;have h0:=hr.mono (i:=j) (j:=j+1) (by omega) (by omega)
 rcases Nat.lt_trichotomy k j with hkj | rfl | hkj
 ·have:=hr.mono (i:=k+1) (j:=j) hkj (by omega);omega
 ·rw[hD]at hDk;cases hDk
 ·have:=hr.mono (i:=j+1) (j:=k) hkj (by omega);omega
theorem zDi (hr:Run C ops e S r kd) {id:Nat} (h0:(S 0).length≤id) : ∀m,m≤ops.size→id<(S m).length→∃j,j<m∧(S j).length≤id∧id<(S (j+1)).length:=by
 intro m
 induction m with
 | zero=>intro _ h;omega
 | succ m ih =>
  intro hm h;by_cases hl:id<(S m).length
  ·obtain⟨j,h1,h2⟩:=ih (by omega) hl;exact⟨j,by omega,h2⟩
  ·exact⟨m,by omega,by omega,h⟩
end
end Go.Vs
end
