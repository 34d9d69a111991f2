
import Derived.Test.YtfbkajadbjbfiaaGreatMA3
set_option linter.unusedVariables false
set_option linter.unusedSimpArgs false
section
namespace Go.Vs
open Go
def zw (A:yT) (nid:Nat):Option (List (List PV) × Option (Option Nat))→yT
 | some (rows,g)=>upd A nid ⟨rows,g,false⟩
 | none=>A
structure Grown (w w':World):Prop where
 os:w'.os=w.os
 tape:w'.tape=w.tape
 output:w'.output=w.output
 size:w.heap.size≤w'.heap.size
 keep : ∀b,b<w.heap.size→w'.heap[b]? = w.heap[b]?
theorem Grown.refl (w:World):Grown w w:=⟨rfl,rfl,rfl,bB _,fun _ _=>rfl⟩
def Zo (P : Program) (cp : kQ) : Prop := ∀ f args r, cp f args = some r → ∃ fn c, P.funcs[f]? = some fn ∧ fn.body = some c ∧ fn.name ≠ "runtime.NumGoroutine" ∧
 ∀(w:World) (Y:Nat→Prop) (vs:Array Value),(∀b,Y b→b<w.heap.size)→args.length=vs.size→(∀(j:Nat) (pv:PV) (v:Value),args[j]? = some pv→vs[j]? = some v→VR w Y Wf pv v) →
  Calls P f vs w fun e w'=>∃v,e=.returned v∧Grown w w'∧VR w' Y Wf r v
section
variable {P:Program} {w:World} {X:Nat→Prop} {A:yT} {n:Nat} {μ : Mu} {av:Nat→Prop} {S:zA}
theorem SR.up (hS:SR w X A n μ) {n':Nat} (h:n≤n'):SR w X A n' μ := ⟨fun id hid=>hS.lt id (bF h hid),hS.blk,hS.nob,hS.gsz,hS.inj,hS.out,hS.xlt⟩
theorem SR.grown (hS:SR w X A n μ) {w':World} (h:Grown w w') (base:Nat):SR w' X A n μ ∧ Tr base w A μ w' A μ := by
 have hlt : ∀id a b,A id=some a → μ id=some b→b.b<w.heap.size:=fun id a b h1 h2=>by
  obtain⟨c,el,hh,_⟩:=hS.blk id a h1 b h2;exact (pR.1 hh).1
 have htr:Tr base w A μ w' A μ := ⟨h.os,h.tape,h.output,h.size,fun b hb _=>h.keep b hb,fun _ _ h=>h,fun _ _=>rfl⟩;refine⟨⟨hS.lt,fun id a ha b hb=>?_,hS.nob,hS.gsz,hS.inj,hS.out,fun b hb=>aV (hS.xlt b hb) h.size⟩,htr⟩;obtain⟨c,el,k0,k1,k2,k3,k4⟩:=hS.blk id a ha b hb;refine⟨c,el,by rw[h.keep _ (hlt id a b ha hb)];exact k0,k1,k2,k3,fun i row j pv hi hj=>?_⟩;obtain⟨v,hv1,hv2,hv3⟩:=k4 i row j pv hi hj;exact⟨v,hv1,hv2,hv3.mono htr.keeps fun _ _ _ h=>h⟩
theorem SR.avlt (hS:SR w X A n μ) {b:Nat} (h:Av X A μ b):b<w.heap.size:=by
 rcases h with h | ⟨id,rows,g,k,h1,h2,rfl⟩
 ·exact hS.xlt b h
 ·obtain⟨c,el,hh,_⟩:=hS.blk id _ h1 k h2;exact (pR.1 hh).1
def Qj (P:Program) (o:Oper) (a:Act) (w:World) (X:Nat→Prop) (A:yT) (μ : Mu) (n' base nid:Nat) (out:Out):Prop :=
 ∀(K:Act→World→Prop) (Q:Exit→Act→World→Prop),
  (∀v w' μ',SR w' X (zw (frz A out.fz) nid out.new) n' μ'→Tr base w A μ w' (zw (frz A out.fz) nid out.new) μ'→(∀i,i≠nid∨out.new=none → μ' i = μ i) →
   VR w' (Av X (zw (frz A out.fz) nid out.new) μ') μ' out.v v→K (a.put o.dst v) w')→o.wp P a w K Q
theorem Qj.val {o:Oper} {a:Act} {n' base nid:Nat} {pv:PV} (hS:SR w X A n μ) (hnn:n≤n') (h : ∃z,(execOp a.eval o).run P w=.ok (.value z) w∧VR w (Av X A μ) μ pv z):Qj P o a w X A μ n' base nid {v:=pv} := by
 intro K Q hK;obtain⟨z,h1,h2⟩:=h;unfold Oper.wp;rw[h1];refine hK z w μ ?_ ?_ (fun _ _=>rfl) ?_ <;> simp only[zw,yy]
 ·exact hS.up hnn
 ·exact Tr.refl _ _ _ _
 ·exact h2
theorem Qj.new {o:Oper} {a:Act} {n' base nid:Nat} {pv:PV} {rows:List (List PV)} {g:Option (Option Nat)}
  (h : ∃z w' μ',(execOp a.eval o).run P w=.ok (.value z) w'∧SR w' X (upd A nid ⟨rows,g,false⟩) n' μ'∧Tr base w A μ w' (upd A nid ⟨rows,g,false⟩) μ'∧(∀i,i≠nid → μ' i = μ i) ∧
   VR w' (Av X (upd A nid ⟨rows,g,false⟩) μ') μ' pv z):Qj P o a w X A μ n' base nid {v:=pv,new:=some (rows,g)} := by
 intro K Q hK;obtain⟨z,w',μ',h1,h2,h3,h4,h5⟩:=h;unfold Oper.wp;rw[h1];refine hK z w' μ' ?_ ?_ (fun i hi=>h4 i (hi.resolve_right (by simp))) ?_ <;> simp only[zw,yy] <;> assumption
theorem wZ {s:Sem Value} {f:Sem Next} (hf:f=(do pure (Next.value (←s)))) {pv:PV} (h : ∃z,s.run P w=.ok z w∧VR w av μ pv z) : ∃z,f.run P w=.ok (.value z) w∧VR w av μ pv z:=by
 obtain⟨z,h1,h2⟩:=h;subst hf;exact⟨z,by simp[h1],h2⟩
theorem map_some {α β:Type} {f:α→β} {x:Option α} {b:β} (h:x.map f=some b) : ∃a,x=some a∧b=f a:=by
 cases x with
 | none=>cases h
 | some a=>exact⟨a,rfl,by simpa using h.symm⟩
theorem bind_some {α β:Type} {f:α→Option β} {x:Option α} {b:β} (h:x.bind f=some b) : ∃a,x=some a∧f a=some b:=by
 cases x with
 | none=>cases h
 | some a=>exact⟨a,rfl,h⟩
theorem VR.tup_inv {vs:List PV} {v:Value} (h:VR w av μ (.tup vs) v) : ∃us:Array Value,v=.tuple us∧vs.length=us.size∧∀(j:Nat) (pv:PV) (v:Value),vs[j]? = some pv→us[j]? = some v→VR w av μ pv v:=by
 cases h with
 | fr h=>cases h
 | tup _ us hn hr=>exact⟨us,rfl,hn,hr⟩
theorem VR.fn_inv {f:FuncId} {x y:List PV} {v:Value} (h:VR w av μ (.fn f x y) v) : ∃us vs:Array Value,v=.func (.func f) us vs∧x.length=us.size∧y.length=vs.size ∧
  (∀(j:Nat) (pv:PV) (v:Value),x[j]? = some pv→us[j]? = some v→VR w av μ pv v)∧(∀(j:Nat) (pv:PV) (v:Value),y[j]? = some pv→vs[j]? = some v→VR w av μ pv v):=by
 cases h with
 | fr h=>cases h;exact⟨#[],#[],rfl,rfl,rfl,by simp,by simp⟩
 | fn _ _ _ u v hx hy rx ry=>exact⟨u,v,rfl,hx,hy,rx,ry⟩
theorem jH {x y:List PV} {us vs:Array Value} {R:PV→Value→Prop} (hx:x.length=us.size) (h1 : ∀(j:Nat) (pv:PV) (v:Value),x[j]? = some pv→us[j]? = some v→R pv v)
  (h2 : ∀(j:Nat) (pv:PV) (v:Value),y[j]? = some pv→vs[j]? = some v→R pv v) : ∀(j:Nat) (pv:PV) (v:Value),(x++y)[j]? = some pv→(us++vs)[j]? = some v→R pv v:=by
 intro j pv v hp hv;by_cases hj:j<x.length
 ·rw[pP hj]at hp;rw[PK (by omega)]at hv;exact h1 j pv v hp hv
 ·rw[pG (by omega)]at hp;rw[Array.getElem?_append_right (by omega)]at hv;rw[hx]at hp;exact h2 _ pv v hp hv
theorem qR {e:Env} {a:Act} (hE:ER w av μ e a.tmps) (xs:Array Operand) : ∀(j:Nat) (pv:PV) (v:Value),(xs.toList.map (ev e))[j]? = some pv→(xs.map a.eval)[j]? = some v→VR w av μ pv v:=by
 intro j pv v hp hv;rw[pB,pE]at hp;rw[Array.getElem?_map]at hv
 cases hx:xs[j]? with
 | none=>rw[hx]at hp;cases hp
 | some x =>
  rw[hx]at hp hv;simp at hp hv;subst hp;subst hv;exact vY hE x
theorem Vz (hS:SR w X A n μ) (hSA:vG S A μ) {n' base nid:Nat} (hnn:n≤n') {cp:kQ} (hcp:Zo P cp) {o:Oper} {a:Act} {c:Call} {f:Operand} {e:Env} (hE:ER w (Av X A μ) μ e a.tmps)
  (ho:o.op=.call c) (hc:c.callee=.value f) {g:FuncId} {first caps:List PV} (hf:ev e f=.fn g first caps) {args:List PV} (hargs:yG (ym S) (first++c.args.toList.map (ev e)++caps)=some args)
  {r:PV} (hr:cp g args=some r):Qj P o a w X A μ n' base nid {v:=r,fz:=yq S 8 ((first++c.args.toList.map (ev e)++caps).flatMap PV.refs)} := by
 intro K Q hK;have hfv:=vY hE f;rw[hf]at hfv;obtain⟨us,vs,hv,hx,hy,rx,ry⟩:=hfv.fn_inv;obtain⟨fn,cd,e1,e2,e3,e4⟩:=hcp g args r hr;have hrun:(execOp a.eval o).run P w=.ok (.enter g ((us++c.args.map a.eval)++vs)) w:=by
  simp[execOp,ho,resolve,hc,hv,Deferred.ofValue,invoke,callFunc,e1,e2,e3]
 unfold Oper.wp;rw[hrun];rw[Oper.upon_enter];obtain⟨k1,k2⟩:=hS.frz (yq S 8 ((first++c.args.toList.map (ev e)++caps).flatMap PV.refs)) base;obtain⟨m1,m2⟩:=vH hargs;have hrel:=jH (R:=VR w (Av X A μ) μ) (x:=first++c.args.toList.map (ev e)) (us:=us++c.args.map a.eval) (y:=caps) (vs:=vs) (by simp[hx]) (jH hx rx (qR hE c.args)) ry;refine Calls.mono (e4 w (Av X (frz A (yq S 8 ((first++c.args.toList.map (ev e)++caps).flatMap PV.refs))) μ) ((us++c.args.map a.eval)++vs) (fun b hb=>k1.avlt hb) (by rw[m1];simp[hx,hy]) (fun j pv v hp hv=>?_)) ?_
 ·obtain⟨pv0,q1,q2⟩:=m2 j pv hp;refine jr hS hSA q2 (hrel j pv0 v q1 hv) (fun id hid=>uW 8 _ _ (fun m hm=>?_) id hid);exact HO.2 ⟨pv0,bK q1,hm⟩
 ·rintro e w' ⟨v,rfl,hg,hvr⟩
  obtain⟨j1,j2⟩:=k1.grown hg base;refine hK v w' μ ?_ ?_ (fun _ _=>rfl) ?_ <;> simp only[zw]
  ·exact j1.up hnn
  ·exact k2.trans j2
  ·exact hvr.mono (xp.refl _ _) fun i _ b hb=>by cases hb
theorem ZJ (hS:SR w X A n μ) (hSA:vG S A μ) {nid n':Nat} (hA:A nid=none) (hμ : μ nid=none) (hn:nid<n') (hnn:n≤n') {base:Nat} (hb:base≤nid) {cp:kQ} (hcp:Zo P cp) {o:Oper} {a:Act} {e:Env}
  (hE:ER w (Av X A μ) μ e a.tmps) {out:Out} (h:ev1 P cp o e S nid=some out):Qj P o a w X A μ n' base nid out:=by
 have hev:=vY hE;obtain⟨dst,op,type,pos,after,guard⟩:=o
 cases op <;> simp only[ev1,reduceCtorEq,Option.some.injEq]at h
 case move x =>
  subst h;exact .val hS hnn ⟨_,by simp[execOp],hev x⟩
 case assign x =>
  subst h;exact .val hS hnn ⟨_,by simp[execOp],hev x⟩
 case pick c x y =>
  split at h
  ·rename_i t hc;cases h;have:=hev c;rw[hc]at this;refine .val hS hnn ⟨_,by simp[execOp,this.bool_inv,asBool];rfl,?_⟩;cases t
   ·exact hev y
   ·exact hev x
  ·cases h
 case alloc t =>
  obtain⟨z,hz,h⟩:=bind_some h
  split at h
  ·rename_i hc;cases h;obtain⟨w',μ',k1,k2,k3,k4,k5⟩:=Vq (P:=P) hS hA hμ hn hnn hb (.tuple #[]) hz hc;exact .new ⟨_,w',μ',by simp[execOp,k1],k2,k3,k4,k5⟩
  ·cases h
 case box t x =>
  unfold yB at h
  split at h
  ·rename_i hc;cases h;obtain⟨w',μ',k1,k2,k3,k4,k5⟩:=Xh (P:=P) hS hA hμ hn hnn hb (el:=t) (hev x) hc.2;exact .new ⟨_,w',μ',by simp[execOp,k1],k2,k3,k4,k5⟩
  ·cases h
 case build t parts =>
  split at h
  ·rename_i fs hd;obtain⟨z,hz,h⟩:=bind_some h
   split at h
   ·rename_i hc;obtain⟨cs,h1,rfl⟩:=map_some h;exact .val hS hnn (wZ (by simp[execOp]) (Vr hd hz hc.1 (by simpa using hc.2) hev h1))
   ·cases h
  ·rename_i m el hd;obtain⟨z,hz,h⟩:=bind_some h
   split at h
   ·rename_i hc;obtain⟨cs,h1,rfl⟩:=map_some h;exact .val hS hnn (wZ (by simp[execOp]) (Wg hd hz hc.1 hc.2 hev h1))
   ·cases h
  ·cases h
 case buildSlice t len parts =>
  split at h
  ·rename_i el hd
   split at h
   ·rename_i hc;cases h;obtain⟨z,w',μ',k1,k2,k3,k4,k5⟩:=ZI (P:=P) hS hA hμ hn hnn hb hev hd hc;exact .new ⟨_,w',μ',by simp[execOp,k1],k2,k3,k4,k5⟩
   ·cases h
  ·cases h
 case load t x =>
  obtain⟨v,h1,rfl⟩:=map_some h;exact .val hS hnn (wZ (by simp[execOp]) (YN hS hSA (hev x) h1))
 case nilCheck x =>
  split at h <;> first | cases h | skip
  ·rename_i i j k hx;have:=hev x;rw[hx]at this;refine .val hS hnn ⟨_,?_,this⟩;simp only[execOp];generalize a.eval x=v at this ⊢;cases this with
   | fr q=>cases q
   | mp _ _ _ b hb=>rfl
  ·rename_i r hx;have:=hev x;rw[hx]at this;refine .val hS hnn ⟨_,?_,this⟩;simp only[execOp];generalize a.eval x=v at this ⊢;cases this with
   | fr q=>cases q;rfl
  ·rename_i f p q hx;have:=hev x;rw[hx]at this;obtain⟨us,vs,hv,_⟩:=this.fn_inv;refine .val hS hnn ⟨_,?_,this⟩;rw[hv];simp[execOp,hv]
 case binOp op t x y c =>
  obtain⟨v,h1,rfl⟩:=map_some h;exact .val hS hnn (wZ (by simp[execOp]) (Wc x y (hev x) (hev y) (fun c hc=>by subst hc;rfl) h1))
 case unOp op t x =>
  obtain⟨v,h1,rfl⟩:=map_some h;exact .val hS hnn (wZ (by simp[execOp]) (K9 (hev x) h1))
 case convert s d x =>
  split at h
  ·rename_i hk;obtain⟨v,h1,rfl⟩:=map_some h;exact .val hS hnn (wZ (by simp[execOp]) (Zn hS hSA hk (hev x) h1))
  ·cases h
 case makeFunc fn first caps =>
  cases fn <;> simp only[reduceCtorEq,Option.some.injEq]at h
  rename_i f;subst h;refine .val hS hnn ⟨_,by simp[execOp,Instr.makeFunc];rfl,?_⟩;exact .fn f _ _ _ _ (by simp) (by simp) (qR hE first) (qR hE caps)
 case makeSlice t l c =>
  split at h
  ·rename_i el kn n0 km m0 hd hl hc;obtain⟨z,hz,h⟩:=bind_some h
   split at h
   ·rename_i hcc;cases h;have e1:=hev l;rw[hl]at e1;have e2:=hev c;rw[hc]at e2;obtain⟨v,w',μ',k1,k2,k3,k4,k5⟩:=Zl (P:=P) hS hA hμ hn hnn hb hd (kl:=kn) (km:=km) hz hcc;exact .new ⟨_,w',μ',by simp[execOp,e1.int_inv,e2.int_inv,k1],k2,k3,k4,k5⟩
   ·cases h
  ·cases h
 case slice t x lo hi mx =>
  split at h
  ·cases h
  ·rename_i hk;obtain⟨v,h1,rfl⟩:=map_some h;have opt : ∀(q:Option Operand) (p:PV) (u:Value),q.map (ev e)=some p→q.map a.eval=some u→VR w (Av X A μ) μ p u:=fun q p u h1 h2=>by
    cases q with
    | none=>cases h1
    | some q=>simp at h1 h2;subst h1;subst h2;exact hev q
   exact .val hS hnn (wZ (by simp[execOp]) (Vj hS hSA (fun hs=>by
    by_cases hq:(tyi P (yW (tyi P t))).known=true
    ·exact hq
    ·exact absurd ⟨hs,by simpa using hq⟩ hk) (hev x) (by simp) (opt lo) (by simp) (opt hi) (by simp) (opt mx) h1))
 case fieldAddr t x f =>
  obtain⟨v,h1,rfl⟩:=map_some h;exact .val hS hnn (wZ (by simp[execOp]) (Zk (hev x) h1))
 case field t x f =>
  obtain⟨v,h1,rfl⟩:=map_some h;exact .val hS hnn (wZ (by simp[execOp]) (Vi (hev x) h1))
 case indexAddr t x i =>
  split at h
  ·rename_i hk;obtain⟨v,h1,rfl⟩:=map_some h;have hd:(tyi P t).d=.slice (yW (tyi P t)):=by
    have:=hk.1;unfold wT at this;unfold yW
    split at this
    ·rename_i el hd;rw[hd]
    ·cases this
   exact .val hS hnn (wZ (by simp[execOp]) (Zj hS hSA (ye hd) hk.2 (hev x) (hev i) h1))
  ·cases h
 case index t x i =>
  split at h
  ·rename_i m el hd
   split at h
   ·rename_i hk;obtain⟨v,h1,rfl⟩:=map_some h;have h2:wU (tyi P t) (tyi P el).size (tyi P el).isAgg (ev e x) (ev e i)=some v:=by
     rw[←h1];unfold wU;simp only[hd]
    exact .val hS hnn (wZ (by simp[execOp]) (Z1 (hev x) (hev i) (fun len el' hd'=>by rw[hd]at hd';cases hd';exact⟨hk,rfl,rfl⟩) h2))
   ·cases h
  ·rename_i hd;obtain⟨v,h1,rfl⟩:=map_some h;have h2:wU (tyi P t) 0 false (ev e x) (ev e i)=some v:=by
    rw[←h1];unfold wU;simp only[hd]
   exact .val hS hnn (wZ (by simp[execOp]) (Z1 (hev x) (hev i) (fun len el' hd'=>by rw[hd]at hd';cases hd') h2))
  ·cases h
 case extract x i =>
  split at h
  ·rename_i vs hx;obtain⟨v,h1,rfl⟩:=map_some h;have:=hev x;rw[hx]at this;obtain⟨us,hv,hn',hr⟩:=this.tup_inv;have hlt:=(bL.1 h1).1;have hu:us[i]? = some (us[i]'(by omega)):=bR _;refine .val hS hnn ⟨_,?_,hr i _ _ h1 hu⟩;simp[execOp,hv,Instr.extract,hu]
  ·cases h
 case call c =>
  cases hc:c.callee with
  | invoke r m=>rw[hc]at h;cases h
  | value f =>
   rw[hc]at h;simp only at h
   split at h
   ·rename_i g first caps hf
    split at h
    ·obtain⟨args,h1,h⟩:=bind_some h;obtain⟨r,h2,rfl⟩:=map_some h;exact Vz hS hSA hnn hcp hE rfl hc hf h1 h2
    ·cases h
   ·cases h
  | builtin b =>
   rw[hc]at h
   cases b <;> simp only[reduceCtorEq]at h
   case len =>
    split at h
    ·rename_i t x ht hx;obtain⟨v,h1,rfl⟩:=map_some h;refine .val hS hnn (wZ (s:=Builtin.len_ c.argTypes type (c.args.map a.eval)) (by simp[execOp,resolve,hc,invoke,builtin]) ?_);have:Builtin.len_ c.argTypes type (c.args.map a.eval)=Builtin.len_ #[t] type #[a.eval x]:=by
      simp[Builtin.len_,ht,hx]
     rw[this];exact Vn type (hev x) h1
    ·cases h
   case max =>
    split at h
    ·rename_i k x k' y hx;cases h;obtain⟨p,q,hpq⟩ : ∃p q,c.args.toList=[p,q]:=by
      have:=congrArg List.length hx;rw[sS]at this;generalize c.args.toList=l at this;cases l with
      | nil=>cases this
      | cons p l =>
       cases l with
       | nil=>simp at this
       | cons q l =>
        cases l with
        | nil=>exact⟨p,q,rfl⟩
        | cons _ _=>simp at this
     rw[hpq]at hx;simp only[pF,aA,List.cons.injEq,and_true]at hx;have e1:=hev p;have e2:=hev q;rw[hx.1]at e1;rw[hx.2]at e2;refine .val hS hnn (wZ (s:=Builtin.max_ c.argTypes type (c.args.map a.eval)) (by simp[execOp,resolve,hc,invoke,builtin]) ⟨_,?_,.i⟩);simp[Builtin.max_,hpq,e1.int_inv,e2.int_inv,Builtin.max2]
    ·cases h
   case min =>
    split at h
    ·rename_i k x k' y hx;cases h;obtain⟨p,q,hpq⟩ : ∃p q,c.args.toList=[p,q]:=by
      have:=congrArg List.length hx;rw[sS]at this;generalize c.args.toList=l at this;cases l with
      | nil=>cases this
      | cons p l =>
       cases l with
       | nil=>simp at this
       | cons q l =>
        cases l with
        | nil=>exact⟨p,q,rfl⟩
        | cons _ _=>simp at this
     rw[hpq]at hx;simp only[pF,aA,List.cons.injEq,and_true]at hx;have e1:=hev p;have e2:=hev q;rw[hx.1]at e1;rw[hx.2]at e2;refine .val hS hnn (wZ (s:=Builtin.min_ c.argTypes type (c.args.map a.eval)) (by simp[execOp,resolve,hc,invoke,builtin]) ⟨_,?_,.i⟩);simp[Builtin.min_,hpq,e1.int_inv,e2.int_inv,Builtin.min2]
    ·cases h
   case append =>
    split at h
    ·rename_i t u x y ht hu hargs
     split at h
     ·rename_i el hd
      split at h
      ·rename_i hz;obtain⟨hd',hz⟩:=hz;have hx:=hev x;have hap:Builtin.append_ c.argTypes type (c.args.map a.eval)=Builtin.append_ #[t,u] type #[a.eval x,a.eval y]:=by
        have:c.args = #[x,y]:=by rw[←Array.toArray_toList (xs:=c.args),hargs]
        simp[Builtin.append_,ht,hu,this]
       rcases Zm (P:=P) hS hSA hA hμ hn hnn hb type hd hd' hz hx (hev y) h with⟨rfl,hrun⟩ | ⟨rows,g,o1,o2,r,w',μ',k1,k2,k3,k4,k5⟩
       ·refine .val hS hnn ⟨_,?_,hx⟩;simp[execOp,resolve,hc,invoke,builtin,hap,hrun]
       ·obtain⟨v,nw,fz⟩:=out;simp only at o1 o2;subst o1;subst o2;refine .new ⟨r,w',μ',?_,k2,k3,k4,k5⟩;simp[execOp,resolve,hc,invoke,builtin,hap,k1]
      ·cases h
     ·cases h
    ·cases h
end
end Go.Vs
end
section
namespace Go.Vs
open Go
def Wi (P : Program) (cr : zAi) : Prop := ∀ f args S r S', cr f args S = some (r, S') → ∃ fn c, P.funcs[f]? = some fn ∧ fn.body = some c ∧ fn.name ≠ "runtime.NumGoroutine" ∧
 ∀(w:World) (X:Nat→Prop) (μ : Mu) (vs:Array Value),SR w X (arrs S) S.length μ → args.length=vs.size→(∀(j:Nat) (pv:PV) (v:Value),args[j]? = some pv→vs[j]? = some v→VR w (Av X (arrs S) μ) μ pv v) →
  Calls P f vs w fun e w'=>∃v μ',e=.returned v∧SR w' X (arrs S') S'.length μ'∧Tr S.length w (arrs S) μ w' (arrs S') μ'∧VR w' (Av X (arrs S') μ') μ' r v
theorem Xm (ids:List Nat) (e:Env) (t:Nat):get (uH ids e) t=xU ids (get e t):=by
 have h0 : ∀v:PV,xU [] v=v:=fun v=>by
  unfold xU;rw[hI (by simp)]
 unfold uH
 split
 ·rename_i h;subst h;rw[h0]
 ·induction e with
  | nil=>simp[Vs.get,xU,PV.refs]
  | cons p e ih =>
   obtain⟨k,v⟩:=p;simp only[pF,Vs.get]
   split
   ·rfl
   ·exact ih
section
variable {P:Program} {w:World} {X:Nat→Prop} {A:yT} {n:Nat} {μ : Mu} {av:Nat→Prop} {S:zA}
theorem SR.mulen (hS:SR w X (arrs S) S.length μ) {i:Nat} {b:Blk} (h : μ i=some b):i<S.length:=by
 by_cases hi:i<S.length
 ·exact hi
 ·rw[(hS.lt i (by omega)).1]at h;cases h
theorem ER.putD {e:Env} {a:Act} (h:ER w av μ e a.tmps) {d:Option Nat} (hd : ∀t,d=some t→t<a.tmps.size) {pv:PV} {v:Value} (hv:VR w av μ pv v):ER w av μ (Vs.putD e d pv) (a.put d v).tmps:=by
 cases d with
 | none=>exact h
 | some t=>exact h.put (hd t rfl) hv
def zFg (P:Program) (o:Oper) (a:Act) (w:World) (X:Nat→Prop) (S:zA) (μ : Mu) (base:Nat) (r:Eff):Prop :=
 ∀(K:Act→World→Prop) (Q:Exit→Act→World→Prop),
  (∀v w' μ',SR w' X (arrs r.S) r.S.length μ'→Tr base w (arrs S) μ w' (arrs r.S) μ'→S.length≤r.S.length→(∀pv v,VR w (Av X (arrs S) μ) μ pv v→VR w' (Av X (arrs r.S) μ') μ' (xU r.kill pv) v) →
   VR w' (Av X (arrs r.S) μ') μ' r.v v→K (a.put o.dst v) w')→o.wp P a w K Q
theorem jI (v:PV):xU [] v=v:=by
 unfold xU;rw[hI (by simp)]
theorem uB (S:zA) (nw:Option (List (List PV) × Option (Option Nat))):arrs (xn S nw)=zw (arrs S) S.length nw:=by
 cases nw with
 | none=>rfl
 | some p =>
  obtain⟨rows,g⟩:=p
  funext id
  simp only[xn,zw];by_cases hid:id=S.length
  ·subst hid;rw[zM];unfold arrs;simp
  ·rw[zP _ _ _ hid];unfold arrs;by_cases hlt:id<S.length
   ·rw[pP hlt]
   ·rw[bY (by simp;omega),bY (by omega)]
theorem Xn (hS:SR w X (arrs S) S.length μ) {C:Ctx} (hcp:Zo P C.cp) (hcr:Wi P C.cr) (hP:C.P=P) (hbase:C.base≤S.length) {o:Oper} {a:Act} {e:Env}
  (hE:ER w (Av X (arrs S) μ) μ e a.tmps) {r:Eff} (h:ev2 C o e S=some r):zFg P o a w X S μ C.base r:=by
 have hev:=vY hE;subst hP;obtain⟨dst,op,type,pos,after,guard⟩:=o
 cases op <;> simp only[ev2,reduceCtorEq]at h
 case store t x y =>
  split at h
  ·rename_i hk;obtain⟨S',h1,rfl⟩:=map_some h;obtain⟨w',k1,k2,k3,k4⟩:=Vv hS hk (hev x) (hev y) h1 C.base;intro K Q hK;unfold Oper.wp;have:(execOp a.eval ⟨dst,.store t x y,type,pos,after,guard⟩).run C.P w=.ok .skip w':=by simp[execOp,k1]
   rw[this];refine hK Go.undef w' μ (by rw[k4];exact k2) k3 (by rw[k4];exact bB _) (fun pv v hv=>?_) .skip;rw[jI];exact hv.mono k3.keeps fun _ _ _ h=>h
  ·cases h
 case call c =>
  cases hc:c.callee with
  | invoke x m=>rw[hc]at h;cases h
  | builtin b =>
   rw[hc]at h
   cases b <;> simp only[reduceCtorEq]at h
   case append =>
    split at h
    ·rename_i t u x y ht hu hargs
     split at h
     ·rename_i el hd
      split at h
      ·rename_i hz;obtain⟨hd',hz⟩:=hz;have hap:Builtin.append_ c.argTypes type (c.args.map a.eval)=Builtin.append_ #[t,u] type #[a.eval x,a.eval y]:=by
        have:c.args = #[x,y]:=by rw[←Array.toArray_toList (xs:=c.args),hargs]
        simp[Builtin.append_,ht,hu,this]
       obtain⟨z,w',μ',k1,k2,k3,k4,k5,k6⟩:=Wh (P:=C.P) hS hbase (ty:=type) hd hd' hz (hev x) (hev y) h;intro K Q hK;unfold Oper.wp;rw[show (execOp a.eval ⟨dst,.call c,type,pos,after,guard⟩).run C.P w=.ok (.value z) w' by simp[execOp,resolve,hc,invoke,builtin,hap,k1]];exact hK z w' μ' k2 k3 k6 k4 k5
      ·cases h
     ·cases h
    ·cases h
   case copy =>
    split at h
    ·rename_i t u x y ht hu hargs
     split at h
     ·rename_i el el' hd hd'
      split at h
      ·rename_i hz;obtain⟨z,w',k1,k2,k3,k4,k5,k6⟩:=Kb (P:=C.P) hS (base:=C.base) (tx:=u) (e':=el) (ty:=type) hd hz (hev x) (hev y) h;intro K Q hK;have:Builtin.copy_ c.argTypes type (c.args.map a.eval)=Builtin.copy_ #[t,u] type #[a.eval x,a.eval y]:=by
        have:c.args = #[x,y]:=by rw[←Array.toArray_toList (xs:=c.args),hargs]
        simp[Builtin.copy_,ht,this]
       unfold Oper.wp;rw[show (execOp a.eval ⟨dst,.call c,type,pos,after,guard⟩).run C.P w=.ok (.value z) w' by simp[execOp,resolve,hc,invoke,builtin,this,k1]];refine hK z w' μ (by rw[k5];exact k2) k3 (by rw[k5];exact bB _) (fun pv v hv=>?_) k4;rw[k6,jI];exact hv.mono k3.keeps fun _ _ _ h=>h
      ·cases h
     ·cases h
    ·cases h
  | value f =>
   rw[hc]at h;simp only at h
   split at h
   ·rename_i g first caps hf
    split at h
    ·obtain⟨⟨v,S'⟩,h1,h⟩:=bind_some h;simp only at h
     split at h
     case isFalse=>cases h
     rename_i hle
     replace hle:=hle.1
     cases h;obtain⟨fn,cd,e1,e2,e3,e4⟩:=hcr _ _ _ _ _ h1
     intro K Q hK;have hfv:=hev f;rw[hf]at hfv;obtain⟨us,vs,hv,hx,hy,rx,ry⟩:=hfv.fn_inv;have hrun:(execOp a.eval ⟨dst,.call c,type,pos,after,guard⟩).run C.P w=.ok (.enter g ((us++c.args.map a.eval)++vs)) w:=by
      simp[execOp,resolve,hc,hv,Deferred.ofValue,invoke,callFunc,e1,e2,e3]
     unfold Oper.wp;rw[hrun];rw[Oper.upon_enter];have hrel:=jH (R:=VR w (Av X (arrs S) μ) μ) (x:=first++c.args.toList.map (ev e)) (us:=us++c.args.map a.eval) (y:=caps) (vs:=vs) (by simp[hx]) (jH hx rx (qR hE c.args)) ry;refine Calls.mono (e4 w X μ _ hS (by simp[hx,hy]) hrel) ?_
     rintro e' w' ⟨z,μ',rfl,j1,j2,j4⟩
     refine hK z w' μ' j1 ?_ hle (fun pv u hu=>?_) j4
     ·exact⟨j2.os,j2.tape,j2.output,j2.size,j2.keep,j2.less,fun id hid=>j2.mu id (by omega)⟩
     ·rw[jI];exact hu.mono j2.keeps fun i _ b hb=>by rw[j2.mu i (hS.mulen hb)];exact hb
    ·obtain⟨args,h1,h⟩:=bind_some h;obtain⟨v,h2,rfl⟩:=map_some h;have hd:=Vz (n':=S.length) (base:=C.base) (nid:=S.length) hS (vG.refl S μ) (bB _) hcp (o:=⟨dst,.call c,type,pos,after,guard⟩) hE rfl hc hf h1 h2;intro K Q hK;refine hd K Q (fun z w' μ' j1 j2 j3 j4=>?_);simp only[zw,←yp]at j1 j2 j4;have hlen:(zH S (yq S 8 ((first++c.args.toList.map (ev e)++caps).flatMap PV.refs))).length=S.length:=zp ..;refine hK z w' μ' ?_ j2 (by rw[hlen];exact bB _) (fun pv u hu=>?_) j4
     ·rw[hlen];exact j1
     ·rw[jI];exact hu.mono j2.keeps fun i _ b hb=>by rw[j3 i (.inl (by have:=hS.mulen hb;omega))];exact hb
   ·cases h
end
end Go.Vs
end
section
namespace Go.Vs
open Go
def Now (base nt:Nat) (X:Nat→Prop) (w0:World) (A0:yT) (μ0:Mu) (e:Env) (S:zA) (a:Act) (w:World):Prop :=
 ∃ μ,SR w X (arrs S) S.length μ ∧ ER w (Av X (arrs S) μ) μ e a.tmps∧base≤S.length∧a.defers=[]∧a.tmps.size=nt∧Tr base w0 A0 μ0 w (arrs S) μ
theorem wE (S:zA) (nw:Option (List (List PV) × Option (Option Nat))):S.length≤(xn S nw).length∧(nw=none→(xn S nw).length=S.length)∧(∀p,nw=some p→(xn S nw).length=S.length+1):=by
 cases nw with
 | none=>simp[xn]
 | some p=>obtain⟨rows,g⟩:=p;simp[xn]
theorem Kc {ops:Array Oper} {tmps:Array Value} {j t:Nat} (ht:(ops[j]?).bind (·.dst)=some t):yielded ops tmps j=match tmps[t]? with | some (.bool b)=>some b | _=>none:=by
 unfold yielded;rw[ht];rfl
section
variable {P:Program} {w:World} {X:Nat→Prop} {A:yT} {n:Nat} {μ : Mu} {av:Nat→Prop} {S:zA}
theorem ki (a:Act) (d:Option Tmp) (v:Value):(a.put d v).tmps.size=a.tmps.size:=by cases d <;> simp[Act.put]
theorem vZ (a:Act) (d:Option Tmp) (v:Value):(a.put d v).defers=a.defers:=by cases d <;> rfl
theorem jc {ops:Array Oper} {e:Env} {o:Oper} {a:Act} {b:Bool} (hE : ∀j want t,o.guard=some (j,want)→(ops[j]?).bind (·.dst)=some t→VR w av μ (get e t) (a.tmps.getD t Go.undef)) (h:xP ops e o=some b) :
  Region.wanted o (yielded ops a.tmps)=b:=by
 unfold xP at h;unfold Region.wanted
 cases hg:o.guard with
 | none=>rw[hg]at h;simpa using h
 | some p =>
  obtain⟨j,want⟩:=p;rw[hg]at h;simp only at h ⊢
  cases ht:(ops[j]?).bind (·.dst) with
  | none=>rw[ht]at h;simp at h;subst h;unfold yielded;rw[ht];rfl
  | some t =>
   rw[ht]at h;simp only at h;rw[Kc ht];have hv:=hE j want t hg ht
   split at h
   ·rename_i c hc;rw[hc]at hv;have hb:=hv.bool_inv;have hs:a.tmps[t]? = some (.bool c):=by
     by_cases hlt:t<a.tmps.size
     ·simp[Array.getD,hlt]at hb;rw[bR hlt,hb]
     ·simp[Array.getD,hlt,Go.undef]at hb
    rw[hs];simp at h;subst h
    cases c <;> cases want <;> rfl
   ·rename_i hc;simp at h;subst h;rw[hc]at hv;have hs:a.tmps.getD t Go.undef=Go.undef:=by
     generalize a.tmps.getD t Go.undef=v at hv;cases hv with
     | fr h=>cases h
     | skip=>rfl
    have hs2 : ∀c,a.tmps[t]? ≠ some (.bool c):=fun c hc=>by
     simp[sK,hc,Go.undef]at hs
    split
    ·rename_i c hc';exact absurd hc' (hs2 c)
    ·rfl
   ·cases h
variable {base nt:Nat} {w0:World} {A0:yT} {μ0:Mu} {e:Env} {a:Act}
theorem Wj {C:Ctx} (hcp:Zo C.P C.cp) (hcr:Wi C.P C.cr) {ops:Array Oper} {o:Oper} (hd : ∀t,o.dst=some t→t<nt) {e':Env} {S':zA} (hb:C.base=base)
  (hN:Now base nt X w0 A0 μ0 e S a w) (h:xH C ops o e S=some (e',S')) {K:Act→World→Prop} {Q:Exit→Act→World→Prop} (hK : ∀a' w',Now base nt X w0 A0 μ0 e' S' a' w'→K a' w') :
  if Region.wanted o (yielded ops a.tmps) then o.wp C.P a w K Q else K (a.put o.dst Go.undef) w:=by
 subst hb;obtain⟨μ,hS,hE,hbase,hdef,hsz,htr⟩:=hN;subst hsz;unfold xH at h;obtain⟨b,hw,h⟩:=bind_some h;rw[jc (fun _ _ t _ _=>hE t) hw];cases b with
 | false =>
  simp only[bH,if_false,Option.some.injEq,Prod.mk.injEq]at h ⊢;obtain⟨rfl,rfl⟩:=h;exact hK _ _ ⟨μ,hS,hE.putD hd .skip,hbase,by rw[vZ];exact hdef,by rw[ki],htr⟩
 | true =>
  simp only[if_true]at h ⊢
  split at h
  ·obtain⟨r,h1,h2⟩:=map_some h;simp only[Prod.mk.injEq]at h2;obtain⟨rfl,rfl⟩:=h2;refine Xn hS hcp hcr rfl hbase hE h1 K Q fun v w' μ' k1 k2 k3 k4 k5=>hK _ _ ⟨μ',k1,?_,bF hbase k3,by rw[vZ];exact hdef,by rw[ki],htr.trans k2⟩;refine ER.putD (fun t=>?_) hd k5;rw[Xm];exact k4 _ _ (hE t)
  ·obtain⟨out,h1,h2⟩:=map_some h;simp only[Prod.mk.injEq]at h2;obtain⟨rfl,rfl⟩:=h2;have hA:arrs S S.length=none:=(hS.lt _ (bB _)).2;have hμ : μ S.length=none:=(hS.lt _ (bB _)).1;have hlen:S.length≤(xn (zH S out.fz) out.new).length:=by have:=(wE (zH S out.fz) out.new).1;rwa [zp]at this
   refine ZJ (n':=S.length+1) (base:=C.base) hS (vG.refl S μ) hA hμ (BC _) (Nat.le_succ _) hbase hcp hE h1 K Q fun v w' μ' k1 k2 k3 k4=>hK _ _ ⟨μ',?_,?_,bF hbase hlen,by rw[vZ];exact hdef,by rw[ki],?_⟩
   ·have e1:arrs (xn (zH S out.fz) out.new)=zw (frz (arrs S) out.fz) S.length out.new:=by rw[uB,yp,zp]
    rw[e1];refine⟨fun id hid=>?_,k1.blk,k1.nob,k1.gsz,k1.inj,k1.out,k1.xlt⟩;have hl:=wE (zH S out.fz) out.new;rw[zp]at hl
    cases hn:out.new with
    | some p=>rw[hl.2.2 p hn]at hid;rw[←hn];exact k1.lt id hid
    | none =>
     rw[hl.2.1 hn]at hid;by_cases he:id=S.length
     ·subst he;have h2:zw (frz (arrs S) out.fz) S.length out.new S.length=none:=by
       rw[hn];simp only[zw,frz,hA];rfl
      rw[hn]at h2;exact⟨by rw[k3 _ (.inr hn)];exact hμ,h2⟩
     ·have:=k1.lt id (by omega);rw[hn]at this;exact this
   ·have e1:arrs (xn (zH S out.fz) out.new)=zw (frz (arrs S) out.fz) S.length out.new:=by rw[uB,yp,zp]
    rw[e1];refine ER.putD ?_ hd k4;exact hE.mono k2.keeps fun i b hb=>by rw[k3 i (.inl (by have:=hS.mulen hb;omega))];exact hb
   ·have e1:arrs (xn (zH S out.fz) out.new)=zw (frz (arrs S) out.fz) S.length out.new:=by rw[uB,yp,zp]
    rw[e1];exact htr.trans k2
theorem qS {C:Ctx} (hcp:Zo C.P C.cp) (hcr:Wi C.P C.cr) (hb:C.base=base) {ops:Array Oper} : ∀(l:List Oper),(∀o∈l,∀t,o.dst=some t→t<nt)→∀ {e e':Env} {S S':zA} {a:Act} {w:World},
  Now base nt X w0 A0 μ0 e S a w→yi C ops l e S=some (e',S')→∀ {Q:Exit→Act→World→Prop},(∀a' w',Now base nt X w0 A0 μ0 e' S' a' w'→Q .normal a' w')→wpList C.P ops Q l a w
 | [],_,e,e',S,S',a,w,hN,h,Q,hQ=>by
  simp only[yi,Option.some.injEq,Prod.mk.injEq]at h;obtain⟨rfl,rfl⟩:=h;exact hQ a w hN
 | o::l,hd,e,e',S,S',a,w,hN,h,Q,hQ=>by
  simp only[yi]at h;obtain⟨⟨e1,S1⟩,h1,h2⟩:=bind_some h;exact wpList_step fun K hK=>Wj hcp hcr (hd o (by simp)) hb hN h1 fun a' w' hN'=>hK a' w' (qS hcp hcr hb l (fun o ho=>hd o (by simp[ho])) hN' h2 hQ)
end
end Go.Vs
end
section
namespace Go.Vs
open Go
theorem jd {fs:List (Nat × Nat × Bool)} {ρ σ : Operand→PV} : ∀(parts:List (Nat × Operand)) (cs:List PV),(∀p∈parts,ρ p.2 = σ p.2)→xd fs ρ cs parts=xd fs σ cs parts
 | [],cs,_=>rfl
 | (i,x)::r,cs,h=>by
  have h0 : ρ x = σ x:=h (i,x) (by simp);simp only[xd,h0]
  split
  ·split
   ·exact jd r _ fun p hp=>h p (by simp[hp])
   ·rfl
  ·rfl
theorem Qk {P:Program} {cp:kQ} {o:Oper} {e e':Env} {S:zA} {nid:Nat} (h : ∀x∈o.op.operands,ev e x=ev e' x):ev1 P cp o e S nid=ev1 P cp o e' S nid:=by
 obtain⟨dst,op,type,pos,after,guard⟩:=o;have parr : ∀xs:Array Operand,(∀x∈xs,ev e x=ev e' x)→xs.toList.map (ev e)=xs.toList.map (ev e'):=fun xs hx=>List.map_congr_left fun x hm=>hx x (by simpa using hm)
 cases op <;> simp only[Op.operands]at h <;> simp only[ev1]
 case build t ps =>
  have : ∀l z,xd l (ev e) z ps.toList=xd l (ev e') z ps.toList:=fun l z=>jd _ _ fun p hp=>h p.2 (by
   exact List.mem_toArray.2 (sH.2 ⟨p,hp,rfl⟩))
  simp only[this]
 case buildSlice t n ps =>
  have:(ps.toList.map fun (_,x)=>(ev e x).cells)=ps.toList.map fun (_,x)=>(ev e' x).cells:=List.map_congr_left fun p hp=>by
   obtain⟨i,x⟩:=p;simp only[h x (List.mem_toArray.2 (sH.2 ⟨(i,x),hp,rfl⟩))]
  simp only[this]
 case makeFunc fn first captured =>
  cases fn <;> simp only
  rw[parr first fun x hx=>h x (by simp[hx]),parr captured fun x hx=>h x (by simp[hx])]
 case call c =>
  have ha:c.args.toList.map (ev e)=c.args.toList.map (ev e'):=parr c.args fun x hx=>h x (by simp[Call.operands,hx])
  cases hc:c.callee with
  | invoke r m=>rfl
  | value f =>
   have hf:ev e f=ev e' f:=h f (by simp[Call.operands,hc]);simp only[ha,hf]
  | builtin b =>
   cases b <;> simp only[ha]
   case len =>
    have : ∀x,c.args[0]? = some x→ev e x=ev e' x:=fun x hx=>h x (by
     have:=Array.mem_of_getElem? hx;simp[Call.operands,this])
    split
    ·rename_i t x ht hx;rw[this x hx]
    ·rfl
   case append =>
    split
    ·rename_i t u x y ht hu hargs;have hy:ev e y=ev e' y:=h y (by
      have:y∈c.args:=by rw[←Array.mem_toList_iff,hargs];simp
      simp[Call.operands,this])
     have hx:ev e x=ev e' x:=h x (by
      have:x∈c.args:=by rw[←Array.mem_toList_iff,hargs];simp
      simp[Call.operands,this])
     rw[hy,hx]
    ·rfl
 case slice t x lo hi mx=>cases lo <;> cases hi <;> cases mx <;> simp_all
 all_goals (first | rfl | (simp_all;done) | (simp_all <;> rfl))
theorem zCd {P:Program} {H:Hints} {cp:kQ} {o:Oper} {e:Env} {S S':zA} {nid:Nat} (he:yN H o e=false) (hk:kind H o e≠1):ev1 P cp o e S nid=ev1 P cp o e S' nid:=by
 obtain⟨dst,op,type,pos,after,guard⟩:=o;unfold kind at hk;rw[he]at hk;cases op
 case makeFunc fn x y=>cases fn <;> simp[ev1]
 all_goals (simp at hk;try simp[ev1,yB])
theorem zCe {P:Program} {cp:kQ} {o:Oper} {e:Env} {S:zA} {nid nid':Nat} {out:Out} (h:ev1 P cp o e S nid=some out) (hn:out.new=none):ev1 P cp o e S nid'=some out:=by
 obtain⟨dst,op,type,pos,after,guard⟩:=o;cases op
 case makeFunc fn x y=>cases fn <;> simp only[ev1]at h ⊢ <;> exact h
 all_goals (simp only[ev1,reduceCtorEq]at h ⊢;try exact h)
 case alloc t =>
  obtain⟨z,_,h⟩:=bind_some h
  split at h <;> cases h
  cases hn
 case box t x =>
  unfold yB at h
  split at h <;> cases h
  cases hn
 case buildSlice t n ps =>
  split at h <;> try cases h
  split at h <;> cases h
  cases hn
 case makeSlice t l c =>
  split at h <;> try cases h
  obtain⟨z,_,h⟩:=bind_some h
  split at h <;> cases h
  cases hn
 case call c =>
  cases hc:c.callee with
  | invoke r m=>rw[hc]at h;cases h
  | value f=>rw[hc]at h;exact h
  | builtin b =>
   rw[hc]at h
   cases b <;> simp only[reduceCtorEq]at h ⊢ <;> try exact h
   split at h <;> try cases h
   split at h <;> try cases h
   split at h <;> try cases h
   unfold yn at h ⊢
   split at h
   ·rename_i hex;rw[hZ hex];obtain⟨rows,h1,h⟩:=bind_some h;rw[h1];simp only[bC];obtain⟨new,h2,h⟩:=bind_some h;rw[h2];simp only[bC]
    split at h
    ·rename_i hc;rw[hZ hc]
     split at h
     ·rename_i h0;rw[hZ h0]
      split at h
      ·cases h;cases hn
      ·rename_i h3;rw[hI h3];simp_all
     ·cases h;cases hn
    ·cases h
   ·cases h
theorem ZK {P:Program} {H:Hints} {cp:kQ} {o:Oper} {e:Env} {S:zA} {nid:Nat} {out:Out} (he:yN H o e=false) (h:ev1 P cp o e S nid=some out) :
  (∀i∈out.fz,i<S.length)∧(kind H o e≠1→out.fz=[])∧(kind H o e=0→out.new=none)∧(kind H o e=0∨kind H o e=1∨kind H o e=2):=by
 have hk:kind H o e=0∨kind H o e=1∨kind H o e=2:=by
  unfold kind;rw[he];simp only[bH,if_false]
  split <;> simp
 obtain⟨dst,op,type,pos,after,guard⟩:=o
 suffices hs:(∀i∈out.fz,i<S.length)∧(kind H ⟨dst,op,type,pos,after,guard⟩ e≠1→out.fz=[])∧(kind H ⟨dst,op,type,pos,after,guard⟩ e=0→out.new=none) from⟨hs.1,hs.2.1,hs.2.2,hk⟩
 have k2 : ∀ {k:Nat},kind H ⟨dst,op,type,pos,after,guard⟩ e=k→k≠0→(kind H ⟨dst,op,type,pos,after,guard⟩ e=0→out.new=none):=fun h1 h2 h3=>absurd (h1.symm.trans h3) h2;have val : ∀v,out = {v:=v} → (∀i∈out.fz,i<S.length)∧(kind H ⟨dst,op,type,pos,after,guard⟩ e≠1→out.fz=[])∧(kind H ⟨dst,op,type,pos,after,guard⟩ e=0→out.new=none):=fun v hv=>by subst hv;simp
 have mp : ∀ {x:Option PV},(x.map fun v=>({v} : Out))=some out→(∀i∈out.fz,i<S.length)∧(kind H ⟨dst,op,type,pos,after,guard⟩ e≠1→out.fz=[])∧(kind H ⟨dst,op,type,pos,after,guard⟩ e=0→out.new=none):=fun h=>by
  obtain⟨v,_,rfl⟩:=map_some h;exact val v rfl
 cases op <;> simp only[ev1,reduceCtorEq,Option.some.injEq]at h
 case move x=>exact val _ h.symm
 case assign x=>exact val _ h.symm
 case pick c x y =>
  split at h
  ·cases h;exact val _ rfl
  ·cases h
 case alloc t =>
  obtain⟨z,_,h⟩:=bind_some h
  split at h <;> cases h
  simp[kind,he]
 case box t x =>
  unfold yB at h
  split at h <;> cases h
  simp[kind,he]
 case build t ps =>
  split at h <;> try cases h
  all_goals
   obtain⟨z,_,h⟩:=bind_some h
   split at h
   ·obtain⟨v,_,rfl⟩:=map_some h;simp
   ·cases h
 case buildSlice t n ps =>
  split at h <;> try cases h
  split at h <;> cases h
  simp[kind,he]
 case load t x=>exact mp h
 case nilCheck x =>
  split at h <;> first | cases h | skip
  all_goals exact val _ rfl
 case binOp op t x y c=>exact mp h
 case unOp op t x=>exact mp h
 case convert s d x =>
  split at h
  ·exact mp h
  ·cases h
 case makeFunc fn first caps =>
  cases fn <;> simp only[reduceCtorEq,Option.some.injEq]at h
  exact val _ h.symm
 case makeSlice t l c =>
  split at h <;> try cases h
  obtain⟨z,_,h⟩:=bind_some h
  split at h <;> cases h
  simp[kind,he]
 case slice t x lo hi mx =>
  split at h
  ·cases h
  ·exact mp h
 case fieldAddr t x f=>exact mp h
 case field t x f=>exact mp h
 case indexAddr t x i =>
  split at h
  ·exact mp h
  ·cases h
 case index t x i =>
  split at h
  ·split at h
   ·exact mp h
   ·cases h
  ·exact mp h
  ·cases h
 case extract x i =>
  split at h
  ·exact mp h
  ·cases h
 case call c =>
  have k1:kind H ⟨dst,.call c,type,pos,after,guard⟩ e=1:=by simp[kind,he]
  rw[k1];simp only[ne_eq,not_true_eq_false,false_implies,true_and,and_true,Nat.one_ne_zero]
  cases hc:c.callee with
  | invoke r m=>rw[hc]at h;cases h
  | value f =>
   rw[hc]at h;simp only at h
   split at h
   ·split at h
    ·rename_i ha;obtain⟨args,_,h⟩:=bind_some h;obtain⟨v,_,rfl⟩:=map_some h;intro i hi;rw[pN]at ha
     simpa using ha i hi
    ·cases h
   ·cases h
  | builtin b =>
   rw[hc]at h
   cases b <;> simp only[reduceCtorEq]at h
   case len =>
    split at h
    ·exact (mp h).1
    ·cases h
   case max =>
    split at h <;> cases h
    simp
   case min =>
    split at h <;> cases h
    simp
   case append =>
    split at h <;> try cases h
    split at h <;> try cases h
    split at h <;> try cases h
    unfold yn at h
    split at h
    ·obtain⟨rows,_,h⟩:=bind_some h;obtain⟨new,_,h⟩:=bind_some h
     split at h
     ·split at h
      ·split at h <;> (cases h;simp)
      ·cases h;simp
     ·cases h
    ·cases h
theorem Kd {C:Ctx} {o:Oper} {e:Env} {S:zA} {r:Eff} (h:ev2 C o e S=some r):S.length≤r.S.length:=by
 obtain⟨dst,op,type,pos,after,guard⟩:=o
 cases op <;> simp only[ev2,reduceCtorEq]at h
 case store t x y =>
  split at h
  ·obtain⟨S',h1,rfl⟩:=map_some h;unfold yr at h1
   split at h1
   ·split at h1
    ·split at h1
     ·cases h1;simp
     ·cases h1
    ·cases h1
   ·cases h1
  ·cases h
 case call c =>
  cases hc:c.callee with
  | invoke r m=>rw[hc]at h;cases h
  | value f =>
   rw[hc]at h;simp only at h
   split at h
   ·split at h
    ·obtain⟨⟨v,S'⟩,_,h⟩:=bind_some h;simp only at h
     split at h
     ·rename_i hle;cases h;exact hle.1
     ·cases h
    ·obtain⟨args,_,h⟩:=bind_some h;obtain⟨v,_,rfl⟩:=map_some h;rw[zp];exact bB _
   ·cases h
  | builtin b =>
   rw[hc]at h
   cases b <;> simp only[reduceCtorEq]at h
   case append =>
    split at h <;> try cases h
    split at h <;> try cases h
    split at h <;> try cases h
    unfold vz at h
    split at h
    case h_2=>cases h
    rename_i heq;rw[heq]at h
    split at h
    ·obtain⟨rows,g,_,_,_,f4,_⟩:=uP h;rw[f4];exact bB _
    ·obtain⟨out1,h1,rfl⟩:=map_some h;obtain⟨rows,g,_,_,_,f4,_⟩:=uP h1;simp[wW,f4]
   case copy =>
    split at h <;> try cases h
    split at h <;> try cases h
    split at h <;> try cases h
    unfold jo at h
    split at h
    ·split at h
     ·obtain⟨new,_,h⟩:=bind_some h
      split at h
      ·cases h;simp
      ·cases h
     ·cases h
    ·cases h
end Go.Vs
end
section
namespace Go.Vs
open Go
section
variable {P:Program} {w:World} {X:Nat→Prop} {A:yT} {n:Nat} {μ : Mu} {S:zA}
def QD (S:zA):Prop:=∀id a,arrs S id=some a→∀i∈zd a.rows,i<S.length
theorem Wl (h:uI S=true):QD S:=by
 intro id a ha i hi;unfold arrs at ha
 split at ha
 ·rename_i rows g f hq;cases ha;have:=pN.1 h _ (bK hq);simp only at this;exact BW (pN.1 this i hi)
 ·cases ha
def over (lo:Nat) (B:zA) (A:yT):yT:=fun id=>if lo≤id∧id<B.length then arrs B id else A id
def yz (m:Nat) (μ' μ : Mu):Mu:=fun id=>if id<m then μ' id else μ id
def uQ (m:Nat) (μ : Mu):Mu:=fun id=>if id<m then μ id else none
def loX (X:Nat→Prop) (A:yT) (μ : Mu) (m:Nat) (b:Nat):Prop:=X b∨∃id a k,m≤id∧A id=some a∧a.f=false ∧ μ id=some k∧k.b=b
theorem wu {S:zA} {id:Nat} {a:Arr} (h:arrs S id=some a):id<S.length:=by
 unfold arrs at h
 split at h
 ·rename_i hq;exact (bL.1 hq).1
 ·cases h
theorem zEJ (h1 : ∀id,id<S.length→A id=arrs S id) {b:Nat} (h:Av (loX X A μ S.length) (arrs S) (uQ S.length μ) b):Av X A μ b:=by
 rcases h with h | ⟨id,rows,g,k,q1,q2,q3⟩
 ·rcases h with h | ⟨id,a,k,q0,q1,q2,q3,q4⟩
  ·exact .inl h
  ·obtain⟨rows,g,f⟩:=a;simp only at q2;subst q2;exact .inr ⟨id,rows,g,k,q1,q3,q4⟩
 ·have hlt:=wu q1;simp only[uQ,hZ hlt]at q2;exact .inr ⟨id,rows,g,k,by rw[h1 id hlt];exact q1,q2,q3⟩
theorem SR.lo (hS:SR w X A n μ) (h1 : ∀id,id<S.length→A id=arrs S id) (hc:QD S):SR w (loX X A μ S.length) (arrs S) S.length (uQ S.length μ) where
 lt:=fun id hid=>⟨by simp only[uQ];rw[hI (by omega)],by
  unfold arrs;rw[bY hid]⟩
 blk:=fun id a ha b hb=>by
  have hlt:=wu ha;simp only[uQ,hZ hlt]at hb;obtain⟨c,el,k0,k1,k2,k3,k4⟩:=hS.blk id a (by rw[h1 id hlt];exact ha) b hb;refine⟨c,el,k0,k1,k2,k3,fun i row j pv hi hj=>?_⟩;obtain⟨v,q1,q2,q3⟩:=k4 i row j pv hi hj;refine⟨v,q1,q2,q3.mono (xp.less fun b hb=>zEJ h1 hb) fun x hx b hb=>?_⟩;have:=hc id a ha x (by
   simp only[zd,HO];exact⟨row,bK hi,xi hj hx⟩)
  simp only[uQ,hZ this];exact hb
 nob:=fun id a ha hn=>by
  have hlt:=wu ha;simp only[uQ,hZ hlt]at hn;exact hS.nob id a (by rw[h1 id hlt];exact ha) hn
 gsz:=fun id a ha=>by
  have hlt:=wu ha;have:=hS.gsz id a (by rw[h1 id hlt];exact ha);simp only[uQ,hZ hlt];exact this
 inj:=fun id id' a a' b b' ha ha' hb hb' he=>by
  have hlt:=wu ha;have hlt':=wu ha';simp only[uQ,hZ hlt]at hb;simp only[uQ,hZ hlt']at hb';exact hS.inj id id' a a' b b' (by rw[h1 id hlt];exact ha) (by rw[h1 id' hlt'];exact ha') hb hb' he
 out:=fun id a b ha hb hx=>by
  have hlt:=wu ha;simp only[uQ,hZ hlt]at hb;have ha':A id=some a:=by rw[h1 id hlt];exact ha
  rcases hx with hx | ⟨id',a',k,q0,q1,q2,q3,q4⟩
  ·exact hS.out id a b ha' hb hx
  ·have:=hS.inj id' id a' a k b q1 ha' q3 hb q4;omega
 xlt:=fun b hb=>by
  rcases hb with hb | ⟨id,a,k,q0,q1,q2,q3,q4⟩
  ·exact hS.xlt b hb
  ·obtain⟨c,el,hh,_⟩:=hS.blk id a q1 k q3;rw[←q4];exact (pR.1 hh).1
section
variable {w':World} {S':zA} {μ':Mu}
theorem zHd (h1 : ∀id,id<S.length→A id=arrs S id) (hl:S.length≤S'.length) (h3 : ∀id a,S'.length≤id→A id=some a→a.f=false) {b:Nat} (h:Av X (over 0 S' A) (yz S'.length μ' μ) b):Av (loX X A μ S.length) (arrs S') μ' b:=by
 rcases h with h | ⟨id,rows,g,k,q1,q2,q3⟩
 ·exact .inl (.inl h)
 ·by_cases hlt:id<S'.length
  ·simp only[over,sD,true_and,hZ hlt]at q1;simp only[yz,hZ hlt]at q2;exact .inr ⟨id,rows,g,k,q1,q2,q3⟩
  ·simp only[over,sD,true_and,hI hlt]at q1;simp only[yz,hI hlt]at q2;exact .inl (.inr ⟨id,_,k,by omega,q1,rfl,q2,q3⟩)
theorem SR.hi (hS:SR w X A n μ) (h1 : ∀id,id<S.length→A id=arrs S id) (hl:S.length≤S'.length) (h2 : ∀id,S.length≤id→id<S'.length→A id=none ∧ μ id=none) (h3 : ∀id a,S'.length≤id→A id=some a→a.f=false)
  (k1:SR w' (loX X A μ S.length) (arrs S') S'.length μ') (k2:Tr S.length w (arrs S) (uQ S.length μ) w' (arrs S') μ') {base:Nat} (hb:base≤S.length) :
  SR w' X (over 0 S' A) (max n S'.length) (yz S'.length μ' μ)∧Tr base w A μ w' (over 0 S' A) (yz S'.length μ' μ) ∧
  (∀pv v,VR w (Av X A μ) μ pv v→VR w' (Av X (over 0 S' A) (yz S'.length μ' μ)) (yz S'.length μ' μ) pv v) ∧
  (∀pv v,VR w' (Av (loX X A μ S.length) (arrs S') μ') μ' pv v→VR w' (Av X (over 0 S' A) (yz S'.length μ' μ)) (yz S'.length μ' μ) pv v):=by
 have oA : ∀ {id},id<S'.length→over 0 S' A id=arrs S' id:=fun {id} h=>by simp only[over,sD,true_and,hZ h]
 have oB : ∀ {id},¬id<S'.length→over 0 S' A id=A id:=fun {id} h=>by simp only[over,sD,true_and,hI h]
 have mA : ∀ {id},id<S'.length→yz S'.length μ' μ id = μ' id:=fun {id} h=>by simp only[yz,hZ h]
 have mB : ∀ {id},¬id<S'.length→yz S'.length μ' μ id = μ id:=fun {id} h=>by simp only[yz,hI h]
 have av1 : ∀b,Av (loX X A μ S.length) (arrs S) (uQ S.length μ) b→Av X A μ b:=fun b h=>zEJ h1 h;have av2 : ∀b,Av X (over 0 S' A) (yz S'.length μ' μ) b→Av (loX X A μ S.length) (arrs S') μ' b:=fun b h=>zHd h1 hl h3 h;have kp:xp w (Av X A μ) w' (Av X (over 0 S' A) (yz S'.length μ' μ)):=fun a u q1 q2=>by
  obtain⟨r1,r2⟩:=k2.keeps (X:=loX X A μ S.length) a u q1 fun h=>q2 (av1 _ h);exact⟨r1,fun h=>r2 (av2 _ h)⟩
 have muk : ∀i b,μ i=some b→yz S'.length μ' μ i=some b:=fun i b h=>by
  by_cases hi:i<S.length
  ·rw[mA (by omega),k2.mu i hi];simp only[uQ,hZ hi];exact h
  ·by_cases hi2:i<S'.length
   ·rw[(h2 i (by omega) hi2).2]at h;cases h
   ·rw[mB hi2];exact h
 have muk' : ∀i b,μ' i=some b→yz S'.length μ' μ i=some b:=fun i b h=>by
  by_cases hi2:i<S'.length
  ·rw[mA hi2];exact h
  ·rw[(k1.lt i (by omega)).1]at h;cases h
 have vr1 : ∀pv v,VR w (Av X A μ) μ pv v→VR w' (Av X (over 0 S' A) (yz S'.length μ' μ)) (yz S'.length μ' μ) pv v:=fun pv v h=>h.mono kp fun i _ b hb=>muk i b hb;have vr2 : ∀pv v,VR w' (Av (loX X A μ S.length) (arrs S') μ') μ' pv v→VR w' (Av X (over 0 S' A) (yz S'.length μ' μ)) (yz S'.length μ' μ) pv v:=fun pv v h=>h.mono (xp.less av2) fun i _ b hb=>muk' i b hb;have stay : ∀id a b,S'.length≤id→A id=some a → μ id=some b→b.b<w.heap.size∧w'.heap[b.b]? = w.heap[b.b]? ∧ loX X A μ S.length b.b:=fun id a b hid ha hbm=>by
  obtain⟨c,el,hh,_⟩:=hS.blk id a ha b hbm;have hlt:=(pR.1 hh).1;refine⟨hlt,k2.keep _ hlt ?_,.inr ⟨id,a,b,by omega,ha,h3 id a hid ha,hbm,rfl⟩⟩
  rintro⟨id',rows,g,k,q1,q2,q3⟩
  have hlt':=wu q1;simp only[uQ,hZ hlt']at q2;have:=hS.inj id' id _ a k b (by rw[h1 id' hlt'];exact q1) ha q2 hbm q3;omega
 refine⟨⟨fun id hid=>?_,fun id a ha b hbm=>?_,fun id a ha hn=>?_,fun id a ha=>?_,fun id id' a a' b b' ha ha' hb hb' he=>?_,fun id a b ha hbm hx=>?_,fun b hx=>aV (hS.xlt b hx) k2.size⟩,⟨k2.os,k2.tape,k2.output,k2.size,fun b hlt hm=>k2.keep b hlt fun h=>hm ?_,fun b hlt hm=>?_,fun id hid=>?_⟩,vr1,vr2⟩
 ·rw[oB (by omega),mB (by omega)];exact hS.lt id (by omega)
 ·by_cases hlt:id<S'.length
  ·rw[oA hlt]at ha;rw[mA hlt]at hbm;obtain⟨c,el,q0,q1,q2,q3,q4⟩:=k1.blk id a ha b hbm;refine⟨c,el,q0,q1,q2,q3,fun i row j pv hi hj=>?_⟩;obtain⟨v,r1,r2,r3⟩:=q4 i row j pv hi hj;exact⟨v,r1,r2,vr2 _ _ r3⟩
  ·rw[oB hlt]at ha;rw[mB hlt]at hbm;obtain⟨c,el,q0,q1,q2,q3,q4⟩:=hS.blk id a ha b hbm;refine⟨c,el,by rw[(stay id a b (by omega) ha hbm).2.1];exact q0,q1,q2,q3,fun i row j pv hi hj=>?_⟩;obtain⟨v,r1,r2,r3⟩:=q4 i row j pv hi hj;exact⟨v,r1,r2,vr1 _ _ r3⟩
 ·by_cases hlt:id<S'.length
  ·rw[oA hlt]at ha;rw[mA hlt]at hn;exact k1.nob id a ha hn
  ·rw[oB hlt]at ha;rw[mB hlt]at hn;exact hS.nob id a ha hn
 ·by_cases hlt:id<S'.length
  ·rw[oA hlt]at ha;rw[mA hlt];exact k1.gsz id a ha
  ·rw[oB hlt]at ha;rw[mB hlt];exact hS.gsz id a ha
 ·by_cases hlt:id<S'.length <;> by_cases hlt':id'<S'.length
  ·rw[oA hlt]at ha;rw[mA hlt]at hb;rw[oA hlt']at ha';rw[mA hlt']at hb';exact k1.inj id id' a a' b b' ha ha' hb hb' he
  ·rw[oA hlt]at ha;rw[mA hlt]at hb;rw[oB hlt']at ha';rw[mB hlt']at hb';have:=(stay id' a' b' (by omega) ha' hb').2.2;rw[←he]at this;exact absurd this (k1.out id a b ha hb)
  ·rw[oB hlt]at ha;rw[mB hlt]at hb;rw[oA hlt']at ha';rw[mA hlt']at hb';have:=(stay id a b (by omega) ha hb).2.2;rw[he]at this;exact absurd this (k1.out id' a' b' ha' hb')
  ·rw[oB hlt]at ha;rw[mB hlt]at hb;rw[oB hlt']at ha';rw[mB hlt']at hb';exact hS.inj id id' a a' b b' ha ha' hb hb' he
 ·by_cases hlt:id<S'.length
  ·rw[oA hlt]at ha;rw[mA hlt]at hbm;exact k1.out id a b ha hbm (.inl hx)
  ·rw[oB hlt]at ha;rw[mB hlt]at hbm;exact hS.out id a b ha hbm hx
 ·obtain⟨id,rows,g,k,q1,q2,q3⟩:=h;have hlt':=wu q1;simp only[uQ,hZ hlt']at q2;exact⟨id,rows,g,k,by rw[h1 id hlt'];exact q1,q2,q3⟩
 ·obtain⟨id,rows,g,k,q1,q2,q3⟩:=hm;by_cases hlt2:id<S'.length
  ·rw[oA hlt2]at q1;rw[mA hlt2]at q2;obtain⟨id',rows',g',k',r1,r2,r3⟩:=k2.less b hlt ⟨id,rows,g,k,q1,q2,q3⟩;have hlt':=wu r1;simp only[uQ,hZ hlt']at r2;exact⟨id',rows',g',k',by rw[h1 id' hlt'];exact r1,r2,r3⟩
  ·rw[oB hlt2]at q1;rw[mB hlt2]at q2;exact⟨id,rows,g,k,q1,q2,q3⟩
 ·rw[mA (by omega),k2.mu id (by omega)];simp only[uQ];rw[hZ (by omega)]
end
end
end Go.Vs
end
