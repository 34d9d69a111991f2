
import Derived.Test.YtfbkajadbjbfiaaGreatMA2
set_option linter.unusedVariables false
set_option linter.unusedSimpArgs false
section
namespace Go.Vs
open Go
theorem jG {α β:Type} {f:α→β} {x:Option α} {b:β} (h:x.map f=some b) : ∃a,x=some a∧b=f a:=by
 cases x with
 | none=>cases h
 | some a=>exact⟨a,rfl,by simpa using h.symm⟩
theorem YS {α β:Type} {f:α→Option β} {x:Option α} {b:β} (h:x.bind f=some b) : ∃a,x=some a∧f a=some b:=by
 cases x with
 | none=>cases h
 | some a=>exact⟨a,rfl,h⟩
section
variable {P:Program} {w:World} {X:Nat→Prop} {A:yT} {n:Nat} {μ : Mu} {av:Nat→Prop} {S:zA}
theorem SR.newNil (hS:SR w X A n μ) {nid n':Nat} (hA:A nid=none) (hμ : μ nid=none) (hn:nid<n') (hnn:n≤n') (g:Option (Option Nat)) (base:Nat) :
  SR w X (upd A nid ⟨[],g,false⟩) n' μ ∧ Tr base w A μ w (upd A nid ⟨[],g,false⟩) μ := by
 have hm : ∀b,Mut (upd A nid ⟨[],g,false⟩) μ b→Mut A μ b:=by
  rintro b ⟨id,rows,g',k,h1,h2,h3⟩
  by_cases hid:id=nid
  ·subst hid;rw[hμ]at h2;cases h2
  ·rw[zP _ _ _ hid]at h1;exact⟨id,rows,g',k,h1,h2,h3⟩
 have htr:Tr base w A μ w (upd A nid ⟨[],g,false⟩) μ := ⟨rfl,rfl,rfl,bB _,fun _ _ _=>rfl,fun b _ h=>hm b h,fun _ _=>rfl⟩;refine⟨⟨fun id hid=>⟨(hS.lt id (by omega)).1,by rw[zP _ _ _ (by omega)];exact (hS.lt id (by omega)).2⟩,fun id a ha b hb=>?_,fun id a ha hb=>?_,fun id a ha=>?_,fun id id' a a' b b' h1 h2 h3 h4 h5=>?_,fun id a b h1 h2=>?_,hS.xlt⟩,htr⟩
 ·by_cases hid:id=nid
  ·subst hid;rw[hμ]at hb;cases hb
  ·rw[zP _ _ _ hid]at ha;obtain⟨c,el,k0,k1,k2,k3,k4⟩:=hS.blk id a ha b hb;refine⟨c,el,k0,k1,k2,k3,fun i row j pv hi hj=>?_⟩;obtain⟨v,hv1,hv2,hv3⟩:=k4 i row j pv hi hj;exact⟨v,hv1,hv2,hv3.mono htr.keeps fun _ _ _ h=>h⟩
 ·by_cases hid:id=nid
  ·subst hid;rw[zM]at ha;simp at ha;subst ha;rfl
  ·rw[zP _ _ _ hid]at ha;exact hS.nob id a ha hb
 ·by_cases hid:id=nid
  ·subst hid;exact⟨fun _=>hμ,fun k _ b hb=>by rw[hμ]at hb;cases hb⟩
  ·rw[zP _ _ _ hid]at ha;exact hS.gsz id a ha
 ·by_cases hid:id=nid
  ·subst hid;rw[hμ]at h3;cases h3
  ·by_cases hid':id'=nid
   ·subst hid';rw[hμ]at h4;cases h4
   ·rw[zP _ _ _ hid]at h1;rw[zP _ _ _ hid']at h2;exact hS.inj id id' a a' b b' h1 h2 h3 h4 h5
 ·by_cases hid:id=nid
  ·subst hid;rw[hμ]at h2;cases h2
  ·rw[zP _ _ _ hid]at h1;exact hS.out id a b h1 h2
theorem Z3 {t:TypeId} (h:vf (tyi P t)=true) : ∃i v,P.info? t=some i∧i.zero=some v∧v.cells.size=i.size∧i.size=(tyi P t).size∧i.bytes=(tyi P t).bytes:=by
 unfold vf at h
 cases hz:(tyi P t).zero with
 | none=>rw[hz]at h;cases h
 | some z =>
  rw[hz]at h;simp only[bS,beq_iff_eq]at h;obtain⟨i,v,h1,h2,rfl⟩:=vr hz;obtain⟨s1,s2⟩:=ZH h1;obtain⟨e1,_⟩:=wC (w:=default) (av:=fun _=>False) (μ := fun _=>none) (xk v) h.2;exact⟨i,v,h1,h2,by omega,s1,s2⟩
theorem kf (z:Array Value) (k:Nat):(Builtin.zeroCells z k).size=k*z.size:=by simp[Builtin.zeroCells]
theorem Vw {sz:Nat} {rows new:List (List PV)} {olds news:List Value} {R:PV→Value→Prop} (hrl : ∀r∈rows++new,r.length=sz) (hol:olds.length=rows.length*sz)
  (h1 : ∀i row j pv,rows[i]? = some row→row[j]? = some pv→∃u,olds[i*sz+j]? = some u∧flat u=true∧R pv u)
  (h2 : ∀i row j pv,new[i]? = some row→row[j]? = some pv→∃u,news[i*sz+j]? = some u∧flat u=true∧R pv u) :
  ∀i row j pv,(rows++new)[i]? = some row→row[j]? = some pv→∃u,(olds++news)[i*sz+j]? = some u∧flat u=true∧R pv u:=by
 intro i row j pv hi hj;have hjl:=(bL.1 hj).1;rw[hrl row (bK hi)]at hjl;by_cases hil:i<rows.length
 ·rw[pP hil]at hi;have:(i+1)*sz≤rows.length*sz:=bV _ hil;rw[bZ]at this;rw[pP (by omega)];exact h1 i row j pv hi hj
 ·rw[pG (by omega)]at hi;have:rows.length*sz≤i*sz:=bV _ (by omega);rw[pG (by omega),hol,show i*sz+j-rows.length*sz=(i-rows.length)*sz+j by rw[Nat.sub_mul];omega];exact h2 _ row j pv hi hj
theorem Vx {x:PV} {u:Value} (hx:VR w (Av X A μ) μ x u) (he:exact x=true) {S:zA} {rows:List (List PV)} (hr:rowsIn S x=some rows) : ∃a,u=.slice a rows.length rows.length:=by
 cases x <;> simp only[exact,bH]at he
 case sl r ex =>
  subst he;simp only[rowsIn,Option.some.injEq]at hr;subst hr
  cases hx with | fr hx =>
  cases hx with | sl _ _ a cap ad sz c hcap hex =>
  rw[hex rfl];exact⟨a,rfl⟩
 case msl id off len ex =>
  subst he;have hl:rows.length=len:=by
   simp only[rowsIn]at hr
   cases hq:zz S id with
   | none=>rw[hq]at hr;cases hr
   | some q =>
    rw[hq]at hr;simp only[bC]at hr
    split at hr
    ·simp at hr;rw[←hr];simp;omega
    ·cases hr
  cases hx with
  | fr hx=>cases hx
  | mslNil _ _ a=>rw[hl];exact⟨a,rfl⟩
  | msl _ _ _ _ ad cap b hb hlen htot hex had=>rw[hl,hex rfl];exact⟨some ad,rfl⟩
theorem Zm (hS:SR w X A n μ) (hSA:vG S A μ) {nid n':Nat} (hA:A nid=none) (hμ : μ nid=none) (hn:nid<n') (hnn:n≤n') {base:Nat} (hb:base≤nid) {t tx el:TypeId} (ty:TypeId) (hd:(tyi P t).d=.slice el) (hdx:Zi (tyi P tx).d=true)
  (hz:vf (tyi P el)=true) {x y:PV} {u v:Value} (hx:VR w (Av X A μ) μ x u) (hy:VR w (Av X A μ) μ y v) {out:Out} (h:yn (tyi P el).bytes (tyi P el).size S nid x y=some out) :
  (out = {v:=x} ∧ (Builtin.append_ #[t,tx] ty #[u,v]).run P w=.ok u w)∨∃rows g,out.new=some (rows,g)∧out.fz=[]∧∃r w' μ',(Builtin.append_ #[t,tx] ty #[u,v]).run P w=.ok r w' ∧
   SR w' X (upd A nid ⟨rows,g,false⟩) n' μ'∧Tr base w A μ w' (upd A nid ⟨rows,g,false⟩) μ'∧(∀i,i≠nid → μ' i = μ i) ∧
   VR w' (Av X (upd A nid ⟨rows,g,false⟩) μ') μ' out.v r:=by
 obtain⟨i0,z,hi0,hz0,hzs,s1,s2⟩:=Z3 hz;have ht:=ye hd;unfold yn at h
 split at h
 case isFalse=>cases h
 rename_i hex
 cases hrx:rowsIn S x with
 | none=>rw[hrx]at h;cases h
 | some rows =>
 rw[hrx]at h;simp only[bC]at h
 cases hnew:rowsS S y with
 | none=>rw[hnew]at h;cases h
 | some new =>
 rw[hnew]at h;simp only[bC]at h
 split at h
 case isFalse=>cases h
 rename_i hc;obtain⟨c1,c2,c3,c4⟩:=hc;obtain⟨olds,so,ho⟩:=Xi (P:=P) hS hSA ht hx hrx c1;obtain⟨news,sn,hnw⟩:=YR (P:=P) hS hSA hdx hy hnew c2;rw[←s1]at so sn ho hnw;obtain⟨a,rfl⟩:=Vx hx hex hrx;have nothing:new.length=0→(Builtin.append_ #[t,tx] ty #[.slice a rows.length rows.length,v]).run P w=.ok (.slice a rows.length rows.length) w:=fun h0=>by
  have hnews:news=[]:=bT (by rw[sn.newsLen,h0];simp);rw[h0,hnews]at sn;exact run_append_nothing w t tx ty el i0 ht hi0 a rows.length rows.length (bB _) v sn
 split at h
 ·rename_i h0
  split at h
  ·rename_i hr0;cases h;refine .inr ⟨[],some (some (tyi P el).size),rfl,rfl,?_⟩;obtain⟨k1,k2⟩:=hS.newNil hA hμ hn hnn (some (some (tyi P el).size)) base;refine⟨_,_,μ,nothing h0,k1,k2,fun _ _=>rfl,?_⟩;rw[hr0];exact .mslNil _ _ _
  ·cases h;exact .inl ⟨rfl,nothing h0⟩
 ·rename_i h0;cases h;refine .inr ⟨rows++new,some (some (tyi P el).size),rfl,rfl,?_⟩;have hrun:=run_append_grow_src (P:=P) w t tx ty el i0 z ht hi0 hz0 a rows.length rows.length olds so.cellsD v new.length news sn (by omega) (by omega) (growslice_fits (by omega) (by rw[s2];exact c3));obtain⟨hS1,tr1⟩:=hS.same (w':=w.drew) rfl rfl rfl rfl base;have hcap:=grownCap_ge w (rows.length+new.length) rows.length el;have hcs:((olds++news).toArray++Builtin.zeroCells z.cells (grownCap w (rows.length+new.length) rows.length el-(rows.length+new.length))).size=grownCap w (rows.length+new.length) rows.length el*i0.size:=by
   rw[Array.size_append,HZ,bO,so.newsLen,sn.newsLen,kf,hzs,←bZ,←bZ];congr 1;omega
  have hrl : ∀r∈rows++new,r.length=i0.size:=fun r hr=>by
   rw[s1]
   rcases sB.1 hr with hr | hr
   ·exact zu c1 r hr
   ·exact zu c2 r hr
  have hcomb:=Vw hrl so.newsLen ho hnw;obtain⟨k1,k2,k3⟩:=hS1.new hA hμ hn hnn (rows:=rows++new) (g:=some (some (tyi P el).size)) (cells:=(olds++news).toArray++Builtin.zeroCells z.cells (grownCap w (rows.length+new.length) rows.length el-(rows.length+new.length))) (el:=el) (sz:=i0.size) (by simp[s1])
   hrl (by rw[hcs,bO];exact bV _ hcap)
   (fun i row j pv hi hj=>by
    obtain⟨q,q1,q2,q3⟩:=hcomb i row j pv hi hj;refine⟨q,?_,q2,q3.mono tr1.keeps fun _ _ _ h=>h⟩;have hql:=(bL.1 q1).1;rw[PK (by simpa using hql),aW];exact q1) hb
  refine⟨_,_,_,hrun,k1,tr1.trans k2,k3,?_⟩;exact .msl nid 0 (rows.length+new.length) false _ _ _ (zM μ nid _) hcap (by simp only[bW,hcs];exact bB _) (by simp) (fun _=>by simp)
theorem js (ids:List Nat) (pv:PV):xU ids pv=.undef∨(xU ids pv=pv∧∀i∈ids,i ∉ pv.refs):=by
 unfold xU;by_cases h:(pv.refs.any fun i=>ids.contains i)=true
 ·rw[hZ h];exact .inl rfl
 ·rw[hI h];refine .inr ⟨rfl,fun i hi hm=>h ?_⟩;rw[List.any_eq_true];exact⟨i,hm,by simpa using hi⟩
theorem vn {rows:List (List PV)} {i j:Nat} {row:List PV} {pv:PV} (hi:rows[i]? = some row) (hj:row[j]? = some pv) {k:Nat} (hk:k∈pv.refs):k∈zd rows:=by
 simp only[zd,HO];exact⟨row,bK hi,xi hj hk⟩
theorem ja (ids:List Nat) (rows:List (List PV)):(xG ids rows).length=rows.length∧∀(i:Nat) (row':List PV),(xG ids rows)[i]? = some row'→∃row:List PV,rows[i]? = some row∧row'.length=row.length ∧
  ∀(k:Nat) (pv':PV),row'[k]? = some pv'→∃pv,row[k]? = some pv∧(pv'=.undef∨(pv'=pv∧∀j∈ids,j ∉ pv.refs)):=by
 unfold xG;by_cases h:((zd rows).any fun i=>ids.contains i)=true
 ·rw[hZ h];refine⟨by simp,fun i row' hi=>?_⟩;rw[pB]at hi
  cases hr:rows[i]? with
  | none=>rw[hr]at hi;cases hi
  | some row =>
   rw[hr]at hi;simp at hi;subst hi;refine⟨row,rfl,by simp,fun k pv' hk=>?_⟩;rw[pB]at hk
   cases hp:row[k]? with
   | none=>rw[hp]at hk;cases hk
   | some pv=>rw[hp]at hk;simp at hk;subst hk;exact⟨pv,rfl,js ids pv⟩
 ·rw[hI h];refine⟨rfl,fun i row hi=>⟨row,hi,rfl,fun k pv hk=>⟨pv,hk,.inr ⟨rfl,fun j hj hm=>h ?_⟩⟩⟩⟩;rw[List.any_eq_true];exact⟨j,vn hi hk hm,by simpa using hj⟩
theorem Xk (S:zA) (ids:List Nat) (j:Nat):arrs (S.map (yF ids)) j=(arrs S j).map fun a => {a with rows:=xG ids a.rows} := by
 unfold arrs;rw[pB]
 cases S[j]? with
 | none=>rfl
 | some o=>cases o <;> rfl
theorem SR.weaken (hS:SR w X A n μ) {A':yT} (h : ∀j b',A' j=some b'→∃b0,A j=some b0∧(b'.f=b0.f∧(b'.g=b0.g∨(∀k,b'.g=some k→k≠none∧∀b,μ j=some b→k=some b.sz)))∧b'.rows.length=b0.rows.length∧∀(i:Nat) (row':List PV),b'.rows[i]? = some row'→∃row:List PV,b0.rows[i]? = some row∧row'.length=row.length ∧
   ∀(k:Nat) (pv':PV),row'[k]? = some pv'→∃pv,row[k]? = some pv∧(pv'=.undef∨pv'=pv)) (base:Nat):SR w X A' n μ ∧ Tr base w A μ w A' μ := by
 have hm : ∀b,Mut A' μ b→Mut A μ b:=by
  rintro b ⟨id,rows,g,k,h1,h2,h3⟩
  obtain⟨b0,e1,⟨e2,_⟩,_⟩:=h id _ h1;exact⟨id,b0.rows,b0.g,k,by rw[e1];simp at e2;cases b0;simp_all,h2,h3⟩
 have htr:Tr base w A μ w A' μ := ⟨rfl,rfl,rfl,bB _,fun _ _ _=>rfl,fun b _ h=>hm b h,fun _ _=>rfl⟩;refine⟨⟨fun id hid=>⟨(hS.lt id hid).1,?_⟩,fun id a ha b hb=>?_,fun id a ha hb=>?_,fun id a ha=>?_,fun id id' a a' b b' h1 h2 h3 h4 h5=>?_,fun id a b h1 h2=>?_,hS.xlt⟩,htr⟩
 ·cases hq:A' id with
  | none=>rfl
  | some b'=>obtain⟨b0,e1,_⟩:=h id b' hq;rw[(hS.lt id hid).2]at e1;cases e1
 ·obtain⟨b0,e1,e2,e3,e4⟩:=h id a ha;obtain⟨c,el,k0,k1,k2,k3,k4⟩:=hS.blk id b0 e1 b hb;refine⟨c,el,k0,k1,by rw[e3];exact k2,fun r hr=>?_,fun i row' x pv' hi hx=>?_⟩
  ·obtain⟨i,hi⟩:=aX hr;obtain⟨row,r1,r2,_⟩:=e4 i r hi;rw[r2];exact k3 row (bK r1)
  ·obtain⟨row,r1,r2,r3⟩:=e4 i row' hi;obtain⟨pv,p1,p2⟩:=r3 x pv' hx;obtain⟨v,v1,v2,v3⟩:=k4 i row x pv r1 p1;refine⟨v,v1,v2,?_⟩
   rcases p2 with rfl | rfl
   ·exact .undef v
   ·exact v3.mono htr.keeps fun _ _ _ h=>h
 ·obtain⟨b0,e1,e2,e3,_⟩:=h id a ha;have:=hS.nob id b0 e1 hb;rw[this]at e3;exact bT (by simpa using e3)
 ·obtain⟨b0,e1,⟨_,e2⟩,_⟩:=h id a ha
  rcases e2 with e2 | e2
  ·rw[e2];exact hS.gsz id b0 e1
  ·exact⟨fun hn=>absurd rfl (e2 _ hn).1,fun k hk b hb=>by have:=(e2 _ hk).2 b hb;simpa using this.symm⟩
 ·obtain⟨b0,e1,_⟩:=h id a h1;obtain⟨b1,e1',_⟩:=h id' a' h2;exact hS.inj id id' b0 b1 b b' e1 e1' h3 h4 h5
 ·obtain⟨b0,e1,_⟩:=h id a h1;exact hS.out id b0 b e1 h2
theorem jb (hS:SR w X (arrs S) n μ) {base:Nat} {t tx el:TypeId} (ty:TypeId) (hd:(tyi P t).d=.slice el) (hdx:Zi (tyi P tx).d=true)
  (hz:vf (tyi P el)=true) {x y:PV} {u v:Value} (hx:VR w (Av X (arrs S) μ) μ x u) (hy:VR w (Av X (arrs S) μ) μ y v) {out:Eff} (h:vE base (tyi P el).bytes (tyi P el).size S x y=some out) :
  ∃r w' μ',(Builtin.append_ #[t,tx] ty #[u,v]).run P w=.ok r w'∧SR w' X (arrs out.S) n μ'∧Tr base w (arrs S) μ w' (arrs out.S) μ' ∧
   (∀pv v,VR w (Av X (arrs S) μ) μ pv v→VR w' (Av X (arrs out.S) μ') μ' (xU out.kill pv) v)∧VR w' (Av X (arrs out.S) μ') μ' out.v r∧out.S.length=S.length∧(∀j,j ∉ out.kill → μ' j = μ j):=by
 obtain⟨i0,z,hi0,hz0,hzs,s1,s2⟩:=Z3 hz;have ht:=ye hd;unfold vE at h
 split at h
 ·rename_i id len ex
  cases hid:S[id]? with
  | none=>rw[hid]at h;cases h
  | some o =>
  rw[hid]at h
  split at h
  ·rename_i rows g0 heq;simp only[Option.some.injEq]at heq;subst heq
   cases hnew:rowsS S y with
   | none=>rw[hnew]at h;cases h
   | some new =>
   rw[hnew]at h;simp only[bC]at h
   split at h
   ·rename_i hc;obtain⟨c1,rfl,c2,c3,c4,c5,c6,c7⟩:=hc;cases h;have hA:=uX hid;have hrows:rowsIn S (.msl id 0 rows.length ex)=some rows:=by simp[rowsIn,zz,hid]
    obtain⟨olds,so,ho⟩:=Xi (P:=P) hS (vG.refl S μ) ht hx hrows c3;obtain⟨news,sn,hnw⟩:=YR (P:=P) hS (vG.refl S μ) hdx hy hnew c4;rw[←s1]at so sn ho hnw;have hrl : ∀r∈rows++new,r.length=i0.size:=fun r hr=>by
     rw[s1]
     rcases sB.1 hr with hr | hr
     ·exact zu c3 r hr
     ·exact zu c4 r hr
    have hnoref : ∀(i:Nat) (row:List PV) (j:Nat) (pv:PV),(rows++new)[i]? = some row→row[j]? = some pv→id ∉ pv.refs:=by
     intro i row j pv hi hj hm;have:id∈zd (rows++new):=vn hi hj hm;simp only[zd,List.flatMap_append]at this;rw[BR]at c7;exact (of_decide_eq_false c7) (by simpa [zd] using this)
    have hl:=(bL.1 hid).1;have hA':=ke (S:=S.map (yF [id])) (id:=id) (by simpa using hl) (o:=Obj.arr (rows++new) (some (some (tyi P el).size)) false) rfl;have hoth : ∀j,j≠id→∀b',arrs ((S.map (yF [id])).set id (.arr (rows++new) (some (some (tyi P el).size)) false)) j=some b'→∃b0,arrs S j=some b0∧(b'.f=b0.f∧b'.g=b0.g)∧b'.rows.length=b0.rows.length∧∀(i:Nat) (row':List PV),b'.rows[i]? = some row'→∃row:List PV,b0.rows[i]? = some row∧row'.length=row.length ∧
      ∀(k:Nat) (pv':PV),row'[k]? = some pv'→∃pv,row[k]? = some pv∧(pv'=.undef∨(pv'=pv∧∀j∈[id],j ∉ pv.refs)):=by
     intro j hj b' hb';rw[hA',zP _ _ _ hj,Xk]at hb'
     cases hq:arrs S j with
     | none=>rw[hq]at hb';cases hb'
     | some b0 =>
      rw[hq]at hb';simp at hb';subst hb';obtain⟨k1,k2⟩:=ja [id] b0.rows;exact⟨b0,rfl,⟨rfl,rfl⟩,k1,k2⟩
    have lk : ∀ {w':World} {μ':Mu},(∀(pv:PV) (v:Value),VR w (Av X (arrs S) μ) μ pv v→id ∉ pv.refs→VR w' (Av X (arrs ((S.map (yF [id])).set id (.arr (rows++new) (some (some (tyi P el).size)) false))) μ') μ' pv v) →
      ∀pv v,VR w (Av X (arrs S) μ) μ pv v→VR w' (Av X (arrs ((S.map (yF [id])).set id (.arr (rows++new) (some (some (tyi P el).size)) false))) μ') μ' (xU [id] pv) v:=by
     intro w' μ' hlift pv v hv
     rcases js [id] pv with hk | ⟨hk,hn⟩
     ·rw[hk];exact .undef v
     ·rw[hk];exact hlift pv v hv (hn id (by simp))
    have none':new.length=0→∀a cap,rows.length≤cap→VR w (Av X (arrs S) μ) μ (.msl id 0 rows.length false) (.slice a rows.length cap)→u=.slice a rows.length cap→∃r w' μ',(Builtin.append_ #[t,tx] ty #[u,v]).run P w=.ok r w'∧SR w' X (arrs ((S.map (yF [id])).set id (.arr (rows++new) (some (some (tyi P el).size)) false))) n μ'∧Tr base w (arrs S) μ w' (arrs ((S.map (yF [id])).set id (.arr (rows++new) (some (some (tyi P el).size)) false))) μ' ∧
       (∀pv v,VR w (Av X (arrs S) μ) μ pv v→VR w' (Av X (arrs ((S.map (yF [id])).set id (.arr (rows++new) (some (some (tyi P el).size)) false))) μ') μ' (xU [id] pv) v)∧VR w' (Av X (arrs ((S.map (yF [id])).set id (.arr (rows++new) (some (some (tyi P el).size)) false))) μ') μ' (.msl id 0 (rows.length+new.length) false) r∧((S.map (yF [id])).set id (.arr (rows++new) (some (some (tyi P el).size)) false)).length=S.length∧(∀j,j ∉ [id] → μ' j = μ j):=fun h0 a cap hle hvr hu=>by
     have hnil:new=[]:=bT h0;have hnews:news=[]:=bT (by rw[sn.newsLen,h0];simp);rw[h0,hnews]at sn;obtain⟨k1,k2⟩:=hS.weaken (A':=arrs ((S.map (yF [id])).set id (.arr (rows++new) (some (some (tyi P el).size)) false))) (fun j b' hb'=>by
      by_cases hj:j=id
      ·subst hj;rw[hA',zM]at hb';simp at hb';subst hb';refine⟨_,hA,⟨rfl,.inr fun k hk=>?_⟩,by simp[hnil],fun i row' hi=>⟨row',by simpa [hnil] using hi,rfl,fun k pv' hk=>⟨pv',hk,.inr rfl⟩⟩⟩;simp at hk;subst hk;refine⟨by simp,fun b hb=>?_⟩;obtain⟨q1,q2⟩:=hS.gsz j _ hA
       rcases c2 with rfl | rfl
       ·rw[q1 rfl]at hb;cases hb
       ·rw[q2 _ rfl b hb]
      ·obtain⟨b0,e1,e2,e3,e4⟩:=hoth j hj b' hb';exact⟨b0,e1,⟨e2.1,.inl e2.2⟩,e3,fun i row' hi=>let ⟨row,r1,r2,r3⟩:=e4 i row' hi;⟨row,r1,r2,fun k pv' hk=>let ⟨pv,p1,p2⟩:=r3 k pv' hk;⟨pv,p1,p2.imp _root_.id And.left⟩⟩⟩) base
     subst hu;have lift : ∀pv v,VR w (Av X (arrs S) μ) μ pv v→VR w (Av X (arrs ((S.map (yF [id])).set id (.arr (rows++new) (some (some (tyi P el).size)) false))) μ) μ pv v:=fun pv v hv=>hv.mono k2.keeps fun _ _ _ h=>h;exact⟨_,_,μ,run_append_nothing w t tx ty el i0 ht hi0 a rows.length cap hle v sn,k1,k2,lk fun pv v hv _=>lift pv v hv,by rw[h0];exact lift _ _ hvr,by simp,fun _ _=>rfl⟩
    have grow : ∀a cap,cap<rows.length+new.length→u=.slice a rows.length cap→∃r w' μ',(Builtin.append_ #[t,tx] ty #[u,v]).run P w=.ok r w'∧SR w' X (arrs ((S.map (yF [id])).set id (.arr (rows++new) (some (some (tyi P el).size)) false))) n μ'∧Tr base w (arrs S) μ w' (arrs ((S.map (yF [id])).set id (.arr (rows++new) (some (some (tyi P el).size)) false))) μ' ∧
       (∀pv v,VR w (Av X (arrs S) μ) μ pv v→VR w' (Av X (arrs ((S.map (yF [id])).set id (.arr (rows++new) (some (some (tyi P el).size)) false))) μ') μ' (xU [id] pv) v)∧VR w' (Av X (arrs ((S.map (yF [id])).set id (.arr (rows++new) (some (some (tyi P el).size)) false))) μ') μ' (.msl id 0 (rows.length+new.length) false) r∧((S.map (yF [id])).set id (.arr (rows++new) (some (some (tyi P el).size)) false)).length=S.length∧(∀j,j ∉ [id] → μ' j = μ j):=by
     intro a cap hlt hu;subst hu;have hrun:=run_append_grow_src (P:=P) w t tx ty el i0 z ht hi0 hz0 a rows.length cap olds so.cellsD v new.length news sn hlt (by omega) (growslice_fits hlt (by rw[s2];exact c5));have hcap:=grownCap_ge w (rows.length+new.length) cap el;have hcs:((olds++news).toArray++Builtin.zeroCells z.cells (grownCap w (rows.length+new.length) cap el-(rows.length+new.length))).size=grownCap w (rows.length+new.length) cap el*i0.size:=by
      rw[Array.size_append,HZ,bO,so.newsLen,sn.newsLen,kf,hzs,←bZ,←bZ];congr 1;omega
     have hcomb:=Vw hrl so.newsLen ho hnw;obtain⟨k1,k2,k3⟩:=hS.rewrite hA rfl (bk:=⟨w.heap.size,i0.size,grownCap w (rows.length+new.length) cap el*i0.size⟩) (.inr (bB _)) (base:=base) (.inr c1)
      (w':=w.drew.alloc (.cells ((olds++news).toArray++Builtin.zeroCells z.cells (grownCap w (rows.length+new.length) cap el-(rows.length+new.length))) el))
      rfl rfl rfl (by rw[uA];exact Nat.le_succ _) (fun b hb _=>wI (w:=w.drew) hb)
      (A':=arrs ((S.map (yF [id])).set id (.arr (rows++new) (some (some (tyi P el).size)) false))) (a':=⟨rows++new,some (some (tyi P el).size),false⟩) (by rw[hA',zM]) rfl (by simp[s1])
      (fun j hj b' hb'=>by
       obtain⟨b0,e1,e2,e3,e4⟩:=hoth j hj b' hb';exact⟨b0,e1,e2,e3,fun i row' hi=>let ⟨row,r1,r2,r3⟩:=e4 i row' hi;⟨row,r1,r2,fun k pv' hk=>let ⟨pv,p1,p2⟩:=r3 k pv' hk;⟨pv,p1,p2.imp _root_.id fun q=>⟨q.1,.inr (q.2 id (by simp))⟩⟩⟩⟩)
      (ka (w:=w.drew)) hcs (by simp only[bO];exact bV _ hcap) hrl
      (fun i row j pv hi hj=>by
       obtain⟨q,q1,q2,q3⟩:=hcomb i row j pv hi hj;refine⟨q,?_,q2,q3,.inr (hnoref i row j pv hi hj)⟩;have hql:=(bL.1 q1).1;rw[PK (by simpa using hql),aW];exact q1)
     refine⟨_,_,_,hrun,k1,k2,lk fun pv v hv hn=>k3 pv v hv (.inr hn),?_,by simp,fun j hj=>zP _ _ _ (by simpa using hj)⟩;exact .msl id 0 (rows.length+new.length) false _ _ _ (zM μ id _) hcap (by simp only[bW];exact bB _) (by simp) (fun _=>by simp)
    obtain⟨L,hL⟩ : ∃L,L=rows.length:=⟨_,rfl⟩;rw[←hL]at hx;cases hx with
    | fr hx=>cases hx
    | mslNil _ _ a =>
     by_cases h0:new.length=0
     ·exact none' h0 a 0 (by omega) (by rw[←hL];exact .mslNil _ _ _) (by rw[←hL])
     ·exact grow a 0 (by omega) (by rw[←hL])
    | msl _ _ _ _ ad cap b hb hlen htot hex had =>
     subst hL;by_cases h0:new.length=0
     ·exact none' h0 (some ad) cap hlen (.msl id 0 rows.length false ad cap b hb hlen htot (by simp) had) rfl
     ·by_cases hroom:rows.length+new.length≤cap
      ·
       have had':=had (by omega);simp only[Nat.zero_mul]at had';subst had';obtain⟨c,el0,hh,htt,hrt,hsz,hcell⟩:=hS.blk id _ hA b hb
       replace hrt:rows.length*b.sz≤b.tot:=hrt
       replace hsz : ∀r∈rows,r.length=b.sz:=hsz
       have hbsz:b.sz=i0.size:=by
        obtain⟨q1,q2⟩:=hS.gsz id _ hA
        rcases c2 with rfl | rfl
        ·rw[q1 rfl]at hb;cases hb
        ·rw[q2 _ rfl b hb,s1]
       have hnl:news.length=new.length*b.sz:=by rw[hbsz];exact sn.newsLen
       have hfit:rows.length*b.sz+news.length≤c.toList.length:=by
        rw[hnl,←bZ,show c.toList.length=c.size from sI,htt];refine bF (bV _ hroom) ?_
        simpa using htot
       have hst:=run_storeCells_at P b.b (rows.length*b.sz) el0 news 0 c w hh (by rw[sC];simpa using hfit) sn.one;simp only[sC]at hst;have hrun:(Builtin.append_ #[t,tx] ty #[.slice (some ⟨b.b,0,none⟩) rows.length cap,v]).run P w=.ok (.slice (some ⟨b.b,0,none⟩) (rows.length+new.length) cap) (w.setRow b.b (c.toList.take (rows.length*b.sz)++news++c.toList.drop (rows.length*b.sz+news.length)).toArray):=by
        have hcl:(Builtin.firstCells b.sz new.length v).run P w=.ok news.toArray w:=by rw[hbsz];exact sn.cells
        generalize (c.toList.take (rows.length*b.sz)++news++c.toList.drop (rows.length*b.sz+news.length)).toArray=cc at hst ⊢
        rcases sn.kind with⟨e'',hk⟩ | hk <;> simp[Builtin.append_,run_underlying ht,run_underlying hk,sizeOf,typeInfo,hi0,sn.len,hroom,wB,←hbsz,hcl,hst]
       obtain⟨k1,k2,k3⟩:=hS.rewrite hA rfl (bk:=b) (.inl hb) (base:=base) (.inl hb) (w':=w.setRow b.b (c.toList.take (rows.length*b.sz)++news++c.toList.drop (rows.length*b.sz+news.length)).toArray)
        rfl rfl rfl (by rw[kc];exact bB _) (fun k _ hk=>kb hk)
        (A':=arrs ((S.map (yF [id])).set id (.arr (rows++new) (some (some (tyi P el).size)) false))) (a':=⟨rows++new,some (some (tyi P el).size),false⟩) (by rw[hA',zM]) rfl (by simp[hbsz,s1])
        (fun j hj b' hb'=>by
         obtain⟨b0,e1,e2,e3,e4⟩:=hoth j hj b' hb';exact⟨b0,e1,e2,e3,fun i row' hi=>let ⟨row,r1,r2,r3⟩:=e4 i row' hi;⟨row,r1,r2,fun k pv' hk=>let ⟨pv,p1,p2⟩:=r3 k pv' hk;⟨pv,p1,p2.imp _root_.id fun q=>⟨q.1,.inl hb⟩⟩⟩⟩)
        (setRow_heap w b.b c _ el0 (0,0) hh) (by rw[HZ,ws _ _ _ hfit,sI];exact htt)
        (by
         simp only[bO];refine bF (bV _ hroom) ?_
         simpa using htot) (by rw[hbsz];exact hrl)
        (fun i row j pv hi hj=>by
         have hjl:=(bL.1 hj).1;rw[hrl row (bK hi),←hbsz]at hjl;rw[aW,wr _ _ _ hfit];by_cases hil:i<rows.length
         ·rw[pP hil]at hi;have:(i+1)*b.sz≤rows.length*b.sz:=bV _ hil;rw[bZ]at this;rw[hI (by omega),pE];obtain⟨q,q1,q2,q3⟩:=hcell i row j pv hi hj;exact⟨q,q1,q2,q3,.inl hb⟩
         ·rw[pG (by omega)]at hi;have h1:rows.length*b.sz≤i*b.sz:=bV _ (by omega);have hin:=(bL.1 hi).1;have h2:(i-rows.length+1)*b.sz≤new.length*b.sz:=bV _ hin;rw[bZ,Nat.sub_mul]at h2;rw[hZ (by rw[hnl];omega),show i*b.sz+j-rows.length*b.sz=(i-rows.length)*b.sz+j by rw[Nat.sub_mul];omega,hbsz];obtain⟨q,q1,q2,q3⟩:=hnw _ row j pv hi hj;exact⟨q,q1,q2,q3,.inl hb⟩)
       have hup:upd μ id b = μ := by
        funext j
        by_cases hj:j=id
        ·subst hj;rw[zM,hb]
        ·exact zP _ _ _ hj
       rw[hup]at k1 k2 k3;refine⟨_,_,μ,hrun,k1,k2,lk fun pv v hv hn=>k3 pv v hv (.inl hb),?_,by simp,fun _ _=>rfl⟩;exact .msl id 0 (rows.length+new.length) false _ cap b hb hroom htot (by simp) (fun _=>by simp)
      ·exact grow (some ad) cap (by omega) rfl
   ·cases h
  ·cases h
 ·cases h
theorem uP {b bytes esz id off len:Nat} {ex:Bool} {y:PV} {out:Eff} (h:vE b bytes esz S (.msl id off len ex) y=some out) :
  ∃rows g,out.S[id]? = some (.arr rows g false)∧out.v=.msl id 0 rows.length false∧out.kill=[id]∧out.S.length=S.length∧(∀j a,arrs out.S j=some a→id ∉ zd a.rows):=by
 unfold vE at h
 split at h
 case h_2=>cases h
 rename_i id0 len0 ex0 heq;cases heq
 split at h
 case h_2=>cases h
 rename_i rows g hid;obtain⟨new,_,h⟩:=YS h
 split at h
 case isFalse=>cases h
 rename_i hc;obtain⟨c1,c2,c3,c4,c5,c6,c7,c8⟩:=hc;cases h;have hl:=(bL.1 hid).1;have hA':=ke (S:=S.map (yF [id])) (id:=id) (by simpa using hl) (o:=Obj.arr (rows++new) (some (some esz)) false) rfl;refine⟨rows++new,some (some esz),by rw[List.getElem?_set_self (by simpa using hl)],by simp,rfl,by simp,fun j a ha hm=>?_⟩;rw[hA']at ha;by_cases hj:j=id
 ·subst hj;rw[zM]at ha;cases ha;rw[BR]at c8;exact (of_decide_eq_false c8) (by simpa [zd] using hm)
 ·rw[zP _ _ _ hj,Xk]at ha
  cases hq:arrs S j with
  | none=>rw[hq]at ha;cases ha
  | some b0 =>
   rw[hq]at ha;simp at ha;subst ha;simp only[zd,HO]at hm;obtain⟨row,h1,h2⟩:=hm;obtain⟨i,hi⟩:=aX h1;obtain⟨_,k2⟩:=ja [id] b0.rows;obtain⟨row0,r1,r2,r3⟩:=k2 i row hi;have : ∀(l:List PV),(∀(k:Nat) (pv':PV),l[k]? = some pv'→id ∉ pv'.refs)→id ∉ xa l:=by
    intro l
    induction l with
    | nil=>intro _ h;simp[xa]at h
    | cons a l ih =>
     intro h hm;simp only[xa,sB]at hm
     rcases hm with hm | hm
     ·exact h 0 a rfl hm
     ·exact ih (fun k pv' hk=>h (k+1) pv' (by simpa using hk)) hm
   refine this row (fun k pv' hk hmem=>?_) h2;obtain⟨pv,p1,p2⟩:=r3 k pv' hk
   rcases p2 with rfl | ⟨rfl,p2⟩
   ·cases hmem
   ·exact p2 id (by simp) hmem
theorem Wh (hS:SR w X (arrs S) S.length μ) {base:Nat} (hbase:base≤S.length) {t tx el:TypeId} (ty:TypeId) (hd:(tyi P t).d=.slice el) (hdx:Zi (tyi P tx).d=true)
  (hz:vf (tyi P el)=true) {x y:PV} {u v:Value} (hx:VR w (Av X (arrs S) μ) μ x u) (hy:VR w (Av X (arrs S) μ) μ y v) {out:Eff} (h:vz base (tyi P el).bytes (tyi P el).size S x y=some out) :
  ∃r w' μ',(Builtin.append_ #[t,tx] ty #[u,v]).run P w=.ok r w'∧SR w' X (arrs out.S) out.S.length μ'∧Tr base w (arrs S) μ w' (arrs out.S) μ' ∧
   (∀pv v,VR w (Av X (arrs S) μ) μ pv v→VR w' (Av X (arrs out.S) μ') μ' (xU out.kill pv) v)∧VR w' (Av X (arrs out.S) μ') μ' out.v r∧S.length≤out.S.length:=by
 unfold vz at h
 split at h
 case h_2=>cases h
 rename_i id off len ex
 split at h
 ·obtain⟨r,w',μ',k1,k2,k3,k4,k5,k6,_⟩:=jb (ty:=ty) hS hd hdx hz hx hy h;exact⟨r,w',μ',k1,by rw[k6];exact k2,k3,k4,k5,by rw[k6];exact bB _⟩
 rename_i hlt;obtain⟨out1,h1,rfl⟩:=jG h;obtain⟨r,w',μ',k1,k2,k3,k4,k5,k6,k7⟩:=jb (ty:=ty) hS hd hdx hz hx hy h1;obtain⟨rows,g,f1,f2,f3,f4,f5⟩:=uP h1;have hid:id<S.length:=by omega
 have hgd:out1.S.getD id .gone=.arr rows g false:=by simp[List.getD,f1]
 have hA1:=uX f1;have hAt : ∀j,arrs (wW id S out1).S j=if j=S.length then some ⟨rows,g,false⟩ else if j=id then none else arrs out1.S j:=fun j=>by
  simp only[wW,hgd];unfold arrs;by_cases hj:j=S.length
  ·subst hj;rw[pG (by simp[f4]),hZ rfl];simp[f4]
  ·rw[hI hj];by_cases hj2:j<S.length
   ·rw[pP (by simp[f4];exact hj2),HP];by_cases hj3:j=id
    ·subst hj3;rw[hZ rfl,hZ (by rw[f4];exact hj2),hZ rfl]
    ·rw[hI (fun h=>hj3 h.symm),hI hj3]
   ·rw[pG (by simp[f4];omega),hI (by omega)];have e1:out1.S[j]? = none:=bY (by omega);rw[e1,bY (by simp[f4];omega)]
 obtain⟨ν,hν⟩ : ∃ ν : Mu,∀j,ν j=if j=S.length then μ' id else if j=id then μ id else μ' j:=⟨_,fun _=>rfl⟩;have back : ∀j a,arrs (wW id S out1).S j=some a→∃j0,arrs out1.S j0=some a ∧ ν j = μ' j0∧(j0=id→j=S.length)∧(j0≠id→j=j0):=fun j a ha=>by
  rw[hAt]at ha;rw[hν];by_cases hj:j=S.length
  ·rw[hZ hj]at ha;cases ha;exact⟨id,hA1,by rw[hZ hj],fun _=>hj,fun h=>absurd rfl h⟩
  ·rw[hI hj]at ha;by_cases hj2:j=id
   ·rw[hZ hj2]at ha;cases ha
   ·rw[hI hj2]at ha;exact⟨j,ha,by rw[hI hj,hI hj2],fun h=>absurd h hj2,fun _=>rfl⟩
 have hmut : ∀b,Mut (arrs (wW id S out1).S) ν b→Mut (arrs out1.S) μ' b:=by
  rintro b ⟨j,rw',g',k,m1,m2,m3⟩
  obtain⟨j0,b1,b2,_⟩:=back j _ m1;exact⟨j0,rw',g',k,b1,by rw[←b2];exact m2,m3⟩
 have hav : ∀b,Av X (arrs (wW id S out1).S) ν b→Av X (arrs out1.S) μ' b:=fun b hb=>hb.imp _root_.id (hmut b);have hup : ∀(pv:PV) (v:Value),VR w' (Av X (arrs out1.S) μ') μ' pv v→id ∉ pv.refs→VR w' (Av X (arrs (wW id S out1).S) ν) ν pv v:=fun pv v hv hn=>hv.mono (xp.less hav) fun i hi b hb=>by
  rw[hν,hI,hI (fun h=>hn (by rw[←h];exact hi))]
  ·exact hb
  ·intro h;rw[h,(k2.lt _ (bB _)).1]at hb;cases hb
 have hlen:(wW id S out1).S.length=S.length+1:=by simp[wW,f4]
 refine⟨r,w',ν,k1,?_,⟨k3.os,k3.tape,k3.output,k3.size,k3.keep,fun b hb hm=>k3.less b hb (hmut b hm),fun j hj=>?_⟩,fun pv v hv=>?_,?_,by rw[hlen];exact Nat.le_succ _⟩
 ·rw[hlen];refine⟨fun j hj=>?_,fun j a ha b hb=>?_,fun j a ha hb=>?_,fun j a ha=>?_,fun j j' a a' b b' q1 q2 q3 q4 q5=>?_,fun j a b q1 q2=>?_,k2.xlt⟩
  ·rw[hAt,hν,hI (by omega),hI (by omega),hI (by omega),hI (by omega)];exact k2.lt j (by omega)
  ·obtain⟨j0,b1,b2,_⟩:=back j a ha;rw[b2]at hb;obtain⟨c,el',m0,m1,m2,m3,m4⟩:=k2.blk j0 a b1 b hb;refine⟨c,el',m0,m1,m2,m3,fun i row k pv hi hk=>?_⟩;obtain⟨v,v1,v2,v3⟩:=m4 i row k pv hi hk;exact⟨v,v1,v2,hup pv v v3 fun hm=>f5 j0 a b1 (vn hi hk hm)⟩
  ·obtain⟨j0,b1,b2,_⟩:=back j a ha;exact k2.nob j0 a b1 (by rw[←b2];exact hb)
  ·obtain⟨j0,b1,b2,_⟩:=back j a ha;rw[b2];exact k2.gsz j0 a b1
  ·obtain⟨j0,b1,b2,b3,b4⟩:=back j a q1;obtain⟨j1,c1,c2,c3,c4⟩:=back j' a' q2;rw[b2]at q3;rw[c2]at q4;have:=k2.inj j0 j1 a a' b b' b1 c1 q3 q4 q5;subst this;by_cases h:j0=id
   ·rw[b3 h,c3 h]
   ·rw[b4 h,c4 h]
  ·obtain⟨j0,b1,b2,_⟩:=back j a q1;rw[b2]at q2;exact k2.out j0 a b b1 q2
 ·rw[hν,hI (by omega)];by_cases hji:j=id
  ·rw[hZ hji,hji]
  ·rw[hI hji];exact k7 j (by rw[f3];simpa using hji)
 ·have:=k4 pv v hv;refine hup _ _ this ?_;simp only[wW,f3]
  rcases js [id] pv with hk | ⟨hk,hn⟩
  ·rw[hk];simp[PV.refs]
  ·rw[hk];exact hn id (by simp)
 ·simp only[wW,f2]at k5 ⊢;generalize rows.length=L at k5 ⊢;cases k5 with
  | fr q=>cases q
  | mslNil=>exact .mslNil _ _ _
  | msl _ _ _ _ ad cap b hb hlenc htot hex had=>exact .msl _ _ _ _ ad cap b (by rw[hν,hZ rfl];exact hb) hlenc htot hex had
end
end Go.Vs
end
section
namespace Go.Vs
open Go
section
variable {P:Program} {w:World} {X:Nat→Prop} {A:yT} {n:Nat} {μ : Mu} {av:Nat→Prop} {S:zA}
theorem Xl (hS:SR w X A n μ) (hSA:vG S A μ) {y:PV} {v:Value} (hv:VR w (Av X (A) μ) μ y v) {new:List (List PV)} (hy:rowsIn S y=some new) {sz:Nat} (hok:zq sz new=true) :
  ∃(news:List Value) (a:Option Addr) (cap:Nat),v=.slice a new.length cap∧news.length=new.length*sz∧(a=none→new=[])∧(∀ad,a=some ad→∀j u,news[j]? = some u→w.cell? (ad.add j)=some u)∧(∀u∈news,u.oneCell'=true)∧(∀i row j pv,new[i]? = some row→row[j]? = some pv→∃u,news[i*sz+j]? = some u∧flat u=true∧VR w (Av X (A) μ) μ pv u):=by
 have key : ∀(a:Option Addr) (ad:Addr) (cap:Nat),(new≠[]→a=some ad)→(a=none→new=[])→(∀i row j pv,new[i]? = some row→row[j]? = some pv→∃u,w.cell? (ad.add (i*sz+j))=some u∧flat u=true∧VR w (Av X (A) μ) μ pv u) →
   ∃(news:List Value) (a':Option Addr) (cap':Nat),Value.slice a new.length cap=.slice a' new.length cap'∧news.length=new.length*sz∧(a'=none→new=[])∧(∀ad,a'=some ad→∀j u,news[j]? = some u→w.cell? (ad.add j)=some u)∧(∀u∈news,u.oneCell'=true)∧(∀i row j pv,new[i]? = some row→row[j]? = some pv→∃u,news[i*sz+j]? = some u∧flat u=true∧VR w (Av X (A) μ) μ pv u):=by
  intro a ad cap h1 h2 h3;cases a with
  | none =>
   have:=h2 rfl;subst this;exact⟨[],none,cap,rfl,by simp,fun _=>rfl,by simp,by simp,by simp⟩
  | some a =>
   have hcell : ∀k,k<new.length*sz→∃u,w.cell? (a.add k)=some u∧flat u=true:=by
    intro k hk;have hsz:0<sz:=Nat.pos_of_ne_zero fun h=>by subst h;simp at hk
    have hq:k / sz<new.length:=by rw[BA hsz];exact hk
    have hne:new≠[]:=by intro h0;subst h0;simp at hk
    have had:a=ad:=by simpa using h1 hne
    have hrow:new[k / sz]? = some (new[k / sz]'hq):=bI hq;have hrl:=zu hok _ (bK hrow);have hj:k % sz<(new[k / sz]'hq).length:=by rw[hrl];exact sJ _ hsz
    obtain⟨u,hu,hf,_⟩:=h3 (k / sz) _ (k % sz) _ hrow (bI hj);rw[had];have e:k / sz*sz+k % sz=k:=by rw[aH];exact BT k sz
    rw[e]at hu;exact⟨u,hu,hf⟩
   refine⟨(List.range (new.length*sz)).map fun k=>(w.cell? (a.add k)).getD undef,some a,cap,rfl,by simp,by simp,(fun ad he j u hu=>?_),(fun u hu=>?_),fun i row j pv hi hj=>?_⟩
   ·cases he;rw[pB]at hu
    by_cases hjl:j<new.length*sz
    ·rw[sX hjl]at hu;obtain⟨q,hq,_⟩:=hcell j hjl;simp[hq]at hu;subst hu;exact hq
    ·rw[bY (by simpa using hjl)]at hu;cases hu
   ·obtain⟨k,hk,rfl⟩:=sH.1 hu;obtain⟨q,hq,hf⟩:=hcell k (BU.1 hk);rw[hq];exact uq hf
   ·obtain⟨u,hu,hf,hr⟩:=h3 i row j pv hi hj;have hne:new≠[]:=by intro h0;subst h0;simp at hi
    have had:a=ad:=by simpa using h1 hne
    have hil:=(bL.1 hi).1;have hjl:=(bL.1 hj).1;rw[zu hok _ (bK hi)]at hjl;have hlt:i*sz+j<new.length*sz:=by
     have:(i+1)*sz≤new.length*sz:=bV _ (by omega);rw[bZ]at this;omega
    refine⟨u,?_,hf,hr⟩;rw[pB,sX hlt];simp[had,hu]
 cases y <;> simp only[rowsIn,reduceCtorEq,Option.some.injEq]at hy
 case sl rows ex =>
  subst hy
  cases hv with | fr hv =>
  cases hv with | sl _ _ a cap ad s c hcap hex ha had hsz hc hr =>
  refine key a ad cap had (fun h=>bT (by have:=ha h;omega)) (fun i row j pv hi hj=>?_);have e:s=sz:=by rw[←hsz _ (bK hi)];exact zu hok _ (bK hi)
  have:=hc i row j pv hi hj;rw[e]at this;exact⟨_,this.1,FR.flat _ _ (hr i row j pv hi hj),.fr (hr i row j pv hi hj)⟩
 case msl id off len ex =>
  cases hr:zz S id with
  | none=>rw[hr]at hy;cases hy
  | some rows =>
   rw[hr]at hy;simp only[bC]at hy
   split at hy
   ·rename_i hle;simp at hy;have hlen:new.length=len:=by rw[←hy];simp;omega
    cases hv with
    | fr hv=>cases hv
    | mslNil _ _ a =>
     have hnew:new=[]:=bT hlen;subst hnew;exact key a default 0 (fun h=>absurd rfl h) (fun _=>rfl) (by simp)
    | msl _ _ _ _ ad cap b hb hlenc htot hex had =>
     obtain⟨g,f,ha⟩:=xv hSA hr hb;have k:=key (some ad) ad cap (fun _=>rfl) (by simp) (fun i row j pv hi hj=>by
      rw[←hy,aO]at hi
      split at hi
      ·rename_i hil;rw[pY]at hi;obtain⟨h1,h2⟩:=hS.row ha hb hi;obtain⟨u,hu1,hu2,hu3⟩:=h2 j pv hj;have hbs:b.sz=sz:=by
        rw[←h1];refine zu hok _ ?_;rw[←hy];refine bK (i:=i) ?_;rw[sR hil,pY];exact hi
       refine⟨u,?_,hu2,hu3⟩;rw[had (by omega),wB,←hbs,←aN,←bZ];exact hu1
      ·cases hi)
     rw[hlen]at k ⊢;exact k
   ·cases hy
theorem Kb (hS:SR w X (arrs S) n μ) {base:Nat} {t tx el e' ty:TypeId} (hd:(tyi P t).d=.slice el) (hk:(tyi P el).known=true) {x y:PV} {u v:Value} (hx:VR w (Av X (arrs S) μ) μ x u) (hy:VR w (Av X (arrs S) μ) μ y v) {out:Eff} (h:jo (tyi P el).size S x y=some out) :
  ∃r w',(Builtin.copy_ #[t,tx] ty #[u,v]).run P w=.ok r w'∧SR w' X (arrs out.S) n μ ∧ Tr base w (arrs S) μ w' (arrs out.S) μ ∧ VR w' (Av X (arrs out.S) μ) μ out.v r∧out.S.length=S.length∧out.kill=[]:=by
 obtain⟨d0,i0,hd0,hi0,hs0,_⟩:=xj hk;have ht:=ye hd
 cases x <;> simp only[jo,reduceCtorEq]at h
 case msl id off len ex =>
 cases hid:S[id]? with
 | none=>rw[hid]at h;cases h
 | some o =>
 rw[hid]at h;cases o with
 | gone=>cases h
 | arr rows g f =>
 cases f with
 | true=>cases h
 | false =>
 simp only at h
 cases hnew:rowsIn S y with
 | none=>rw[hnew]at h;cases h
 | some src =>
 rw[hnew]at h;simp only[bC]at h
 split at h
 case isFalse=>cases h
 rename_i hc;obtain⟨c1,c2,c3⟩:=hc;cases h;have hA:=uX hid;obtain⟨news,a,cap,hv,hnl,hnn,hcs,hone,hnw⟩:=Xl hS (vG.refl S μ) hy hnew c3;subst hv;have hfc : ∀m,m≤src.length→(Builtin.firstCells i0.size m (.slice a src.length cap)).run P w=.ok (news.take (m*i0.size)).toArray w:=by
  intro m hm;cases a with
  | none =>
   have:=hnn rfl;subst this;have:news=[]:=bT (by rw[hnl];simp);subst this;simp[Builtin.firstCells]
  | some ad =>
   have hl:=run_loadCells_list (P:=P) w ad (news.take (m*i0.size)) (fun j u hj=>by
    rw[aO]at hj
    split at hj
    ·exact hcs ad rfl j u hj
    ·cases hj)
   have e:(news.take (m*i0.size)).length=m*i0.size:=by
    rw[pJ,hnl,hs0];have:=bV (tyi P el).size hm;omega
   rw[e]at hl;exact hl
 have hmin:Nat.min src.length len=min src.length len:=rfl;have hrun0 : ∀(base:Option Addr) (c:Nat) (w':World),(∀b,base=some b→(storeCells b (news.take (min src.length len*i0.size))).run P w=.ok () w')→(base=none→w'=w) →
   (Builtin.copy_ #[t,tx] ty #[.slice base len c,.slice a src.length cap]).run P w=.ok (goInt ((min src.length len:Nat):Int)) w':=by
  intro base c w' h1 h2;have:=hfc (min src.length len) (Nat.min_le_left _ _);cases base with
  | none =>
   have h2:=h2 rfl;subst h2;simp[Builtin.copy_,run_underlying ht,Builtin.lenOf,sizeOf,typeInfo,hi0,hmin,this]
   try (congr 1;omega)
  | some b =>
   have h1:=h1 b rfl;simp[Builtin.copy_,run_underlying ht,Builtin.lenOf,sizeOf,typeInfo,hi0,hmin,this,h1]
   try (congr 1;omega)
 have hlS:=(bL.1 hid).1;have none':min src.length len=0→∀b c,u=.slice b len c→∃r w',(Builtin.copy_ #[t,tx] ty #[u,.slice a src.length cap]).run P w=.ok r w'∧SR w' X (arrs (S.set id (.arr (rows.take off++src.take len++rows.drop (off+min src.length len)) g false))) n μ ∧ Tr base w (arrs S) μ w' (arrs (S.set id (.arr (rows.take off++src.take len++rows.drop (off+min src.length len)) g false))) μ ∧ VR w' (Av X (arrs (S.set id (.arr (rows.take off++src.take len++rows.drop (off+min src.length len)) g false))) μ) μ (.int .i64 (min src.length len:Nat)) r∧(S.set id (.arr (rows.take off++src.take len++rows.drop (off+min src.length len)) g false)).length=S.length∧([]:List Nat)=[]:=fun h0 b c hu=>by
  have e1:rows.take off++src.take len++rows.drop (off+min src.length len)=rows:=by
   have:src.take len=[]:=bT (by rw[pJ];omega);rw[this,h0];simp
  have e2:S.set id (.arr rows g false)=S:=by
   apply List.ext_getElem?;intro k;rw[HP]
   split
   ·rename_i hk;subst hk;first | rw[hZ hlS,hid] | rw[hid]
   ·rfl
  subst hu;have:=hrun0 b c w (fun b _=>by rw[h0];simp[storeCells]) (fun _=>rfl);rw[e1,e2];exact⟨_,_,this,hS,Tr.refl _ _ _ _,.fr (.int .i64 _),rfl,rfl⟩
 cases hx with
 | fr hx=>cases hx
 | mslNil _ _ b=>exact none' (by omega) b 0 rfl
 | msl _ _ _ _ ad cp b hb hlen htot hex had =>
 by_cases h0:min src.length len=0
 ·exact none' h0 (some ad) cp rfl
 ·have had':=had (by omega);subst had';obtain⟨c,el0,hh,htt,hrt,hsz,hcell⟩:=hS.blk id _ hA b hb
  replace hrt:rows.length*b.sz≤b.tot:=hrt
  replace hsz : ∀r∈rows,r.length=b.sz:=hsz
  have hbsz:b.sz=i0.size:=by
   have hr0:rows[off]? = some (rows[off]'(by omega)):=bI (by omega);rw[←hsz _ (bK hr0),hs0];exact zu c2 _ (bK hr0)
  obtain⟨m,hm⟩ : ∃m,m=min src.length len:=⟨_,rfl⟩;rw[←hm]at h0 hrun0;have hms:m≤src.length:=by omega
  have hml:m≤len:=by omega
  have hvl:(news.take (m*i0.size)).length=m*b.sz:=by
   rw[pJ,hnl,hbsz,←hs0];have:=bV i0.size hms;omega
  have hfit:off*b.sz+(news.take (m*i0.size)).length≤c.toList.length:=by
   rw[hvl,←bZ,show c.toList.length=c.size from sI,htt];exact bF (bV _ (by omega)) hrt
  have hst:=run_storeCells_at P b.b (off*b.sz) el0 (news.take (m*i0.size)) 0 c w hh (by rw[sC];simpa using hfit) (fun u hu=>hone u (HH hu));simp only[sC]at hst;have hrun:=hrun0 (some ⟨b.b,off*b.sz,none⟩) cp _ (fun b' hb'=>by cases hb';exact hst) (by simp);have est:src.take len=src.take m:=by
   rw[hm];by_cases hle:src.length≤len
   ·rw[BV hle,pZ hle,pZ (bB _)]
   ·rw[Nat.min_eq_right (by omega)]
  have etl:(src.take m).length=m:=by rw[pJ];omega
  have erow:rows.take off++src.take len++rows.drop (off+min src.length len)=rows.take off++src.take m++rows.drop (off+(src.take m).length):=by rw[est,etl,hm]
  have hA':=ke (S:=S) hlS (o:=Obj.arr (rows.take off++src.take len++rows.drop (off+min src.length len)) g false) rfl;have erl:(rows.take off++src.take m++rows.drop (off+(src.take m).length)).length=rows.length:=ws _ _ _ (by rw[etl];omega);obtain⟨k1,k2,k3⟩:=hS.rewrite hA rfl (bk:=b) (.inl hb) (base:=base) (.inl hb) (w':=w.setRow b.b (c.toList.take (off*b.sz)++news.take (m*i0.size)++c.toList.drop (off*b.sz+(news.take (m*i0.size)).length)).toArray)
   rfl rfl rfl (by rw[kc];exact bB _) (fun k _ hk=>kb hk)
   (A':=arrs (S.set id (.arr (rows.take off++src.take len++rows.drop (off+min src.length len)) g false))) (a':=⟨rows.take off++src.take len++rows.drop (off+min src.length len),g,false⟩) (by rw[hA',zM]) rfl (fun k hg=>by
    have hg':g=some k:=hg;obtain⟨q1,q2⟩:=hS.gsz id _ hA;cases k with
    | none=>rw[q1 hg']at hb;cases hb
    | some k=>rw[q2 k hg' b hb])
   (fun j hj b' hb'=>by
    rw[hA',zP _ _ _ hj]at hb';exact⟨b',hb',⟨rfl,rfl⟩,rfl,fun a row' ha=>⟨row',ha,rfl,fun k pv' hk=>⟨pv',hk,.inr ⟨rfl,.inl hb⟩⟩⟩⟩)
   (setRow_heap w b.b c _ el0 (0,0) hh) (by rw[HZ,ws _ _ _ hfit,sI];exact htt) (by simp only[];rw[erow,erl];exact hrt)
   (fun r hr=>by
    simp only[]at hr;rw[erow]at hr
    rcases sB.1 hr with hr | hr
    ·rcases sB.1 hr with hr | hr
     ·exact hsz r (HH hr)
     ·rw[hbsz,hs0];exact zu c3 r (HH hr)
    ·exact hsz r (BP hr))
   (fun i row j pv hi hj=>by
    simp only[]at hi;rw[erow,wr _ _ _ (by rw[etl];omega),etl]at hi;rw[aW,wr _ _ _ hfit,hvl];by_cases hil:off≤i∧i<off+m
    ·rw[hZ hil,sR (by omega)]at hi;have hjl:=(bL.1 hj).1;rw[zu c3 row (bK hi),←hs0,←hbsz]at hjl;have h1:off*b.sz≤i*b.sz:=bV _ hil.1;have h2:(i-off+1)*b.sz≤m*b.sz:=bV _ (by omega);have h3:(i-off)*b.sz=i*b.sz-off*b.sz:=Nat.sub_mul ..;rw[bZ,Nat.one_mul]at h2;rw[hZ (by omega),show i*b.sz+j-off*b.sz=(i-off)*i0.size+j by rw[←hbsz,h3];omega,sR (by rw[←hbsz];omega)];obtain⟨q,q1,q2,q3⟩:=hnw _ row j pv hi hj;rw[←hs0]at q1;exact⟨q,q1,q2,q3,.inl hb⟩
    ·rw[hI hil]at hi;have hjl:=(bL.1 hj).1;rw[hsz row (bK hi)]at hjl;have hout : ¬(off*b.sz≤i*b.sz+j∧i*b.sz+j<off*b.sz+m*b.sz):=by
      rcases HX i off with hlt | hge
      ·have:(i+1)*b.sz≤off*b.sz:=bV _ hlt;rw[bZ]at this;omega
      ·have:(off+m)*b.sz≤i*b.sz:=bV _ (by omega);rw[bZ]at this;omega
     rw[hI hout,pE];obtain⟨q,q1,q2,q3⟩:=hcell i row j pv hi hj;exact⟨q,q1,q2,q3,.inl hb⟩)
  have hup:upd μ id b = μ := by
   funext j
   by_cases hj:j=id
   ·subst hj;rw[zM,hb]
   ·exact zP _ _ _ hj
  rw[hup]at k1 k2;refine⟨_,_,hrun,k1,k2,?_,by simp,rfl⟩;have:(m:Int)=((min src.length len:Nat):Int):=by rw[hm]
  rw[this];exact .fr (.int .i64 _)
theorem YT : ∀ {rows:List (List PV)} {l:List UInt8},bytesOf rows=some l→zq 1 rows=true
 | [],_,_=>rfl
 | r::rows,l,h=>by
  unfold bytesOf at h
  split at h
  ·rename_i heq;cases heq
  ·rename_i n r' heq;cases heq;obtain⟨l',h1,_⟩:=jG h;have:=YT h1;simp only[zq,aY,sZ,beq_self_eq_true,pQ]at this ⊢;exact this
  ·cases h
theorem qP : ∀ {rows:List (List PV)} {l:List UInt8} (news:List Value),bytesOf rows=some l→news.length=rows.length→(∀i row j pv,rows[i]? = some row→row[j]? = some pv→∃u,news[i*1+j]? = some u∧flat u=true∧VR w av μ pv u) →
  ∃ns:List Int,news=ns.map (fun n=>Value.int .u8 n)∧l=ns.map (fun n=>UInt8.ofNat n.toNat)
 | [],l,news,h,hl,hr=>by
  cases h;exact⟨[],bT hl,rfl⟩
 | r::rows,l,news,h,hl,hr=>by
  unfold bytesOf at h
  split at h
  ·rename_i heq;cases heq
  ·rename_i n r' heq;cases heq;obtain⟨l',h1,rfl⟩:=jG h;cases news with
   | nil=>cases hl
   | cons u news =>
    obtain⟨u',k1,_,k3⟩:=hr 0 [.int .u8 n] 0 (.int .u8 n) rfl rfl;have e:u'=u:=by simpa using k1.symm
    subst e;have e2:=k3.int_inv;subst e2;obtain⟨ns,q1,q2⟩:=qP news h1 (by simpa using hl) (fun i row j pv hi hj=>by
     obtain⟨u,p1,p2⟩:=hr (i+1) row j pv (by simpa using hi) hj;refine⟨u,?_,p2⟩;rw[show (i+1)*1+j=(i*1+j)+1 by omega,BB]at p1;exact p1)
    exact⟨n::ns,by rw[q1];rfl,by rw[q2];rfl⟩
  ·cases h
theorem Vy : ∀(ns:List Int) (s:ByteArray),(ns.foldl (fun (s:ByteArray) n=>s.push (UInt8.ofNat n.toNat)) s)=⟨s.data++(ns.map fun n=>UInt8.ofNat n.toNat).toArray⟩
 | [],s=>by simp
 | n::ns,s=>by
  rw[List.foldl_cons,Vy ns];simp[ByteArray.push]
theorem YU (f:Value→ByteArray→Sem (ForInStep ByteArray)) (hf : ∀n s,f (.int .u8 n) s=pure (ForInStep.yield (s.push (UInt8.ofNat n.toNat)))) (ns:List Int) : ∀(s:ByteArray),(forIn (m:=Sem) (ns.map fun n=>Value.int .u8 n) s f).run P w=.ok (ns.foldl (fun (s:ByteArray) n=>s.push (UInt8.ofNat n.toNat)) s) w:=by
 induction ns with
 | nil=>intro s;simp
 | cons n ns ih =>
  intro s;simp only[pF,List.forIn_cons,hf,bQ,pK,bX,List.foldl_cons];exact ih _
theorem qQ (a:Addr) (n c:Nat) (ns:List Int) (h:(loadCells a n).run P w=.ok (ns.map fun n=>Value.int .u8 n).toArray w):(Conv.bytesToString (.slice (some a) n c)).run P w=.ok (.string ⟨(ns.map fun n=>UInt8.ofNat n.toNat).toArray⟩) w:=by
 simp only[Conv.bytesToString,bQ,h,bX,List.forIn_toArray];rw[YU _ (fun _ _=>rfl) ns ByteArray.empty,Vy,show (ByteArray.empty:ByteArray).data = #[] from rfl,Array.empty_append];rfl
theorem Zn (hS:SR w X A n μ) (hSA:vG S A μ) {s t:TypeId} (hs:(tyi P s).known=true) {x pv:PV} {v:Value} (hv:VR w (Av X A μ) μ x v) (h:yS (tyi P s) (tyi P t) (Qh (tyi P (yW (tyi P s)))) S x=some pv) :
  ∃z,(convert s t v).run P w=.ok z w∧VR w (Av X A μ) μ pv z:=by
 obtain⟨d,i,hd,hi,_⟩:=xj hs;have mem:(match (tyi P s).d,(tyi P t).d,Qh (tyi P (yW (tyi P s))) with
  | .slice _,.str,true=>(rowsIn S x).bind fun rows=>(bytesOf rows).map fun l=>PV.str ⟨l.toArray⟩
  | _,_,_=>none)=some pv→∃z,(convert s t v).run P w=.ok z w∧VR w (Av X A μ) μ pv z:=by
  intro h
  split at h
  ·rename_i el hq ht hu;have he:yW (tyi P s)=el:=by simp[yW,hq]
   rw[he]at hu;have hu8:(tyi P el).d=.int .u8:=by
    unfold Qh at hu
    split at hu
    ·rename_i hh;exact hh
    ·cases hu
   obtain⟨rows,h1,h2⟩:=YS h;obtain⟨l,h3,rfl⟩:=jG h2;obtain⟨news,a,cap,rfl,k1,k2,k3,k4,k5⟩:=Xl (w:=w) hS hSA hv h1 (YT h3);rw[Nat.mul_one]at k1;obtain⟨ns,q1,q2⟩:=qP news h3 k1 k5;subst q1;cases a with
   | none =>
    have:=k2 rfl;subst this;cases h3;refine⟨.string .empty,?_,.s⟩;simp[convert,run_underlying (ye hq),run_underlying (ur ht),run_underlying (Wa hu8),Conv.bytesToString]
   | some a =>
    have hfc:=run_firstCells_some (P:=P) w 1 rows.length a rows.length cap _ (by rw[Nat.mul_one];exact k1) (k3 a rfl);have hlc:(loadCells a rows.length).run P w=.ok (ns.map fun n=>Value.int .u8 n).toArray w:=by
     have e:Builtin.firstCells 1 rows.length (.slice (some a) rows.length cap)=loadCells a (rows.length*1):=rfl;rw[e,Nat.mul_one]at hfc;exact hfc
    have hb:=qQ a rows.length cap ns hlc;refine⟨.string ⟨(ns.map fun n=>UInt8.ofNat n.toNat).toArray⟩,?_,?_⟩
    ·simp[convert,run_underlying (ye hq),run_underlying (ur ht),run_underlying (Wa hu8),hb]
    ·rw[q2];exact .s
  ·cases h
 cases x
 case int k a =>
  simp only[yS]at h;obtain rfl:=hv.int_inv
  cases hq:(tyi P t).d <;> simp only[hq,reduceCtorEq,Option.some.injEq]at h
  subst h;exact⟨_,by simp[convert,run_underlying hd,run_underlying (Wa hq),Conv.intToInt],.i⟩
 case str a =>
  simp only[yS]at h;obtain rfl:=hv.str_inv
  cases hq:(tyi P t).d <;> simp only[hq,reduceCtorEq,Option.some.injEq]at h
  subst h;exact⟨.string a,by simp[convert,run_underlying hd,run_underlying (ur hq)],.s⟩
 all_goals exact mem h
end
end Go.Vs
end
