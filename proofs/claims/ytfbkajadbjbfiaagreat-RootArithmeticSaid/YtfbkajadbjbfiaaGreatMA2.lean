import Derived.Deep.Upon
import Derived.Test.YtfbkajadbjbfiaaGreatMA1
set_option linter.unusedVariables false
set_option linter.unusedSimpArgs false
section
namespace Go.Vs
open Go
section
variable {P:Program} {w:World} {X:Nat→Prop} {A:yT} {n:Nat} {μ : Mu} {av:Nat→Prop}
theorem Qi {gs:List Field} (h : ∀f∈gs,qI P f.type≠0):gs.mapM (fun f=>(P.info? f.type).map fun i=>(f.offset,i.size))=some (gs.map fun f=>(f.offset,qI P f.type)):=by
 induction gs with
 | nil=>rfl
 | cons f r ih =>
  obtain⟨d,i,_,hi,hs⟩:=YL (h f (by simp));simp[List.mapM_cons,hi,ih (fun g hg=>h g (by simp[hg])),hs]
theorem Vr {t:TypeId} {fs:List (Nat × Nat × Bool)} (hd:(tyi P t).d=.struct fs) {z:List PV} (hz:(tyi P t).zero=some z) (hc:z.all PV.cell=true) (hfs:(fs.all fun x=>decide (x.2.1≠0))=true)
  {ρ : Operand→PV} {σ : Operand→Value} (hρ : ∀x,VR w av μ (ρ x) (σ x)) {parts:Array (Nat × Operand)} {cs:List PV} (h:xd fs ρ z parts.toList=some cs) :
  ∃u,(Instr.build t (parts.map fun (i,x)=>(i,σ x))).run P w=.ok u w∧VR w av μ (.agg cs) u:=by
 obtain⟨gs,hu,rfl⟩:=jq hd;obtain⟨i,v,hi,hzv,rfl⟩:=vr hz;obtain⟨h1,h2,h3⟩:=wC (w:=w) (av:=av) (μ := μ) (xk v) hc;have hgs : ∀f∈gs.toList,qI P f.type≠0:=fun f hf=>by
  rw[pN]at hfs;have:=hfs _ (sH.2 ⟨f,hf,rfl⟩)
  simpa using this
 obtain⟨us',k1,k2,k3,k4⟩:=jZ hρ (fun i=>(gs.toList.map fun f=>(f.offset,qI P f.type)).toArray[i]?) (fun i o k g hf=>by
  rw[pB]at hf
  cases hg:gs.toList[i]? with
  | none=>rw[hg]at hf;cases hf
  | some f=>rw[hg]at hf;simp at hf;obtain⟨rfl,rfl,rfl⟩:=hf;simp only[aW,pB,hg,bJ]) parts.toList _ v.cells cs h h1 h2 h3
 refine⟨.agg us',run_build w t _ us' ?_,.agg _ _ k2 k4 k3⟩;unfold Program.built;simp only[hi,hu,hzv,Qi hgs];rw[←k1,Array.toList_map]
theorem Ka {k n i o m:Nat} {g:Bool} (h:(Ve k n)[i]? = some (o,m,g)):o=i*k∧m=k:=by
 unfold Ve at h;rw[pB]at h;obtain⟨j,h1,h2⟩:=PI.1 h;have:j=i:=by
  obtain⟨h3,h4⟩:=bL.1 h1
  simpa using h4.symm
 subst this;simp only[Prod.mk.injEq]at h2;exact⟨h2.1.symm,h2.2.1.symm⟩
theorem Wg {t el:TypeId} {m:Nat} (hd:(tyi P t).d=.array m el) {z:List PV} (hz:(tyi P t).zero=some z) (hc:z.all PV.cell=true) (hk:(tyi P el).known=true)
  {ρ : Operand→PV} {σ : Operand→Value} (hρ : ∀x,VR w av μ (ρ x) (σ x)) {parts:Array (Nat × Operand)} {cs:List PV} (h:xd (Ve (tyi P el).size m) ρ z parts.toList=some cs) :
  ∃u,(Instr.build t (parts.map fun (i,x)=>(i,σ x))).run P w=.ok u w∧VR w av μ (.agg cs) u:=by
 have hu:=Xf hd;obtain⟨i,v,hi,hzv,rfl⟩:=vr hz;obtain⟨de,ie,_,hie,hs,_⟩:=xj hk;obtain⟨h1,h2,h3⟩:=wC (w:=w) (av:=av) (μ := μ) (xk v) hc;obtain⟨us',k1,k2,k3,k4⟩:=jZ hρ (fun i=>some (i*ie.size,ie.size)) (fun i o k g hf=>by
  obtain⟨rfl,rfl⟩:=Ka hf;rw[hs]) parts.toList _ v.cells cs h h1 h2 h3
 refine⟨.agg us',run_build w t _ us' ?_,.agg _ _ k2 k4 k3⟩;unfold Program.built;simp only[hi,hu,hzv,hie];rw[←k1,Array.toList_map]
theorem Vt {α:Type} {s:Nat} {vs:List α} {f:α→List Value} (h : ∀v∈vs,(f v).length=s) {i j:Nat} {v:α} (hi:vs[i]? = some v) (hj:j<s):(vs.flatMap f)[i*s+j]? = (f v)[j]? := by
 induction vs generalizing i with
 | nil=>simp at hi
 | cons x r ih =>
  have hx:=h x (by simp);simp only[HY];cases i with
  | zero=>simp at hi;subst hi;rw[pP (by omega)];simp
  | succ i =>
   simp at hi;rw[pG (by rw[hx,bZ];omega),hx,show (i+1)*s+j-s=i*s+j by rw[bZ];omega];exact ih (fun v hv=>h v (by simp[hv])) hi
theorem Vu {α:Type} {s:Nat} {vs:List α} {f:α→List Value} (h : ∀v∈vs,(f v).length=s):(vs.flatMap f).length=vs.length*s:=by
 induction vs with
 | nil=>simp
 | cons x r ih =>
  simp only[HY,bO,h x (by simp),ih (fun v hv=>h v (by simp[hv])),bP,bZ];omega
theorem X0 {α:Type} {l:List (Nat × α)} (h:l.map (·.1)=List.range l.length):l=((l.map (·.2)).zipIdx 0).map fun x=>(x.2,x.1):=by
 apply List.ext_getElem?;intro i;simp only[pB,List.getElem?_zipIdx]
 cases hi:l[i]? with
 | none=>simp
 | some x =>
  have:=congrArg (fun m=>m[i]?) h;simp only[pB,hi,bJ]at this;have hl:=(bL.1 hi).1;rw[sX hl]at this;simp at this;simp[←this]
theorem ZI (hS:SR w X A n μ) {nid n':Nat} (hA:A nid=none) (hμ : μ nid=none) (hn:nid<n') (hnn:n≤n') {base:Nat} (hb:base≤nid) {t el:TypeId} {len:Nat} {parts:Array (Nat × Operand)}
  {ρ : Operand→PV} {σ : Operand→Value} (hρ : ∀x,VR w (Av X A μ) μ (ρ x) (σ x)) (hd:(tyi P t).d=.slice el)
  (h:parts.toList.map (·.1)=List.range len∧zq (tyi P el).size (parts.toList.map fun x=>(ρ x.2).cells)=true∧((parts.toList.map fun x=>(ρ x.2).cells).all fun r=>r.all PV.cell)=true∧len*(tyi P el).size≤16777216∧0<(tyi P el).size∧(tyi P el).zero.isSome=true) :
  ∃v w' μ',(Instr.buildSlice t len (parts.map fun (i,x)=>(i,σ x))).run P w=.ok v w' ∧
   SR w' X (upd A nid ⟨parts.toList.map fun x=>(ρ x.2).cells,some (some (tyi P el).size),false⟩) n' μ'∧Tr base w A μ w' (upd A nid ⟨parts.toList.map fun x=>(ρ x.2).cells,some (some (tyi P el).size),false⟩) μ'∧(∀i,i≠nid → μ' i = μ i) ∧
   VR w' (Av X (upd A nid ⟨parts.toList.map fun x=>(ρ x.2).cells,some (some (tyi P el).size),false⟩) μ') μ' (.msl nid 0 len true) v:=by
 obtain⟨h1,h2,h3,h4,h5,h6⟩:=h;obtain⟨ie,z,hie,hz⟩:=Vp h6;have hs:=(ZH hie).1;have hlen:parts.toList.length=len:=by have:=congrArg List.length h1;simpa using this
 have hrow : ∀x∈parts.toList,(ρ x.2).cells.length=ie.size∧(ρ x.2).cells.all PV.cell=true:=fun x hx=>by
  rw[hs];refine⟨zu h2 _ (sH.2 ⟨x,hx,rfl⟩),?_⟩;rw[pN]at h3;exact h3 _ (sH.2 ⟨x,hx,rfl⟩)
 have hsz : ∀x∈parts.toList,(σ x.2).cells.size=ie.size:=fun x hx=>by rw[←(wC (hρ x.2) (hrow x hx).2).1,(hrow x hx).1]
 have hvs:(parts.map fun (i,x)=>(i,σ x)).toList=((parts.toList.map fun x => σ x.2).zipIdx 0).map fun x=>(x.2,x.1):=by
  rw[Array.toList_map];have:=X0 (l:=parts.toList.map fun (i,x)=>(i,σ x)) (by simp only[List.map_map,sS,hlen,←h1];rfl);rw[this];simp only[List.map_map];rfl
 have hpos : ∀k,k<len*ie.size→True:=fun _ _=>trivial;by_cases hl0:len=0
 ·
  subst hl0;have hp:parts = #[]:=by
   apply BN;rw[←sI];exact hlen
  subst hp;obtain⟨k1,k2,k3⟩:=hS.new hA hμ hn hnn (rows:=[]) (g:=some (some (tyi P el).size)) (cells := #[]) (el:=el) (sz:=(tyi P el).size) (by simp) (by simp) (by simp) (by simp) hb;refine⟨.slice (some ⟨w.heap.size,0,none⟩) 0 0,_,_,?_,k1,k2,k3,.mslNil _ _ _⟩;have hu:=ye hd;simp[Instr.buildSlice,run_underlying hu,yf hie,Instr.fill,newRow,Array.range_zero']
 ·have hf:=Great.fill_whole (s:=ie.size) (by omega) (parts.toList.map fun x => σ x.2) ((Array.range (len*ie.size)).map (z.cells[· % z.cells.size]!)) (fun v hv=>by
   obtain⟨x,hx,rfl⟩:=sH.1 hv;exact hsz x hx) (by simp[hlen])
  have hrun:=run_buildSlice w t el len (parts.map fun (i,x)=>(i,σ x)) _ ie z (ye hd) hie hz (by rw[hs];omega) (by rw[hs];exact Nat.ne_of_gt (Nat.mul_pos (by omega) h5)) (by rw[hvs];exact hf);have hfl : ∀v∈(parts.toList.map fun x => σ x.2),v.cells.toList.length=ie.size:=fun v hv=>by
   obtain⟨x,hx,rfl⟩:=sH.1 hv;rw[sI];exact hsz x hx
  have hsize:((parts.toList.map fun x => σ x.2).flatMap fun v=>v.cells.toList).toArray.size=len*ie.size:=by
   rw[HZ,Vu hfl];simp[hlen]
  obtain⟨k1,k2,k3⟩:=hS.new hA hμ hn hnn (rows:=parts.toList.map fun x=>(ρ x.2).cells) (g:=some (some (tyi P el).size)) (cells:=((parts.toList.map fun x => σ x.2).flatMap fun v=>v.cells.toList).toArray) (el:=el) (sz:=ie.size) (by simp[hs])
   (fun r hr=>by obtain⟨x,hx,rfl⟩:=sH.1 hr;exact (hrow x hx).1) (by rw[hsize];simp[hlen])
   (fun i row j pv hi hj=>by
    rw[pB]at hi
    cases hx:parts.toList[i]? with
    | none=>rw[hx]at hi;cases hi
    | some x =>
     rw[hx]at hi;simp at hi;subst hi;have hmem:=bK hx;obtain⟨e1,e2,e3⟩:=wC (hρ x.2) (hrow x hmem).2;have hjl:=(bL.1 hj).1;rw[(hrow x hmem).1]at hjl;have hu:(σ x.2).cells[j]? = some ((σ x.2).cells[j]'(by rw[hsz x hmem];exact hjl)):=bR _;refine⟨_,?_,e3 j _ hu,e2 j pv _ hj hu⟩;rw[aW,Vt hfl (v := σ x.2) (by rw[pB,hx];rfl) hjl,pE];exact hu) hb
  refine⟨_,_,_,hrun,k1,k2,k3,?_⟩;refine .msl nid 0 len true _ len _ (zM μ nid _) (bB _) (by simp only[bW,hsize];exact bB _) (fun _=>rfl) (fun _=>by simp)
theorem X1 {z:Array Value} {k i j:Nat} (hz:0<z.size) (hj:j<z.size) (hi:i*z.size+j<k):(madeCells z k)[i*z.size+j]? = z[j]? := by
 unfold madeCells;rw[Array.getElem?_map,Array.getElem?_range,hZ hi];have:(i*z.size+j) % z.size=j:=by rw[Nat.mul_add_mod_of_lt hj]
 simp[this,hj]
theorem Zl (hS:SR w X A n μ) {nid n':Nat} (hA:A nid=none) (hμ : μ nid=none) (hn:nid<n') (hnn:n≤n') {base:Nat} (hb:base≤nid) {t el:TypeId} (hd:(tyi P t).d=.slice el)
  {kl km:IntKind} {l m:Int} {z:List PV} (hz:(tyi P el).zero=some z)
  (h:0≤l∧l≤m∧(tyi P el).bytes*m≤281474976710656∧m≤9223372036854775807∧z.length=(tyi P el).size∧z.all PV.cell=true) :
  ∃v w' μ',(Instr.makeSlice t (.int kl l) (.int km m)).run P w=.ok v w' ∧
   SR w' X (upd A nid ⟨List.replicate l.toNat z,some (some (tyi P el).size),false⟩) n' μ'∧Tr base w A μ w' (upd A nid ⟨List.replicate l.toNat z,some (some (tyi P el).size),false⟩) μ'∧(∀i,i≠nid → μ' i = μ i) ∧
   VR w' (Av X (upd A nid ⟨List.replicate l.toNat z,some (some (tyi P el).size),false⟩) μ') μ' (.msl nid 0 l.toNat (decide (l=m))) v:=by
 obtain⟨h1,h2,h3,h4,h5,h6⟩:=h;obtain⟨i,v,hi,hzv,rfl⟩:=vr hz;obtain⟨e1,e2,e3⟩:=wC (w:=w) (av:=Av X A μ) (μ := μ) (xk v) h6;obtain⟨s1,s2⟩:=ZH hi;have hrun:=run_make (P:=P) w t el i v (ye hd) hi hzv kl km l m h1 h2 (by rw[s2];exact h3) h4;have hzs:v.cells.size=i.size:=by omega
 have hsize:=size_madeCells v.cells (m.toNat*i.size);obtain⟨k1,k2,k3⟩:=hS.new hA hμ hn hnn (rows:=List.replicate l.toNat (vl v).cells) (g:=some (some (tyi P el).size)) (cells:=madeCells v.cells (m.toNat*i.size)) (el:=el) (sz:=i.size) (by simp[s1])
  (fun r hr=>by rw[(List.mem_replicate.1 hr).2];omega) (by rw[hsize,sY];exact bV _ (by omega))
  (fun a row j pv ha hj=>by
   rw[PJ]at ha
   split at ha
   ·rename_i hal;simp at ha;subst ha;have hjl:=(bL.1 hj).1;have hjs:j<v.cells.size:=by omega
    have hu:v.cells[j]? = some (v.cells[j]'hjs):=bR _;refine⟨v.cells[j]'hjs,?_,e3 j _ hu,e2 j pv _ hj hu⟩;have hlt:a*v.cells.size+j<m.toNat*i.size:=by
     rw[hzs];have:(a+1)*i.size≤m.toNat*i.size:=bV _ (by omega);rw[bZ]at this;omega
    rw[←hzs,X1 (by omega) hjs (by rw[hzs]at hlt ⊢;exact hlt)];exact hu
   ·cases ha) hb
 refine⟨_,_,_,hrun,k1,k2,k3,?_⟩;exact .msl nid 0 l.toNat _ _ m.toNat _ (zM μ nid _) (by omega) (by simp only[bW,hsize];exact bB _) (fun hx=>by simp at hx;omega) (fun _=>by simp)
variable {S:zA}
theorem YQ (hS:SR w X A n μ) (hSA:vG S A μ) {t:TypeId} (ht:(∃e',P.underlying t=some (.slice e'))∨P.underlying t=some .string) {y:PV} {v:Value} (hv:VR w (Av X (A) μ) μ y v) {new:List (List PV)} (hy:rowsIn S y=some new) {sz:Nat} (hok:zq sz new=true) :
  ∃news:List Value,Src P sz t v new.length news w∧(∀i row j pv,new[i]? = some row→row[j]? = some pv→∃u,news[i*sz+j]? = some u∧flat u=true∧VR w (Av X (A) μ) μ pv u):=by
 have key : ∀(a:Option Addr) (ad:Addr) (cap:Nat),(new≠[]→a=some ad)→(a=none→new=[])→(∀i row j pv,new[i]? = some row→row[j]? = some pv→∃u,w.cell? (ad.add (i*sz+j))=some u∧flat u=true∧VR w (Av X (A) μ) μ pv u) →
   ∃news:List Value,Src P sz t (.slice a new.length cap) new.length news w∧(∀i row j pv,new[i]? = some row→row[j]? = some pv→∃u,news[i*sz+j]? = some u∧flat u=true∧VR w (Av X (A) μ) μ pv u):=by
  intro a ad cap h1 h2 h3;cases a with
  | none =>
   have:=h2 rfl;subst this;exact⟨[],⟨ht,fun _=>rfl,run_firstCells_none w sz 0 0 cap,run_firstCells_none w.drew sz 0 0 cap,by simp,fun _ h=>by cases h⟩,by simp⟩
  | some a =>
   have hcell : ∀k,k<new.length*sz→∃u,w.cell? (a.add k)=some u∧flat u=true:=by
    intro k hk;have hsz:0<sz:=Nat.pos_of_ne_zero fun h=>by subst h;simp at hk
    have hq:k / sz<new.length:=by rw[BA hsz];exact hk
    have hne:new≠[]:=by intro h0;subst h0;simp at hk
    have had:a=ad:=by simpa using h1 hne
    have hrow:new[k / sz]? = some (new[k / sz]'hq):=bI hq;have hrl:=zu hok _ (bK hrow);have hj:k % sz<(new[k / sz]'hq).length:=by rw[hrl];exact sJ _ hsz
    obtain⟨u,hu,hf,_⟩:=h3 (k / sz) _ (k % sz) _ hrow (bI hj);rw[had];have e:k / sz*sz+k % sz=k:=by rw[aH];exact BT k sz
    rw[e]at hu;exact⟨u,hu,hf⟩
   refine⟨(List.range (new.length*sz)).map fun k=>(w.cell? (a.add k)).getD undef,(fun hl h1 h2=>⟨ht,fun _=>rfl,run_firstCells_some w sz new.length a new.length cap _ hl h1,run_firstCells_some w.drew sz new.length a new.length cap _ hl (by simpa using h1),hl,h2⟩ : ∀(hl:((List.range (new.length*sz)).map fun k=>(w.cell? (a.add k)).getD undef).length=new.length*sz),_→_→Src P sz t (.slice (some a) new.length cap) new.length _ w) (by simp) (fun j u hu=>?_) (fun u hu=>?_),fun i row j pv hi hj=>?_⟩
   ·rw[pB]at hu;by_cases hjl:j<new.length*sz
    ·rw[sX hjl]at hu;obtain⟨q,hq,_⟩:=hcell j hjl;simp[hq]at hu;subst hu;exact hq
    ·rw[bY (by simpa using hjl)]at hu;cases hu
   ·obtain⟨k,hk,rfl⟩:=sH.1 hu;obtain⟨q,hq,hf⟩:=hcell k (BU.1 hk);rw[hq];exact uq hf
   ·obtain⟨u,hu,hf,hr⟩:=h3 i row j pv hi hj;have hne:new≠[]:=by intro h0;subst h0;simp at hi
    have had:a=ad:=by simpa using h1 hne
    have hil:=(bL.1 hi).1;have hjl:=(bL.1 hj).1;rw[zu hok _ (bK hi)]at hjl;have hlt:i*sz+j<new.length*sz:=by
     have:(i+1)*sz≤new.length*sz:=bV _ (by omega);rw[bZ]at this;omega
    refine⟨u,?_,hf,hr⟩;rw[pB,sX hlt];simp[had,hu]
 cases y <;> simp only[rowsIn,reduceCtorEq,Option.some.injEq]at hy
 case sl rows ex =>
  subst hy
  cases hv with | fr hv =>
  cases hv with | sl _ _ a cap ad s c hcap hex ha had hsz hc hr =>
  refine key a ad cap had (fun h=>bT (by have:=ha h;omega)) (fun i row j pv hi hj=>?_);have e:s=sz:=by rw[←hsz _ (bK hi)];exact zu hok _ (bK hi)
  have:=hc i row j pv hi hj;rw[e]at this;exact⟨_,this.1,FR.flat _ _ (hr i row j pv hi hj),.fr (hr i row j pv hi hj)⟩
 case msl id off len ex =>
  cases hr:zz S id with
  | none=>rw[hr]at hy;cases hy
  | some rows =>
   rw[hr]at hy;simp only[bC]at hy
   split at hy
   ·rename_i hle;simp at hy;have hlen:new.length=len:=by rw[←hy];simp;omega
    cases hv with
    | fr hv=>cases hv
    | mslNil _ _ a =>
     have hnew:new=[]:=bT hlen;subst hnew;exact key a default 0 (fun h=>absurd rfl h) (fun _=>rfl) (by simp)
    | msl _ _ _ _ ad cap b hb hlenc htot hex had =>
     obtain⟨g,f,ha⟩:=xv hSA hr hb;have k:=key (some ad) ad cap (fun _=>rfl) (by simp) (fun i row j pv hi hj=>by
      rw[←hy,aO]at hi
      split at hi
      ·rename_i hil;rw[pY]at hi;obtain⟨h1,h2⟩:=hS.row ha hb hi;obtain⟨u,hu1,hu2,hu3⟩:=h2 j pv hj;have hbs:b.sz=sz:=by
        rw[←h1];refine zu hok _ ?_;rw[←hy];refine bK (i:=i) ?_;rw[sR hil,pY];exact hi
       refine⟨u,?_,hu2,hu3⟩;rw[had (by omega),wB,←hbs,←aN,←bZ];exact hu1
      ·cases hi)
     rw[hlen]at k ⊢;exact k
   ·cases hy
theorem Xi (hS:SR w X A n μ) (hSA:vG S A μ) {t e':TypeId} (ht:P.underlying t=some (.slice e')) {y:PV} {v:Value} (hv:VR w (Av X (A) μ) μ y v) {new:List (List PV)} (hy:rowsIn S y=some new) {sz:Nat} (hok:zq sz new=true) :
  ∃news:List Value,Src P sz t v new.length news w∧(∀i row j pv,new[i]? = some row→row[j]? = some pv→∃u,news[i*sz+j]? = some u∧flat u=true∧VR w (Av X (A) μ) μ pv u):=YQ hS hSA (.inl ⟨e',ht⟩) hv hy hok
theorem YR (hS:SR w X A n μ) (hSA:vG S A μ) {t:TypeId} (ht:Zi (tyi P t).d=true) {y:PV} {v:Value} (hv:VR w (Av X (A) μ) μ y v) {new:List (List PV)} (hy:rowsS S y=some new) {sz:Nat} (hok:zq sz new=true) :
  ∃news:List Value,Src P sz t v new.length news w∧(∀i row j pv,new[i]? = some row→row[j]? = some pv→∃u,news[i*sz+j]? = some u∧flat u=true∧VR w (Av X (A) μ) μ pv u):=by
 have hk:(∃e',P.underlying t=some (.slice e'))∨P.underlying t=some .string:=by
  unfold Zi at ht
  split at ht
  ·rename_i e hd;exact .inl ⟨e,ye hd⟩
  ·rename_i hd;exact .inr (ur hd)
  ·cases ht
 cases y
 case str s =>
  simp only[rowsS,Option.some.injEq]at hy;subst hy;obtain rfl:=hv.str_inv;have hl:(uG s).length=s.size:=by unfold uG;rw[sS,sI];rfl
  by_cases h0:s.size=0
  ·have hb:s.data.toList=[]:=bT (by rw[sI];exact h0);have hr:uG s=[]:=by simp[uG,hb]
   have hb2:s=ByteArray.empty:=by
    obtain⟨d⟩:=s;have:d = #[]:=by simpa using hb
    rw[this];rfl
   subst hb2;rw[hr];exact⟨[],⟨hk,fun _=>rfl,by simp[Builtin.firstCells],by simp[Builtin.firstCells],by simp,fun _ h=>by cases h⟩,by simp⟩
  ·have h1:sz=1:=by
    have : ∃r,r∈uG s:=List.exists_mem_of_length_pos (by omega);obtain⟨r,hr⟩:=this;have e:=zu hok r hr;simp only[uG,sH]at hr;obtain⟨b,_,rfl⟩:=hr
    simpa using e.symm
   subst h1;rw[hl];refine⟨byteCells s,⟨hk,fun _=>rfl,firstCells_string s w,firstCells_string s w.drew,by unfold byteCells;rw[sS,sI,Nat.mul_one];rfl,?_⟩,?_⟩
   ·intro u hu;simp only[byteCells,sH]at hu;obtain⟨b,_,rfl⟩:=hu;rfl
   ·intro i row j pv hi hj;simp only[uG,pB,PI]at hi;obtain⟨b,hb,rfl⟩:=hi;cases j with
    | zero =>
     cases hj;exact⟨.int .u8 b.toNat,by simp[byteCells,hb],rfl,.i⟩
    | succ j=>simp at hj
 all_goals exact YQ hS hSA hk hv hy hok
end
end Go.Vs
end
section
namespace Go.Vs
open Go
section
variable {P:Program} {w:World} {X:Nat→Prop} {A:yT} {n:Nat} {μ : Mu} {av:Nat→Prop}
theorem SR.same (hS:SR w X A n μ) {w':World} (hh:w'.heap=w.heap) (h1:w'.os=w.os) (h2:w'.tape=w.tape) (h3:w'.output=w.output) (base:Nat):SR w' X A n μ ∧ Tr base w A μ w' A μ := by
 have htr:Tr base w A μ w' A μ := ⟨h1,h2,h3,by rw[hh];exact bB _,fun b _ _=>by rw[hh],fun _ _ h=>h,fun _ _=>rfl⟩;refine⟨⟨hS.lt,fun id a ha b hb=>?_,hS.nob,hS.gsz,hS.inj,hS.out,fun b hb=>by rw[hh];exact hS.xlt b hb⟩,htr⟩;obtain⟨c,el,k0,k1,k2,k3,k4⟩:=hS.blk id a ha b hb;refine⟨c,el,by rw[hh];exact k0,k1,k2,k3,fun i row j pv hi hj=>?_⟩;obtain⟨v,hv1,hv2,hv3⟩:=k4 i row j pv hi hj;exact⟨v,hv1,hv2,hv3.mono htr.keeps fun _ _ _ h=>h⟩
theorem kb {g:Nat} {cs:Array Value} {k:Nat} (h:k≠g):(w.setRow g cs).heap[k]? = w.heap[k]? := by
 show (w.heap.modify g _)[k]? = _
 rw[Array.getElem?_modify,hI (Ne.symm h)]
theorem kc {g:Nat} {cs:Array Value} : (w.setRow g cs).heap.size=w.heap.size:=by
 show (w.heap.modify g _).size=_
 simp
theorem SR.rewrite (hS:SR w X A n μ) {w':World} {id:Nat} {a:Arr} (ha:A id=some a) (haf:a.f=false) {bk:Blk} (hbk : μ id=some bk∨w.heap.size≤bk.b)  {base:Nat} (hbase : μ id=some bk∨base≤id)
  (ho:w'.os=w.os) (ht:w'.tape=w.tape) (hp:w'.output=w.output) (hz:w.heap.size≤w'.heap.size) (hk : ∀b,b<w.heap.size→b≠bk.b→w'.heap[b]? = w.heap[b]?)
  {A':yT} {a':Arr} (ha':A' id=some a') (ha'f:a'.f=false) (ha'g : ∀k,a'.g=some k→k=some bk.sz)
  (hoth : ∀j,j≠id→∀b',A' j=some b'→∃b0,A j=some b0∧(b'.f=b0.f∧b'.g=b0.g)∧b'.rows.length=b0.rows.length∧∀(i:Nat) (row':List PV),b'.rows[i]? = some row'→∃row:List PV,b0.rows[i]? = some row∧row'.length=row.length ∧
   ∀(k:Nat) (pv':PV),row'[k]? = some pv'→∃pv,row[k]? = some pv∧(pv'=.undef∨(pv'=pv∧(μ id=some bk∨id ∉ pv.refs))))
  {c:Array Value} {el:TypeId} (hheap:w'.heap[bk.b]? = some (.cells c el (0,0))) (htot:c.size=bk.tot) (hrt:a'.rows.length*bk.sz≤bk.tot) (hsz : ∀r∈a'.rows,r.length=bk.sz)
  (hc : ∀i row j pv,a'.rows[i]? = some row→row[j]? = some pv→∃v,c[i*bk.sz+j]? = some v∧flat v=true∧VR w (Av X A μ) μ pv v∧(μ id=some bk∨id ∉ pv.refs)) :
  SR w' X A' n (upd μ id bk)∧Tr base w A μ w' A' (upd μ id bk)∧(∀pv v,VR w (Av X A μ) μ pv v→(μ id=some bk∨id ∉ pv.refs)→VR w' (Av X A' (upd μ id bk)) (upd μ id bk) pv v):=by
 have hin:id<n:=by
  rcases HX id n with h | h
  ·exact h
  ·rw[(hS.lt id h).2]at ha;cases ha
 have hblt : ∀j b0 k,A j=some b0 → μ j=some k→k.b<w.heap.size:=fun j b0 k h1 h2=>by
  obtain⟨c,el,hh,_⟩:=hS.blk j b0 h1 k h2;exact (pR.1 hh).1
 have hne : ∀j b0 k,j≠id→A j=some b0 → μ j=some k→k.b≠bk.b:=fun j b0 k hj h1 h2 he=>by
  rcases hbk with h | h
  ·exact hj (hS.inj j id b0 a k bk h1 ha h2 h he)
  ·have:=hblt j b0 k h1 h2;omega
 have hmu : ∀j,j≠id→upd μ id bk j = μ j:=fun j hj=>zP _ _ _ hj;have hmutId : ∀b,b<w.heap.size→b=bk.b→Mut A μ b:=fun b hb he=>by
  rcases hbk with h | h
  ·exact⟨id,a.rows,a.g,bk,by rw[ha];cases a;simp_all,h,he.symm⟩
  ·omega
 have htr:Tr base w A μ w' A' (upd μ id bk):=by
  refine⟨ho,ht,hp,hz,fun b hb hm=>hk b hb fun he=>hm (hmutId b hb he),fun b hb=>?_,fun j hj=>?_⟩
  ·rintro⟨j,rows,g,k,h1,h2,rfl⟩
   by_cases hj:j=id
   ·subst hj;rw[zM]at h2;simp at h2;subst h2;exact hmutId _ hb rfl
   ·rw[hmu j hj]at h2;obtain⟨b0,e1,⟨e2,_⟩,_⟩:=hoth j hj _ h1;exact⟨j,b0.rows,b0.g,k,by rw[e1];simp at e2;cases b0;simp_all,h2,rfl⟩
  ·by_cases hj':j=id
   ·subst hj'
    rcases hbase with h | h
    ·rw[zM,h]
    ·omega
   ·exact hmu j hj'
 have lift : ∀pv v,VR w (Av X A μ) μ pv v→(μ id=some bk∨id ∉ pv.refs)→VR w' (Av X A' (upd μ id bk)) (upd μ id bk) pv v:=fun pv v hv hr=>by
  refine hv.mono htr.keeps fun i hi b hb=>?_;by_cases hid:i=id
  ·subst hid
   rcases hr with h | h
   ·rw[zM,←h];exact hb
   ·exact absurd hi h
  ·rw[hmu i hid];exact hb
 refine⟨⟨fun j hj=>?_,fun j b' hb' k hk'=>?_,fun j b' hb' hk'=>?_,fun j b' hb'=>?_,fun j j' b1 b2 k1 k2 h1 h2 h3 h4 h5=>?_,fun j b' k h1 h2=>?_,fun b hb=>aV (hS.xlt b hb) hz⟩,htr,lift⟩
 ·have hj':j≠id:=by omega
  refine⟨by rw[hmu j hj'];exact (hS.lt j hj).1,?_⟩
  cases hq:A' j with
  | none=>rfl
  | some b'=>obtain⟨b0,e1,_⟩:=hoth j hj' b' hq;rw[(hS.lt j hj).2]at e1;cases e1
 ·by_cases hj:j=id
  ·subst hj;rw[zM]at hk';simp at hk';subst hk';rw[ha']at hb';simp at hb';subst hb';refine⟨c,el,hheap,htot,hrt,hsz,fun i row j pv hi hj=>?_⟩;obtain⟨v,v1,v2,v3,v4⟩:=hc i row j pv hi hj;exact⟨v,v1,v2,lift pv v v3 v4⟩
  ·rw[hmu j hj]at hk';obtain⟨b0,e1,e2,e3,e4⟩:=hoth j hj b' hb';obtain⟨c0,el0,g0,g1,g2,g3,g4⟩:=hS.blk j b0 e1 k hk';refine⟨c0,el0,by rw[hk k.b (hblt j b0 k e1 hk') (hne j b0 k hj e1 hk')];exact g0,g1,by rw[e3];exact g2,fun r hr=>?_,fun i row' x pv' hi hx=>?_⟩
   ·obtain⟨i,hi⟩:=aX hr;obtain⟨row,r1,r2,_⟩:=e4 i r hi;rw[r2];exact g3 row (bK r1)
   ·obtain⟨row,r1,r2,r3⟩:=e4 i row' hi;obtain⟨pv,p1,p2⟩:=r3 x pv' hx;obtain⟨v,v1,v2,v3⟩:=g4 i row x pv r1 p1;refine⟨v,v1,v2,?_⟩
    rcases p2 with rfl | ⟨rfl,hr⟩
    ·exact .undef v
    ·exact lift _ _ v3 hr
 ·by_cases hj:j=id
  ·subst hj;rw[zM]at hk';cases hk'
  ·rw[hmu j hj]at hk';obtain⟨b0,e1,e2,e3,_⟩:=hoth j hj b' hb';have:=hS.nob j b0 e1 hk';rw[this]at e3;exact bT (by simpa using e3)
 ·by_cases hj:j=id
  ·subst hj;rw[ha']at hb';simp at hb';subst hb';refine⟨fun h=>(by cases ha'g _ h),fun k h b hb=>?_⟩;rw[zM]at hb;simp at hb;subst hb;have:=ha'g _ h
   simpa using this.symm
  ·rw[hmu j hj];obtain⟨b0,e1,⟨_,e2⟩,_⟩:=hoth j hj b' hb';rw[e2];exact hS.gsz j b0 e1
 ·have old : ∀j b' ,j≠id→A' j=some b'→∃b0,A j=some b0:=fun j b' hj h=>let ⟨b0,e,_⟩:=hoth j hj b' h;⟨b0,e⟩;by_cases hj:j=id
  ·by_cases hj':j'=id
   ·omega
   ·subst hj;rw[zM]at h3;simp at h3;subst h3;rw[hmu j' hj']at h4;obtain⟨b0,e⟩:=old j' b2 hj' h2;exact absurd h5.symm (hne j' b0 k2 hj' e h4)
  ·by_cases hj':j'=id
   ·subst hj';rw[zM]at h4;simp at h4;subst h4;rw[hmu j hj]at h3;obtain⟨b0,e⟩:=old j b1 hj h1;exact absurd h5 (hne j b0 k1 hj e h3)
   ·rw[hmu j hj]at h3;rw[hmu j' hj']at h4;obtain⟨b0,e⟩:=old j b1 hj h1;obtain⟨b0',e'⟩:=old j' b2 hj' h2;exact hS.inj j j' b0 b0' k1 k2 e e' h3 h4 h5
 ·by_cases hj:j=id
  ·subst hj;rw[zM]at h2;simp at h2;subst h2
   rcases hbk with h | h
   ·exact hS.out j a _ ha h
   ·exact fun hx=>by have:=hS.xlt _ hx;omega
  ·rw[hmu j hj]at h2;obtain⟨b0,e1,_⟩:=hoth j hj b' h1;exact hS.out j b0 k e1 h2
end
end Go.Vs
end
section
namespace Go.Vs
open Go
theorem wr {α:Type} (l m:List α) (o:Nat) (h:o+m.length≤l.length) (k:Nat):(l.take o++m++l.drop (o+m.length))[k]? = if o≤k∧k<o+m.length then m[k-o]? else l[k]? := by
 have ho:(l.take o).length=o:=by rw[pJ];omega
 by_cases h1:k<o
 ·rw[hI (by omega),aG,pP (by omega),sR h1]
 ·by_cases h2:k<o+m.length
  ·rw[hZ ⟨by omega,h2⟩,aG,pG (by omega),ho,pP (by omega)]
  ·rw[hI (by omega),pG (by rw[bO,ho];omega),bO,ho,pY]
   congr 1;omega
theorem ws {α:Type} (l m:List α) (o:Nat) (h:o+m.length≤l.length):(l.take o++m++l.drop (o+m.length)).length=l.length:=by
 simp;omega
theorem Xj (row:List PV) (off:Nat) (cs:List PV):wH row off cs=row.take off++cs++row.drop (off+cs.length):=by
 unfold wH
 split
 ·rename_i h;obtain⟨rfl,h⟩:=h;simp[h]
 ·rfl
section
variable {P:Program} {w:World} {X:Nat→Prop} {A:yT} {n:Nat} {μ : Mu} {av:Nat→Prop} {S:zA}
theorem uX {S:zA} {id:Nat} {rows:List (List PV)} {g:Option (Option Nat)} {f:Bool} (h:S[id]? = some (.arr rows g f)):arrs S id=some ⟨rows,g,f⟩:=by unfold arrs;rw[h]
theorem ke {S:zA} {id:Nat} {o:Obj} (hl:id<S.length) {rows:List (List PV)} {g:Option (Option Nat)} {f:Bool} (ho:o=.arr rows g f):arrs (S.set id o)=upd (arrs S) id ⟨rows,g,f⟩:=by
 subst ho
 funext j
 by_cases hj:j=id
 ·subst hj;rw[zM];unfold arrs;rw[List.getElem?_set_self hl]
 ·rw[zP _ _ _ hj];unfold arrs;rw[BQ (Ne.symm hj)]
theorem qO (hS:SR w X A n μ) {t:TypeId} (hk:(tyi P t).known=true) {id i off:Nat} {rows:List (List PV)} {g:Option (Option Nat)} {y:PV} {u v:Value} (hx:VR w (Av X A μ) μ (.mp id i off) u) (hy:VR w (Av X A μ) μ y v)
  (hA:A id=some ⟨rows,g,false⟩) (c1:i<rows.length) (c2:off+(tyi P t).size≤(rows.getD i []).length) (c3:y.cells.length=(tyi P t).size) (c4:y.cells.all PV.cell=true) (base:Nat) :
  ∃w',(Instr.storeAt t u v).run P w=.ok () w'∧SR w' X (upd A id ⟨rows.set i (wH (rows.getD i []) off y.cells),g,false⟩) n μ ∧ Tr base w A μ w' (upd A id ⟨rows.set i (wH (rows.getD i []) off y.cells),g,false⟩) μ := by
 obtain⟨d,i0,hd,hi0,hs0,_⟩:=xj hk;cases hx with
 | fr hx=>cases hx
 | mp _ _ _ b hb =>
  obtain⟨c,el,hh,htot,hrt,hsz,hcell⟩:=hS.blk id _ hA b hb
  replace hrt:rows.length*b.sz≤b.tot:=hrt
  replace hsz : ∀r∈rows,r.length=b.sz:=hsz
  obtain⟨e1,e2,e3⟩:=wC hy c4;have hrow:rows[i]? = some (rows.getD i []):=by simp[List.getD,bI c1]
  have hrl:(rows.getD i []).length=b.sz:=hsz _ (bK hrow);have hvs:v.cells.toList.length=(tyi P t).size:=by rw[sI,←e1,c3]
  have hfit:i*b.sz+off+v.cells.toList.length≤c.toList.length:=by
   rw[hvs,sI,htot];have:(i+1)*b.sz≤rows.length*b.sz:=bV _ c1;rw[bZ]at this;omega
  have hst:=run_storeCells_at P b.b (i*b.sz+off) el v.cells.toList 0 c w hh (by rw[sC];simpa using hfit) (fun x hx=>by
   obtain⟨j,hj⟩:=aX hx;rw[pE]at hj;exact uq (e3 j x hj))
  simp only[sC]at hst;have hrun:(Instr.storeAt t (.pointer (some ⟨b.b,i*b.sz+off,none⟩)) v).run P w=.ok () (w.setRow b.b (c.toList.take (i*b.sz+off)++v.cells.toList++c.toList.drop (i*b.sz+off+v.cells.toList.length)).toArray):=by
   simp only[Instr.storeAt,Instr.sureAddr,bQ,pK,bX,storeVar,yf hi0];rw[hI (by rw[hs0,←e1,c3];simp)];exact hst
  have hlen2:(c.toList.take (i*b.sz+off)++v.cells.toList++c.toList.drop (i*b.sz+off+v.cells.toList.length)).length=c.size:=by rw[ws _ _ _ hfit,sI]
  obtain⟨k1,k2,k3⟩:=hS.rewrite hA rfl (bk:=b) (.inl hb) (base:=base) (.inl hb) (w':=w.setRow b.b (c.toList.take (i*b.sz+off)++v.cells.toList++c.toList.drop (i*b.sz+off+v.cells.toList.length)).toArray)
   rfl rfl rfl (by rw[kc];exact bB _) (fun k _ hk=>kb hk)
   (A':=upd A id ⟨rows.set i (wH (rows.getD i []) off y.cells),g,false⟩) (a':=⟨rows.set i (wH (rows.getD i []) off y.cells),g,false⟩) (by rw[zM]) rfl (fun k hg=>by
    have hg':g=some k:=hg;obtain⟨q1,q2⟩:=hS.gsz id _ hA;cases k with
    | none=>rw[q1 hg']at hb;cases hb
    | some k=>rw[q2 k hg' b hb])
   (fun j hj b' hb'=>by
    rw[zP _ _ _ hj]at hb';exact⟨b',hb',⟨rfl,rfl⟩,rfl,fun a row' ha=>⟨row',ha,rfl,fun k pv' hk=>⟨pv',hk,.inr ⟨rfl,.inl hb⟩⟩⟩⟩)
   (setRow_heap w b.b c _ el (0,0) hh) (by simp only[HZ];rw[hlen2];exact htot) (by simpa using hrt)
   (fun r hr=>by
    rcases List.mem_or_eq_of_mem_set hr with hr | rfl
    ·exact hsz r hr
    ·rw[Xj,ws _ _ _ (by rw[c3];exact c2)];exact hrl)
   (fun a row j pv ha hj=>by
    rw[aW,wr _ _ _ hfit];rw[HP]at ha;have hal:a<rows.length:=by
     split at ha
     ·omega
     ·exact (bL.1 ha).1
    by_cases hai:i=a
    ·subst hai;rw[hZ rfl,hZ c1]at ha;simp only[Option.some.injEq]at ha;subst ha;rw[Xj,wr _ _ _ (by rw[c3];exact c2)]at hj;by_cases hin:off≤j∧j<off+y.cells.length
     ·rw[hZ hin]at hj;rw[hZ (by rw[hvs];omega)];rw[show i*b.sz+j-(i*b.sz+off)=j-off by omega,pE];have hu:v.cells[j-off]? = some (v.cells[j-off]'(by omega)):=bR _;exact⟨_,hu,e3 _ _ hu,e2 _ pv _ hj hu,.inl hb⟩
     ·rw[hI hin]at hj;rw[hI (by rw[hvs];omega),pE];obtain⟨q,q1,q2,q3⟩:=hcell i _ j pv hrow hj;exact⟨q,q1,q2,q3,.inl hb⟩
    ·rw[hI hai]at ha;have hjl:=(bL.1 hj).1;rw[hsz row (bK ha)]at hjl;have hout : ¬(i*b.sz+off≤a*b.sz+j∧a*b.sz+j<i*b.sz+off+v.cells.toList.length):=by
      rw[hvs]
      rcases Nat.lt_or_gt_of_ne hai with hlt | hlt
      ·have:(i+1)*b.sz≤a*b.sz:=bV _ hlt;rw[bZ]at this;omega
      ·have:(a+1)*b.sz≤i*b.sz:=bV _ hlt;rw[bZ]at this;omega
     rw[hI hout,pE];obtain⟨q,q1,q2,q3⟩:=hcell a row j pv ha hj;exact⟨q,q1,q2,q3,.inl hb⟩)
  have hup:upd μ id b = μ := by
   funext j
   by_cases hj:j=id
   ·subst hj;rw[zM,hb]
   ·exact zP _ _ _ hj
  rw[hup]at k1 k2;exact⟨_,hrun,k1,k2⟩
theorem Vv (hS:SR w X (arrs S) n μ) {t:TypeId} (hk:(tyi P t).known=true) {x y:PV} {u v:Value} (hx:VR w (Av X (arrs S) μ) μ x u) (hy:VR w (Av X (arrs S) μ) μ y v) {S':zA} (h:yr (tyi P t).size S x y=some S') (base:Nat) :
  ∃w',(Instr.storeAt t u v).run P w=.ok () w'∧SR w' X (arrs S') n μ ∧ Tr base w (arrs S) μ w' (arrs S') μ ∧ S'.length=S.length:=by
 cases x <;> simp only[yr,reduceCtorEq]at h
 case mp id i off =>
 cases hid:S[id]? with
 | none=>rw[hid]at h;cases h
 | some o =>
 rw[hid]at h;cases o with
 | gone=>cases h
 | arr rows g f =>
 cases f with
 | true=>cases h
 | false =>
 simp only at h
 split at h
 ·rename_i hc;obtain⟨c1,c2,c3,c4⟩:=hc;cases h;have hl:=(bL.1 hid).1;obtain⟨w',k1,k2,k3⟩:=qO hS hk hx hy (uX hid) c1 c2 c3 c4 base;rw[←ke hl (o:=Obj.arr (rows.set i (wH (rows.getD i []) off y.cells)) g false) rfl]at k2 k3;exact⟨w',k1,k2,k3,by simp⟩
 ·cases h
end
end Go.Vs
end
