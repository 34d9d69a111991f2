
import Derived.Test.YtfbkajadbjbfiaaGreatMA5
set_option linter.unusedVariables false
set_option linter.unusedSimpArgs false
section
namespace Go.Vs
open Go
section
variable {C:Ctx} {ops:Array Oper} {e:Nat→Env} {S:Nat→zA} {r:Nat→Ef} {kd:Nat→Nat} {D D':Nat→Bool} {base nt:Nat} {X:Nat→Prop} {w0:World} {A0:yT} {μ0:Mu}
def St (ops:Array Oper) (e:Nat→Env) (S:Nat→zA) (r:Nat→Ef) (base nt:Nat) (X:Nat→Prop) (w0:World) (A0:yT) (μ0:Mu) (D:Nat→Bool) (a:Act) (w:World):Prop :=
 ∃ μ n,SR w X (af S r D ops.size) n μ ∧ (∀t,VR w (Av X (af S r D ops.size) μ) μ (gf ops e r D ops.size t) (a.tmps.getD t Go.undef))∧QH S r ops.size D μ ∧ a.defers=[]∧a.tmps.size=nt ∧
  Tr base w0 A0 μ0 w (af S r D ops.size) μ
theorem zCl (a:Act) (d:Option Nat) (v:Value) (t:Nat):(a.put d v).tmps.getD t Go.undef=if d=some t∧t<a.tmps.size then v else a.tmps.getD t Go.undef:=by
 cases d with
 | none=>simp[Act.put]
 | some d =>
  simp only[Act.put,Option.some.injEq];by_cases h:d=t
  ·subst h;by_cases hl:d<a.tmps.size
   ·simp[sK,hl]
   ·simp[sK,hl]
  ·simp[sK,h,Array.getElem?_setIfInBounds_ne h]
theorem St.fin (hr:Run C ops e S r kd) {i:Nat} {oi:Oper} (hoi:ops[i]? = some oi) (hD:D i=false) (hD' : ∀j,D' j=(D j||j == i)) (hall:(r i).isAll=false)
  (hs : ∀j oj,i<j→D j=true→ops[j]? = some oj→Sw ops kd e i j oi oj) (hd : ∀t,oi.dst=some t→t<nt) {a:Act} {w w':World} {μ μ':Mu} {n':Nat} {v:Value}
  (hfr:QH S r ops.size D μ) (hE : ∀t,VR w (Av X (af S r D ops.size) μ) μ (gf ops e r D ops.size t) (a.tmps.getD t Go.undef)) (hdef:a.defers=[]) (hsz:a.tmps.size=nt) (htr:Tr base w0 A0 μ0 w (af S r D ops.size) μ)
  (hst : ∀id a,r i=.st id a→af S r D ops.size id≠none) (hmu : ∀j,j<ops.size→D j=true→∀id a,r j=.st id a→i<j→(S i).length≠(S (i+1)).length→id≠(S i).length)
  (k1:SR w' X ((r i).app (af S r D ops.size)) n' μ') (k2:Tr base w (af S r D ops.size) μ w' ((r i).app (af S r D ops.size)) μ') (hq : ∀lo B,r i=.call lo B→∀id,(S 0).length≤id→(∀j,j<ops.size→D j=true→¬((S j).length≤id∧id<(S (j+1)).length))→(S i).length≤id)
  (k3 : ∀id,μ' id = μ id∨((S i).length≤id∧id<(S (i+1)).length))
  (k3' : ∀id b,μ id=some b → μ' id=some b) (k4 : ∀t,oi.dst=some t→VR w' (Av X ((r i).app (af S r D ops.size)) μ') μ' (get (e (i+1)) t) v) :
  St ops e S r base nt X w0 A0 μ0 D' (a.put oi.dst v) w':=by
 have his:=(pR.1 hoi).1;have hle:=zCj hr hoi hD hD' hs (fun j h1 h2 h3 id a h4 h5=>hmu j h2 h3 id a h4 h1 h5) ops.size his (bB _);obtain⟨m1,m2⟩:=k1.more hle base;refine⟨μ',n',m1,fun t=>?_,fun id h0 hno=>?_,by rw[vZ];exact hdef,by rw[ki];exact hsz,htr.trans (k2.trans m2)⟩
 ·rw[zCk hoi hD hD' hall hr hs t ops.size his (bB _),zCl];by_cases ht:oi.dst=some t
  ·rw[hZ ht,hZ ⟨ht,by rw[hsz];exact hd t ht⟩];exact (k4 t ht).mono m2.keeps fun _ _ _ h=>h
  ·rw[hI ht,hI (fun h=>ht h.1)];exact ((hE t).mono k2.keeps fun i _ b hb=>k3' i b hb).mono m2.keeps fun _ _ _ h=>h
 ·have hno' : ∀j,j<ops.size→D j=true→¬((S j).length≤id∧id<(S (j+1)).length):=fun j h1 h2=>hno j h1 (by rw[hD' j,h2];rfl);obtain⟨f1,f2⟩:=hfr id h0 hno';have hni:=hno i his (by rw[hD' i];simp);have hmono:=hr.mono (i:=i) (j:=i+1) (by omega) (by omega);have hne : ¬(id=(S i).length∧(S i).length≠(S (i+1)).length):=fun h=>hni ⟨by omega,by omega⟩;refine⟨?_,?_⟩
  ·rcases k3 id with h | h
   ·rw[h];exact f1
   ·exact absurd h hni
  ·refine (hle id).1 ?_
   cases hri:r i with
   | all B=>rw[hri]at hall;cases hall
   | call lo B =>
    have hge:=hq lo B hri id h0 hno';obtain⟨lo',e1,_⟩:=(hr.ok i _ hoi).calls (by rw[hri];rfl);rw[hri]at e1;cases e1;simp only[Ef.app,over];rw[hI fun h=>hni ⟨hge,h.2⟩];exact f2
   | st id0 a0 =>
    simp only[Ef.app];have:id≠id0:=by rintro rfl;exact hst _ _ hri f2
    rw[zP _ _ _ this];exact f2
   | new fz nid nw =>
    obtain⟨n1,n2,n3,n4,n5⟩:=(hr.ok i _ hoi).new hri;have hf:frz (af S r D ops.size) fz id=none:=by rw[xN,f2];rfl
    cases nw with
    | none=>exact hf
    | some p =>
     obtain⟨rows,g⟩:=p;simp only[Ef.app,zw];have:=n4 (by simp);rw[zP _ _ _ (fun h=>hne ⟨by omega,by omega⟩)];exact hf
theorem Z5 (keep:List Nat) (e:Env) (t:Nat):get (trim keep e) t=if t∈keep then get e t else .undef:=by
 unfold trim
 induction keep with
 | nil=>rfl
 | cons k l ih =>
  simp only[pF,Vs.get,BD];by_cases h:k=t
  ·subst h;simp
  ·rw[hI h,ih];have:t≠k:=fun h'=>h h'.symm;simp[this]
theorem kj {e:Env} {d:Option Nat} {t:Nat} (h:d=some t) (v:PV):get (putD e d v) t=v:=by
 subst h;simp only[putD];rw[ut,hZ rfl]
theorem UA {o:Oper} {j t:Nat} {want:Bool} (h1:o.guard=some (j,want)) (h2:(ops[j]?).bind (·.dst)=some t):t∈o.looksAt ops:=by
 unfold Oper.looksAt;rw[h1];simp only[h2];simp
theorem zAw {o:Oper} {t:Nat} (h:Operand.tmp t∈o.op.operands):t∈o.looksAt ops:=by
 unfold Oper.looksAt;refine List.mem_append_left _ (List.mem_filterMap.2 ⟨.tmp t,by simpa using h,rfl⟩)
theorem zAx {S:zA} {A:yT} {μ : Mu} {id:Nat} (h : ∀a b,arrs S id=some a → μ id=some b→∃f,A id=some ⟨a.rows,a.g,f⟩):vG (List.replicate id .gone++[S.getD id .gone]) A μ := by
 intro id' a b ha hb;have e:arrs (List.replicate id Obj.gone++[S.getD id .gone]) id'=if id'=id then arrs S id else none:=by
  unfold arrs;by_cases h1:id'<id
  ·rw[pP (by simpa using h1),PJ,hZ h1,hI (by omega)]
  ·by_cases h2:id'=id
   ·subst h2;rw[pG (by simp),hZ rfl];simp only[sY,sM,PS]
    cases hq:S[id']? with
    | none=>simp[bE,hq]
    | some o=>simp[bE,hq]
   ·rw[pG (by simp;omega),hI h2];rw[bY (by simp;omega)]
 rw[e]at ha
 split at ha
 ·rename_i h2;subst h2;exact h a b ha hb
 ·cases ha
theorem Kf (S:zA) (id:Nat):zz (List.replicate id .gone++[S.getD id .gone]) id=zz S id:=by
 unfold zz;rw[pG (by simp)];simp only[sY,sM,PS]
 cases hq:S[id]? with
 | none=>simp[bE,hq]
 | some o=>simp[bE,hq]
theorem St.step (hr:Run C ops e S r kd) (hok:qT ops (Sw ops kd e)) (hcl:Wm ops D) (hcp:Zo C.P C.cp) (hcr:Wi C.P C.cr) {i:Nat} {oi:Oper} (hoi:ops[i]? = some oi) (hD:D i=false)
  (he : ∀ed∈oi.after,Region.binds .any ed=true→D ed.on=true) (hD' : ∀j,D' j=(D j||j == i)) (hd : ∀t,oi.dst=some t→t<nt) (hb:C.base=base) (hb0:base≤(S 0).length) {a:Act} {w:World}
  (hSt:St ops e S r base nt X w0 A0 μ0 D a w) {K:Act→World→Prop} {Q:Exit→Act→World→Prop} (hK : ∀a' w',St ops e S r base nt X w0 A0 μ0 D' a' w'→K a' w'):wpOp C.P ops Q i K a w:=by
 obtain⟨lo,hi⟩:=zCf hok hcl hoi hD he;obtain⟨μ,n,hS,hE,hfr,hdef,hsz,htr⟩:=hSt;have his:=(pR.1 hoi).1;have hbi:base≤(S i).length:=bF hb0 (hr.mono (sD _) (by omega));have hna : ∀j oj,ops[j]? = some oj→kd j≠4→(r j).isAll=false:=fun j oj ho hk=>by
  cases hq:(r j).isAll with
  | false=>rfl
  | true=>exact absurd ((hr.ok j oj ho).kindAll hq) hk
 have und : ∀j,j<ops.size→D j=false→(S j).length≠(S (j+1)).length → μ (S j).length=none∧af S r D ops.size (S j).length=none:=fun j hj hDj hne=>hfr.undone hr hj hDj hne;have all4:kd i=4→(∀j,j<i→D j=true)∧(∀j,i≤j→j<ops.size→D j=false):=fun h4=>by
  refine⟨fun j hj=>?_,fun j hj hjs=>?_⟩
  ·cases hDj:D j with
   | true=>rfl
   | false=>exact absurd h4 (lo j _ hj hDj (bR (by omega))).basic.2.2
  ·by_cases hji:j=i
   ·subst hji;exact hD
   ·cases hDj:D j with
    | false=>rfl
    | true=>exact absurd h4 (hi j _ (by omega) hDj (bR (by omega))).basic.2.1
 have hg : ∀t,(t∈oi.looksAt ops∨kd i=4)→gf ops e r D ops.size t=get (e i) t:=fun t ht=>by
  rw[zAp (i:=i) (fun j oj hj hDj ho=>?_) ops.size (by omega) (bB _)]
  ·refine zAo hr (by omega) (fun j oj hj ho=>?_) i (bB _)
   rcases ht with ht | ht
   ·cases hDj:D j with
    | true=>exact .inl rfl
    | false =>
     obtain⟨hap,k1,k2⟩:=(lo j oj hj hDj ho).basic;exact .inr ⟨hna j oj ho k1,fun hdt=>(Oper.apart_spec hap).1 t hdt ht⟩
   ·exact .inl ((all4 ht).1 j hj)
  ·rcases ht with ht | ht
   ·have hji:i<j:=by
     rcases BX hj with h | h
     ·exact h
     ·subst h;rw[hD]at hDj;cases hDj
    obtain⟨hap,k1,k2⟩:=(hi j oj hji hDj ho).basic;exact⟨hna j oj ho k2,fun hdt=>(Oper.apart_spec hap).2.2 t hdt ht⟩
   ·have:=(all4 ht).2 j hj (pR.1 ho).1;rw[this]at hDj;cases hDj
 have hE' : ∀t,(t∈oi.looksAt ops∨kd i=4)→VR w (Av X (af S r D ops.size) μ) μ (get (e i) t) (a.tmps.getD t Go.undef):=fun t ht=>by rw[←hg t ht];exact hE t
 have hwant : ∀b,xP ops (e i) oi=some b→Region.wanted oi (yielded ops a.tmps)=b:=fun b hw=>jc (fun j want t h1 h2=>hE' t (.inl (UA h1 h2))) hw;have hE2:ER w (Av X (af S r D ops.size) μ) μ (trim (oi.looksAt ops) (e i)) a.tmps:=fun t=>by
  rw[Z5]
  split
  ·rename_i ht;exact hE' t (.inl ht)
  ·exact .undef _
 have hcong : ∀x∈oi.op.operands,ev (e i) x=ev (trim (oi.looksAt ops) (e i)) x:=fun x hx=>by
  cases x with
  | tmp t=>simp only[ev];rw[Z5,hZ (zAw hx)]
  | _=>rfl
 have hmu : ∀j,j<ops.size→D j=true→∀id a,r j=.st id a→i<j→(S i).length≠(S (i+1)).length→id≠(S i).length:=fun j hj hDj id a hrj hij hne hid=>by
  obtain⟨a',ha⟩:=zAs hr (i:=i) (fun k hk hks hDk=>by
   have hki:i<k:=by
    rcases BX hk with h | h
    ·exact h
    ·subst h;rw[hD]at hDk;cases hDk
   have hsw:=hi k _ hki hDk (bR hks);refine⟨hna k _ (bR hks) hsw.basic.2.2,?_⟩
   cases hc:(r k).isCall with
   | false=>rfl
   | true =>
    exfalso
    obtain⟨_,_,hk⟩:=(hr.ok k _ (bR hks)).calls hc;obtain⟨_,k1,k2,k3,k4,k5,k6,k7⟩:=yg (hsw.near (.inr (.inl (by omega))));have h0:kd i=0∨(kd i=1∧kZ oi=true):=by
     rcases hk with hk | hk
     ·exact .inl (k6 hk.1)
     ·exact k7 hk.1
    rcases h0 with h0 | ⟨_,h0⟩
    ·exact hne ((hr.ok i _ hoi).len0 h0).symm
    ·obtain⟨_,_,_,h1⟩:=(hr.ok i _ hoi).load h0;exact hne h1.symm) ops.size (by omega) (bB _) j id a (by omega) hj hDj hrj
  rw[hid,(und i his hD hne).2]at ha;cases ha
 unfold wpOp;rw[hoi];simp only;have ok:=hr.ok i oi hoi;have okg:=ok;generalize hE1:e (i+1)=e1 at ok;generalize hS1:S (i+1)=S1 at ok;generalize hR1:r i=r1 at ok;generalize hK1:kd i=k1 at ok;cases ok with
 | skip hw _ =>
  rw[hwant _ hw];simp only[bH,if_false];have happ:(r i).app (af S r D ops.size)=af S r D ops.size:=by rw[hR1];simp[Ef.app,zw,yy]
  refine hK _ _ (St.fin (n':=n) hr hoi hD hD' (by rw[hR1];rfl) hi hd hfr hE hdef hsz htr (fun id a h=>by rw[hR1]at h;cases h) hmu (by rw[happ];exact hS) (by rw[happ];exact Tr.refl _ _ _ _) (fun lo B h=>by rw[hR1]at h;cases h) (fun _=>.inl rfl) (fun _ _ h=>h) (fun t ht=>?_));rw[hE1,kj ht];exact .skip
 | one out hw hef h =>
  rw[hwant _ hw];simp only[if_true];refine .inl ?_;obtain⟨f1,f2,f3,f4⟩:=ZK hef h;rw[←hK1]at f2 f3 f4;have hk34:kd i≠4:=by omega
  obtain⟨S',hsees,hev⟩ : ∃S',vG S' (af S r D ops.size) μ ∧ ev1 C.P C.cp oi (e i) S' (S i).length=some out:=by
   by_cases hkt:kd i=1∧yl oi (e i)≠0
   ·obtain⟨hk,ht1⟩:=hkt;obtain⟨id,t,x,ix,off,len,ex,hop,hx,htc⟩ : ∃id t x ix off len ex,oi.op=.indexAddr t x ix∧ev (e i) x=.msl id off len ex∧yl oi (e i)=id+1:=by
     obtain⟨dst,op,type,pos,after,guard⟩:=oi
     cases op <;> simp only[yl,ne_eq,not_true]at ht1
     case indexAddr t x ix =>
      simp only[yl]
      cases hx:ev (e i) x with
      | msl id off len ex=>exact⟨id,t,x,ix,off,len,ex,rfl,hx,rfl⟩
      | _=>simp only[hx]at ht1;exact absurd trivial ht1
     case store t a x=>simp[yN]at hef
    refine⟨List.replicate id .gone++[(S i).getD id .gone],zAx fun a b ha hbb=>?_,?_⟩
    ·have hid:id<(S i).length:=by
      unfold Vs.arrs at ha
      split at ha
      ·rename_i hq;exact (bL.1 hq).1
      ·cases ha
     refine QF hr (i:=i) (fun j oj hj hDj ho=>?_) hid ops.size (by omega) (bB _) (QE hr (by omega) (fun j h1 h2 h3=>(und j h1 h2 h3).1) (fun j oj hj hDj ho=>?_) i (bB _) a b ha hbb)
     ·have hji:i<j:=by
       rcases BX hj with h | h
       ·exact h
       ·subst h;rw[hD]at hDj;cases hDj
      rcases hi j oj hji hDj ho with hsw | ⟨_,_,q2,_,q4,q5⟩
      ·obtain⟨_,k1,k2,k3,k4,k5,k6,k7⟩:=yg hsw;exact .inl ⟨fun h3=>(k4 h3).1 hk,k2,fun h=>by have:=k6 h;omega⟩
      ·exact .inr ⟨q4,q2,by omega⟩
     ·rcases lo j oj hj hDj ho with hsw | ⟨_,q1,_,q3,_,q5⟩
      ·obtain⟨_,k1,k2,k3,k4,k5,k6,k7⟩:=yg hsw;exact .inl ⟨fun h3=>(k3 h3).1 hk,k1,fun h=>by have:=k5 (.inl h);omega,fun h=>by have:=k5 (.inr h);omega⟩
      ·exact .inr ⟨q3,q1,by omega⟩
    ·rw[←h];obtain⟨dst,op,type,pos,after,guard⟩:=oi;simp only at hop;subst hop;simp only[ev1,hx,xb]
     cases ev (e i) ix <;> simp only[Kf]
   by_cases hk:kd i=1
   ·have ht0:yl oi (e i)=0:=by
     by_cases h0:yl oi (e i)=0
     ·exact h0
     ·exact absurd ⟨hk,h0⟩ hkt
    refine⟨S i,fun id a b ha hbb=>?_,h⟩;have hid:id<(S i).length:=by
     unfold Vs.arrs at ha
     split at ha
     ·rename_i hq;exact (bL.1 hq).1
     ·cases ha
    refine QF hr (i:=i) (fun j oj hj hDj ho=>.inl ?_) hid ops.size (by omega) (bB _) (QE hr (by omega) (fun j h1 h2 h3=>(und j h1 h2 h3).1) (fun j oj hj hDj ho=>.inl ?_) i (bB _) a b ha hbb)
    ·have hji:i<j:=by
      rcases BX hj with h | h
      ·exact h
      ·subst h;rw[hD]at hDj;cases hDj
     obtain⟨_,k1,k2,k3,k4,k5,k6,k7⟩:=yg ((hi j oj hji hDj ho).near (.inr (.inr (.inl ht0))));exact⟨fun h3=>(k4 h3).1 hk,k2,fun h=>by have:=k6 h;omega⟩
    ·obtain⟨_,k1,k2,k3,k4,k5,k6,k7⟩:=yg ((lo j oj hj hDj ho).near (.inr (.inr (.inr ht0))));exact⟨fun h3=>(k3 h3).1 hk,k1,fun h=>by have:=k5 (.inl h);omega,fun h=>by have:=k5 (.inr h);omega⟩
   ·refine⟨[],fun id a b ha hbb=>by simp[Vs.arrs]at ha,?_⟩;rw[←h];exact zCd hef (by rw[←hK1];exact hk)
  rw[Qk hcong]at hev;have hlen:(xn (zH (S i) out.fz) out.new).length=(S (i+1)).length:=by rw[hS1]
  by_cases hnew:out.new=none
  ·obtain⟨nid,hnid⟩ : ∃nid,nid=max n base:=⟨_,rfl⟩;have hn0:=hS.lt nid (by omega);have happ:(r i).app (af S r D ops.size)=zw (frz (af S r D ops.size) out.fz) nid out.new:=by rw[hR1,hnew];rfl
   refine ZJ (n':=nid+1) (base:=base) hS hsees hn0.2 hn0.1 (BC _) (by omega) (by omega) hcp hE2 (zCe hev hnew) K Q fun v w' μ' k1 k2 k3 k4=>hK _ _ ?_;refine St.fin (n':=nid+1) hr hoi hD hD' (by rw[hR1];rfl) hi hd hfr hE hdef hsz htr (fun id a h=>by rw[hR1]at h;cases h) hmu (by rw[happ];exact k1) (by rw[happ];exact k2) (fun lo B h=>by rw[hR1]at h;cases h) (fun id=>.inl (k3 id (.inr hnew))) (fun id b h=>by rw[k3 id (.inr hnew)];exact h) (fun t ht=>?_);rw[hE1,kj ht,happ];exact k4
  ·have hle2:=(wE (zH (S i) out.fz) out.new).2.2;have hl1:(S (i+1)).length=(S i).length+1:=by
    cases hq:out.new with
    | none=>exact absurd hq hnew
    | some p=>rw[←hlen,hle2 p hq,zp]
   have hu:=und i his hD (by omega);have happ:(r i).app (af S r D ops.size)=zw (frz (af S r D ops.size) out.fz) (S i).length out.new:=by rw[hR1];rfl
   refine ZJ (n':=max n ((S i).length+1)) (base:=base) hS hsees hu.2 hu.1 (by omega) (by omega) hbi hcp hE2 hev K Q fun v w' μ' k1 k2 k3 k4=>hK _ _ ?_;have hne : ∀id b,μ id=some b→id≠(S i).length:=fun id b h h'=>by rw[h',hu.1]at h;cases h
   refine St.fin (n':=max n ((S i).length+1)) hr hoi hD hD' (by rw[hR1];rfl) hi hd hfr hE hdef hsz htr (fun id a h=>by rw[hR1]at h;cases h) hmu (by rw[happ];exact k1) (by rw[happ];exact k2) (fun lo B h=>by rw[hR1]at h;cases h) (fun id=>?_) (fun id b h=>by rw[k3 id (.inl (hne id b h))];exact h) (fun t ht=>?_)
   ·by_cases hid:id=(S i).length
    ·exact .inr ⟨by omega,by omega⟩
    ·exact .inl (k3 id (.inl hid))
   ·rw[hE1,kj ht,happ];exact k4
 | st t x y hop hw hkn id j off rows g hx hSid c1 c2 c3 c4 =>
  rw[hwant _ hw];simp only[if_true];refine .inl ?_;have opx:x∈oi.op.operands:=by rw[hop];simp[Op.operands]
  have opy:y∈oi.op.operands:=by rw[hop];simp[Op.operands]
  have hvx:VR w (Av X (af S r D ops.size) μ) μ (ev (e i) x) (a.eval x):=by rw[hcong x opx];exact vY hE2 x
  have hvy:VR w (Av X (af S r D ops.size) μ) μ (ev (e i) y) (a.eval y):=by rw[hcong y opy];exact vY hE2 y
  rw[hx]at hvx;have hmub : ∃b,μ id=some b:=by
   generalize a.eval x=vx at hvx;cases hvx with
   | fr h=>cases h
   | mp _ _ _ b hb=>exact⟨b,hb⟩
  obtain⟨b,hmub⟩:=hmub;have htch:yl oi (e i)=id+1:=by simp only[yl,hop,hx]
  have hAid:af S r D ops.size id=some ⟨rows,g,false⟩:=by
   rw[zCi hr (i:=i) (fun k ok hk hDk ho=>?_) (bL.1 hSid).1 ops.size (by omega) (bB _),zCh hr (by omega) (fun j h1 h2 h3=>(und j h1 h2 h3).1) (fun k ok hk hDk ho=>?_) i (bB _) b hmub]
   ·exact uX hSid
   ·rcases lo k ok hk hDk ho with hsw | ⟨_,q1,_,q3,_,q5⟩
    ·obtain⟨_,k1,k2,k3,k4,k5,k6,k7⟩:=yg hsw;exact .inl ⟨(k4 hK1).1,(k4 hK1).2,k1,fun h=>by have:=k5 (.inl h);omega,fun h=>by have:=k5 (.inr h);omega⟩
    ·exact .inr ⟨q3,q1,by rw[htch]at q5;exact q5⟩
   ·have hji:i<k:=by
     rcases BX hk with h | h
     ·exact h
     ·subst h;rw[hD]at hDk;cases hDk
    rcases hi k ok hji hDk ho with hsw | ⟨_,_,q2,_,q4,q5⟩
    ·obtain⟨_,k1,k2,k3,k4,k5,k6,k7⟩:=yg hsw;exact .inl ⟨(k3 hK1).1,(k3 hK1).2,k2,fun h=>by have:=k6 h;omega,fun h=>by have:=k7 h;omega⟩
    ·exact .inr ⟨q4,q2,by rw[htch]at q5;exact Ne.symm q5⟩
  obtain⟨w',k1,k2,k3⟩:=qO hS hkn hvx hvy hAid c1 c2 c3 c4 base;unfold Oper.wp;rw[show (execOp a.eval oi).run C.P w=.ok .skip w' by simp[execOp,hop,k1]];rw[Oper.upon_skip];refine hK _ _ (St.fin (n':=n) hr hoi hD hD' (by rw[hR1];rfl) hi hd hfr hE hdef hsz htr (fun id' a h=>?_) hmu (by rw[hR1];exact k2) (by rw[hR1];exact k3) (fun lo B h=>by rw[hR1]at h;cases h) (fun _=>.inl rfl) (fun _ _ h=>h) (fun t ht=>?_))
  ·rw[hR1]at h;cases h;rw[hAid];simp
  ·rw[hE1,kj ht];exact .skip
 | call c f g first caps v B1 hop hce hf hw hrf hc hl hcl hbl _ lo0 hk =>
  rw[hwant _ hw];simp only[if_true];refine .inl ?_;have hki:kd i=5∨kd i=6:=by omega
  have quiet : ∀j,j<i→D j=false→∃nid,r j=.new [] nid none∧(S (j+1)).length=(S j).length:=by
   intro j hj hDj;have ho:ops[j]? = some ops[j]:=bR (by omega);obtain⟨_,k1,k2,k3,k4,k5,k6,k7⟩:=yg ((lo j _ hj hDj ho).near (.inr (.inl (by omega))));have h0:kd j=0∨(kd j=1∧kZ ops[j]=true):=by
    rcases hki with h | h
    ·exact .inl (k6 h)
    ·exact k7 h
   rcases h0 with h0 | ⟨_,h0⟩
   ·have hl0:=(hr.ok j _ ho).len0 h0
    cases hj:r j with
    | all B=>exact absurd ((hr.ok j _ ho).kindAll (by rw[hj];rfl)) k1
    | st id a=>have:=((hr.ok j _ ho).store hj).1;omega
    | call lo B =>
     obtain⟨_,_,hk⟩:=(hr.ok j _ ho).calls (by rw[hj];rfl);omega
    | new fz nid nw =>
     obtain⟨m1,m2,m3,m4,m5⟩:=(hr.ok j _ ho).new hj;have e1:=m3 (by omega);have e2:=m5 (.inr (.inr h0));subst e1 e2;exact⟨nid,rfl,hl0⟩
   ·obtain⟨nid,e1,_,e2⟩:=(hr.ok j _ ho).load h0;exact⟨nid,e1,e2⟩
  have alo : ∀j,j≤i→af S r D j=arrs (S j):=by
   intro j
   induction j with
   | zero=>intro _;rfl
   | succ j ih =>
    intro hj;have ho:ops[j]? = some ops[j]:=bR (by omega);rw[xV,ih (by omega),(hr.ok j _ ho).arrs];by_cases hDj:D j=true
    ·rw[hZ hDj]
    ·rw[hI hDj];obtain⟨nid,e1,_⟩:=quiet j (by omega) (by simpa using hDj);rw[e1];simp only[Ef.app,yy,zw]
  have hS1l:S1.length=(S (i+1)).length:=by rw[hS1]
  have ahi : ∀j,i+1≤j→j≤ops.size→(∀id,id<(S i).length→af S r D j id=arrs (S i) id)∧(∀id a,(S i).length≤id→af S r D j id=some a→(S (i+1)).length≤id∧a.f=false):=by
   intro j hij
   induction hij with
   | refl =>
    intro _;rw[xV,hD];simp only[bH,if_false];rw[alo i (bB _)];refine⟨fun _ _=>rfl,fun id a hid ha=>?_⟩;have:=wu ha;omega
   | step hij ih =>
    rename_i m;intro hm;obtain⟨q1,q2⟩:=ih (by omega);have ho:ops[m]? = some ops[m]:=bR (by omega);rw[xV];by_cases hDm:D m=true
    ·rw[hZ hDm];obtain⟨_,k1,k2,k3,k4,k5,k6,k7⟩:=yg ((hi m _ hij hDm ho).near (.inl (by omega)));have h2:kd m=2:=k5 hki
     cases hj:r m with
     | all B=>exact absurd ((hr.ok m _ ho).kindAll (by rw[hj];rfl)) k2
     | st id a=>have:=((hr.ok m _ ho).store hj).1;omega
     | call lo B =>
      obtain⟨_,_,hk⟩:=(hr.ok m _ ho).calls (by rw[hj];rfl);omega
     | new fz nid nw =>
      obtain⟨m1,m2,m3,m4,m5⟩:=(hr.ok m _ ho).new hj;have e1:=m3 (by omega);subst e1;simp only[Ef.app,yy];cases nw with
      | none=>exact⟨q1,q2⟩
      | some p =>
       obtain⟨rows,g'⟩:=p;simp only[zw];have hmm:=hr.mono (i:=i+1) (j:=m) hij (by omega);have hmi:=hr.mono (i:=i) (j:=i+1) (by omega) (by omega);refine⟨fun id hid=>?_,fun id a hid ha=>?_⟩
       ·rw[zP _ _ _ (by omega)];exact q1 id hid
       ·by_cases h3:id=nid
        ·subst h3;rw[zM]at ha;cases ha;exact⟨by omega,rfl⟩
        ·rw[zP _ _ _ h3]at ha;exact q2 id a hid ha
    ·rw[hI hDm];exact⟨q1,q2⟩
  obtain⟨h1,hrest⟩:=ahi ops.size his (bB _);have h3 : ∀id a,S1.length≤id→af S r D ops.size id=some a→a.f=false:=fun id a hid ha=>(hrest id a (by omega) ha).2;have nomake : ∀id,(S i).length≤id→id<S1.length→∀j,j<ops.size→D j=true→¬((S j).length≤id∧id<(S (j+1)).length):=by
   intro id h4 h5 j hj hDj hc
   rcases Nat.lt_trichotomy j i with h | rfl | h
   ·have:=hr.mono (i:=j+1) (j:=i) h (by omega);omega
   ·rw[hD]at hDj;cases hDj
   ·have:=hr.mono (i:=i+1) (j:=j) h (by omega);omega
  have h2 : ∀id,(S i).length≤id→id<S1.length→af S r D ops.size id=none ∧ μ id=none:=fun id h4 h5=>by
   obtain⟨f1,f2⟩:=hfr id (bF (hr.mono (sD _) (by omega)) h4) (nomake id h4 h5);exact⟨f2,f1⟩
  have opf:f∈oi.op.operands:=by rw[hop];simp[Op.operands,Call.operands,hce]
  have opa : ∀x∈c.args.toList,x∈oi.op.operands:=fun x hx=>by rw[hop];simp[Op.operands,Call.operands,hce];exact .inr (by simpa using hx)
  have hfv:VR w (Av X (af S r D ops.size) μ) μ (ev (e i) f) (a.eval f):=by rw[hcong f opf];exact vY hE2 f
  rw[hf]at hfv;obtain⟨us,vs,hv,hx,hy,rx,ry⟩:=hfv.fn_inv;obtain⟨fn,cd,e1',e2',e3',e4'⟩:=hcr _ _ _ _ _ hc;have hrun:(execOp a.eval oi).run C.P w=.ok (.enter g ((us++c.args.map a.eval)++vs)) w:=by
   simp[execOp,hop,resolve,hce,hv,Deferred.ofValue,invoke,callFunc,e1',e2',e3']
  have hargs:c.args.toList.map (ev (e i))=c.args.toList.map (ev (trim (oi.looksAt ops) (e i))):=List.map_congr_left fun x hx=>hcong x (opa x hx);have hrel:=jH (R:=VR w (Av X (af S r D ops.size) μ) μ) (x:=first++c.args.toList.map (ev (e i))) (us:=us++c.args.map a.eval) (y:=caps) (vs:=vs) (by simp[hx]) (jH hx rx (by rw[hargs];exact qR hE2 c.args)) ry;unfold Oper.wp;rw[hrun];rw[Oper.upon_enter];refine Calls.mono (e4' w (loX X (af S r D ops.size) μ (S i).length) (uQ (S i).length μ) _ (hS.lo h1 (Wl hcl)) (by simp[hx,hy]) (fun j pv u hp hu=>?_)) ?_
  ·refine (hrel j pv u hp hu).mono (xp.less fun b hb=>zEJ h1 hb) fun x hx b hb=>?_;have hlt:x<(S i).length:=BW (pN.1 hbl x (xi hp hx));simp only[uQ,hZ hlt];exact hb
  ·rintro e' w' ⟨z,μ',rfl,j1,j2,j4⟩
   obtain⟨q1,q2,q3,q4⟩:=hS.hi h1 hl h2 h3 j1 j2 hbi;have happ:(r i).app (af S r D ops.size)=over 0 S1 (af S r D ops.size):=by
    rw[hR1];simp only[Ef.app]
    funext id
    unfold over;by_cases hlt:id<S1.length
    ·by_cases hlo:lo0≤id
     ·rw[hZ ⟨hlo,hlt⟩,hZ ⟨sD _,hlt⟩]
     ·rw[hI fun h=>hlo h.1,hZ ⟨sD _,hlt⟩]
      rcases hk with hk | ⟨_,h5,h6⟩
      ·omega
      ·rw[h1 id (by omega)];have:(S i)[id]? = S1[id]? := by
        rw[←h6,sR (by omega)]
       unfold Vs.arrs;rw[this]
    ·rw[hI fun h=>hlt h.2,hI fun h=>hlt h.2]
   have hmu3 : ∀id,yz S1.length μ' μ id = μ id∨((S i).length≤id∧id<(S (i+1)).length):=fun id=>by
    by_cases hlt:id<S1.length
    ·by_cases hlt2:id<(S i).length
     ·left
      simp only[yz,hZ hlt];rw[j2.mu id hlt2];simp only[uQ,hZ hlt2]
     ·right;omega
    ·left;simp only[yz,hI hlt]
   refine hK _ _ (St.fin (n':=max n S1.length) hr hoi hD hD' (by rw[hR1];rfl) hi hd hfr hE hdef hsz htr (fun id a h=>by rw[hR1]at h;cases h) hmu (by rw[happ];exact q1) (by rw[happ];exact q2) (fun lo' B' hri id h4 h5=>?_) hmu3 (fun id b h=>?_) (fun t ht=>?_))
   ·rcases HX id (S i).length with h6 | h6
    ·exfalso
     obtain⟨j,j1,j2,j3⟩:=zDi hr h4 i (by omega) h6;by_cases hDj:D j=true
     ·exact h5 j (by omega) hDj ⟨j2,j3⟩
     ·obtain⟨_,_,hq⟩:=quiet j j1 (by simpa using hDj);omega
    ·exact h6
   ·rcases hmu3 id with h4 | h4
    ·rw[h4];exact h
    ·rw[(h2 id h4.1 (by omega)).2]at h;cases h
   ·rw[hE1,kj ht,happ];exact q4 _ _ j4
 | all q hw h =>
  have hkd:=hK1;rw[hwant _ hw];simp only[if_true];refine .inl ?_;obtain⟨q1,q2⟩:=all4 hkd;have hA:af S r D ops.size=arrs (S i):=by
   rw[zAr (i:=i) (m:=ops.size) (fun j h1 h2=>q2 j h1 h2) ops.size (by omega) (bB _),zAq hr (by omega) q1 i (bB _)]
  rw[hA]at hS hE' htr;have hfr' : ∀id,(S i).length≤id → μ id=none∧arrs (S i) id=none:=fun id hid=>by
   have h0:(S 0).length≤id:=bF (hr.mono (sD _) (by omega)) hid;rw[←hA];refine hfr id h0 fun k hk hDk hc=>?_;have hki:k<i:=by
    rcases HX k i with h | h
    ·exact h
    ·rw[q2 k h hk]at hDk;cases hDk
   have:=hr.mono (i:=k+1) (j:=i) hki (by omega);omega
  subst hb;refine Xn (hS.relt hfr') hcp hcr rfl hbi (fun t=>hE' t (.inr hkd)) h K Q fun v w' μ' k1 k2 k3 k4 k5=>hK _ _ ?_;have hA':af S r D' ops.size=arrs q.S:=by
   rw[zAr (i:=i+1) (m:=ops.size) (fun j h1 h2=>by rw[hD' j,q2 j (by omega) h2,beq_eq_false_iff_ne.2 (by omega)];rfl) ops.size his (bB _),zAq hr his (fun j hj=>?_) (i+1) (bB _),hS1];rw[hD' j];by_cases hji:j=i
   ·subst hji;simp
   ·rw[q1 j (by omega)];rfl
  refine⟨μ',q.S.length,by rw[hA'];exact k1,fun t=>?_,fun id h0 hno=>?_,by rw[vZ];exact hdef,by rw[ki];exact hsz,by rw[hA'];exact htr.trans k2⟩
  ·rw[hA'];have hgt:gf ops e r D' ops.size t=get (e (i+1)) t:=by
    rw[zAp (i:=i+1) (fun j oj hj hDj ho=>?_) ops.size his (bB _)]
    ·refine zAo hr his (fun j oj hj ho=>.inl ?_) (i+1) (bB _);rw[hD' j];by_cases hji:j=i
     ·subst hji;simp
     ·rw[q1 j (by omega)];rfl
    ·exfalso
     rw[hD' j,q2 j (by omega) (pR.1 ho).1,beq_eq_false_iff_ne.2 (by omega)]at hDj;cases hDj
   rw[hgt,hE1];refine ER.putD (a:=a) (fun t=>?_) (fun t ht=>by rw[hsz];exact hd t ht) k5 t;rw[Xm];exact k4 _ _ (hE' t (.inr hkd))
  ·rw[hA'];refine k1.lt id ?_
   rcases HX id q.S.length with hlt | hge
   ·rw[←hS1]at hlt;obtain⟨j,j1,j2,j3⟩:=zDi hr h0 (i+1) his hlt;refine absurd ⟨j2,j3⟩ (hno j (by omega) ?_);rw[hD' j];by_cases hji:j=i
    ·subst hji;simp
    ·rw[q1 j (by omega)];rfl
   ·exact hge
theorem count_set {l:Array Bool} {i:Nat} (hi:i<l.size) (h:l.getD i true=false):(l.setIfInBounds i true).toList.count false+1=l.toList.count false:=by
 have hli:l.toList[i]'(by simpa using hi)=false:=by simpa [sK,hi] using h
 rw[Array.toList_setIfInBounds,List.count_set (by simpa using hi),hli];have:0<l.toList.count false:=List.count_pos_iff.2 (by rw[←hli];exact BY _)
 show List.count false l.toList-1+0+1=List.count false l.toList
 omega
theorem zAy (hr:Run C ops e S r kd) (hok:qT ops (Sw ops kd e)) (hcp:Zo C.P C.cp) (hcr:Wi C.P C.cr) (hd : ∀(i:Nat) (o:Oper),ops[i]? = some o→∀t,o.dst=some t→t<nt) (hb:C.base=base) (hb0:base≤(S 0).length)
  {Q:Exit→Act→World→Prop} (hQ : ∀D a w,(∀j,j<ops.size→D j=true)→St ops e S r base nt X w0 A0 μ0 D a w→Q .normal a w) :
  ∀(fuel:Nat) (l:Array Bool) (a:Act) (w:World),l.size=ops.size→l.toList.count false=fuel→Wm ops (fun j=>l.getD j false)→St ops e S r base nt X w0 A0 μ0 (fun j=>l.getD j false) a w→wpAny C.P .any ops Q fuel l a w:=by
 intro fuel;have same : ∀(l:Array Bool) (j:Nat),l.size=ops.size→j<ops.size→l.getD j true=l.getD j false:=fun l j h1 h2=>by
  simp[sK,h1,h2]
 have done : ∀(l:Array Bool) (a:Act) (w:World),l.size=ops.size→St ops e S r base nt X w0 A0 μ0 (fun j=>l.getD j false) a w→Region.ready .any ops l=[]→Q .normal a w:=fun l a w hl hSt hre=>by
  refine hQ _ a w (fun j hj=>?_) hSt
  induction j using Nat.strongRecOn with
  | _ j ih =>
   show l.getD j false=true
   cases hq:l.getD j false with
   | true=>rfl
   | false =>
    have hm:j∈Region.ready .any ops l:=mem_ready.2 ⟨by rw[same l j hl hj];exact hq,ops[j],bR hj,fun ed he hbd=>by
     have hlt:=(hok j _ (bR hj)).1 ed he hbd;exact ih ed.on hlt (by omega)⟩
    rw[hre]at hm;cases hm
 induction fuel with
 | zero =>
  intro l a w hl hc hcl hSt;have hre:Region.ready .any ops l=[]:=by
   cases hq:Region.ready .any ops l with
   | nil=>rfl
   | cons j rest =>
    have hm:j∈Region.ready .any ops l:=by rw[hq];simp
    obtain⟨h1,o,h2,_⟩:=mem_ready.1 hm;have hj:=(pR.1 h2).1;have:=count_set (l:=l) (i:=j) (by omega) h1;omega
  exact⟨hre,done l a w hl hSt hre⟩
 | succ fuel ih =>
  intro l a w hl hc hcl hSt;refine⟨fun hre=>done l a w hl hSt hre,fun i hi=>?_⟩;obtain⟨h1,o,h2,h3⟩:=mem_ready.1 hi;have his:=(pR.1 h2).1;have hD' : ∀j,(l.setIfInBounds i true).getD j false=(l.getD j false||j == i):=fun j=>by
   by_cases hji:j=i
   ·subst hji;simp[sK,hl,his]
   ·rw[getD_set_ne false (fun h=>hji h.symm),beq_eq_false_iff_ne.2 hji,HJ]
  refine St.step (D':=fun j=>(l.setIfInBounds i true).getD j false) hr hok hcl hcp hcr h2 (by rw[←same l i hl his];exact h1) h3 hD' (hd i o h2) hb hb0 hSt fun a' w' hSt'=>?_;refine ih (l.setIfInBounds i true) a' w' (by simp[hl]) (by have:=count_set (l:=l) (i:=i) (by omega) h1;omega) (fun j oj hj hoj ed he hbd=>?_) hSt';simp only[hD']at hj ⊢
  rcases Bool.or_eq_true_iff.1 hj with hj | hj
  ·have hx:l.getD ed.on false=true:=hcl j oj hj hoj ed he hbd;rw[hx];rfl
  ·have hji:j=i:=by simpa using hj
   subst hji;rw[h2]at hoj;cases hoj;have hx:l.getD ed.on false=true:=h3 ed he hbd;rw[hx];rfl
theorem YV {ops:Array Oper} : ∀(l:List Oper) {e0 e':Env} {S0 S':zA},yi C ops l e0 S0=some (e',S')→∃(e:Nat→Env) (S:Nat→zA) (r:Nat→Ef),e 0=e0∧S 0=S0∧e l.length=e'∧S l.length=S' ∧
  ∀j o,l[j]? = some o→EfOK C ops o (e j) (S j) (e (j+1)) (S (j+1)) (r j) (kind C.H o (e j))∧(yj C ops l e0 S0)[j]? = some (kind C.H o (e j)+8*yl o (e j))∧xH C ops o (e j) (S j)=some (e (j+1),S (j+1))
 | [],e0,e',S0,S',h=>by
  simp only[yi,Option.some.injEq,Prod.mk.injEq]at h;obtain⟨rfl,rfl⟩:=h;exact⟨fun _=>e0,fun _=>S0,fun _=>.all (arrs S0),rfl,rfl,rfl,rfl,by simp⟩
 | o::l,e0,e',S0,S',h=>by
  simp only[yi]at h;obtain⟨⟨e1,S1⟩,h1,h2⟩:=bind_some h;obtain⟨e,S,r,k1,k2,k3,k4,k5⟩:=YV l h2;obtain⟨ef,hef⟩:=zHe h1;refine⟨fun j=>match j with | 0=>e0 | j+1=>e j,fun j=>match j with | 0=>S0 | j+1=>S j,fun j=>match j with | 0=>ef | j+1=>r j,rfl,rfl,k3,k4,fun j o' ho=>?_⟩;cases j with
  | zero=>simp at ho;subst ho;simp only[k1,k2];exact⟨hef,by simp[yj],h1⟩
  | succ j =>
   simp at ho;refine⟨(k5 j o' ho).1,?_⟩;simp only[yj,h1,BB];exact (k5 j o' ho).2
theorem kk {e:Env} {d:Option Nat} {v:PV} {t:Nat} (h:d≠some t):get (putD e d v) t=get e t:=by
 cases d with
 | none=>rfl
 | some u =>
  simp only[putD,ut];rw[hI (fun h2=>h (by rw[h2]))]
theorem YW {ti:TI} {n:Nat} {S:zA} {x m v:PV} {lo hi:Option PV} (h:vm ti n S x lo hi (some m)=some v):exact v=true:=by
 unfold vm at h
 split at h
 ·cases h
 ·obtain⟨_,_,h⟩:=bind_some h;obtain⟨_,_,h⟩:=bind_some h;obtain⟨_,_,h⟩:=bind_some h
  split at h
  ·cases h;rfl
  ·cases h
 ·obtain⟨_,_,h⟩:=bind_some h;obtain⟨_,_,h⟩:=bind_some h;obtain⟨_,_,h⟩:=bind_some h;obtain⟨_,_,h⟩:=bind_some h
  split at h
  ·cases h;rfl
  ·cases h
 ·cases h
theorem jg {ops:Array Oper} {e:Nat→Env} {S:Nat→zA} (hs : ∀j o,ops[j]? = some o→xH C ops o (e j) (S j)=some (e (j+1),S (j+1))) {t:Nat} : ∀j,qK ops t j=true→exact (get (e j) t)=true
 | 0,h=>by cases h
 | j+1,h=>by
  simp only[qK]at h
  cases hp:ops[j]? with
  | none=>rw[hp]at h;cases h
  | some p =>
   rw[hp]at h;simp only at h;have hst:=hs j p hp;unfold xH at hst;obtain⟨w,h1,h2⟩:=bind_some hst;by_cases hd:p.dst=some t
   ·rw[hZ hd]at h;simp only[bS]at h;obtain⟨hg,hop⟩:=h;have hw:w=true:=by
     unfold xP at h1
     cases hgd:p.guard with
     | none=>rw[hgd]at h1;simpa using h1.symm
     | some _=>rw[hgd]at hg;cases hg
    subst hw;simp only[if_true]at h2
    cases ho:p.op <;> rw[ho]at hop <;> simp only[bH]at hop
    case buildSlice ty len parts =>
     rw[hI (by simp[yN,ho])]at h2;obtain⟨r,h3,h4⟩:=map_some h2;simp only[Prod.mk.injEq]at h4;rw[h4.1,hd];simp only[putD,ut,if_true];simp only[ev1,ho]at h3
     split at h3
     ·split at h3
      ·cases h3;rfl
      ·cases h3
     ·cases h3
    case slice ty x lo hi mx =>
     rw[hI (by simp[yN,ho])]at h2;obtain⟨r,h3,h4⟩:=map_some h2;simp only[Prod.mk.injEq]at h4;rw[h4.1,hd];simp only[putD,ut,if_true];simp only[ev1,ho]at h3
     split at h3
     ·cases h3
     ·obtain⟨v,h5,rfl⟩:=map_some h3;cases mx with
      | none=>cases hop
      | some m=>exact YW (by simpa using h5)
   ·rw[hI hd]at h;simp only[bS]at h;have ih:=jg hs j h.2;have key:get (e (j+1)) t=get (e j) t:=by
     cases w with
     | false =>
      simp only[bH,if_false,Option.some.injEq,Prod.mk.injEq]at h2;rw[←h2.1,kk hd]
     | true =>
      simp only[if_true]at h2;by_cases he:yN C.H p (e j)=true
      ·rw[hZ he]at h2;obtain⟨r,h3,h4⟩:=map_some h2;simp only[Prod.mk.injEq]at h4;have hk:r.kill=[]:=by
        cases ho:p.op <;> simp only[yN,ho,bH]at he
        case store ty a v =>
         simp only[ev2,ho]at h3
         split at h3
         ·obtain⟨_,_,rfl⟩:=map_some h3;rfl
         ·cases h3
        case call c =>
         have ht:=h.1;simp only[zFf,ho]at ht
         cases hc:c.callee with
         | invoke _ _=>rw[hc]at ht;cases ht
         | value _=>rw[hc]at ht;cases ht
         | builtin b=>rw[hc]at ht he;cases b <;> simp only[bH]at ht he
       rw[h4.1,hk,kk hd];rfl
      ·rw[hI he]at h2;obtain⟨r,h3,h4⟩:=map_some h2;simp only[Prod.mk.injEq]at h4;rw[h4.1,kk hd]
    rw[key];exact ih
theorem Kg {H:Hints} {ops:Array Oper} {j:Nat} {o:Oper} (ho:ops[j]? = some o) (e:Env) (hf : ∀t,qK ops t j=true→exact (get e t)=true):uT H ops j=4∨uT H ops j=kind H o e:=by
 unfold uT;rw[ho];simp only
 cases hop:o.op
 case call c =>
  simp only
  cases hc:c.callee with
  | invoke x m=>right;simp[kind,yN,hop,hc]
  | value f =>
   cases f with
   | func g=>right;simp[kind,yN,hop,hc,ev]
   | tmp t=>left;simp[kind,yN,hop,hc,ev,Vs.get]
   | const t =>
    simp only[kind,yN,hop,hc,ev,if_true]
    right;trivial
   | global t=>left;simp[kind,yN,hop,hc,ev]
  | builtin b =>
   cases b <;> simp only <;> try (right;simp[kind,yN,hop,hc];done)
   cases ha:c.args[0]? with
   | none=>left;rfl
   | some x =>
    cases x with
    | tmp t =>
     simp only
     split
     ·rename_i hfr
      right
      have:=hf t hfr;simp[kind,yN,hop,hc,ha,ev,this]
     ·left;rfl
    | _=>simp only[true_or] <;> (right;simp[kind,yN,hop,hc,ha,ev])
 all_goals (right;simp[kind,yN,hop])
theorem Zv (H:Hints) (o:Oper) (e:Env):kind H o e<8:=by
 unfold kind
 repeat' split
 all_goals omega
theorem Wn (hm:C.P.follows .mixedOrders=true) (hcp:Zo C.P C.cp) (hcr:Wi C.P C.cr) (hb:C.base=base) {id:Nat} {draw:Bool} (hd : ∀o∈ops,∀t,o.dst=some t→t<nt) {e0 e':Env} {S0 S':zA} {a:Act} {w:World}
  (hN:Now base nt X w0 A0 μ0 e0 S0 a w) (h:yd C ops draw e0 S0=some (e',S')) {Q:Exit→Act→World→Prop} (hQ : ∀a' w',Now base nt X w0 A0 μ0 e' S' a' w'→Q .normal a' w'):(Code.region id ops draw).wp C.P Q a w:=by
 cases draw with
 | false =>
  simp only[yd,bH,if_false]at h;exact wp_region_list (qS hcp hcr hb ops.toList (fun o ho=>hd o (by simpa using ho)) hN h hQ)
 | true =>
  simp only[yd,if_true]at h
  split at h
  case isFalse=>cases h
  rename_i hok;obtain⟨e,S,r,k1,k2,k3,k4,k5⟩:=YV ops.toList h;have hr0 : ∀j o,ops[j]? = some o→EfOK C ops o (e j) (S j) (e (j+1)) (S (j+1)) (r j) (kind C.H o (e j))∧(yj C ops ops.toList e0 S0)[j]? = some (kind C.H o (e j)+8*yl o (e j)):=fun j o ho=>⟨(k5 j o (by rw[pE];exact ho)).1,(k5 j o (by rw[pE];exact ho)).2.1⟩;obtain⟨kd,hkd⟩ : ∃kd:Nat→Nat,∀j,kd j=(yj C ops ops.toList e0 S0).getD j 0 % 8:=⟨_,fun _=>rfl⟩;have hcd : ∀j o,ops[j]? = some o→(yj C ops ops.toList e0 S0).getD j 0=kind C.H o (e j)+8*yl o (e j):=fun j o ho=>by rw[bE,(hr0 j o ho).2];rfl
  have hkd' : ∀j o,ops[j]? = some o→kd j=kind C.H o (e j):=fun j o ho=>by rw[hkd,hcd j o ho];have:=Zv C.H o (e j);omega
  have hr:Run C ops e S r kd:=⟨fun j o ho=>by rw[hkd' j o ho];exact (hr0 j o ho).1⟩
  replace hok:qT ops (Sw ops kd e):=by
   rcases Bool.or_eq_true_iff.1 hok with hok | hok
   ·refine (Z4 hok).mono fun i j p o hp ho hs=>?_;have ks : ∀j o,ops[j]? = some o→uT C.H ops j=4∨uT C.H ops j=kd j:=fun j o ho=>by
     rw[hkd' j o ho];exact Kg ho (e j) fun t=>jg (C:=C) (e:=e) (S:=S) (fun j o ho=>(k5 j o (by rw[pE];exact ho)).2.2) j
    have lt : ∀j o,ops[j]? = some o→uT C.H ops j<8:=fun j o ho=>by
     have:=Zv C.H o (e j)
     rcases ks j o ho with h | h
     ·omega
     ·rw[h,hkd' j o ho];exact this
    have l1:=lt i p hp;have l2:=lt j o ho;rw[sE l1,sE l2,aI l1]at hs
    rcases hs with hs | ⟨_,hs⟩
    ·obtain⟨_,n1,n2,_⟩:=yg hs;rw[(ks i p hp).resolve_left n1,(ks j o ho).resolve_left n2]at hs;exact .inl hs
    ·simp[zCb]at hs
   ·refine (Z4 hok).mono fun i j p o hp ho hs=>?_;have c1:=hcd i p hp;have c2:=hcd j o ho;have l1:=Zv C.H p (e i);have l2:=Zv C.H o (e j);simp only[c1,c2]at hs;have m1:(kind C.H p (e i)+8*yl p (e i)) % 8=kd i:=by rw[hkd' i p hp];omega
    have m2:(kind C.H o (e j)+8*yl o (e j)) % 8=kd j:=by rw[hkd' j o ho];omega
    have d1:(kind C.H p (e i)+8*yl p (e i)) / 8=yl p (e i):=by omega
    have d2:(kind C.H o (e j)+8*yl o (e j)) / 8=yl o (e j):=by omega
    rw[m1,m2,d1,d2]at hs
    rcases hs with hs | ⟨ha,hs⟩
    ·exact .inl hs
    ·simp only[zCb,bS,BO,beq_iff_eq,PL,beq_eq_false_iff_ne]at hs;exact .inr ⟨ha,hs.1.1.1.1,hs.1.1.1.2,hs.1.1.2,hs.1.2,hs.2⟩
  have hlen:ops.toList.length=ops.size:=sI;rw[hlen]at k3 k4;obtain⟨μ,hS,hE,hbase,hdef,hsz,htr⟩:=hN;refine wp_region_any hm (zAy (nt:=nt) (X:=X) (w0:=w0) (A0:=A0) (μ0 := μ0) (base:=base) hr hok hcp hcr (fun i o ho=>hd o (Array.mem_of_getElem? ho)) hb (by rw[k2];exact hbase) (fun D a w hall hSt=>?_) ops.size _ a _ (by simp) (by simp) (fun j o hj=>?_) ?_)
  ·obtain⟨μ,n,s1,s2,s3,s4,s5,s6⟩:=hSt;have hA:af S r D ops.size=arrs (S ops.size):=zAq hr (bB _) (fun j hj=>hall j hj) ops.size (bB _);refine hQ a w ⟨μ,?_,fun t=>?_,?_,s4,s5,?_⟩
   ·rw[←k4,←hA];refine s1.relt fun id hid=>s3 id (bF (hr.mono (sD _) (bB _)) hid) fun j hj _ hc=>?_;have:=hr.mono (i:=j+1) (j:=ops.size) hj (bB _);omega
   ·rw[←k4,←hA,←k3,←zCg hr hall t];exact s2 t
   ·rw[←k4];exact bF (by rw[←k2]at hbase;exact hbase) (hr.mono (sD _) (bB _))
   ·rw[←k4,←hA];exact s6
  ·simp[sK,Array.getElem?_replicate]at hj
   split at hj <;> simp at hj
  ·have hnone : ∀j,(Array.replicate ops.size false).getD j false=false:=fun j=>by
    simp only[sK,Array.getElem?_replicate]
    split <;> rfl
   obtain⟨t1,t2⟩:=hS.same (w' := {w with drawn:=w.drawn+1}) rfl rfl rfl rfl base;have hA:af S r (fun j=>(Array.replicate ops.size false).getD j false) ops.size=arrs S0:=by
    rw[zAr (i:=0) (m:=ops.size) (fun j _ _=>hnone j) ops.size (sD _) (bB _)]
    show arrs (S 0)=_
    rw[k2]
   have hg : ∀t,gf ops e r (fun j=>(Array.replicate ops.size false).getD j false) ops.size t=get e0 t:=fun t=>by
    rw[zAp (i:=0) (fun j oj _ hj _=>by rw[hnone j]at hj;cases hj) ops.size (sD _) (bB _)]
    show get (e 0) t=_
    rw[k1]
   refine⟨μ,S0.length,by rw[hA];exact t1,fun t=>by rw[hA,hg];exact (hE t).mono t2.keeps fun _ _ _ h=>h,fun id h0 _=>?_,hdef,hsz,by rw[hA];exact htr.trans t2⟩;rw[hA];rw[k2]at h0;exact hS.lt id h0
end
end Go.Vs
end
section
namespace Go.Vs
open Go
section
variable {P:Program} {w:World} {X:Nat→Prop} {A:yT} {n:Nat} {μ : Mu} {av:Nat→Prop} {S:zA} {base nt:Nat} {w0:World} {A0:yT} {μ0:Mu} {e:Env} {a:Act}
theorem Now.keepOnly (h:Now base nt X w0 A0 μ0 e S a w) (live:List Nat):Now base nt X w0 A0 μ0 (Vs.keepOnly live e) S a w:=by
 obtain⟨μ,h1,h2,h3⟩:=h;exact⟨μ,h1,h2.keepOnly live,h3⟩
theorem Now.trim (h:Now base nt X w0 A0 μ0 e S a w) (keep:List Nat):Now base nt X w0 A0 μ0 (Vs.trim keep e) S a w:=by
 obtain⟨μ,h1,h2,h3⟩:=h;exact⟨μ,h1,h2.trim keep,h3⟩
theorem ER.set {tmps:Array Value} (h:ER w av μ e tmps) {t:Nat} {pv:PV} (hv:VR w av μ pv (tmps.getD t Go.undef)):ER w av μ (Vs.put e t pv) tmps:=fun u=>by
 rw[ut]
 split
 ·rename_i h;subst h;exact hv
 ·exact h u
theorem SR.other {rows rows':List (List PV)} {g:Option (Option Nat)} {f:Bool} {id:Nat} (hS:SR w X A n μ) (hA:A id=some ⟨rows,g,f⟩) (hl:rows'.length=rows.length)
  (hr : ∀(i:Nat) (row':List PV),rows'[i]? = some row'→∃row:List PV,rows[i]? = some row∧row'.length=row.length∧∀(j:Nat) (pv':PV),row'[j]? = some pv'→∃pv,row[j]? = some pv∧∀v,VR w (Av X A μ) μ pv v→VR w (Av X A μ) μ pv' v) (base:Nat) :
  SR w X (upd A id ⟨rows',g,f⟩) n μ ∧ Tr base w A μ w (upd A id ⟨rows',g,f⟩) μ := by
 have hm : ∀b,Mut (upd A id ⟨rows',g,f⟩) μ b→Mut A μ b:=by
  rintro b ⟨i,rs,g',k,h1,h2,h3⟩
  by_cases hi:i=id
  ·subst hi;rw[zM]at h1;simp only[Option.some.injEq,Arr.mk.injEq]at h1;obtain⟨_,_,rfl⟩:=h1;exact⟨i,rows,g,k,hA,h2,h3⟩
  ·rw[zP _ _ _ hi]at h1;exact⟨i,rs,g',k,h1,h2,h3⟩
 have htr:Tr base w A μ w (upd A id ⟨rows',g,f⟩) μ := ⟨rfl,rfl,rfl,bB _,fun _ _ _=>rfl,fun b _ h=>hm b h,fun _ _=>rfl⟩;have hn : ∀i a,upd A id ⟨rows',g,f⟩ i=some a→∃a',A i=some a'∧a'.g=a.g∧(i≠id→a'=a):=fun i a h=>by
  by_cases hi:i=id
  ·subst hi;rw[zM]at h;simp only[Option.some.injEq]at h;subst h;exact⟨_,hA,rfl,fun h=>absurd rfl h⟩
  ·rw[zP _ _ _ hi]at h;exact⟨a,h,rfl,fun _=>rfl⟩
 refine⟨⟨fun i hi=>⟨(hS.lt i hi).1,?_⟩,fun i a ha b hb=>?_,fun i a ha hb=>?_,fun i a ha=>?_,fun i i' a a' b b' h1 h2 h3 h4 h5=>?_,fun i a b h1 h2=>?_,hS.xlt⟩,htr⟩
 ·rw[zP _ _ _ (by rintro rfl;rw[(hS.lt i hi).2]at hA;cases hA)];exact (hS.lt i hi).2
 ·by_cases hi:i=id
  ·subst hi;rw[zM]at ha;simp only[Option.some.injEq]at ha;subst ha;obtain⟨c,el,k0,k1,k2,k3,k4⟩:=hS.blk i _ hA b hb;refine⟨c,el,k0,k1,by rw[hl];exact k2,fun r hrr=>?_,fun x row' j pv' hx hj=>?_⟩
   ·obtain⟨x,hx⟩:=aX hrr;obtain⟨row,q1,q2,_⟩:=hr x r hx;rw[q2];exact k3 _ (bK q1)
   ·obtain⟨row,q1,q2,q3⟩:=hr x row' hx;obtain⟨pv,q4,q5⟩:=q3 j pv' hj;obtain⟨v,hv1,hv2,hv3⟩:=k4 x row j pv q1 q4;exact⟨v,hv1,hv2,(q5 v hv3).mono htr.keeps fun _ _ _ h=>h⟩
  ·rw[zP _ _ _ hi]at ha;obtain⟨c,el,k0,k1,k2,k3,k4⟩:=hS.blk i a ha b hb;refine⟨c,el,k0,k1,k2,k3,fun x row j pv hx hj=>?_⟩;obtain⟨v,hv1,hv2,hv3⟩:=k4 x row j pv hx hj;exact⟨v,hv1,hv2,hv3.mono htr.keeps fun _ _ _ h=>h⟩
 ·by_cases hi:i=id
  ·subst hi;rw[zM]at ha;simp only[Option.some.injEq]at ha;subst ha;have:=hS.nob i _ hA hb;simp only at this;subst this;exact bT (by simpa using hl)
  ·rw[zP _ _ _ hi]at ha;exact hS.nob i a ha hb
 ·obtain⟨a',q1,q2,_⟩:=hn i a ha;rw[←q2];exact hS.gsz i a' q1
 ·obtain⟨c,q1,_,_⟩:=hn i a h1;obtain⟨c',q2,_,_⟩:=hn i' a' h2;exact hS.inj i i' c c' b b' q1 q2 h3 h4 h5
 ·obtain⟨c,q1,_,_⟩:=hn i a h1;exact hS.out i c b q1 h2
theorem qV {rows:List (List PV)} {i j:Nat} {u u':PV} (hu:(rows.getD i [])[j]? = some u):(rows.set i ((rows.getD i []).set j u')).length=rows.length ∧
  ∀(k:Nat) (row':List PV),(rows.set i ((rows.getD i []).set j u'))[k]? = some row'→∃row:List PV,rows[k]? = some row∧row'.length=row.length∧∀(m:Nat) (pv':PV),row'[m]? = some pv'→∃pv,row[m]? = some pv∧(pv'=pv∨(pv=u∧pv'=u')):=by
 refine⟨by simp,fun k row' hk=>?_⟩;by_cases hki:i=k
 ·subst hki;rw[HP]at hk;simp only[if_true]at hk
  split at hk
  case isFalse=>cases hk
  rename_i hlt;cases hk;have e:rows[i]? = some (rows.getD i []):=by simp[bE,hlt]
  refine⟨_,e,by simp,fun m pv' hm=>?_⟩;rw[HP]at hm
  split at hm
  ·rename_i hjm;subst hjm
   split at hm
   ·cases hm;exact⟨u,hu,.inr ⟨rfl,rfl⟩⟩
   ·cases hm
  ·exact⟨pv',hm,.inl rfl⟩
 ·rw[BQ hki]at hk;exact⟨row',hk,rfl,fun m pv' hm=>⟨pv',hm,.inl rfl⟩⟩
theorem QI {S:zA} {id:Nat} {rows:List (List PV)} {g:Option (Option Nat)} {f:Bool} (h:S[id]? = some (.arr rows g f)):arrs S id=some ⟨rows,g,f⟩:=by simp only[arrs,h]
theorem Now.ownCell (h:Now base nt X w0 A0 μ0 e S a w) (id i j:Nat):Now base nt X w0 A0 μ0 e (Vs.ownCell S id i j) a w:=by
 unfold Vs.ownCell
 split
 case h_2=>exact h
 rename_i rows g f hid;have hidl:id<S.length:=(bL.1 hid).1
 split
 case h_3=>exact h
 ·rename_i hu;obtain⟨μ,h1,h2,h3,h4,h5,h6⟩:=h;have hlt:=h1.lt S.length (bB _);obtain⟨k1,k2⟩:=h1.newNil hlt.2 hlt.1 (BC _) (Nat.le_succ _) (some none) base;have eid:upd (arrs S) S.length ⟨[],some none,false⟩ id=some ⟨rows,g,f⟩:=by rw[zP _ _ _ (by omega)];exact QI hid
  obtain⟨q1,q2⟩:=qV (u':=.msl S.length 0 0 false) hu;obtain⟨k3,k4⟩:=k1.other eid q1 (fun k row' hk=>by
   obtain⟨row,p1,p2,p3⟩:=q2 k row' hk;refine⟨row,p1,p2,fun m pv' hm=>?_⟩;obtain⟨pv,r1,r2⟩:=p3 m pv' hm;refine⟨pv,r1,fun v hv=>?_⟩
   rcases r2 with rfl | ⟨rfl,rfl⟩
   ·exact hv
   ·cases hv with | fr hv =>
    cases hv with | sl _ _ ad cap _ _ _ hcap hex =>
    have:cap=0:=by simpa using hex rfl
    subst this;exact .mslNil _ _ _) base
  have hlen:(S.set id (.arr (rows.set i ((rows.getD i []).set j (.msl S.length 0 0 false))) g f)++[Obj.arr [] (some none) false]).length=S.length+1:=by simp
  have e1:arrs (S.set id (.arr (rows.set i ((rows.getD i []).set j (.msl S.length 0 0 false))) g f)++[.arr [] (some none) false])=upd (upd (arrs S) S.length ⟨[],some none,false⟩) id ⟨rows.set i ((rows.getD i []).set j (.msl S.length 0 0 false)),g,f⟩:=by
   funext x
   by_cases hx:x=id
   ·subst hx;rw[zM];simp only[arrs];rw[pP (by simpa using hidl)];simp[hidl]
   ·rw[zP _ _ _ hx];by_cases hx2:x=S.length
    ·subst hx2;rw[zM];simp only[arrs];rw[pG (by simp)];simp
    ·rw[zP _ _ _ hx2];simp only[arrs];by_cases hx3:x<S.length
     ·rw[pP (by simpa using hx3),BQ (fun h=>hx h.symm)]
     ·rw[bY (by simp;omega),bY (by omega)]
  refine⟨μ,by rw[hlen,e1];exact k3,?_,by rw[hlen];omega,h4,h5,by rw[e1];exact h6.trans (k2.trans k4)⟩;rw[e1];exact h2.mono (k2.trans k4).keeps fun _ _ h=>h
 ·rename_i a' o l hu;obtain⟨μ,h1,h2,h3,h4,h5,h6⟩:=h;obtain⟨q1,q2⟩:=qV (u':=.msl a' o l false) hu;obtain⟨k3,k4⟩:=h1.other (QI hid) q1 (fun k row' hk=>by
   obtain⟨row,p1,p2,p3⟩:=q2 k row' hk;refine⟨row,p1,p2,fun m pv' hm=>?_⟩;obtain⟨pv,r1,r2⟩:=p3 m pv' hm;refine⟨pv,r1,fun v hv=>?_⟩
   rcases r2 with rfl | ⟨rfl,rfl⟩
   ·exact hv
   ·cases hv with
    | fr hv=>cases hv
    | mslNil=>exact .mslNil _ _ _
    | msl _ _ _ _ ad cap b hb hlen htot hex had=>exact .msl _ _ _ false ad cap b hb hlen htot (by simp) had) base
  have e1:arrs (S.set id (.arr (rows.set i ((rows.getD i []).set j (.msl a' o l false))) g f))=upd (arrs S) id ⟨rows.set i ((rows.getD i []).set j (.msl a' o l false)),g,f⟩:=by
   funext x
   by_cases hx:x=id
   ·subst hx;rw[zM];simp[arrs,hidl]
   ·rw[zP _ _ _ hx];simp only[arrs];rw[BQ (fun h=>hx h.symm)]
  refine⟨μ,by rw[aZ,e1];exact k3,?_,by rw[aZ];exact h3,h4,h5,by rw[e1];exact h6.trans k4⟩;rw[e1];exact h2.mono k4.keeps fun _ _ h=>h
theorem Now.ownMem (h:Now base nt X w0 A0 μ0 e S a w) (x:PV) (j:Nat):Now base nt X w0 A0 μ0 e (Vs.ownMem S x j) a w:=by
 unfold Vs.ownMem
 split
 ·exact h.ownCell _ _ _
 ·rename_i id off len ex;generalize List.range len=l
  induction l generalizing S with
  | nil=>exact h
  | cons k l ih=>exact ih (h.ownCell id (off+k) j)
 ·exact h
theorem Now.own1 (h:Now base nt X w0 A0 μ0 e S a w) (t:Nat):Now base nt X w0 A0 μ0 (Vs.own1 e S t).1 (Vs.own1 e S t).2 a w:=by
 unfold Vs.own1
 split
 case isFalse=>exact h.ownMem _ _
 split
 ·rename_i hg;obtain⟨μ,h1,h2,h3,h4,h5,h6⟩:=h;have hlt:=h1.lt S.length (bB _);obtain⟨k1,k2⟩:=h1.newNil hlt.2 hlt.1 (BC _) (Nat.le_succ _) (some none) base;have e1:arrs (S++[.arr [] (some none) false])=upd (arrs S) S.length ⟨[],some none,false⟩:=uB S (some ([],some none));refine⟨μ,by rw[e1];simpa using k1,?_,by simp;omega,h4,h5,by rw[e1];exact h6.trans k2⟩;rw[e1];refine ER.set (h2.mono k2.keeps fun _ _ h=>h) ?_;have hv:=h2 t;rw[hg]at hv;generalize a.tmps.getD t Go.undef=v at hv
  cases hv with | fr hv =>
  cases hv with | sl _ _ ad cap _ _ _ hcap hex =>
  have:cap=0:=by simpa using hex rfl
  subst this;exact .mslNil _ _ _
 ·rename_i id off len hg;obtain⟨μ,h1,h2,h3,h4,h5,h6⟩:=h;refine⟨μ,h1,ER.set h2 ?_,h3,h4,h5,h6⟩;have hv:=h2 t;rw[hg]at hv;generalize a.tmps.getD t Go.undef=v at hv;cases hv with
  | fr hv=>cases hv
  | mslNil=>exact .mslNil _ _ _
  | msl _ _ _ _ ad cap b hb hlen htot hex had=>exact .msl _ _ _ false ad cap b hb hlen htot (by simp) had
 ·exact h
theorem Now.ownAll (ts:List Nat) : ∀ {e:Env} {S:zA},Now base nt X w0 A0 μ0 e S a w→Now base nt X w0 A0 μ0 (Vs.ownAll ts e S).1 (Vs.ownAll ts e S).2 a w:=by
 induction ts with
 | nil=>intro e S h;exact h
 | cons t ts ih=>intro e S h;exact ih (h.own1 t)
theorem Now.fzSlot (h:Now base nt X w0 A0 μ0 e S a w) {t:Nat} {e':Env} {S':zA} (hf:Vs.fzSlot e S t=some (e',S')):Now base nt X w0 A0 μ0 e' S' a w:=by
 unfold Vs.fzSlot at hf;obtain⟨v,h1,h2⟩:=map_some hf;simp only[Prod.mk.injEq]at h2;obtain⟨rfl,rfl⟩:=h2;obtain⟨μ,k1,k2,k3,k4,k5,k6⟩:=h;obtain⟨j1,j2⟩:=k1.frz (yq S 8 (get e t).refs) base;have hl:=zp S (yq S 8 (get e t).refs);refine⟨μ,by rw[hl,yp];exact j1,?_,by rw[hl];exact k3,k4,k5,by rw[yp];exact k6.trans j2⟩;rw[yp];refine ER.set (k2.mono j2.keeps fun _ _ h=>h) ?_;have:=jr k1 (vG.refl S μ) h1 (k2 t) (fun _ h=>h);exact this.mono (xp.refl _ _) fun i _ b hb=>by cases hb
theorem Now.fzSlots (ts:List Nat) : ∀ {e:Env} {S:zA} {r:Env × zA},Now base nt X w0 A0 μ0 e S a w→Vs.fzSlots ts e S=some r→Now base nt X w0 A0 μ0 r.1 r.2 a w:=by
 induction ts with
 | nil=>intro e S r h hf;simp only[Vs.fzSlots,Option.some.injEq]at hf;subst hf;exact h
 | cons t ts ih =>
  intro e S r h hf;simp only[Vs.fzSlots]at hf;obtain⟨⟨e1,S1⟩,h1,h2⟩:=bind_some hf;exact ih (h.fzSlot h1) h2
theorem zCm {e:Env} {t:Nat} : get e t=.undef∨∃p∈e,p.2=get e t:=by
 induction e with
 | nil=>exact .inl rfl
 | cons p e ih =>
  obtain⟨k,v⟩:=p;simp only[Vs.get]
  split
  ·exact .inr ⟨(k,v),by simp,rfl⟩
  ·rcases ih with h | ⟨q,h1,h2⟩
   ·exact .inl h
   ·exact .inr ⟨q,by simp[h1],h2⟩
theorem Now.gc (h:Now base nt X w0 A0 μ0 e S a w) {m:Nat} (hm:base≤m):Now base nt X w0 A0 μ0 e (Vs.gc m e S) a w:=by
 unfold Vs.gc
 split
 case isFalse=>exact h
 rename_i hc;obtain⟨hc1,hc2⟩:=hc;rw[pN]at hc1 hc2;obtain⟨μ,h1,h2,h3,h4,h5,h6⟩:=h;have hA : ∀id,arrs (S.take m) id=if id<m then arrs S id else none:=fun id=>by
  unfold arrs;by_cases hid:id<m
  ·rw[hZ hid,sR hid]
  ·rw[hI hid,aO,hI hid]
 have hAs : ∀id a,arrs (S.take m) id=some a→id<m∧arrs S id=some a:=fun id a ha=>by
  rw[hA]at ha
  split at ha
  ·rename_i h;exact⟨h,ha⟩
  ·cases ha
 let μ':Mu:=fun id=>if id<m then μ id else none
 have hμs : ∀id b,μ' id=some b→id<m ∧ μ id=some b:=fun id b hb=>by
  simp only[μ']at hb
  split at hb
  ·rename_i h;exact⟨h,hb⟩
  ·cases hb
 have hμ : ∀id,id<m → μ' id = μ id:=fun id h=>by simp only[μ',hZ h]
 have hmut : ∀b,Mut (arrs (S.take m)) μ' b→Mut (arrs S) μ b:=by
  rintro b ⟨id,rows,g,k,k1,k2,k3⟩
  exact⟨id,rows,g,k,(hAs _ _ k1).2,(hμs _ _ k2).2,k3⟩
 have htr:Tr base w (arrs S) μ w (arrs (S.take m)) μ':=⟨rfl,rfl,rfl,bB _,fun _ _ _=>rfl,fun b _ h=>hmut b h,fun id hid=>hμ id (by omega)⟩;refine⟨μ',⟨fun id hid=>?_,fun id a ha b hb=>?_,fun id a ha hb=>?_,fun id a ha=>?_,fun id id' a a' b b' q1 q2 q3 q4 q5=>?_,fun id a b q1 q2=>?_,h1.xlt⟩,fun t=>?_,by rw[pJ];omega,h4,h5,h6.trans htr⟩
 ·rw[pJ]at hid;rw[hA];simp only[μ'];by_cases hid2:id<m
  ·rw[hZ hid2,hZ hid2];exact h1.lt id (by omega)
  ·rw[hI hid2,hI hid2];exact⟨rfl,rfl⟩
 ·obtain⟨hid,ha'⟩:=hAs id a ha;obtain⟨c,el,k0,k1,k2,k3,k4⟩:=h1.blk id a ha' b (hμs _ _ hb).2;refine⟨c,el,k0,k1,k2,k3,fun i row j pv hi hj=>?_⟩;obtain⟨v,hv1,hv2,hv3⟩:=k4 i row j pv hi hj;refine⟨v,hv1,hv2,hv3.mono htr.keeps fun k hk b hb=>?_⟩;rw[hμ k]
  ·exact hb
  ·have hob : ∃o,S[id]? = some o∧(match o with | .arr rows _ _=>(zd rows).all fun i=>decide (i<m) | .gone=>true)=true∧∃g f,o=.arr a.rows g f:=by
    unfold arrs at ha'
    cases hq:S[id]? with
    | none=>rw[hq]at ha';cases ha'
    | some o =>
     rw[hq]at ha';refine⟨o,rfl,hc2 o ?_,?_⟩
     ·refine bK (i:=id) ?_;rw[sR hid];exact hq
     ·cases o with
      | gone=>cases ha'
      | arr rows g f=>simp at ha';subst ha';exact⟨g,f,rfl⟩
   obtain⟨o,_,ho,g,f,rfl⟩:=hob;simp only[pN,sL]at ho;exact ho k (vn hi hj hk)
 ·obtain⟨hid,ha'⟩:=hAs id a ha;exact h1.nob id a ha' (by rw[←hμ id hid];exact hb)
 ·obtain⟨hid,ha'⟩:=hAs id a ha;rw[hμ id hid];exact h1.gsz id a ha'
 ·exact h1.inj id id' a a' b b' (hAs _ _ q1).2 (hAs _ _ q2).2 (hμs _ _ q3).2 (hμs _ _ q4).2 q5
 ·exact h1.out id a b (hAs _ _ q1).2 (hμs _ _ q2).2
 ·refine (h2 t).mono htr.keeps fun k hk b hb=>?_;rw[hμ k]
  ·exact hb
  ·rcases zCm (e:=e) (t:=t) with h | ⟨p,p1,p2⟩
   ·rw[h]at hk;cases hk
   ·have:=hc1 p p1;simp only[pN,sL]at this;exact this k (by rw[p2];exact hk)
def jt:Vs.X→Exit
 | .normal=>.normal
 | .exit id=>.exit id
 | .ret=>.ret
theorem X2 {id:Nat} {ops:Array Oper} {draw:Bool} (h:xt nt (.region id ops draw)=true) : ∀o∈ops,∀t,o.dst=some t→t<nt:=by
 intro o ho t ht;simp only[xt]at h;have:=(Array.all_eq_true_iff_forall_mem.1 h) o ho;rw[ht]at this
 simpa using this
theorem Kh {C:Ctx} (hm:C.P.follows .mixedOrders=true) (hcp:Zo C.P C.cp) (hcr:Wi C.P C.cr) (hb:C.base=base) {k:Nat} : ∀(c:Code) (b:Nat) {e:Env} {S:zA} {x:Vs.X} {e':Env} {S':zA} {a:Act} {w:World} {Q:Exit→Act→World→Prop},
  xt nt c=true→yx C k b c e S=some (x,e',S')→Now base nt X w0 A0 μ0 e S a w→(∀a' w',Now base nt X w0 A0 μ0 e' S' a' w'→Q (jt x) a' w')→c.wp C.P Q a w:=by
 intro c
 induction c with
 | skip =>
  intro b e S x e' S' a w Q hc h hN hQ;simp only[yx,Option.some.injEq,Prod.mk.injEq]at h;obtain⟨rfl,rfl,rfl⟩:=h;exact wp_skip (hQ a w hN)
 | region id ops draw =>
  intro b e S x e' S' a w Q hc h hN hQ;simp only[yx]at h;obtain⟨⟨e1,S1⟩,h1,h2⟩:=map_some h;simp only[Prod.mk.injEq]at h2;obtain⟨rfl,rfl,rfl⟩:=h2;exact Wn hm hcp hcr hb (X2 hc) hN h1 fun a' w' h'=>hQ a' w' (h'.trim _)
 | seq p q ihp ihq =>
  intro b e S x e' S' a w Q hc h hN hQ;simp only[xt,bS]at hc;simp only[yx]at h;obtain⟨⟨r,e1,S1⟩,h1,h2⟩:=bind_some h;refine wp_seq (ihp b hc.1 h1 hN fun a' w' h'=>?_);cases r with
  | normal=>exact ihq b hc.2 h2 h' hQ
  | exit id =>
   simp only[Option.some.injEq,Prod.mk.injEq]at h2;obtain⟨rfl,rfl,rfl⟩:=h2;exact hQ a' w' h'
  | ret =>
   simp only[Option.some.injEq,Prod.mk.injEq]at h2;obtain⟨rfl,rfl,rfl⟩:=h2;exact hQ a' w' h'
 | cond o p q ihp ihq =>
  intro b e S x e' S' a w Q hc h hN hQ;simp only[xt,bS]at hc;simp only[yx]at h;unfold Xe at h
  split at h
  ·rename_i t ht;have hv:a.eval o=.bool t:=by
    obtain⟨μ,_,h2,_⟩:=hN;have:=vY h2 o;rw[ht]at this;exact this.bool_inv
   refine wp_cond hv ?_;cases t
   ·exact ihq b hc.2 h hN hQ
   ·exact ihp b hc.1 h hN hQ
  ·cases h
 | block id body ih =>
  intro b e S x e' S' a w Q hc h hN hQ;simp only[xt]at hc;simp only[yx]at h;obtain⟨⟨r,e1,S1⟩,h1,h2⟩:=map_some h;simp only[Prod.mk.injEq]at h2;obtain⟨rfl,rfl,rfl⟩:=h2;refine wp_block (ih id hc h1 hN fun a' w' h'=>?_);have:=hQ a' w' h';cases r with
  | normal=>simpa [jt,Exit.inBlock] using this
  | ret=>simpa [jt,Exit.inBlock] using this
  | exit id' =>
   simp only[jt,Exit.inBlock];by_cases hid:id'=id
   ·subst hid;simpa [jt] using this
   ·rw[hI hid];simpa [hid,jt] using this
 | loop body ih =>
  intro b e S x e' S' a w Q hc h hN hQ;simp only[xt]at hc;simp only[yx]at h;obtain⟨hh,_,h⟩:=bind_some h;obtain⟨r,h1,h2⟩:=bind_some h;obtain⟨q,h3,h4⟩:=map_some h2;have hN1:Now base nt X w0 A0 μ0 r.1 r.2 a w:=Now.fzSlots _ (Now.ownAll _ (hN.keepOnly _)) h1;have hbase:base≤r.2.length:=by obtain⟨_,_,_,h,_⟩:=hN1;exact h
  generalize hM:r.2.length=m at h3 h4 hbase;have key : ∀(n:Nat) {e:Env} {S:zA} {a:Act} {w:World},vX (yx C k b body) (vV hh.live hh.fz m) n e S=some q→Now base nt X w0 A0 μ0 e S a w→Code.rounds C.P body Q n a w:=by
   intro n
   induction n with
   | zero=>intro e S a w h;cases h
   | succ n ihn =>
    intro e S a w h hN;simp only[vX]at h;obtain⟨⟨y,e1,S1⟩,k1,k2⟩:=bind_some h;refine ih b hc k1 hN fun a' w' h'=>?_;have out : ∀y',y=y'→y'≠.normal→some (y,e1,S1)=some q→Q (jt y) a' w':=fun y' hy hy' hq=>by
     simp only[Option.some.injEq]at hq;subst hq;unfold YK at h4;by_cases hyb:y=.exit b
     ·rw[hZ hyb]at h4;simp only[Prod.mk.injEq]at h4;obtain⟨rfl,rfl,rfl⟩:=h4;exact hQ a' w' ((h'.keepOnly _).gc hbase)
     ·rw[hI hyb]at h4;simp only[Prod.mk.injEq]at h4;obtain⟨rfl,rfl,rfl⟩:=h4;exact hQ a' w' h'
    cases y with
    | normal =>
     obtain⟨⟨e2,S2⟩,k3,k4⟩:=bind_some k2;unfold vV at k3;obtain⟨r2,k5,k6⟩:=map_some k3;simp only[Prod.mk.injEq]at k6;obtain⟨rfl,rfl⟩:=k6;exact ihn k4 ((Now.fzSlots _ (h'.keepOnly _) k5).gc hbase)
    | exit id=>exact out _ rfl (by simp) k2
    | ret=>exact out _ rfl (by simp) k2
  exact wp_loop_rounds k (key k h3 hN1)
 | exit id =>
  intro b e S x e' S' a w Q hc h hN hQ;simp only[yx,Option.some.injEq,Prod.mk.injEq]at h;obtain⟨rfl,rfl,rfl⟩:=h;exact wp_exit (hQ a w hN)
 | ret =>
  intro b e S x e' S' a w Q hc h hN hQ;simp only[yx,Option.some.injEq,Prod.mk.injEq]at h;obtain⟨rfl,rfl,rfl⟩:=h;exact wp_ret (hQ a w hN)
 | _ =>
  intro b e S x e' S' a w Q hc h hN hQ;simp[yx]at h
end
end Go.Vs
end
