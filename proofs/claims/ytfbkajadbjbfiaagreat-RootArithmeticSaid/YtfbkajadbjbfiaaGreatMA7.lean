import Derived.WalkKit
import Derived.ProofKit
import Derived.OpenShut
import Derived.ShutString
import Derived.ChangeOld
import Derived.Below
import Derived.Carry
import Derived.SizedLaws
import Derived.Test.YtfbkajadbjbfiaaGreatMA6
set_option linter.unusedVariables false
set_option linter.unusedSimpArgs false
section
namespace Go.Vs
open Go
def ZL (tmps:Array Value):ResultVar→Sem Value
 | .tmp t=>pure (tmps.getD t Go.undef)
 | .cell a t=>do loadVar t (←asAddr (tmps.getD a Go.undef))
theorem Ki (fn:Func) (tmps:Array Value):results fn tmps=(do let vs ←fn.results.mapM (ZL tmps);pure (if h:vs.size=1 then vs[0] else .tuple vs)):=by
 unfold results;have:(fun x:ResultVar=>match x with
  | .tmp t=>(pure (tmps.getD t Go.undef):Sem Value)
  | .cell a t=>do loadVar t (←asAddr (tmps.getD a Go.undef)))=ZL tmps:=by funext r;cases r <;> rfl
 rw[←this];rfl
section
variable {P:Program} {w:World} {X:Nat→Prop} {μ : Mu} {av:Nat→Prop} {S:zA}
theorem Wo (hS:SR w X (arrs S) S.length μ) {e:Env} {tmps:Array Value} (hE:ER w (Av X (arrs S) μ) μ e tmps) (r:ResultVar) {pv:PV} (h:xu P e S r=some pv) :
  ∃v,(ZL tmps r).run P w=.ok v w∧VR w (Av X (arrs S) μ) μ pv v:=by
 cases r with
 | tmp t =>
  simp only[xu,Option.some.injEq]at h;subst h;exact⟨_,by simp[ZL],hE t⟩
 | cell a t =>
  simp only[xu]at h;obtain⟨v,h1,h2⟩:=YN hS (vG.refl S μ) (hE a) h;refine⟨v,?_,h2⟩;have hp : ∃ad,tmps.getD a Go.undef=.pointer (some ad):=by
   have:=hE a;generalize hg:get e a=pv' at this h;generalize tmps.getD a Go.undef=v' at this
   cases pv' <;> simp only[zb,reduceCtorEq]at h
   case cp row=>cases this with | fr q=>cases q;exact⟨_,rfl⟩
   case mp id i off =>
    cases this with
    | fr q=>cases q
    | mp _ _ _ b hb=>exact⟨_,rfl⟩
  obtain⟨ad,had⟩:=hp;rw[had]at h1;simp only[ZL];rw[had];simp only[Instr.loadAt,Instr.sureAddr,bQ,pK,bX]at h1;simp only[asAddr,bQ,pK,bX];exact h1
theorem qW (hS:SR w X (arrs S) S.length μ) {e:Env} {tmps:Array Value} (hE:ER w (Av X (arrs S) μ) μ e tmps) : ∀(rs:List ResultVar) {pvs:List PV},yG (xu P e S) rs=some pvs →
  ∃vs:List Value,(rs.mapM (ZL tmps)).run P w=.ok vs w∧pvs.length=vs.length ∧
   ∀(j:Nat) (pv:PV) (v:Value),pvs[j]? = some pv→vs[j]? = some v→VR w (Av X (arrs S) μ) μ pv v
 | [],pvs,h=>by
  simp only[yG,Option.some.injEq]at h;subst h;exact⟨[],by simp,rfl,by simp⟩
 | r::rs,pvs,h=>by
  simp only[yG]at h;obtain⟨pv,h1,h⟩:=bind_some h;obtain⟨l,h2,rfl⟩:=map_some h;obtain⟨v,k1,k2⟩:=Wo hS hE r h1;obtain⟨vs,k3,k4,k5⟩:=qW hS hE rs h2;refine⟨v::vs,?_,by simp[k4],fun j pv' v' hp hv=>?_⟩
  ·rw[List.mapM_cons];simp only[bQ,k1,bX,k3,pK]
  ·cases j with
   | zero=>simp at hp hv;subst hp;subst hv;exact k2
   | succ j=>simp at hp hv;exact k5 j pv' v' hp hv
theorem X3 (hS:SR w X (arrs S) S.length μ) {e:Env} {tmps:Array Value} (hE:ER w (Av X (arrs S) μ) μ e tmps) {fn:Func} {pv:PV} (h:wA P fn e S=some pv) :
  ∃v,(results fn tmps).run P w=.ok v w∧VR w (Av X (arrs S) μ) μ pv v:=by
 unfold wA at h;obtain⟨pvs,h1,rfl⟩:=map_some h;obtain⟨vs,k1,k2,k3⟩:=qW hS hE _ h1;have hrun:(results fn tmps).run P w=.ok (if h:vs.toArray.size=1 then vs.toArray[0] else .tuple vs.toArray) w:=by
  rw[Ki,Array.mapM_eq_mapM_toList];simp only[bQ,map_eq_pure_bind,k1,bX,pK]
 refine⟨_,hrun,?_⟩;clear hrun h1 k1
 match pvs,vs,k2,k3 with
 | [],[],_,_=>exact .tup _ _ rfl (by simp)
 | [p],[v],_,k3=>exact k3 0 p v rfl rfl
 | p::q::l,v::u::m,k2,k3 =>
  rw[dif_neg (by simp)];exact .tup _ _ (by simpa using k2) (fun j pv v hp hv=>k3 j pv v hp (by simpa using hv))
theorem zCn (args:List PV) (m t:Nat):get (((List.range' m args.length).zip args)) t=if m≤t then (args[t-m]?).getD .undef else .undef:=by
 induction args generalizing m with
 | nil=>simp[get]
 | cons x l ih =>
  simp only[bP,List.range'_succ,List.zip_cons_cons,get];by_cases h:m=t
  ·subst h;simp
  ·rw[hI h,ih];by_cases hl:m+1≤t
   ·rw[hZ hl,hZ (by omega),show t-m=(t-(m+1))+1 by omega,BB]
   ·rw[hI hl,hI (by omega)]
theorem SR.empty {Y:Nat→Prop} (hY : ∀b,Y b→b<w.heap.size):SR w Y (arrs []) 0 Wf :=
 ⟨fun id _=>⟨rfl,by simp[arrs]⟩,fun id a ha=>by simp[arrs]at ha,fun id a ha=>by simp[arrs]at ha,fun id a ha=>by simp[arrs]at ha,fun id id' a a' b b' h1=>by simp[arrs]at h1,fun id a b h1=>by simp[arrs]at h1,hY⟩
theorem UB {cr:zAi} (h:Wi P cr):Zo P (fun g aS=>(cr g aS []).bind fun (r,S)=>ym S r):=by
 intro f args r hr;obtain⟨⟨q,S⟩,h1,h2⟩:=bind_some hr;obtain⟨fn,c,e1,e2,e3,e4⟩:=h f args [] q S h1;refine⟨fn,c,e1,e2,e3,fun w Y vs hY hn hrel=>?_⟩;have hmut : ∀b,¬Mut (arrs []) Wf b:=by rintro b ⟨id,rows,g,k,h1,_⟩;simp[arrs]at h1
 refine Calls.mono (e4 w Y Wf vs (SR.empty hY) hn fun j pv v hp hv=>(hrel j pv v hp hv).mono (xp.less fun b hb=>hb.resolve_right (hmut b)) fun _ _ _ h=>h) ?_
 rintro e w' ⟨v,μ',rfl,k1,k2,k3⟩
 refine⟨v,rfl,⟨k2.os,k2.tape,k2.output,k2.size,fun b hb=>k2.keep b hb (hmut b)⟩,?_⟩;exact (jr k1 (vG.refl S μ') h2 k3 (fun _ h=>h)).mono (xp.less fun b hb=>.inl hb) fun _ _ _ h=>h
def YX (P:Program) (H:Hints):Prop:=Zo P fun f args=>(H.orc f).bind fun g=>g args
theorem YX.none {H:Hints} (h : ∀f,H.orc f=none):YX P H:=fun f args r hr=>by
 simp only[h f,HA,reduceCtorEq]at hr
theorem UC {H:Hints} (hm:P.follows .mixedOrders=true) (hO:YX P H) : ∀k,Wi P (vC P H k):=by
 intro k
 induction k with
 | zero=>intro f args S r S' h;cases h
 | succ k ih =>
  intro f args S r S' h;simp only[vC]at h
  cases ho:H.orc f with
  | some g =>
   rw[ho]at h;simp only at h
   split at h
   case isFalse=>cases h
   rename_i hnr;obtain⟨v,h1,h2⟩:=map_some h;simp only[Prod.mk.injEq]at h2;obtain⟨rfl,rfl⟩:=h2;obtain⟨fn,c,e1,e2,e3,e4⟩:=hO f args r (by simp only[ho,bC,h1]);refine⟨fn,c,e1,e2,e3,fun w X μ vs hS hn hrel=>?_⟩;refine Calls.mono (e4 w (Av X (arrs S') μ) vs (fun b hb=>hS.avlt hb) hn fun j pv v hp hv=>?_) ?_
   ·refine (hrel j pv v hp hv).mono (xp.refl _ _) fun i hi=>?_;have:=pN.1 hnr pv (bK hp);rw[List.isEmpty_iff.1 this]at hi;cases hi
   ·rintro e w' ⟨v,rfl,k2,k3⟩
    obtain⟨q1,q2⟩:=hS.grown k2 S'.length;exact⟨v,μ,rfl,q1,q2,k3.mono (xp.refl _ _) fun i _ b hb=>by cases hb⟩
  | none =>
  rw[ho]at h;simp only at h
  cases hf:P.funcs[f]? with
  | none=>rw[hf]at h;cases h
  | some fn =>
   rw[hf]at h;simp only at h
   cases hbd:fn.body with
   | none=>rw[hbd]at h;cases h
   | some c =>
    rw[hbd]at h;simp only at h
    split at h
    case isFalse=>cases h
    rename_i hc;obtain⟨c1,c2,c3⟩:=hc;obtain⟨⟨x,e',S1⟩,h1,h2⟩:=bind_some h;refine⟨fn,c,rfl,hbd,c2,fun w X μ vs hS hn hrel=>?_⟩;have hsz:(vs++Array.replicate (fn.ntmps-vs.size) Go.undef).size=fn.ntmps:=by simp;omega
    have hN:Now S.length fn.ntmps X w (arrs S) μ ((List.range args.length).zip args) S {tmps:=vs++Array.replicate (fn.ntmps-vs.size) Go.undef,defers:=[]} w:=by
     refine⟨μ,hS,fun t=>?_,bB _,rfl,hsz,Tr.refl _ _ _ _⟩;rw[List.range_eq_range',zCn,hZ (sD _),Nat.sub_zero]
     cases hp:args[t]? with
     | none=>exact .undef _
     | some pv =>
      have hlt:=(bL.1 hp).1;have hv:vs[t]? = some (vs[t]'(by omega)):=bR _;have:(vs++Array.replicate (fn.ntmps-vs.size) Go.undef).getD t Go.undef=vs[t]'(by omega):=by
       rw[sK,PK (by omega),hv];rfl
      simp only[this,BS];exact hrel t pv _ hp hv
    refine calls_of_wp hf hbd ?_;have fin : ∀(y:Vs.X),x=y→(∀id,y≠.exit id)→∃v,wA P fn e' S1=some v∧r=v∧S'=S1:=fun y hy hne=>by
     subst hy;cases x with
     | exit id=>exact absurd rfl (hne id)
     | normal =>
      obtain⟨v,k1,k2⟩:=map_some h2;simp only[Prod.mk.injEq]at k2;exact⟨v,k1,k2.1,k2.2⟩
     | ret =>
      obtain⟨v,k1,k2⟩:=map_some h2;simp only[Prod.mk.injEq]at k2;exact⟨v,k1,k2.1,k2.2⟩
    refine Kh (C := {P,H,cp:=fun g aS=>(vC P H k g aS []).bind fun (r,S)=>ym S r,cr:=vC P H k,base:=S.length,h:=H.of f}) hm (UB ih) ih rfl c 0 c3 h1 hN fun a' w' hN'=>?_;obtain⟨μ',j1,j2,j3,j4,j5,j6⟩:=hN';have post : ∀y,x=y→(∀id,y≠.exit id)→a'.defers=[]∧∃v,(results fn a'.tmps).run P w'=.ok v w'∧∃v' μ',Ending.returned v=.returned v'∧SR w' X (arrs S') S'.length μ'∧Tr S.length w (arrs S) μ w' (arrs S') μ'∧VR w' (Av X (arrs S') μ') μ' r v':=fun y hy hne=>by
     obtain⟨v,k1,rfl,rfl⟩:=fin y hy hne;obtain⟨u,q1,q2⟩:=X3 j1 j2 k1;exact⟨j4,u,q1,u,μ',rfl,j1,j6,q2⟩
    cases x with
    | normal=>exact post _ rfl (by simp)
    | ret=>exact post _ rfl (by simp)
    | exit id=>cases h2
theorem UD {H:Hints} (hm:P.follows .mixedOrders=true) (hO:YX P H) (k:Nat):Zo P (uU P H k):=UB (UC hm hO k)
end
end Go.Vs
end
section
namespace Go.Vs
open Go Go.RowKit
def QJ (P:Program):Nat→List Field→Bool
 | _,[]=>true
 | o,f::r=>(f.offset == o)&&QJ P (o+P.cellsOf f.type) r
def YY (P:Program):List Field→Nat
 | []=>0
 | f::r=>P.cellsOf f.type+YY P r
def jJ (P:Program) (L:List TypeId):Bool :=
 L.all fun t=>match P.underlying t with
  | some .bool | some (.int _) | some .string=>P.cellsOf t == 1
  | some (.slice e)=>L.contains e&&P.cellsOf t == 1
  | some (.struct fs)=>QJ P 0 fs.toList&&YY P fs.toList == P.cellsOf t&&fs.toList.all fun f=>L.contains f.type
  | _=>false
inductive All2 {α β:Type} (R:α→β→Prop):List α→List β→Prop
 | nil:All2 R [] []
 | cons {a:α} {b:β} {x:List α} {y:List β} (h:R a b) (t:All2 R x y):All2 R (a::x) (b::y)
def Dt (P:Program):Nat→TypeId→List PV→Prop
 | 0,_,_=>False
 | k+1,t,pvs =>
  match P.underlying t with
  | some .bool=>∃b,pvs=[.bool b]
  | some (.int kd)=>∃n,(Lit.int kd n).wf=true∧pvs=[.int kd n]
  | some .string=>∃s:ByteArray,s.size≤maxLen∧pvs=[.str s]
  | some (.slice e)=>∃rows,pvs=[.sl rows false]∧rows.length≤maxLen∧∀r∈rows,Dt P k e r
  | some (.struct fs)=>∃pss:List (List PV),pvs=pss.flatten∧All2 (fun (f:Field) ps=>Dt P k f.type ps) fs.toList pss
  | _=>False
def Wp:Nat→Prop:=fun _=>False
def Rel (w:World) (pvs:List PV) (cs:List Value):Prop:=pvs.length=cs.length∧(∀(j:Nat) (pv:PV) (v:Value),pvs[j]? = some pv→cs[j]? = some v→FR w Wp pv v)
theorem Rel.one {w:World} {pv:PV} {v:Value} (h:FR w Wp pv v):Rel w [pv] [v]:=⟨rfl,fun j p u hp hu=>by
 cases j with
 | zero=>simp at hp hu;subst hp;subst hu;exact h
 | succ j=>simp at hp⟩
theorem Rel.nil {w:World} : Rel w [] []:=⟨rfl,by simp⟩
theorem Rel.app {w:World} {a b:List PV} {x y:List Value} (h:Rel w a x) (k:Rel w b y):Rel w (a++b) (x++y):=by
 refine⟨by simp[h.1,k.1],fun j pv v hp hv=>?_⟩;by_cases hj:j<a.length
 ·rw[pP hj]at hp;rw[pP (by rw[←h.1];exact hj)]at hv;exact h.2 j pv v hp hv
 ·rw[pG (by omega)]at hp;rw[pG (by rw[←h.1];omega),←h.1]at hv;exact k.2 _ pv v hp hv
theorem Zw {α β:Type} {f:α→Option β} : ∀ {l:List α} {r:List β},l.mapM f=some r→r.length=l.length∧∀(i:Nat) (a:α),l[i]? = some a→∃b,f a=some b∧r[i]? = some b
 | [],r,h=>by simp at h;subst h;simp
 | a::l,r,h=>by
  rw[List.mapM_cons]at h
  cases hf:f a with
  | none=>rw[hf]at h;cases h
  | some b =>
   rw[hf]at h
   cases hl:l.mapM f with
   | none=>simp[hl]at h
   | some r' =>
    simp[hl]at h;subst h;obtain⟨h1,h2⟩:=Zw hl;refine⟨by simp[h1],fun i x hi=>?_⟩;cases i with
    | zero=>simp at hi;subst hi;exact⟨b,hf,rfl⟩
    | succ i=>simp at hi;simpa using h2 i x hi
theorem YZ {P:Program} {w:World} {k:Nat} {cs:List Value} : ∀(fs:List Field) (o:Nat),QJ P o fs=true→o+YY P fs=cs.length →
  (∀f∈fs,∃ps,Dt P k f.type ps∧Rel w ps ((cs.drop f.offset).take (P.cellsOf f.type)))→∃pss:List (List PV),All2 (fun (f:Field) ps=>Dt P k f.type ps) fs pss∧Rel w pss.flatten (cs.drop o)
 | [],o,_,hl,_=>⟨[],.nil,by
  simp only[YY]at hl;rw[pA (by omega)];exact Rel.nil⟩
 | f::r,o,ht,hl,h=>by
  simp only[QJ,bS,beq_iff_eq]at ht;simp only[YY]at hl;obtain⟨ps,h1,h2⟩:=h f (by simp);obtain⟨pss,h3,h4⟩:=YZ r (o+P.cellsOf f.type) ht.2 (by omega) fun g hg=>h g (by simp[hg]);refine⟨ps::pss,.cons h1 h3,?_⟩;have e:cs.drop o=(cs.drop f.offset).take (P.cellsOf f.type)++cs.drop (o+P.cellsOf f.type):=by
   rw[ht.1,←List.drop_drop,HB]
  rw[e,List.flatten_cons];exact h2.app h4
theorem zAz {H:Type} {enc:TypeId × Value→H} {P:Program} {w:World} {base:Nat} {sp:Nat→Bool} {held:Bool} {L:List TypeId} (hL:jJ P L=true) : ∀(fuel:Nat) {t:TypeId} {cs:List Value} {x:DataW H × List MemPlace},t∈L →
  DataW.trod enc P w base sp held fuel t cs=some x→∃pvs,Dt P fuel t pvs∧Rel w pvs cs:=by
 intro fuel
 induction fuel with
 | zero=>intro t cs x _ h;cases h
 | succ k ih =>
  intro t cs x ht h;have hc:=(pN.1 hL) t ht;unfold DataW.trod at h;simp only[Dt]
  cases hu:P.underlying t with
  | none=>rw[hu]at hc;cases hc
  | some d =>
   rw[hu]at hc h
   cases d <;> simp only[reduceCtorEq,bH]at hc
   case bool =>
    split at h <;> try (first | (cases h;done) | (rename_i hq;cases hq;done))
    rename_i hq;cases hq;cases h;exact⟨_,⟨_,rfl⟩,.one (.bool _)⟩
   case int kd =>
    split at h <;> try (first | (cases h;done) | (rename_i hq;cases hq;done))
    rename_i hq;cases hq
    split at h
    ·rename_i hw;obtain⟨rfl,hw⟩:=hw;exact⟨_,⟨_,hw,rfl⟩,.one (.int _ _)⟩
    ·cases h
   case string =>
    split at h <;> try (first | (cases h;done) | (rename_i hq;cases hq;done))
    rename_i hq;cases hq
    split at h
    ·rename_i hw;exact⟨_,⟨_,hw,rfl⟩,.one (.str _)⟩
    ·cases h
   case slice e =>
    simp only[bS,List.contains_iff_mem,beq_iff_eq]at hc
    split at h <;> try (first | (cases h;done) | (rename_i hq;cases hq;done))
    ·have key:=FR.sl (w:=w) (av:=Wp) [] false none 0 default 0 (fun _ _=>Go.undef) (bB _) (by simp) (fun _=>rfl) (fun h=>absurd rfl h) (by simp) (by simp) (by simp);exact⟨_,⟨[],rfl,by simp,by simp⟩,.one key⟩
    ·rename_i e0 a len cap hq;cases hq
     split at h
     case isFalse=>cases h
     rename_i hcap;obtain⟨elems,h2,_⟩:=bind_some h;obtain⟨h3,h4⟩:=Zw h2;rw[List.length_range]at h3;have each : ∀i,i<len→∃ps,Dt P k e ps∧ps.length=P.cellsOf e∧∀j pv,ps[j]? = some pv→∃u,w.cell? (a.add (i*P.cellsOf e+j))=some u∧FR w Wp pv u:=by
      intro i hi;obtain⟨b,hb,_⟩:=h4 i i (by simp[hi]);obtain⟨cs,hcs,hb⟩:=bind_some hb;obtain⟨ps,p1,p2⟩:=ih hc.1 hb;unfold World.cells? at hcs
      split at hcs
      ·obtain⟨q1,q2⟩:=Zw hcs;rw[List.length_range]at q1;refine⟨ps,p1,by rw[p2.1,q1],fun j pv hj=>?_⟩;have hjl:=(bL.1 hj).1;rw[p2.1,q1]at hjl;obtain⟨u,hu1,hu2⟩:=q2 j j (by simp[hjl]);rw[Zu]at hu1;exact⟨u,hu1,p2.2 j pv u hj hu2⟩
      ·cases hcs
     have pick : ∀i:Nat,∃ps:List PV,i<len→Dt P k e ps∧ps.length=P.cellsOf e∧∀j pv,ps[j]? = some pv→∃u,w.cell? (a.add (i*P.cellsOf e+j))=some u∧FR w Wp pv u:=fun i=>by
      by_cases hi:i<len
      ·obtain⟨ps,hps⟩:=each i hi;exact⟨ps,fun _=>hps⟩
      ·exact⟨[],fun h=>absurd h hi⟩
     obtain⟨g,hg⟩:=Classical.axiomOfChoice pick;have hrows : ∀i row,((List.range len).map g)[i]? = some row→i<len∧row=g i:=fun i row hi=>by
      rw[pB]at hi;by_cases hlt:i<len
      ·rw[sX hlt]at hi;simp at hi;exact⟨hlt,hi.symm⟩
      ·rw[bY (by simpa using hlt)]at hi;cases hi
     have hlen:((List.range len).map g).length=len:=by simp
     refine⟨_,⟨(List.range len).map g,rfl,by rw[hlen];omega,fun row hrow=>?_⟩,?_⟩
     ·obtain⟨i,hi⟩:=aX hrow;obtain⟨hlt,rfl⟩:=hrows i row hi;exact (hg i hlt).1
     ·have key:=FR.sl (w:=w) (av:=Wp) ((List.range len).map g) false (some a) cap a (P.cellsOf e) (fun i j=>(w.cell? (a.add (i*P.cellsOf e+j))).getD Go.undef) (by rw[hlen];exact hcap.2.1) (by simp) (by simp) (fun _=>rfl)
       (fun row hrow=>by
        obtain⟨i,hi⟩:=aX hrow;obtain⟨hlt,rfl⟩:=hrows i row hi;exact (hg i hlt).2.1)
       (fun i row j pv hi hj=>by
        obtain⟨hlt,rfl⟩:=hrows i row hi;obtain⟨u,u1,u2⟩:=(hg i hlt).2.2 j pv hj;rw[u1];exact⟨rfl,fun h=>h⟩)
       (fun i row j pv hi hj=>by
        obtain⟨hlt,rfl⟩:=hrows i row hi;obtain⟨u,u1,u2⟩:=(hg i hlt).2.2 j pv hj;simp only[u1,BS];exact u2)
      rw[hlen]at key;exact .one key
   case struct fs =>
    simp only[bS,pN,List.contains_iff_mem,beq_iff_eq]at hc
    replace h:(if cs.length=P.cellsOf t then (fs.toList.mapM fun f=>DataW.trod enc P w base sp held k f.type ((cs.drop f.offset).take (P.cellsOf f.type))).map fun xs=>(.agg (xs.map (·.1)),xs.flatMap (·.2)) else none)=some x:=h
    split at h
    case isFalse=>cases h
    rename_i hlen;obtain⟨xs,h2,_⟩:=map_some h;obtain⟨h3,h4⟩:=Zw h2;obtain⟨pss,q1,q2⟩:=YZ (P:=P) (w:=w) (k:=k) (cs:=cs) fs.toList 0 hc.1.1 (by rw[bW,hc.1.2,hlen]) (fun f hf=>by
     obtain⟨i,hi⟩:=aX hf;obtain⟨b,hb,_⟩:=h4 i f hi;exact ih (hc.2 f hf) hb)
    exact⟨_,⟨pss,rfl,q1⟩,by simpa using q2⟩
def Arg (P:Program) (k:Nat) (t:TypeId) (pv:PV):Prop :=
 match P.underlying t with
 | some (.struct _)=>∃cells,pv=.agg cells∧Dt P k t cells
 | _=>Dt P k t [pv]
theorem UE {P:Program} {W:World} {base:Nat} {L:List TypeId} (hL:jJ P L=true) {t:TypeId} (ht:t∈L) {v:Value} (h:Value.okWide P W .any base t v) :
  (∃fs cs,P.underlying t=some (.struct fs)∧v=.agg cs)∨((∀fs,P.underlying t≠some (.struct fs))∧v.cells.toList=[v]):=by
 have hc:=(pN.1 hL) t ht
 cases hu:P.underlying t with
 | none=>rw[hu]at hc;cases hc
 | some d =>
  rw[hu]at hc
  cases d <;> simp only[reduceCtorEq,bH]at hc
  case bool=>obtain⟨b,rfl⟩:=Go.WideShapes.okWide_bool hu h;exact .inr ⟨by simp,rfl⟩
  case int kd=>obtain⟨b,rfl⟩:=Go.WideShapes.okWide_int hu h;exact .inr ⟨by simp,rfl⟩
  case string=>obtain⟨b,rfl⟩:=Go.WideShapes.okWide_string hu h;exact .inr ⟨by simp,rfl⟩
  case slice e=>obtain⟨a,len,cap,rfl⟩:=Go.WideShapes.okWide_slice hu h;exact .inr ⟨by simp,rfl⟩
  case struct fs=>obtain⟨cs,rfl,_⟩:=Go.WideShapes.okWide_struct hu h;exact .inl ⟨fs,cs,rfl,rfl⟩
theorem zEK {H:Type} {enc:TypeId × Value→H} {P:Program} {W:World} {base base':Nat} {sp:Nat→Bool} {held:Bool} {L:List TypeId} (hL:jJ P L=true) {t:TypeId} (ht:t∈L) {v:Value} {d:DataW H} {p:List MemPlace}
  (hok:Value.okWide P W .any base' t v) (h:DataW.Trod enc P W base sp held t v d p) : ∃k pv,Arg P k t pv∧VR W Wp Wf pv v:=by
 obtain⟨fuel,h⟩:=h;obtain⟨pvs,h1,h2⟩:=zAz hL fuel ht h
 rcases UE hL ht hok with⟨fs,cs,hu,rfl⟩ | ⟨hu,hv⟩
 ·refine⟨fuel,.agg pvs,by unfold Arg;rw[hu];exact⟨pvs,rfl,h1⟩,.agg _ _ (by rw[h2.1];rfl) (fun j v hv=>?_) (fun j pv v hp hv=>.fr (h2.2 j pv v hp (by rw[←hv];exact pE)))⟩;have hlt:=(pR.1 hv).1;have hp:pvs[j]? = some (pvs[j]'(by rw[h2.1];exact hlt)):=bI _;exact FR.flat _ _ (h2.2 j _ v hp (by rw[←hv];exact pE))
 ·rw[hv]at h2;obtain⟨pv,rfl⟩ : ∃pv,pvs=[pv]:=by
   have:=h2.1;cases pvs with
   | nil=>simp at this
   | cons a l=>cases l with
    | nil=>exact⟨a,rfl⟩
    | cons _ _=>simp at this
  refine⟨fuel,pv,?_,.fr (h2.2 0 pv v rfl rfl)⟩;unfold Arg
  split
  ·rename_i fs hq;exact absurd hq (hu fs)
  ·exact h1
def Wq (P:Program) (ts:List TypeId) (pvs:List PV):Prop:=All2 (fun t pv=>∃k,Arg P k t pv) ts pvs
theorem QK {H:Type} {enc:TypeId × Value→H} {P:Program} {W:World} {base base':Nat} {sp:Nat→Bool} {held:Bool} {L:List TypeId} (hL:jJ P L=true) : ∀ {ts:List TypeId} {vs:List Value} {ds:List (DataW H)} {p:List MemPlace},(∀t∈ts,t∈L) →
  (∀(j:Nat) (t:TypeId) (v:Value),ts[j]? = some t→vs[j]? = some v→Value.okWide P W .any base' t v)→DataW.TrodAll enc P W base sp held ts vs ds p →
  ∃pvs,Wq P ts pvs∧pvs.length=vs.length∧∀(j:Nat) (pv:PV) (v:Value),pvs[j]? = some pv→vs[j]? = some v→VR W Wp Wf pv v
 | [],[],[],_,_,_,_=>⟨[],.nil,rfl,by simp⟩
 | t::ts,v::vs,d::ds,_,hsub,hok,⟨p,q,h1,h2,_⟩=>by
  obtain⟨k,pv,a1,a2⟩:=zEK hL (hsub t (by simp)) (hok 0 t v rfl rfl) h1;obtain⟨pvs,b1,b2,b3⟩:=QK hL (fun t ht=>hsub t (by simp[ht])) (fun j t v h1 h2=>hok (j+1) t v h1 h2) h2;refine⟨pv::pvs,.cons ⟨k,a1⟩ b1,by simp[b2],fun j pv' v' hp hv=>?_⟩;cases j with
  | zero=>simp at hp hv;subst hp;subst hv;exact a2
  | succ j=>simp at hp hv;exact b3 j pv' v' hp hv
 | [],[],_::_,_,_,_,h=>h.elim
 | [],_::_,_,_,_,_,h=>h.elim
 | _::_,[],_,_,_,_,h=>h.elim
 | _::_,_::_,[],_,_,_,h=>h.elim
theorem Grown.below {w w':World} (h:Vs.Grown w w'):Below w.heap.size w w':=⟨h.os,h.tape,h.output,h.size,h.keep⟩
theorem Xq {H:Type} {enc:TypeId × Value→H} {P:Program} (hl:laidOutB P=true) {W W':World} (hb:Below W.heap.size W W') : ∀ {ts:List TypeId} {vs:List Value} {ds:List (DataW H)} {p:List MemPlace},(∀t∈ts,P.readableRec t=true∧t<P.types.size) →
  DataW.TrodAll enc P W 0 (fun _=>true) true ts vs ds p→(∀x∈p,x.block<W.heap.size)→DataW.TrodAll enc P W' 0 (fun b=>decide (b<W.heap.size)) true ts vs ds p
 | [],[],[],_,_,h,_=>h
 | t::ts,v::vs,d::ds,_,ht,⟨p,q,h1,h2,rfl⟩,hlt =>
  ⟨p,q,Below.trod hl (ht t (by simp)).1 (ht t (by simp)).2 h1 hb (fun x hx=>hlt x (by simp[hx])),Xq hl hb (fun t h=>ht t (by simp[h])) h2 (fun x hx=>hlt x (by simp[hx])),rfl⟩
 | [],[],_::_,_,_,h,_=>h.elim
 | [],_::_,_,_,_,h,_=>h.elim
 | _::_,[],_,_,_,h,_=>h.elim
 | _::_,_::_,[],_,_,h,_=>h.elim
theorem Ql {P:Program} {Hn:Hints} (hm:P.follows .mixedOrders=true) (hO:YX P Hn) {f:FuncId} {ts:List TypeId} (law : ∀pvs,Wq P ts pvs→∃n,uU P Hn n f pvs=some (.bool true)) {L:List TypeId} (hL:jJ P L=true) (hsub : ∀t∈ts,t∈L)
  {H:Type} {enc:TypeId × Value→H} {W:World} {base base':Nat} {sp:Nat→Bool} {held:Bool} {args:Array Value} {ds:List (DataW H)} {p:List MemPlace}
  (hok : ∀(j:Nat) (t:TypeId) (v:Value),ts[j]? = some t→args[j]? = some v→Value.okWide P W .any base' t v) (h:DataW.TrodAll enc P W base sp held ts args.toList ds p) :
  Calls P f args W fun e W'=>e=.returned (.bool true)∧Below W.heap.size W W':=by
 obtain⟨pvs,a1,a2,a3⟩:=QK hL hsub (fun j t v h1 h2=>hok j t v h1 (by rw[←pE];exact h2)) h;obtain⟨n,hn⟩:=law pvs a1;obtain⟨fn,c,e1,e2,e3,e4⟩:=UD hm hO n f pvs _ hn;refine (e4 W Wp args (fun b h=>h.elim) (by rw[a2];exact sI) (fun j pv v hp hv=>a3 j pv v hp (by rw[pE];exact hv))).mono ?_
 rintro e w' ⟨v,rfl,hg,hv⟩
 exact⟨by rw[hv.bool_inv],Grown.below hg⟩
theorem Y0 {H:Type} {enc:TypeId × Value→H} {P:Program} {W:World} {base:Nat} {sp:Nat→Bool} {held:Bool} : ∀ {ts:List TypeId} {vs:List Value} {ds:List (DataW H)} {p:List MemPlace},
  DataW.TrodAll enc P W base sp held ts vs ds p→∀x∈p,x.block<W.heap.size
 | [],[],[],_,h=>by
  obtain⟨_,_,rfl⟩:=Go.ChangeShapes.trodAll_nil h;simp
 | t::ts,v::vs,d::ds,_,⟨p,q,h1,h2,rfl⟩=>fun x hx=>by
  rcases sB.1 hx with hx | hx
  ·obtain⟨m,hm⟩:=h1;exact DataW.trod_lt m _ _ _ hm x hx
  ·exact Y0 h2 x hx
 | [],[],_::_,_,h=>h.elim
 | [],_::_,_,_,h=>h.elim
 | _::_,[],_,_,h=>h.elim
 | _::_,_::_,[],_,h=>h.elim
theorem Qm {q:Array TypeId} {l:List TypeId} (e:q=l.toArray) {j:Nat} {t:TypeId} (h:l[j]? = some t):q[j]? = some t:=by
 subst e;rw[←pE];exact h
theorem zFh {q:Array TypeId} {l:List TypeId} (e:q=l.toArray) {args:Array Value} {Q:TypeId→Value→Prop} (h : ∀(j:Nat) t v,q[j]? = some t→args[j]? = some v→Q t v) : ∀(j:Nat) (t:TypeId) (v:Value),l[j]? = some t→args[j]? = some v→Q t v:=fun j t v h1 h2=>h j t v (Qm e h1) h2
attribute [irreducible] Dt Arg
end Go.Vs
end
section
namespace Go.Vs
open Go
section
variable {R:Type}
def UF (x:Option PV) (K:PV→Option R):Option R:=x.bind K
def UG (x:Option Out) (S:zA) (K:PV→zA→Option R):Option R:=x.bind fun o=>K o.v (xn (zH S o.fz) o.new)
def UH (x:Option Eff) (e:Env) (K:PV→Env→zA→Option R):Option R:=x.bind fun r=>K r.v (uH r.kill e) r.S
def UI (x:Option Eff) (K:PV→zA→Option R):Option R:=x.bind fun r=>K r.v r.S
def zEL (g:PV) (want:Bool) (x:Option PV):Option PV:=match g with
 | .bool b=>if b=want then x else some .skip
 | .skip=>some .skip
 | _=>none
def zEM (g:PV) (want:Bool) (x:Option Out):Option Out:=match g with
 | .bool b=>if b=want then x else some {v:=.skip}
 | .skip=>some {v:=.skip}
 | _=>none
def Qn (g:PV) (want:Bool) (S:zA) (x:Option Eff):Option Eff:=match g with
 | .bool b=>if b=want then x else some {v:=.skip,S}
 | .skip=>some {v:=.skip,S}
 | _=>none
def ju (P:Program) (o:Op) (e:Env) (S:zA):Option (Option PV):=match o with
 | .load t a=>some (zb (tyi P t) S (ev e a))
 | .binOp op t x y _=>some (vw op (tyi P t) y (ev e x) (ev e y))
 | .unOp op _ x=>some (K8 op (ev e x))
 | .convert s d x=>some (if (tyi P s).known then yS (tyi P s) (tyi P d) (Qh (tyi P (yW (tyi P s)))) S (ev e x) else none)
 | .slice t x lo hi mx=>some (if wT (tyi P t)=true∧(tyi P (yW (tyi P t))).known=false then none else vm (tyi P t) (tyi P (yW (tyi P t))).size S (ev e x) (lo.map (ev e)) (hi.map (ev e)) (mx.map (ev e)))
 | .fieldAddr t x f=>some (zF (tyi P t) f (ev e x))
 | .field t x f=>some (zT (tyi P t) f (ev e x))
 | .indexAddr t x i=>some (if wT (tyi P t)=true∧(tyi P (yW (tyi P t))).known=true then xb (tyi P (yW (tyi P t))).size S (ev e x) (ev e i) else none)
 | _=>none
theorem Z6 {P:Program} {cp:kQ} {o:Oper} {e:Env} {S:zA} {nid:Nat} {x:Option PV} (h:ju P o.op e S=some x):ev1 P cp o e S nid=x.map (fun v=>({v} : Out)):=by
 obtain⟨dst,op,type,pos,after,guard⟩:=o
 cases op <;> simp only[ju,Option.some.injEq,reduceCtorEq]at h <;> subst h <;> simp only[ev1]
 all_goals (try rfl)
 all_goals (split <;> rfl)
theorem Y1 {P:Program} {H:Hints} {o:Oper} {e:Env} {S:zA} {x:Option PV} (h:ju P o.op e S=some x):yN H o e=false:=by
 obtain⟨dst,op,type,pos,after,guard⟩:=o
 cases op <;> simp only[ju,Option.some.injEq,reduceCtorEq]at h <;> rfl
def zBA (c x y:PV):Option PV:=match c with
 | .bool t=>if t=true then some x else some y
 | _=>none
def kS (fs:List (Nat × Nat × Bool)):List PV→List (Nat × PV)→Option (List PV)
 | cs,[]=>some cs
 | cs,(i,x)::r=>match fs[i]? with
  | some (o,n,_)=>if x.cells.length=n∧x.cells.all PV.cell∧o+n≤cs.length then kS fs (cs.take o++x.cells++cs.drop (o+n)) r else none
  | none=>none
theorem UJ {fs:List (Nat × Nat × Bool)} {ρ : Operand→PV} : ∀(ps:List (Nat × Operand)) (cs:List PV),xd fs ρ cs ps=kS fs cs (ps.map fun p=>(p.1,ρ p.2))
 | [],cs=>rfl
 | (i,x)::r,cs=>by
  simp only[xd,kS,pF]
  cases fs[i]? with
  | none=>rfl
  | some q =>
   obtain⟨o,n,g⟩:=q;simp only[UJ r]
def zl (ti:TI) (ps:List (Nat × PV)):Option PV:=match ti.d with
 | .struct fs=>ti.zero.bind fun z=>if z.all PV.cell∧(fs.all fun x=>decide (x.2.1≠0)) then (kS fs z ps).map fun cs=>.agg cs else none
 | _=>none
def zi (P:Program) (t:TypeId) (ps:List (Nat × PV)):Option PV:=match (tyi P t).d with
 | .array n el=>(tyi P t).zero.bind fun z=>if z.all PV.cell∧(tyi P el).known=true then (kS (Ve (tyi P el).size n) z ps).map fun cs=>.agg cs else none
 | _=>zl (tyi P t) ps
def yO (ti:TI) (x:PV):Option PV:=YJ ti x
def uY (x:PV) (i:Nat):Option PV:=match x with
 | .tup vs=>vs[i]?
 | _=>none
def ZM (x:PV):Option PV:=match x with
 | .mp a b c=>some (.mp a b c)
 | .cp r=>some (.cp r)
 | .fn f a b=>some (.fn f a b)
 | _=>none
def zh (P:Program) (t:TypeId) (x i:PV):Option PV:=match (tyi P t).d with
 | .array n el=>if (tyi P el).known then wU {d:=.array n el,size:=(tyi P t).size,bytes:=0,zero:=none} (tyi P el).size (tyi P el).isAgg x i else none
 | .str=>wU {d:=.str,size:=0,bytes:=0,zero:=none} 0 false x i
 | _=>none
def zCo (xs:List PV):Option PV:=match xs with
 | [.int k a,.int _ b]=>some (.int k (if b > a then b else a))
 | _=>none
def zCp (xs:List PV):Option PV:=match xs with
 | [.int k a,.int _ b]=>some (.int k (if b<a then b else a))
 | _=>none
def QM (P:Program) (o:Op) (e:Env) (S:zA):Option (Option PV):=match o with
 | .move x | .assign x=>some (some (ev e x))
 | .pick c a b=>some (zBA (ev e c) (ev e a) (ev e b))
 | .build t ps=>some (zi P t (ps.toList.map fun p=>(p.1,ev e p.2)))
 | .makeFunc (.func f) first caps=>some (some (.fn f (first.toList.map (ev e)) (caps.toList.map (ev e))))
 | .extract x i=>some (uY (ev e x) i)
 | .nilCheck x=>some (ZM (ev e x))
 | .index t x i=>some (zh P t (ev e x) (ev e i))
 | .call c=>(match c.callee with
  | .builtin .len=>(match c.argTypes[0]?,c.args[0]? with | some t,some x=>some (yO (tyi P t) (ev e x)) | _,_=>none)
  | .builtin .max=>some (zCo (c.args.toList.map (ev e)))
  | .builtin .min=>some (zCp (c.args.toList.map (ev e)))
  | _=>none)
 | o=>ju P o e S
theorem Kj {P:Program} {H:Hints} {cp:kQ} {o:Oper} {e:Env} {S:zA} {nid:Nat} {x:Option PV} (h:QM P o.op e S=some x):ev1 P cp o e S nid=x.map (fun v=>({v} : Out))∧yN H o e=false:=by
 obtain⟨dst,op,type,pos,after,guard⟩:=o
 cases op <;> try exact⟨Z6 h,Y1 h⟩
 all_goals simp only[QM,Option.some.injEq]at h
 all_goals try (simp only[ju,reduceCtorEq]at h;done)
 all_goals try (exact⟨Z6 (o:=⟨dst,_,type,pos,after,guard⟩) h,Y1 (o:=⟨dst,_,type,pos,after,guard⟩) h⟩)
 case move x=>subst h;exact⟨rfl,rfl⟩
 case assign x=>subst h;exact⟨rfl,rfl⟩
 case pick c a b =>
  subst h;refine⟨?_,rfl⟩;simp only[ev1,zBA];generalize ev e c=v
  cases v <;> try rfl
  rename_i t
  cases t <;> rfl
 case build t ps =>
  subst h;refine⟨?_,rfl⟩;simp only[ev1,zi,zl,UJ];generalize (tyi P t).d=dd
  cases dd <;> try rfl
  all_goals
   cases (tyi P t).zero with
   | none=>rfl
   | some z =>
    simp only[bC]
    split
    ·generalize kS _ z _=q
     cases q <;> rfl
    ·rfl
 case makeFunc fn first caps =>
  cases fn <;> simp only[reduceCtorEq,Option.some.injEq,ju]at h
  subst h;exact⟨rfl,rfl⟩
 case extract x i =>
  subst h;refine⟨?_,rfl⟩;simp only[ev1,uY];generalize ev e x=v
  cases v <;> rfl
 case nilCheck x =>
  subst h;refine⟨?_,rfl⟩;simp only[ev1,ZM];generalize ev e x=v
  cases v <;> rfl
 case index t x i =>
  subst h;refine⟨?_,rfl⟩;simp only[ev1,zh];generalize (tyi P t).d=dd
  cases dd <;> try rfl
  simp only
  split <;> rfl
 case call c =>
  cases hc:c.callee with
  | invoke r m=>rw[hc]at h;cases h
  | value f=>rw[hc]at h;cases h
  | builtin b =>
   rw[hc]at h
   cases b <;> simp only[reduceCtorEq,Option.some.injEq]at h
   case len =>
    refine⟨?_,by simp[yN,hc]⟩;simp only[ev1,hc]
    split at h
    ·rename_i t x ht hx;simp only[Option.some.injEq]at h;subst h;simp only[ht,hx];rfl
    ·cases h
   case max =>
    refine⟨?_,by simp[yN,hc]⟩;subst h;simp only[ev1,hc,zCo]
    split
    ·rename_i hx;rw[hx];rfl
    ·rename_i hx
     split
     ·rename_i hy;exact absurd hy (hx _ _ _ _)
     ·rfl
   case min =>
    refine⟨?_,by simp[yN,hc]⟩;subst h;simp only[ev1,hc,zCp]
    split
    ·rename_i hx;rw[hx];rfl
    ·rename_i hx
     split
     ·rename_i hy;exact absurd hy (hx _ _ _ _)
     ·rfl
def zj (ti:TI) (n:Nat):Option Out:=ti.zero.bind fun z=>if z.all PV.cell then some {v:=.mp n 0 0,new:=some ([z],none)} else none
def zJ (P:Program) (t:TypeId) (n len:Nat) (is:List Nat) (rows:List (List PV)):Option Out:=match (tyi P t).d with
 | .slice el=>if is=List.range len∧zq (tyi P el).size rows∧(rows.all fun r=>r.all PV.cell)∧len*(tyi P el).size≤16777216∧0<(tyi P el).size∧(tyi P el).zero.isSome then
   some {v:=.msl n 0 len true,new:=some (rows,some (some (tyi P el).size))} else none
 | _=>none
def zL (P:Program) (t:TypeId) (n:Nat) (l c:PV):Option Out:=match (tyi P t).d,l,c with
 | .slice el,.int _ a,.int _ m=>(tyi P el).zero.bind fun z =>
  if 0≤a∧a≤m∧(tyi P el).bytes*m≤281474976710656∧m≤9223372036854775807∧z.length=(tyi P el).size∧z.all PV.cell then
   some {v:=.msl n 0 a.toNat (decide (a=m)),new:=some (List.replicate a.toNat z,some (some (tyi P el).size))} else none
 | _,_,_=>none
def zQ (cp:kQ) (S:zA) (f:FuncId) (aS:List PV):Option Out :=
 if (yq S 8 (aS.flatMap PV.refs)).all (fun i=>decide (i<S.length)) then (yG (ym S) aS).bind fun args=>(cp f args).map fun v => {v,fz:=yq S 8 (aS.flatMap PV.refs)} else none
noncomputable def Xr (C:Ctx) (S:zA) (f:FuncId) (aS:List PV):Option Eff :=
 if C.H.refs f then (C.cr f aS S).bind fun (v,S')=>if S.length≤S'.length∧uI S=true∧jp S.length aS=true∧Vf (C.H.reads f) S S' then some {v,S:=S'} else none
 else (yG (ym S) aS).bind fun args=>(C.cp f args).map fun v => {v,S:=zH S (yq S 8 (aS.flatMap PV.refs))}
noncomputable def QN (C:Ctx) (S:zA) (f:PV) (aS:List PV):Option Eff:=match f with
 | .fn f first caps=>Xr C S f (first++aS++caps)
 | _=>none
def Zx (P:Program) (t u:TypeId) (S:zA) (n:Nat) (x y:PV):Option Out:=match (tyi P t).d with
 | .slice el=>if Zi (tyi P u).d=true∧vf (tyi P el)=true then yn (tyi P el).bytes (tyi P el).size S n x y else none
 | _=>none
def zV (P:Program) (base:Nat) (t u:TypeId) (S:zA) (x y:PV):Option Eff :=
 if exact x=true then (Zx P t u S S.length x y).map fun o => {v:=o.v,S:=xn S o.new}
 else match (tyi P t).d with
  | .slice el=>if Zi (tyi P u).d=true∧vf (tyi P el)=true then vz base (tyi P el).bytes (tyi P el).size S x y else none
  | _=>none
def yD (P:Program) (t u:TypeId) (S:zA) (x y:PV):Option Eff:=match (tyi P t).d,(tyi P u).d with
 | .slice el,.slice _=>if (tyi P el).known then jo (tyi P el).size S x y else none
 | _,_=>none
def zk (ti:TI) (S:zA) (a v:PV):Option Eff:=if ti.known then (yr ti.size S a v).map fun S => {v:=.skip,S} else none
inductive OR where
 | val (x:Option PV)
 | out (x:Option Out)
 | eff (x:Option Eff)
 | sto (x:Option Eff)
noncomputable def vg (C:Ctx) (o:Op) (e:Env) (S:zA):OR:=match QM C.P o e S with
 | some x=>.val x
 | none=>match o with
  | .alloc t=>.out (zj (tyi C.P t) S.length)
  | .box t x=>.out (yB S S.length (tyi C.P t).size (ev e x))
  | .buildSlice t len ps=>.out (zJ C.P t S.length len (ps.toList.map (·.1)) (ps.toList.map fun (_,x)=>(ev e x).cells))
  | .makeSlice t l c=>.out (zL C.P t S.length (ev e l) (ev e c))
  | .store t a x=>.sto (zk (tyi C.P t) S (ev e a) (ev e x))
  | .call c=>(match c.callee with
   | .builtin .append=>(match c.argTypes[0]?,c.argTypes[1]?,c.args.toList with
    | some t,some u,[x,y]=>.eff (zV C.P C.base t u S (ev e x) (ev e y))
    | _,_,_=>.out none)
   | .builtin .copy=>(match c.argTypes[0]?,c.argTypes[1]?,c.args.toList with
    | some t,some u,[x,y]=>.sto (yD C.P t u S (ev e x) (ev e y))
    | _,_,_=>.out none)
   | .value (.func f)=>if C.H.refs f then .sto (Xr C S f ([]++c.args.toList.map (ev e)++[])) else .out (zQ C.cp S f ([]++c.args.toList.map (ev e)++[]))
   | .value f=>.sto (QN C S (ev e f) (c.args.toList.map (ev e)))
   | _=>.out none)
  | _=>.out none
noncomputable def OR.step (q:OR) (d:Option Nat) (e:Env) (S:zA):Option (Env × zA):=match q with
 | .val x=>x.map fun v=>(putD e d v,S)
 | .out x=>x.map fun o=>(putD e d o.v,xn (zH S o.fz) o.new)
 | .eff x=>x.map fun r=>(putD (uH r.kill e) d r.v,r.S)
 | .sto x=>x.map fun r=>(putD e d r.v,r.S)
theorem Xs (e:Env):uH [] e=e:=rfl
theorem qX {x:Option Eff} (hk : ∀r,x=some r→r.kill=[]) {d:Option Nat} {e:Env} {S:zA} {q:Env × zA} (h:(OR.sto x).step d e S=some q):x.map (fun r=>(putD (uH r.kill e) d r.v,r.S))=some q:=by
 cases x with
 | none=>cases h
 | some r =>
  simp only[OR.step,bJ]at h ⊢;rw[hk r rfl,Xs];exact h
theorem UK {ti:TI} {S:zA} {a v:PV} : ∀r,zk ti S a v=some r→r.kill=[]:=fun r h=>by
 unfold zk at h
 split at h
 ·obtain⟨_,_,rfl⟩:=map_some h;rfl
 ·cases h
theorem Kk {P:Program} {t u:TypeId} {S:zA} {x y:PV} : ∀r,yD P t u S x y=some r→r.kill=[]:=fun r h=>by
 unfold yD at h
 split at h
 ·split at h
  ·unfold jo at h
   split at h
   ·split at h
    ·obtain⟨_,_,h⟩:=bind_some h
     split at h
     ·cases h;rfl
     ·cases h
    ·cases h
   ·cases h
  ·cases h
 ·cases h
theorem Y2 {C:Ctx} {S:zA} {f:FuncId} {l:List PV} : ∀r,Xr C S f l=some r→r.kill=[]:=fun r h=>by
 unfold Xr at h
 split at h
 ·obtain⟨_,_,h⟩:=bind_some h;dsimp only at h
  split at h
  ·cases h;rfl
  ·cases h
 ·obtain⟨_,_,h⟩:=bind_some h;obtain⟨_,_,rfl⟩:=map_some h;rfl
theorem Kl {C:Ctx} {S:zA} {f:PV} {l:List PV} : ∀r,QN C S f l=some r→r.kill=[]:=fun r h=>by
 unfold QN at h
 split at h
 ·exact Y2 r h
 ·cases h
theorem Qo {C:Ctx} {o:Oper} {e:Env} {S:zA} {e':Env} {S':zA} (h:(vg C o.op e S).step o.dst e S=some (e',S')) :
  (if yN C.H o e then (ev2 C o e S).map fun r=>(putD (uH r.kill e) o.dst r.v,r.S)
   else (ev1 C.P C.cp o e S S.length).map fun r=>(putD e o.dst r.v,xn (zH S r.fz) r.new))=some (e',S'):=by
 unfold vg at h
 cases hv:QM C.P o.op e S with
 | some x =>
  rw[hv]at h;simp only[OR.step]at h;obtain⟨h1,h2⟩:=Kj (H:=C.H) (cp:=C.cp) (nid:=S.length) hv;rw[h2,h1];simp only[bH,if_false,Option.map_map];exact h
 | none =>
  rw[hv]at h;simp only at h;obtain⟨dst,op,type,pos,after,guard⟩:=o;cases op
  case store t a x =>
   dsimp only at h;have h:=qX UK h;rw[←h];simp only[yN,if_true,ev2,zk]
  case call c =>
   dsimp only at h
   cases hc:c.callee with
   | invoke r m=>rw[hc]at h;cases h
   | value f =>
    rw[hc]at h;cases f with
    | func f =>
     simp only at h;by_cases hr:C.H.refs f=true
     ·rw[hZ hr]at h;have h:=qX Y2 h;simp only[Xr,hr,if_true]at h;simp only[yN,hc,hr,if_true,ev2,ev];exact h
     ·rw[hI hr]at h;simp only[zQ]at h;simp only[yN,hc,hr,if_false,bH,ev1,ev];exact h
    | _ =>
     have h:=qX Kl h;simp only[QN,Xr]at h;simp only[yN,hc,if_true,ev2];rw[←h];rfl
   | builtin b =>
    rw[hc]at h
    cases b <;> try (simp only[OR.step,aB,reduceCtorEq]at h;done)
    case append =>
     cases ht:c.argTypes[0]? with
     | none=>simp only[ht,OR.step,aB,reduceCtorEq]at h
     | some t =>
     cases hu:c.argTypes[1]? with
     | none=>simp only[ht,hu,OR.step,aB,reduceCtorEq]at h
     | some u =>
     obtain⟨x,y,hargs⟩ : ∃x y,c.args.toList=[x,y]:=by
      rcases hl:c.args.toList with _ | ⟨x,_ | ⟨y,_ | ⟨z,l⟩⟩⟩
      ·simp only[ht,hu,hl,OR.step,aB,reduceCtorEq]at h
      ·simp only[ht,hu,hl,OR.step,aB,reduceCtorEq]at h
      ·exact⟨x,y,rfl⟩
      ·simp only[ht,hu,hl,OR.step,aB,reduceCtorEq]at h
     simp only[ht,hu,hargs,OR.step]at h;have ha:c.args[0]? = some x:=by rw[←pE,hargs];rfl
     simp only[zV]at h;by_cases hx:exact (ev e x)=true
     ·rw[hZ hx]at h;simp only[yN,hc,ha,hx,HQ,bH,if_false,ev1,ht,hu,hargs];simp only[Zx,Option.map_map]at h;rw[←h];generalize (tyi C.P t).d=d1
      cases d1 <;> try rfl
      rename_i el;simp only
      split
      ·cases hq:yn (tyi C.P el).bytes (tyi C.P el).size S S.length (ev e x) (ev e y) with
       | none=>rfl
       | some o =>
        have hfz:o.fz=[]:=by
         unfold yn at hq;rw[hZ hx]at hq;obtain⟨_,_,hq⟩:=bind_some hq;obtain⟨_,_,hq⟩:=bind_some hq
         split at hq
         ·split at hq
          ·split at hq <;> (cases hq;rfl)
          ·cases hq;rfl
         ·cases hq
        simp only[bJ,hfz,Function.comp,Xs];rfl
      ·rfl
     ·rw[hI hx]at h;have hx':exact (ev e x)=false:=by simpa using hx
      simp only[yN,hc,ha,hx',aP,if_true,ev2,ht,hu,hargs];exact h
    case copy =>
     cases ht:c.argTypes[0]? with
     | none=>simp only[ht,OR.step,aB,reduceCtorEq]at h
     | some t =>
     cases hu:c.argTypes[1]? with
     | none=>simp only[ht,hu,OR.step,aB,reduceCtorEq]at h
     | some u =>
     obtain⟨x,y,hargs⟩ : ∃x y,c.args.toList=[x,y]:=by
      rcases hl:c.args.toList with _ | ⟨x,_ | ⟨y,_ | ⟨z,l⟩⟩⟩
      ·simp only[ht,hu,hl,OR.step,aB,reduceCtorEq]at h
      ·simp only[ht,hu,hl,OR.step,aB,reduceCtorEq]at h
      ·exact⟨x,y,rfl⟩
      ·simp only[ht,hu,hl,OR.step,aB,reduceCtorEq]at h
     simp only[ht,hu,hargs]at h;have h:=qX Kk h;simp only[yN,hc,if_true,ev2,ht,hu,hargs];exact h
  all_goals simp only[OR.step,aB,reduceCtorEq]at h
  case alloc t=>exact h
  case box t x=>exact h
  case buildSlice t len ps =>
   rw[←h];simp only[yN,bH,if_false,ev1,zJ];generalize (tyi C.P t).d=dd
   cases dd <;> rfl
  case makeSlice t l c=>exact h
noncomputable def xe (C:Ctx) (ops:Array Oper):List Oper→Env→zA→(Env→zA→Option R)→Option R
 | [],e,S,K=>K e S
 | o::r,e,S,K=>match o.guard with
  | none=>(match vg C o.op e S with
   | .val x=>UF x fun v=>xe C ops r (putD e o.dst v) S K
   | .out x=>UG x S fun v S=>xe C ops r (putD e o.dst v) S K
   | .eff x=>UH x e fun v e S=>xe C ops r (putD e o.dst v) S K
   | .sto x=>UI x fun v S=>xe C ops r (putD e o.dst v) S K)
  | some (j,want)=>(match (ops[j]?).bind (·.dst) with
   | none=>xe C ops r (putD e o.dst .skip) S K
   | some t=>(match vg C o.op e S with
    | .val x=>UF (zEL (get e t) want x) fun v=>xe C ops r (putD e o.dst v) S K
    | .out x=>UG (zEM (get e t) want x) S fun v S=>xe C ops r (putD e o.dst v) S K
    | .eff x=>UH (Qn (get e t) want S x) e fun v e S=>xe C ops r (putD e o.dst v) S K
    | .sto x=>UI (Qn (get e t) want S x) fun v S=>xe C ops r (putD e o.dst v) S K))
theorem Y3 {C:Ctx} {ops:Array Oper} : ∀(l:List Oper) {e:Env} {S:zA} {K:Env→zA→Option R} {z:R},xe C ops l e S K=some z→∃e' S',yi C ops l e S=some (e',S')∧K e' S'=some z
 | [],e,S,K,z,h=>⟨e,S,rfl,h⟩
 | o::r,e,S,K,z,h=>by
  have fin : ∀ {e1:Env} {S1:zA},xH C ops o e S=some (e1,S1)→xe C ops r e1 S1 K=some z→∃e' S',yi C ops (o::r) e S=some (e',S')∧K e' S'=some z:=fun hs hr=>by
   obtain⟨e',S',h1,h2⟩:=Y3 r hr;exact⟨e',S',by simp only[yi,hs,bC,h1],h2⟩
  have yes : ∀ {e1:Env} {S1:zA},xP ops e o=some true→(vg C o.op e S).step o.dst e S=some (e1,S1)→xH C ops o e S=some (e1,S1):=fun hw hs=>by
   simp only[xH,hw,bC,if_true];exact Qo hs
  have no:xP ops e o=some false→xH C ops o e S=some (putD e o.dst .skip,S):=fun hw=>by
   simp only[xH,hw,bC,bH,if_false]
  simp only[xe]at h
  cases hg:o.guard with
  | none =>
   rw[hg]at h;simp only at h;have hw:xP ops e o=some true:=by simp only[xP,hg]
   cases hq:vg C o.op e S with
   | val x =>
    rw[hq]at h;obtain⟨v,h1,h2⟩:=bind_some h;exact fin (yes hw (by rw[hq];simp only[OR.step,h1,bJ])) h2
   | out x =>
    rw[hq]at h;obtain⟨v,h1,h2⟩:=bind_some h;exact fin (yes hw (by rw[hq];simp only[OR.step,h1,bJ])) h2
   | eff x =>
    rw[hq]at h;obtain⟨v,h1,h2⟩:=bind_some h;exact fin (yes hw (by rw[hq];simp only[OR.step,h1,bJ])) h2
   | sto x =>
    rw[hq]at h;obtain⟨v,h1,h2⟩:=bind_some h;exact fin (yes hw (by rw[hq];simp only[OR.step,h1,bJ])) h2
  | some p =>
   obtain⟨j,want⟩:=p;rw[hg]at h;simp only at h
   cases ht:(ops[j]?).bind (·.dst) with
   | none =>
    rw[ht]at h;exact fin (no (by simp only[xP,hg,ht])) h
   | some t =>
    rw[ht]at h;simp only at h;have hw:xP ops e o=(match get e t with | .bool b=>some (b == want) | .skip=>some false | _=>none):=by
     simp only[xP,hg,ht]
     cases get e t <;> rfl
    cases hq:vg C o.op e S with
    | val x =>
     rw[hq]at h;obtain⟨v,h1,h2⟩:=bind_some h
     cases hv:get e t <;> rw[hv]at h1 hw <;> simp only[zEL,reduceCtorEq,Option.some.injEq]at h1
     case skip=>subst h1;exact fin (no hw) h2
     case bool b =>
      split at h1
      ·rename_i hb;exact fin (yes (by rw[hw,hb];simp) (by rw[hq];simp only[OR.step,h1,bJ])) h2
      ·rename_i hb;simp only[Option.some.injEq]at h1;subst h1;exact fin (no (by rw[hw];simp[hb])) h2
    | out x =>
     rw[hq]at h;obtain⟨v,h1,h2⟩:=bind_some h
     cases hv:get e t <;> rw[hv]at h1 hw <;> simp only[zEM,reduceCtorEq,Option.some.injEq]at h1
     case skip=>subst h1;exact fin (no hw) h2
     case bool b =>
      split at h1
      ·rename_i hb;exact fin (yes (by rw[hw,hb];simp) (by rw[hq];simp only[OR.step,h1,bJ])) h2
      ·rename_i hb;simp only[Option.some.injEq]at h1;subst h1;exact fin (no (by rw[hw];simp[hb])) h2
    | eff x =>
     rw[hq]at h;obtain⟨v,h1,h2⟩:=bind_some h
     cases hv:get e t <;> rw[hv]at h1 hw <;> simp only[Qn,reduceCtorEq,Option.some.injEq]at h1
     case skip=>subst h1;exact fin (no hw) h2
     case bool b =>
      split at h1
      ·rename_i hb;exact fin (yes (by rw[hw,hb];simp) (by rw[hq];simp only[OR.step,h1,bJ])) h2
      ·rename_i hb;simp only[Option.some.injEq]at h1;subst h1;exact fin (no (by rw[hw];simp[hb])) h2
    | sto x =>
     rw[hq]at h;obtain⟨v,h1,h2⟩:=bind_some h
     cases hv:get e t <;> rw[hv]at h1 hw <;> simp only[Qn,reduceCtorEq,Option.some.injEq]at h1
     case skip=>subst h1;exact fin (no hw) h2
     case bool b =>
      split at h1
      ·rename_i hb;exact fin (yes (by rw[hw,hb];simp) (by rw[hq];simp only[OR.step,h1,bJ])) h2
      ·rename_i hb;simp only[Option.some.injEq]at h1;subst h1;exact fin (no (by rw[hw];simp[hb])) h2
end
end Go.Vs
end
section
namespace Go.Vs
open Go
section
variable {R:Type}
def Xt (v:PV) (x y:Option R):Option R:=match v with
 | .bool t=>if t=true then x else y
 | _=>none
def uK (body:(Vs.X→Env→zA→Option R)→Env→zA→Option R) (norm:Env→zA→Option (Env × zA)) (K:Vs.X→Env→zA→Option R):Nat→Env→zA→Option R
 | 0,_,_=>none
 | n+1,e,S=>body (fun r e S=>match r with
  | .normal=>(norm e S).bind fun q=>uK body norm K n q.1 q.2
  | .exit i=>K (.exit i) e S
  | .ret=>K .ret e S) e S
def zEN (K':Env→zA→Option R) (K:Vs.X→Env→zA→Option R):Vs.X→Env→zA→Option R
 | .normal,e,S=>K' e S
 | .exit i,e,S=>K (.exit i) e S
 | .ret,e,S=>K .ret e S
def jv (id:Nat) (K:Vs.X→Env→zA→Option R):Vs.X→Env→zA→Option R
 | .exit i,e,S=>if i=id then K .normal e S else K (.exit i) e S
 | .normal,e,S=>K .normal e S
 | .ret,e,S=>K .ret e S
def uR (b n:Nat) (after:List Nat) (K:Vs.X→Env→zA→Option R):Vs.X→Env→zA→Option R
 | .exit i,e,S=>if i=b then K (.exit i) (keepOnly after e) (gc n (keepOnly after e) S) else K (.exit i) e S
 | .normal,e,S=>K .normal e S
 | .ret,e,S=>K .ret e S
end
def zEO (P:Program) (fn:Func) (x:Vs.X) (e:Env) (S:zA):Option (PV × zA):=match x with
 | .exit _=>none
 | .normal=>(wA P fn e S).map fun v=>(v,S)
 | .ret=>(wA P fn e S).map fun v=>(v,S)
end Go.Vs
end
section
namespace Go.Vs
open Go
section
variable {α β:Type}
def Evt (f:Nat→α) (z:α):Prop:=∃k0,∀k,k0≤k→f k=z
theorem Evt.unique {f:Nat→α} {y z:α} (h:Evt f y) (g:Evt f z):y=z:=by
 obtain⟨a,ha⟩:=h;obtain⟨b,hb⟩:=g;rw[←ha (max a b) (by omega),hb (max a b) (by omega)]
theorem Evt.const (z:α):Evt (fun _=>z) z:=⟨0,fun _ _=>rfl⟩
theorem Evt.map {f:Nat→α} {z:α} (h:Evt f z) (g:α→β):Evt (fun k=>g (f k)) (g z):=by
 obtain⟨a,ha⟩:=h;exact⟨a,fun k hk=>by simp only[ha k hk]⟩
theorem Evt.bind {f:Nat→Option α} {g:Nat→α→Option β} {y:α} {z:Option β} (h:Evt f (some y)) (k:Evt (fun n=>g n y) z):Evt (fun n=>(f n).bind (g n)) z:=by
 obtain⟨a,ha⟩:=h;obtain⟨b,hb⟩:=k;exact⟨max a b,fun n hn=>by simp only[ha n (by omega),bC,hb n (by omega)]⟩
theorem Evt.succ {f:Nat→α} {z:α} (h:Evt (fun k=>f (k+1)) z):Evt f z:=by
 obtain⟨a,ha⟩:=h;refine⟨a+1,fun k hk=>?_⟩;obtain⟨m,rfl⟩ : ∃m,k=m+1:=⟨k-1,by omega⟩;exact ha m (by omega)
open Classical in
noncomputable def lim (f:Nat→Option α):Option α:=if h : ∃z,Evt f (some z) then some h.choose else none
theorem kq {f:Nat→Option α} {z:Option α} (h:Evt f z):lim f=z:=by
 unfold lim
 split
 ·rename_i hq;exact (hq.choose_spec).unique h
 ·rename_i hq;cases z with
  | none=>rfl
  | some z=>exact absurd ⟨z,h⟩ hq
theorem uC {f:Nat→Option α} {z:α} (h:lim f=some z):Evt f (some z):=by
 unfold lim at h
 split at h
 ·rename_i hq;cases h;exact hq.choose_spec
 ·cases h
end
noncomputable def callRL (P:Program) (H:Hints) (f:FuncId) (args:List PV) (S:zA):Option (PV × zA):=lim fun k=>vC P H k f args S
noncomputable def callL (P:Program) (H:Hints) (f:FuncId) (args:List PV):Option PV:=(callRL P H f args []).bind fun r=>ym r.2 r.1
theorem ZN {P:Program} {H:Hints} {f:FuncId} {args:List PV} {v:PV} (h:callL P H f args=some v):Evt (fun k=>uU P H k f args) (some v):=by
 obtain⟨r,h1,h2⟩:=bind_some h;rw[←h2];exact (uC h1).map fun x=>x.bind fun r=>ym r.2 r.1
theorem zBB {P:Program} {H:Hints} {f:FuncId} {args:List PV} {v:PV} (h:callL P H f args=some v) : ∃n,uU P H n f args=some v:=by
 obtain⟨k,hk⟩:=ZN h;exact⟨k,hk k (bB _)⟩
noncomputable def xM (P:Program) (H:Hints) (base:Nat) (h:Hint):Ctx := {P,H,cp:=callL P H,cr:=callRL P H,base,h}
noncomputable def yV (P:Program) (H:Hints) (base:Nat) (h:Hint) (k:Nat):Ctx := {P,H,cp:=fun g aS=>(vC P H k g aS []).bind fun (r,S)=>ym S r,cr:=vC P H k,base,h}
section
variable {R:Type}
noncomputable def jh (body:(Vs.X→Env→zA→Option R)→Env→zA→Option R) (norm:Env→zA→Option (Env × zA)) (K:Vs.X→Env→zA→Option R) (e:Env) (S:zA):Option R:=lim fun n=>uK body norm K n e S
noncomputable def yY (C:Ctx):Nat→Code→(Vs.X→Env→zA→Option R)→Env→zA→Option R
 | _,.skip,K,e,S=>K .normal e S
 | _,.region id ops draw,K,e,S =>
  if draw=true then (if (wY ops (uT C.H ops)||wY ops (fun j=>(yj C ops ops.toList e S).getD j 0))=true then xe C ops ops.toList e S (fun e S=>K .normal (trim (C.h.at id) e) S) else none)
  else xe C ops ops.toList e S (fun e S=>K .normal (trim (C.h.at id) e) S)
 | b,.seq x y,K,e,S=>yY C b x (zEN (fun e S=>yY C b y K e S) K) e S
 | b,.cond c x y,K,e,S=>Xt (ev e c) (yY C b x K e S) (yY C b y K e S)
 | _,.block id body,K,e,S=>yY C id body (jv id K) e S
 | b,.loop body,K,e,S =>
  (C.h.loops.lookup b).bind fun h =>
  (fzSlots h.fz (ownAll h.own (keepOnly h.live e) S).1 (ownAll h.own (keepOnly h.live e) S).2).bind fun r =>
  jh (fun K e S=>yY C b body K e S) (vV h.live h.fz r.2.length) (uR b r.2.length h.after K) r.1 r.2
 | _,.exit id,K,e,S=>K (.exit id) e S
 | _,.ret,K,e,S=>K .ret e S
 | _,_,_,_,_=>none
def zHf (F:(Env→zA→Option R)→Option R):Prop:=∀K z,F K=some z→∃e S,K e S=some z∧∀K',F K'=K' e S
def Lin (F:(Vs.X→Env→zA→Option R)→Option R):Prop:=∀K z,F K=some z→∃x e S,K x e S=some z∧∀K',F K'=K' x e S
theorem xx (C:Ctx) (ops:Array Oper) : ∀(l:List Oper) (e:Env) (S:zA),zHf (R:=R) fun K=>xe C ops l e S K
 | [],e,S,K,z,h=>⟨e,S,h,fun _=>rfl⟩
 | o::r,e,S,K,z,h=>by
  simp only[xe]at h ⊢
  split at h
  ·split at h
   ·obtain⟨v,h1,h2⟩:=bind_some h;subst h1;exact xx C ops r _ _ K z h2
   ·obtain⟨v,h1,h2⟩:=bind_some h;subst h1;exact xx C ops r _ _ K z h2
   ·obtain⟨v,h1,h2⟩:=bind_some h;subst h1;exact xx C ops r _ _ K z h2
   ·obtain⟨v,h1,h2⟩:=bind_some h;subst h1;exact xx C ops r _ _ K z h2
  ·split at h
   ·rename_i ht;exact xx C ops r _ _ K z h
   ·rename_i ht
    split at h
    ·obtain⟨v,h1,h2⟩:=bind_some h;simp only[h1,UF,bC];exact xx C ops r _ _ K z h2
    ·obtain⟨v,h1,h2⟩:=bind_some h;simp only[h1,UG,bC];exact xx C ops r _ _ K z h2
    ·obtain⟨v,h1,h2⟩:=bind_some h;simp only[h1,UH,bC];exact xx C ops r _ _ K z h2
    ·obtain⟨v,h1,h2⟩:=bind_some h;simp only[h1,UI,bC];exact xx C ops r _ _ K z h2
theorem Xu {body:(Vs.X→Env→zA→Option R)→Env→zA→Option R} (hb : ∀e S,Lin fun K=>body K e S) {norm:Env→zA→Option (Env × zA)} : ∀(n:Nat) (K:Vs.X→Env→zA→Option R) (e:Env) (S:zA) (z:R),uK body norm K n e S=some z→∃x e' S',K x e' S'=some z∧∀K',jh body norm K' e S=K' x e' S'
 | 0,K,e,S,z,h=>by cases h
 | n+1,K,e,S,z,h=>by
  simp only[uK]at h;obtain⟨x,e1,S1,h1,h2⟩:=hb e S _ _ h;dsimp only at h2;cases x with
  | normal =>
   simp only at h1;obtain⟨q,h3,h4⟩:=bind_some h1;obtain⟨x,e2,S2,h5,h6⟩:=Xu hb n K _ _ z h4;refine⟨x,e2,S2,h5,fun K'=>?_⟩;rw[←h6 K'];unfold jh
   cases hl:lim fun n=>uK body norm K' n q.1 q.2 with
   | some y =>
    refine kq (Evt.succ ?_);simp only[uK,h2,h3,bC];exact uC hl
   | none =>
    cases hl':lim fun n=>uK body norm K' n e S with
    | none=>rfl
    | some y =>
     have:=uC hl';have h7:Evt (fun n=>uK body norm K' n q.1 q.2) (some y):=by
      obtain⟨k,hk⟩:=this;refine⟨k,fun m hm=>?_⟩;have:=hk (m+1) (by omega);simp only[uK,h2,h3,bC]at this;exact this
     rw[kq h7]at hl;cases hl
  | exit i =>
   refine⟨.exit i,e1,S1,h1,fun K'=>kq (Evt.succ ?_)⟩;simp only[uK,h2];exact .const _
  | ret =>
   refine⟨.ret,e1,S1,h1,fun K'=>kq (Evt.succ ?_)⟩;simp only[uK,h2];exact .const _
theorem Qp {body:(Vs.X→Env→zA→Option R)→Env→zA→Option R} (hb : ∀e S,Lin fun K=>body K e S) (norm:Env→zA→Option (Env × zA)) (e:Env) (S:zA):Lin fun K=>jh body norm K e S:=fun K z h=>by
 obtain⟨n,hn⟩:=uC h;exact Xu hb n K e S z (hn n (bB _))
theorem Qq (C:Ctx) : ∀(c:Code) (b:Nat) (e:Env) (S:zA),Lin (R:=R) fun K=>yY C b c K e S:=by
 intro c
 induction c with
 | skip=>intro b e S K z h;exact⟨_,_,_,h,fun _=>rfl⟩
 | region id ops draw =>
  intro b e S K z h;simp only[yY]at h ⊢
  split at h
  ·split at h
   ·rename_i hd;simp only[hd,if_true];obtain⟨e',S',h1,h2⟩:=xx C ops _ _ _ _ _ h;exact⟨_,_,_,h1,fun K'=>by rw[hZ (by assumption)];exact h2 _⟩
   ·cases h
  ·rename_i hd;obtain⟨e',S',h1,h2⟩:=xx C ops _ _ _ _ _ h;exact⟨_,_,_,h1,fun K'=>by rw[hI hd];exact h2 _⟩
 | seq p q ihp ihq =>
  intro b e S K z h;simp only[yY]at h ⊢;obtain⟨x,e1,S1,h1,h2⟩:=ihp b e S _ _ h;dsimp only at h2;cases x with
  | normal =>
   obtain⟨x,e2,S2,h3,h4⟩:=ihq b e1 S1 _ _ h1;dsimp only at h4;exact⟨x,e2,S2,h3,fun K'=>by rw[h2];exact h4 K'⟩
  | exit i=>exact⟨_,_,_,h1,fun K'=>by rw[h2];rfl⟩
  | ret=>exact⟨_,_,_,h1,fun K'=>by rw[h2];rfl⟩
 | cond o p q ihp ihq =>
  intro b e S K z h;simp only[yY]at h ⊢
  cases hv:ev e o <;> rw[hv]at h <;> simp only[Xt,reduceCtorEq]at h
  rename_i t;cases t with
  | true =>
   simp only[if_true]at h;obtain⟨x,e1,S1,h1,h2⟩:=ihp b e S _ _ h;dsimp only at h2;exact⟨x,e1,S1,h1,fun K'=>by simp only[Xt,if_true];exact h2 K'⟩
  | false =>
   simp only[bH,if_false]at h;obtain⟨x,e1,S1,h1,h2⟩:=ihq b e S _ _ h;dsimp only at h2;exact⟨x,e1,S1,h1,fun K'=>by simp only[Xt,bH,if_false];exact h2 K'⟩
 | block id body ih =>
  intro b e S K z h;simp only[yY]at h ⊢;obtain⟨x,e1,S1,h1,h2⟩:=ih id e S _ _ h;dsimp only at h2;cases x with
  | normal=>exact⟨_,_,_,h1,fun K'=>by rw[h2];rfl⟩
  | ret=>exact⟨_,_,_,h1,fun K'=>by rw[h2];rfl⟩
  | exit i =>
   simp only[jv]at h1;by_cases hi:i=id
   ·rw[hZ hi]at h1;exact⟨_,_,_,h1,fun K'=>by rw[h2];simp only[jv,hZ hi]⟩
   ·rw[hI hi]at h1;exact⟨_,_,_,h1,fun K'=>by rw[h2];simp only[jv,hI hi]⟩
 | loop body ih =>
  intro b e S K z h;simp only[yY]at h ⊢;obtain⟨hh,h1,h⟩:=bind_some h;obtain⟨r,h2,h⟩:=bind_some h;simp only[h1,h2,bC];obtain⟨x,e1,S1,h3,h4⟩:=Qp (fun e S=>ih b e S) _ _ _ _ _ h;dsimp only at h4;cases x with
  | normal=>exact⟨_,_,_,h3,fun K'=>by rw[h4];rfl⟩
  | ret=>exact⟨_,_,_,h3,fun K'=>by rw[h4];rfl⟩
  | exit i =>
   simp only[uR]at h3;by_cases hi:i=b
   ·rw[hZ hi]at h3;exact⟨_,_,_,h3,fun K'=>by rw[h4];simp only[uR,hZ hi]⟩
   ·rw[hI hi]at h3;exact⟨_,_,_,h3,fun K'=>by rw[h4];simp only[uR,hI hi]⟩
 | exit id=>intro b e S K z h;exact⟨_,_,_,h,fun _=>rfl⟩
 | ret=>intro b e S K z h;exact⟨_,_,_,h,fun _=>rfl⟩
 | _=>intro b e S K z h;simp[yY]at h
def zBC (norm:Env→zA→Option (Env × zA)) (K:Vs.X→Env→zA→Option R) (again:Env→zA→Option R):Vs.X→Env→zA→Option R
 | .normal,e,S=>(norm e S).bind fun q=>again q.1 q.2
 | .exit i,e,S=>K (.exit i) e S
 | .ret,e,S=>K .ret e S
theorem Km {C:Ctx} {b:Nat} {c:Code} {norm:Env→zA→Option (Env × zA)} {K:Vs.X→Env→zA→Option R} {e:Env} {S:zA} {z:R}
  (h:yY C b c (zBC norm K (jh (fun K e S=>yY C b c K e S) norm K)) e S=some z):jh (fun K e S=>yY C b c K e S) norm K e S=some z:=by
 obtain⟨x,e1,S1,h1,h2⟩:=Qq C c b e S _ _ h;dsimp only at h2;refine kq (Evt.succ ?_);simp only[uK,h2];cases x with
 | normal =>
  simp only[zBC]at h1;obtain⟨q,h3,h4⟩:=bind_some h1;simp only[h3,bC];exact uC h4
 | exit i=>exact⟨0,fun _ _=>h1⟩
 | ret=>exact⟨0,fun _ _=>h1⟩
end
end Go.Vs
end
