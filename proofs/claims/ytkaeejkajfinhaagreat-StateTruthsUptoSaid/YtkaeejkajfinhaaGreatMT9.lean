import Derived.IntWalk
import Derived.Test.YtkaeejkajfinhaaGreatMT8
set_option linter.unusedVariables false
set_option linter.unusedSimpArgs false
set_option maxRecDepth 100000
namespace Go.Vs
open Go Go.Proofs
section
noncomputable section
section
variable {α:Type}
noncomputable def Ug:Env→Nat→(PV→α)→α
 | [],_,k=>k .undef
 | (s,v)::r,t,k=>match Nat.beq s t with | true=>k v | false=>Ug r t k
noncomputable def zFO:Env→Nat→PV→(Env→α)→α
 | [],t,v,k=>k [(t,v)]
 | (s,u)::r,t,v,k=>match Nat.beq s t with | true=>k ((t,v)::r) | false=>zFO r t v fun r'=>k ((s,u)::r')
noncomputable def Xq (e:Env) (d:Option Nat) (v:PV) (k:Env→α):α:=match d with | some t=>zFO e t v k | none=>k e
noncomputable def zHV:List Nat→Env→(Env→α)→α
 | [],e,k=>k []
 | t::r,e,k=>Ug e t fun v=>zHV r e fun l=>k ((t,v)::l)
noncomputable def WI:List Nat→Nat→Bool
 | [],_=>false
 | a::r,t=>match Nat.beq a t with | true=>true | false=>WI r t
noncomputable def K0 (live:List Nat):Env→(Env→α)→α
 | [],k=>k []
 | (t,v)::r,k=>match WI live t with | true=>K0 live r fun l=>k ((t,v)::l) | false=>K0 live r fun l=>k ((t,.undef)::l)
noncomputable def zFP (c:Value) (k:PV→α):α:=match c with
 | .int i n=>k (.int i n)
 | .bool b=>k (.bool b)
 | .string s=>k (.str s)
 | .slice none 0 0=>k (.sl [] true)
 | v=>k (jr v)
noncomputable def evK (e:Env) (o:Operand) (k:PV→α):α:=match o with
 | .tmp t=>Ug e t k
 | .const c=>zFP c k
 | .global _=>k .undef
 | .func f=>k (.fn f [] [])
noncomputable def Yp (e:Env):List Operand→(List PV→α)→α
 | [],k=>k []
 | x::r,k=>evK e x fun v=>Yp e r fun l=>k (v::l)
noncomputable def zKS (e:Env) (o:Option Operand) (k:Option PV→α):α:=match o with
 | some x=>evK e x fun v=>k (some v)
 | none=>k none
noncomputable def zAj (e:Env):List (Nat × Operand)→(List (Nat × PV)→α)→α
 | [],k=>k []
 | (i,x)::r,k=>evK e x fun v=>zAj e r fun l=>k ((i,v)::l)
theorem K3 {a b:Nat} (h:Nat.beq a b=true):a=b:=Nat.eq_of_beq_eq_true h
theorem K4 {a b:Nat} (h:Nat.beq a b=false):a≠b:=Nat.ne_of_beq_eq_false h
theorem qU (t:Nat) (k:PV→α) : ∀e:Env,Ug e t k=k (get e t)
 | []=>rfl
 | (s,v)::r=>by
  simp only[Ug,get]
  cases h:Nat.beq s t with
  | true=>rw[bA (K3 h)]
  | false=>rw[hZ (K4 h)];exact qU t k r
theorem Wo (t:Nat) (v:PV) : ∀(e:Env) (k:Env→α),zFO e t v k=k (put e t v)
 | [],k=>rfl
 | (s,u)::r,k=>by
  simp only[zFO,put]
  cases h:Nat.beq s t with
  | true=>rw[bA (K3 h)]
  | false=>rw[hZ (K4 h)];exact Wo t v r _
theorem vF (e:Env) (d:Option Nat) (v:PV) (k:Env→α):Xq e d v k=k (putD e d v):=by
 cases d with
 | none=>rfl
 | some t=>exact Wo t v e k
theorem zCs : ∀(l:List Nat) (e:Env) (k:Env→α),zHV l e k=k (trim l e)
 | [],e,k=>rfl
 | t::r,e,k=>by simp only[zHV,qU,zCs r];rfl
theorem js (t:Nat) : ∀l:List Nat,WI l t=l.contains t
 | []=>rfl
 | a::r=>by
  simp only[WI,List.contains_cons]
  cases h:Nat.beq a t with
  | true=>have:=K3 h;subst this;simp
  | false =>
   have h2:=K4 h;have h3:(t == a)=false:=by simpa using fun e=>h2 e.symm
   rw[h3,bZ];exact js t r
theorem Yq (live:List Nat) : ∀(e:Env) (k:Env→α),K0 live e k=k (keepOnly live e)
 | [],k=>rfl
 | (t,v)::r,k=>by
  simp only[K0,js,keepOnly,pZ];cases live.contains t with
  | true=>exact Yq live r _
  | false=>exact Yq live r _
theorem zIR (c:Value) (k:PV→α):zFP c k=k (jr c):=by
 unfold zFP
 split <;> rfl
theorem qM (e:Env) (o:Operand) (k:PV→α):evK e o k=k (ev e o):=by
 cases o with
 | tmp t=>exact qU t k e
 | const c=>exact zIR c k
 | global _=>rfl
 | func f=>rfl
theorem kJ (e:Env) : ∀(l:List Operand) (k:List PV→α),Yp e l k=k (l.map (ev e))
 | [],k=>rfl
 | x::r,k=>by simp only[Yp,qM,kJ e r,pZ]
theorem zNE (e:Env) (o:Option Operand) (k:Option PV→α):zKS e o k=k (o.map (ev e)):=by
 cases o with
 | none=>rfl
 | some x=>simp only[zKS,qM,pG]
theorem Qe (e:Env) : ∀(l:List (Nat × Operand)) (k:List (Nat × PV)→α),zAj e l k=k (l.map fun p=>(p.1,ev e p.2))
 | [],k=>rfl
 | (i,x)::r,k=>by simp only[zAj,qM,Qe e r,pZ]
end
section
variable {R:Type}
noncomputable def Yr {A:Type} : Nat→Option A→(A→Option R)→Option R
 | 0,_,_=>none
 | _+1,some v,K=>K v
 | n+1,none,K=>Yr n none K
theorem zFQ {A:Type} (v:A) (K:A→Option R):Yr 1 (some v) K=K v:=nr rfl
theorem zFR {A:Type} (K:A→Option R):Yr 1 none K=none:=nr rfl
theorem vf {A:Type} (x:Option A) (K:A→Option R):Yr 1 x K=x.bind K:=by cases x <;> rfl
noncomputable def YX:Nat→Bool→Option R→Option R→Option R
 | 0,_,_,B=>B
 | _+1,true,A,_=>A
 | n+1,false,A,B=>YX n false A B
theorem zFS (A B:Option R):YX 1 true A B=A:=nr rfl
theorem zCt (A B:Option R):YX 1 false A B=B:=nr rfl
noncomputable def zAk (ids:List Nat) (v:PV) (k:PV→Option R):Option R:=match v with
 | .int a b=>k (.int a b)
 | .bool b=>k (.bool b)
 | .str s=>k (.str s)
 | .sl r x=>k (.sl r x)
 | .cp r=>k (.cp r)
 | .skip=>k .skip
 | .undef=>k .undef
 | .msl i o l x=>YX 1 (WI ids i) (k .undef) (k (.msl i o l x))
 | .mp i o l=>YX 1 (WI ids i) (k .undef) (k (.mp i o l))
 | v=>k (wW ids v)
noncomputable def zCu (ids:List Nat):Env→(Env→Option R)→Option R
 | [],k=>k []
 | (t,v)::r,k=>zAk ids v fun v=>zCu ids r fun l=>k ((t,v)::l)
theorem zIS (ids:List Nat) (v:PV) (k:PV→Option R):zAk ids v k=k (wW ids v):=by
 cases v <;> try rfl
 case msl i o l x =>
  simp only[zAk,js,wW,PV.refs,BB,BU,pJ]
  cases ids.contains i <;> rfl
 case mp i o l =>
  simp only[zAk,js,wW,PV.refs,BB,BU,pJ]
  cases ids.contains i <;> rfl
theorem Qf (ids:List Nat) : ∀(e:Env) (k:Env→Option R),zCu ids e k=k (e.map fun (t,v)=>(t,wW ids v))
 | [],k=>rfl
 | (t,v)::r,k=>by simp only[zCu,zIS,Qf ids r,pZ]
theorem K5 (ids:List Nat) (e:Env) (k:Env→Option R):zCu ids e k=k (qs ids e):=by
 rw[Qf];cases ids with
 | nil =>
  have h:(e.map fun (t,v)=>(t,wW [] v))=e:=by
   have : ∀v,wW [] v=v:=fun v=>by simp[wW]
   simp[this]
  rw[h];rfl
 | cons i r=>simp only[qs,reduceCtorEq,if_false]
noncomputable def zk (P:Program) (H:Hints) (S:zB) (f:FuncId) (xs:List PV):Option Eff :=
 if H.refs f then (callRL P H f xs S).bind fun (v,S')=>if S.length≤S'.length∧xY S=true∧xz S.length xs=true∧zCW (H.reads f) S S' then some {v,S:=S'} else none
 else (xc (vD S) xs).bind fun args=>(callL P H f args).map fun v => {v,S:=zH S (wS S 8 (xs.flatMap PV.refs))}
noncomputable def zf (P:Program) (H:Hints) (S:zB) (f:PV) (xs:List PV):Option Eff:=match f with
 | .fn f first caps=>zk P H S f (first++xs++caps)
 | _=>none
noncomputable def zUa:BinOp→Bool
 | .quo | .rem | .shl | .shr=>false
 | _=>true
noncomputable def Zz (P:Program) (H:Hints) (h:Hint) (b0:Nat) (o:Op) (e:Env) (S:zB) (F:Bool→OR→Option R):Option R:=match o with
 | .move x | .assign x=>evK e x fun a=>F true (.val (some a))
 | .pick c a b=>evK e c fun c=>evK e a fun a=>evK e b fun b=>F true (.val (zKN c a b))
 | .build t ps=>zAj e ps.toList fun l=>F false (.val (zV P t l))
 | .makeFunc (.func f) first caps=>Yp e first.toList fun a=>Yp e caps.toList fun b=>F true (.val (some (.fn f a b)))
 | .extract x i=>evK e x fun x=>F true (.val (Z7 x i))
 | .nilCheck x=>evK e x fun x=>F true (.val (XQ x))
 | .index t x i=>evK e x fun x=>evK e i fun i=>F false (.val (za P t x i))
 | .load t a=>evK e a fun a=>F false (.val (zZ (tyi P t) S a))
 | .binOp op t x yo _=>evK e x fun x=>evK e yo fun y=>(match x,y with | .int k a,.int k' b=>F (zUa op) (.val (xQ op (tyi P t) (.int k a) (.int k' b))) | a,b=>F false (.val (qe op (tyi P t) yo a b)))
 | .unOp op _ x=>evK e x fun x=>F true (.val (zEz op x))
 | .convert s d x=>evK e x fun x=>F false (.val (zL P s d S x))
 | .slice t x lo hi mx=>evK e x fun x=>zKS e lo fun lo=>zKS e hi fun hi=>zKS e mx fun mx=>F false (.val (zX P t S x lo hi mx))
 | .fieldAddr t x f=>evK e x fun x=>F false (.val (zA (tyi P t) f x))
 | .field t x f=>evK e x fun x=>F false (.val (zK (tyi P t) f x))
 | .indexAddr t x i=>evK e x fun x=>evK e i fun i=>F false (.val (zI P t S x i))
 | .alloc t=>F false (.out (zU (tyi P t) S.length))
 | .box t x=>evK e x fun x=>F false (.out (zs S S.length (tyi P t).size x))
 | .buildSlice t len ps=>Yp e (ps.toList.map (·.2)) fun l=>F false (.out (zG P t S.length len (ps.toList.map (·.1)) (l.map PV.cells)))
 | .makeSlice t l c=>evK e l fun l=>evK e c fun c=>F false (.out (zJ P t S.length l c))
 | .store t a x=>evK e a fun a=>evK e x fun x=>F false (.sto (zW (tyi P t) S a x))
 | .call c=>(match c.callee with
  | .builtin .len=>(match c.argTypes.toList,c.args.toList with | t::_,x::_=>evK e x fun x=>F false (.val (yL (tyi P t) x)) | _,_=>F false (ja (uc P H b0 h) o e S))
  | .builtin .max=>Yp e c.args.toList fun l=>F true (.val (zMz l))
  | .builtin .min=>Yp e c.args.toList fun l=>F true (.val (zNA l))
  | .builtin .append=>(match c.argTypes.toList,c.args.toList with
   | t::u::_,[x,y]=>evK e x fun x=>evK e y fun y=>F false (.eff (zQ P b0 t u S x y))
   | _,_=>F false (ja (uc P H b0 h) o e S))
  | .builtin .copy=>(match c.argTypes.toList,c.args.toList with
   | t::u::_,[x,y]=>evK e x fun x=>evK e y fun y=>F false (.sto (zr P t u S x y))
   | _,_=>F false (ja (uc P H b0 h) o e S))
  | .value (.func f)=>(match H.refs f with
   | true=>Yp e c.args.toList fun l=>F false (.sto (zk P H S f l))
   | false=>Yp e c.args.toList fun l=>F false (.out (zO (callL P H) S f l)))
  | .value f=>evK e f fun f=>Yp e c.args.toList fun l=>F false (.sto (zf P H S f l))
  | _=>F false (ja (uc P H b0 h) o e S))
 | o=>F false (ja (uc P H b0 h) o e S)
theorem zHW (P:Program) (H:Hints) (b0:Nat) (h:Hint) (o:Op) (e:Env) (S:zB) (F:Bool→OR→Option R) (hF : ∀a q,F a q=F true q):Zz P H h b0 o e S F=F true (ja (uc P H b0 h) o e S):=by
 have hf : ∀q,F false q=F true q:=fun q=>hF false q
 cases o <;> try rfl
 all_goals try exact hf _
 all_goals try (simp only[Zz,qM,zNE,kJ,Qe,hf];rfl)
 case binOp op t x y u =>
  simp only[Zz,qM,hf];have h0:ja (uc P H b0 h) (.binOp op t x y u) e S=.val (qe op (tyi P t) y (ev e x) (ev e y)):=rfl;rw[h0]
  cases ev e x <;> cases ev e y <;> first | rfl | exact hF _ _
 case makeFunc fn first caps =>
  cases fn <;> first | (simp only[Zz,kJ];rfl) | (simp only[Zz,hf])
 case buildSlice t len ps =>
  simp only[Zz,kJ,List.map_map,hf];rfl
 case call c =>
  obtain⟨ce,xs,ts⟩:=c;cases ce with
  | invoke r m=>simp only[Zz,hf]
  | value f =>
   cases f with
   | func f =>
    simp only[Zz,kJ,hf];have h0:ja (uc P H b0 h) (.call ⟨.value (.func f),xs,ts⟩) e S=if H.refs f then .sto (zk P H S f ([]++xs.toList.map (ev e)++[])) else .out (zO (callL P H) S f ([]++xs.toList.map (ev e)++[])):=rfl;rw[h0]
    cases H.refs f <;> simp
   | tmp t=>simp only[Zz,qM,kJ,hf];rfl
   | const t=>simp only[Zz,qM,kJ,hf];rfl
   | global t=>simp only[Zz,qM,kJ,hf];rfl
  | builtin b =>
   cases b <;> try (first | rfl | (simp only[Zz,hf];done))
   case len =>
    simp only[Zz,qM,hf];have h0:ja (uc P H b0 h) (.call ⟨.builtin .len,xs,ts⟩) e S=(match (match ts[0]?,xs[0]? with | some t,some x=>some (yL (tyi P t) (ev e x)) | _,_=>none) with | some x=>OR.val x | none=>.out none):=rfl;rw[h0];obtain⟨ts⟩:=ts;obtain⟨xs⟩:=xs
    rcases ts with _ | ⟨t,ts⟩ <;> rcases xs with _ | ⟨x,xs⟩ <;> rfl
   case append =>
    simp only[Zz,qM,hf];have h0:ja (uc P H b0 h) (.call ⟨.builtin .append,xs,ts⟩) e S=(match ts[0]?,ts[1]?,xs.toList with
    | some t,some u,[x,y]=>OR.eff (zQ P b0 t u S (ev e x) (ev e y))
    | _,_,_=>.out none):=rfl
    rw[h0];obtain⟨ts⟩:=ts;obtain⟨l⟩:=xs
    rcases l with _ | ⟨x,_ | ⟨y,_ | ⟨w,l⟩⟩⟩ <;> rcases ts with _ | ⟨t,_ | ⟨u,ts⟩⟩ <;> rfl
   case copy =>
    simp only[Zz,qM,hf];have h0:ja (uc P H b0 h) (.call ⟨.builtin .copy,xs,ts⟩) e S=(match ts[0]?,ts[1]?,xs.toList with
    | some t,some u,[x,y]=>OR.sto (zr P t u S (ev e x) (ev e y))
    | _,_,_=>.out none):=rfl
    rw[h0];obtain⟨ts⟩:=ts;obtain⟨l⟩:=xs
    rcases l with _ | ⟨x,_ | ⟨y,_ | ⟨w,l⟩⟩⟩ <;> rcases ts with _ | ⟨t,_ | ⟨u,ts⟩⟩ <;> rfl
   case max=>simp only[Zz,kJ];rfl
   case min=>simp only[Zz,kJ];rfl
noncomputable def orK (q:OR) (e:Env) (S:zB) (d:Option Nat) (K:Env→zB→Option R):Option R:=match q with
 | .val x=>Yr 1 x fun v=>Xq e d v fun e=>K e S
 | .out x=>Yr 1 x fun o=>Xq e d o.v fun e=>K e (uT (zH S o.fz) o.new)
 | .eff x=>Yr 1 x fun r=>zCu r.kill e fun e=>Xq e d r.v fun e=>K e r.S
 | .sto x=>Yr 1 x fun r=>Xq e d r.v fun e=>K e r.S
noncomputable def zKT (g:PV) (want:Bool) (A B:Option R):Option R:=match g with
 | .bool b=>(match want with | true=>YX 1 b A B | false=>YX 1 b B A)
 | .skip=>B
 | _=>none
theorem XR (g:PV) (want:Bool) (A B:Option R):zKT g want A B=(match g with | .bool b=>if b=want then A else B | .skip=>B | _=>none):=by
 cases g <;> try rfl
 rename_i b
 cases b <;> cases want <;> rfl
noncomputable def doK (P:Program) (H:Hints) (h:Hint) (b0:Nat) (o:Oper) (e:Env) (S:zB) (K1 K2:Env→zB→Option R):Option R:=match o.dst with
 | some d=>Zz P H h b0 o.op e S fun now q=>(match now with | true=>orK q e S (some d) K1 | false=>orK q e S (some d) K2)
 | none=>Zz P H h b0 o.op e S fun now q=>(match now with | true=>orK q e S none K1 | false=>orK q e S none K2)
theorem zAl (P:Program) (H:Hints) (h:Hint) (b0:Nat) (o:Oper) (e:Env) (S:zB) (K:Env→zB→Option R):doK P H h b0 o e S K K=orK (ja (uc P H b0 h) o.op e S) e S o.dst K:=by
 unfold doK;cases o.dst with
 | none =>
  dsimp only;rw[zHW _ _ _ _ _ _ _ _ fun a q=>by cases a <;> rfl]
 | some d =>
  dsimp only;rw[zHW _ _ _ _ _ _ _ _ fun a q=>by cases a <;> rfl]
noncomputable def opK (P:Program) (H:Hints) (h:Hint) (b0:Nat) (dsts:Nat→Option Nat) (o:Oper) (e:Env) (S:zB) (K:Env→zB→Option R):Option R:=match o.guard with
 | none=>doK P H h b0 o e S K K
 | some (j,want)=>(match dsts j with
  | none=>Xq e o.dst .skip fun e=>K e S
  | some t=>Ug e t fun g=>zKT g want (doK P H h b0 o e S K K) (Xq e o.dst .skip fun e=>K e S))
theorem zOp (P:Program) (H:Hints) (b0:Nat) (h:Hint) (ops:Array Oper) (o:Oper) (r:List Oper) (e:Env) (S:zB) (K:Env→zB→Option R):uA (uc P H b0 h) ops (o::r) e S K=opK P H h b0 (fun j=>(ops[j]?).bind (·.dst)) o e S fun e S=>uA (uc P H b0 h) ops r e S K:=by
 simp only[uA,opK,zAl,vF,qU];cases o.guard with
 | none =>
  dsimp only
  cases ja (uc P H b0 h) o.op e S with
  | val x=>cases x <;> simp only[orK,vf,zCl,vF,bI,HT]
  | out x=>cases x <;> simp only[orK,vf,zCm,vF,bI,HT]
  | eff x=>cases x <;> simp only[orK,vf,zCn,vF,K5,bI,HT]
  | sto x=>cases x <;> simp only[orK,vf,zCo,vF,bI,HT]
 | some jw =>
  obtain⟨j,want⟩:=jw;dsimp only
  cases (ops[j]?).bind (·.dst) with
  | none=>rfl
  | some t =>
   dsimp only
   cases ja (uc P H b0 h) o.op e S with
   | val x=>cases get e t <;> simp only[zOk,XR] <;> (try rfl) <;> (split <;> (try rfl)) <;> cases x <;> simp only[orK,vf,zCl,vF,bI,HT]
   | out x=>cases get e t <;> simp only[zOl,XR] <;> (try rfl) <;> (split <;> (try rfl)) <;> cases x <;> simp only[orK,vf,zCm,vF,bI,HT]
   | eff x=>cases get e t <;> simp only[zIM,XR] <;> (try rfl) <;> (split <;> (try rfl)) <;> cases x <;> simp only[orK,vf,zCn,vF,K5,bI,HT]
   | sto x=>cases get e t <;> simp only[zIM,XR] <;> (try rfl) <;> (split <;> (try rfl)) <;> cases x <;> simp only[orK,vf,zCo,vF,bI,HT]
end
noncomputable def kid:Code→Nat→Code
 | .seq a b,i=>(match i with | 0=>a | _=>b)
 | .cond _ a b,i=>(match i with | 0=>a | _=>b)
 | .block _ a,_=>a
 | .loop a,_=>a
 | _,_=>.skip
noncomputable def K6:Nat→Code→Nat→Code
 | 0,c,_=>c
 | n+1,c,p=>match Nat.ble p 1 with | true=>c | false=>kid (K6 n c (p / 2)) (p % 2)
noncomputable def sub (c:Code) (p:Nat):Code:=K6 200 c p
noncomputable def far:Nat:=2^199
theorem Qg : ∀(n:Nat) (c:Code) (p:Nat),p<2^n→K6 (n+1) c p=K6 n c p
 | 0,c,p,h=>by
  have:Nat.ble p 1=true:=by rw[Nat.ble_eq];omega
  simp only[K6,this]
 | n+1,c,p,h=>by
  have h2:p / 2<2^n:=by rw[Nat.pow_succ]at h;omega
  rw[K6,Qg n c _ h2];rfl
theorem zHX (c:Code) (p i:Nat) (hp:1≤p) (hf:p<2^199) (hi:i<2):sub c (2*p+i)=kid (sub c p) i:=by
 have h:Nat.ble (2*p+i) 1=false:=by
  cases hb:Nat.ble (2*p+i) 1 with
  | false=>rfl
  | true=>rw[Nat.ble_eq]at hb;omega
 have e:sub c p=K6 199 c p:=Qg 199 c p hf;rw[e]
 show K6 (199+1) c (2*p+i)=_
 rw[K6,h];have e1:(2*p+i) / 2=p:=by omega
 have e2:(2*p+i) % 2=i:=by omega
 simp only[e1,e2]
inductive Md where
 | at (b p:Nat) | ops (b p j:Nat) | opy (b p j:Nat) | opn (b p j:Nat) | nor | exi (i:Nat)
inductive Fr where
 | seq (b p:Nat) | blk (i:Nat) | lop (b p n:Nat)
structure FX where
 fn:Func
 h:Hint
 dyn:List Nat:=[]
noncomputable def FX.C (F:FX) (b0:Nat):Ctx:=uc Tryz.prog zE b0 F.h
noncomputable def FX.root (F:FX):Code:=match F.fn.body with | some c=>c | none=>.skip
abbrev RS1:=Option (PV × zB)
abbrev KS:=Vs.X→Env→zB→RS1
noncomputable def FX.lh (F:FX) (b:Nat):LoopHint:=match F.h.loops.lookup b with | some h=>h | none => {live:=[],after:=[]}
noncomputable def ww (b0:Nat) (F:FX):List Fr→KS
 | []=>zOn Tryz.prog F.fn
 | .seq b p::r=>zOm (fun e S=>xy (F.C b0) b (sub F.root p) (ww b0 F r) e S) (ww b0 F r)
 | .blk i::r=>WF i (ww b0 F r)
 | .lop b p n::r=>zKP (qf (F.lh b).live (F.lh b).fz n) (ZT b n (F.lh b).after (ww b0 F r)) (fun e S=>Xo (fun K e S=>xy (F.C b0) b (sub F.root p) K e S) (qf (F.lh b).live (F.lh b).fz n) (ZT b n (F.lh b).after (ww b0 F r)) e S)
noncomputable def Jl (b0:Nat) (F:FX) (m:Md) (fs:List Fr) (e:Env) (S:zB):RS1:=match m with
 | .at b p=>xy (F.C b0) b (sub F.root p) (ww b0 F fs) e S
 | .ops b p j=>(match sub F.root p with
  | .region id ops _=>uA (F.C b0) ops (ops.toList.drop j) e S fun e S=>ww b0 F fs .normal (trim (F.h.at id) e) S
  | _=>none)
 | .opy b p j=>(match sub F.root p with
  | .region id ops _=>(match ops.toList.drop j with
   | []=>none
   | o::_=>orK (ja (F.C b0) o.op e S) e S o.dst fun e S=>uA (F.C b0) ops (ops.toList.drop (j+1)) e S fun e S=>ww b0 F fs .normal (trim (F.h.at id) e) S)
  | _=>none)
 | .opn b p j=>(match sub F.root p with
  | .region id ops _=>(match ops.toList.drop j with
   | []=>none
   | o::_=>uA (F.C b0) ops (ops.toList.drop (j+1)) (putD e o.dst .skip) S fun e S=>ww b0 F fs .normal (trim (F.h.at id) e) S)
  | _=>none)
 | .nor=>ww b0 F fs .normal e S
 | .exi i=>ww b0 F fs (.exit i) e S
noncomputable def zKU (b0:Nat) (F:FX) (b p n:Nat) (fs:List Fr) (e:Env) (S:zB):RS1 :=
 Xo (fun K e S=>xy (F.C b0) b (sub F.root p) K e S) (qf (F.lh b).live (F.lh b).fz n) (ZT b n (F.lh b).after (ww b0 F fs)) e S
theorem zKV : ∃f:Nat→FX→Md→List Fr→Env→zB→RS1,f=Jl:=⟨_,rfl⟩
theorem zHY : ∃f:Nat→FX→Nat→Nat→Nat→List Fr→Env→zB→RS1,f=zKU:=⟨_,rfl⟩
theorem zHZ : ∃f:Nat→FX→Nat→List Fr→Env→zB→RS1,f=fun b0 F i fs e S=>Jl b0 F (.exi i) fs e S:=⟨_,rfl⟩
noncomputable def sem:Nat→FX→Md→List Fr→Env→zB→RS1:=Classical.choose zKV
noncomputable def zT:Nat→FX→Nat→Nat→Nat→List Fr→Env→zB→RS1:=Classical.choose zHY
noncomputable def yD:Nat→FX→Nat→List Fr→Env→zB→RS1:=Classical.choose zHZ
theorem Ys (b0:Nat) (F:FX) (m:Md) (fs:List Fr) (e:Env) (S:zB):sem b0 F m fs e S=Jl b0 F m fs e S:=by rw[sem,SU zKV]
theorem jb (b0:Nat) (F:FX) (b p n:Nat) (fs:List Fr) (e:Env) (S:zB):zT b0 F b p n fs e S=zKU b0 F b p n fs e S:=by rw[zT,SU zHY]
theorem jc (b0:Nat) (F:FX) (i:Nat) (fs:List Fr) (e:Env) (S:zB):yD b0 F i fs e S=Jl b0 F (.exi i) fs e S:=by rw[yD,SU zHZ]
section
variable {R:Type}
noncomputable def zFT:List Nat→Env→zB→(Env→zB→Option R)→Option R
 | [],e,S,k=>k e S
 | t::r,e,S,k=>match Nat.blt t 1000 with
  | true=>Ug e t fun x=>(match x with
   | .sl [] true=>zFO e t (.msl S.length 0 0 false) fun e=>zFT r e (S++[.arr [] (some none) false]) k
   | .msl id off len true=>zFO e t (.msl id off len false) fun e=>zFT r e S k
   | _=>zFT r e S k)
  | false=>Ug e (t % 1000) fun x=>zFT r e (ownMem S x (t / 1000-1)) k
noncomputable def fzK:List Nat→Env→zB→(Env→zB→Option R)→Option R
 | [],e,S,k=>k e S
 | t::r,e,S,k=>Ug e t fun x=>match vD S x with
  | some v=>zFO e t v fun e=>fzK r e (zH S (wS S 8 x.refs)) k
  | none=>none
theorem Wp : ∀(l:List Nat) (e:Env) (S:zB) (k:Env→zB→Option R),zFT l e S k=k (ownAll l e S).1 (ownAll l e S).2
 | [],e,S,k=>rfl
 | t::r,e,S,k=>by
  have e1:ownAll (t::r) e S=ownAll r (own1 e S t).1 (own1 e S t).2:=rfl;rw[e1];simp only[zFT,qU,own1]
  cases hb:Nat.blt t 1000 with
  | true =>
   have ht:t<1000:=Eq.mp Nat.blt_eq hb;rw[bA ht];dsimp only;generalize hx:get e t=x
   split
   ·simp only[Wo,Wp r]
   ·simp only[Wo,Wp r]
   ·rename_i h1 h2
    split
    ·exact (h1 rfl).elim
    ·exact (h2 _ _ _ rfl).elim
    ·exact Wp r _ _ _
  | false =>
   have ht : ¬t<1000:=fun h=>by rw[Eq.mpr Nat.blt_eq h]at hb;cases hb
   rw[hZ ht];exact Wp r _ _ _
theorem zFU : ∀(l:List Nat) (e:Env) (S:zB) (k:Env→zB→Option R),fzK l e S k=(fzSlots l e S).bind fun r=>k r.1 r.2
 | [],e,S,k=>rfl
 | t::r,e,S,k=>by
  simp only[fzK,qU,fzSlots,fzSlot]
  cases vD S (get e t) with
  | none=>rfl
  | some v=>simp only[Wo,zFU r,pG,bI]
end
noncomputable def zIT (P:Program) (e:Env) (S:zB):List ResultVar→(List PV→RS1)→RS1
 | [],k=>k []
 | .tmp t::r,k=>Ug e t fun v=>zIT P e S r fun l=>k (v::l)
 | .cell a t::r,k=>Ug e a fun a=>Yr 1 (zZ (tyi P t) S a) fun v=>zIT P e S r fun l=>k (v::l)
noncomputable def zNF (F:FX) (e:Env) (S:zB):RS1:=zIT Tryz.prog e S F.fn.results.toList fun vs=>match vs with | [v]=>some (v,S) | vs=>some (.tup vs,S)
theorem zAm (P:Program) (e:Env) (S:zB) : ∀(rs:List ResultVar) (k:List PV→RS1),zIT P e S rs k=(xc (uZ P e S) rs).bind k
 | [],k=>rfl
 | .tmp t::r,k=>by
  simp only[zIT,qU,zAm P e S r,xc,uZ,bI]
  cases xc (uZ P e S) r <;> rfl
 | .cell a t::r,k=>by
  simp only[zIT,qU,xc,uZ,vf]
  cases zZ (tyi P t) S (get e a) with
  | none=>rfl
  | some v =>
   simp only[bI,zAm P e S r]
   cases xc (uZ P e S) r <;> rfl
theorem zH0 (F:FX) (e:Env) (S:zB):zNF F e S=(ut Tryz.prog F.fn e S).map fun v=>(v,S):=by
 unfold zNF ut;rw[zAm]
 cases xc (uZ Tryz.prog e S) F.fn.results.toList with
 | none=>rfl
 | some vs =>
  simp only[bI,pG]
  rcases vs with _ | ⟨v,_ | ⟨w,vs⟩⟩ <;> rfl
noncomputable def zKW (v:PV) (A B:RS1):RS1:=match v with
 | .bool t=>YX 1 t A B
 | _=>none
theorem zKX (v:PV) (A B:RS1):zKW v A B=Qb v A B:=by
 cases v <;> try rfl
 rename_i b
 cases b <;> rfl
noncomputable def zNG (b0:Nat) (F:FX) (p:Nat) (e:Env) (S:zB):Bool:=match sub F.root p with
 | .region _ ops _=>uX ops (Z3 zE ops)||uX ops (fun j=>(wI (F.C b0) ops ops.toList e S).getD j 0)
 | _=>false
theorem zKY : ∃f:Nat→FX→Nat→Env→zB→Bool,f=zNG:=⟨_,rfl⟩
noncomputable def zCv:Nat→FX→Nat→Env→zB→Bool:=Classical.choose zKY
theorem zH1 (b0:Nat) (F:FX) (p:Nat) (e:Env) (S:zB):zCv b0 F p e S=zNG b0 F p e S:=by rw[zCv,SU zKY]
noncomputable def qy (b0:Nat) (F:FX) (_:Nat) (ih:Md→List Fr→Env→zB→RS1) (m:Md) (fs:List Fr) (e:Env) (S:zB):RS1:=match m with
  | .at b p=>(match Nat.ble 1 p&&Nat.blt p far with
   | false=>sem b0 F (.at b p) fs e S
   | true=>(match sub F.root p with
    | .skip=>ih .nor fs e S
    | .seq _ _=>ih (.at b (2*p)) (.seq b (2*p+1)::fs) e S
    | .cond c _ _=>evK e c fun v=>zKW v (sem b0 F (.at b (2*p)) fs e S) (sem b0 F (.at b (2*p+1)) fs e S)
    | .block i _=>ih (.at i (2*p)) (.blk i::fs) e S
    | .exit i=>ih (.exi i) fs e S
    | .ret=>zNF F e S
    | .region id ops d=>(match d&&WI F.dyn id with
     | true=>(match zCv b0 F p e S with | true=>ih (.ops b p 0) fs e S | false=>none)
     | false=>ih (.ops b p 0) fs e S)
    | .loop _=>(match F.h.loops.lookup b with
     | none=>none
     | some h=>K0 h.live e fun e=>zFT h.own e S fun e S=>fzK h.fz e S fun e S=>zT b0 F b (2*p) S.length fs e S)
    | _=>none))
  | .ops b p j=>(match sub F.root p with
   | .region id ops _=>(match ops.toList.drop j with
    | []=>zHV (F.h.at id) e fun e=>ih .nor fs e S
    | o::_=>(match o.guard with
     | none=>doK Tryz.prog zE F.h b0 o e S (fun e S=>ih (.ops b p (j+1)) fs e S) (fun e S=>sem b0 F (.ops b p (j+1)) fs e S)
     | some (i,want)=>(match (ops[i]?).bind (·.dst) with
      | none=>Xq e o.dst .skip fun e=>ih (.ops b p (j+1)) fs e S
      | some t=>Ug e t fun g=>(match g with
       | .bool g=>(match want with
        | true=>YX 1 g (sem b0 F (.opy b p j) fs e S) (sem b0 F (.opn b p j) fs e S)
        | false=>YX 1 g (sem b0 F (.opn b p j) fs e S) (sem b0 F (.opy b p j) fs e S))
       | .skip=>Xq e o.dst .skip fun e=>ih (.ops b p (j+1)) fs e S
       | _=>none))))
   | _=>none)
  | .opy b p j=>(match sub F.root p with
   | .region id ops _=>(match ops.toList.drop j with
    | []=>none
    | o::_=>doK Tryz.prog zE F.h b0 o e S (fun e S=>ih (.ops b p (j+1)) fs e S) (fun e S=>sem b0 F (.ops b p (j+1)) fs e S))
   | _=>none)
  | .opn b p j=>(match sub F.root p with
   | .region id ops _=>(match ops.toList.drop j with
    | []=>none
    | o::_=>Xq e o.dst .skip fun e=>ih (.ops b p (j+1)) fs e S)
   | _=>none)
  | .nor=>(match fs with
   | []=>zNF F e S
   | .seq b p::r=>ih (.at b p) r e S
   | .blk _::r=>ih .nor r e S
   | .lop b p k::r=>K0 (F.lh b).live e fun e=>fzK (F.lh b).fz e S fun e S=>zT b0 F b p k r e (gc k e S))
  | .exi i=>(match fs with
   | []=>none
   | .seq _ _::r=>ih (.exi i) r e S
   | .blk j::r=>(match Nat.beq i j with | true=>ih .nor r e S | false=>ih (.exi i) r e S)
   | .lop b _ k::r=>(match Nat.beq i b with | true=>K0 (F.lh b).after e fun e=>yD b0 F i r e (gc k e S) | false=>ih (.exi i) r e S))
noncomputable def run (b0:Nat) (F:FX):Nat→Md→List Fr→Env→zB→RS1
 | 0,m,fs,e,S=>sem b0 F m fs e S
 | n+1,m,fs,e,S=>qy b0 F n (run b0 F n) m fs e S
theorem Z8 (b0:Nat) (F:FX) (n:Nat) (m:Md) (fs:List Fr) (e:Env) (S:zB):run b0 F (n+1) m fs e S=qy b0 F n (run b0 F n) m fs e S:=rfl
noncomputable def FX.good (F:FX):Bool:=goodC zE F.dyn F.root
where goodC (H:Hints) (dyn:List Nat):Code→Bool
 | .region id ops d=>if d=true then WI dyn id||uX ops (Z3 H ops) else true
 | .seq a b=>goodC H dyn a&&goodC H dyn b
 | .cond _ a b=>goodC H dyn a&&goodC H dyn b
 | .block _ a=>goodC H dyn a
 | .loop a=>goodC H dyn a
 | _=>true
theorem zIU (H:Hints) (dyn:List Nat) (c:Code) (i:Nat) (h:FX.good.goodC H dyn c=true):FX.good.goodC H dyn (kid c i)=true:=by
 cases c <;> simp only[FX.good.goodC,kid,bO]at h ⊢ <;> (try exact h)
 ·cases i <;> simp_all
 ·cases i <;> simp_all
theorem Qh (H:Hints) (dyn:List Nat) : ∀(n:Nat) (c:Code) (p:Nat),FX.good.goodC H dyn c=true→FX.good.goodC H dyn (K6 n c p)=true
 | 0,c,p,h=>h
 | n+1,c,p,h=>by
  rw[K6];cases Nat.ble p 1 with
  | true=>exact h
  | false=>exact zIU H dyn _ _ (Qh H dyn n c _ h)
theorem Wq (b0:Nat) (F:FX) (e:Env) (S:zB) : ∀fs,ww b0 F fs .ret e S=(ut Tryz.prog F.fn e S).map fun v=>(v,S)
 | []=>rfl
 | .seq b p::r=>Wq b0 F e S r
 | .blk i::r=>Wq b0 F e S r
 | .lop b p n::r=>Wq b0 F e S r
theorem jt (b0:Nat) (F:FX) (hg:F.good=true) : ∀(n:Nat) (m:Md) (fs:List Fr) (e:Env) (S:zB),run b0 F n m fs e S=Jl b0 F m fs e S
 | 0,m,fs,e,S=>Ys b0 F m fs e S
 | n+1,.at b p,fs,e,S=>by
  have ih:=jt b0 F hg n;rw[Z8];unfold qy
  try simp only[Ys,jb,jc]
  try dsimp only
  cases hb:(Nat.ble 1 p&&Nat.blt p far) with
  | false=>rfl
  | true =>
   rw[bO]at hb;have hp:1≤p:=Nat.le_of_ble_eq_true hb.1;have hf:p<2^199:=Eq.mp Nat.blt_eq hb.2;have k0:=zHX F.root p 0 hp hf (by omega);have k1:=zHX F.root p 1 hp hf (by omega);rw[aL]at k0;have hq:FX.good.goodC zE F.dyn (sub F.root p)=true:=Qh zE F.dyn 200 F.root p hg;dsimp only
   show _=xy (F.C b0) b (sub F.root p) (ww b0 F fs) e S
   cases hc:sub F.root p with
   | skip=>dsimp only;rw[ih];rfl
   | region id ops d =>
    dsimp only;rw[hc]at hq;have e1:run b0 F n (.ops b p 0) fs e S=uA (F.C b0) ops ops.toList e S fun e S=>ww b0 F fs .normal (trim (F.h.at id) e) S:=by
     rw[ih]
     show (match sub F.root p with
      | .region id ops _=>uA (F.C b0) ops (ops.toList.drop 0) e S fun e S=>ww b0 F fs .normal (trim (F.h.at id) e) S
      | _=>none)=_
     rw[hc];rfl
    rw[e1];cases d with
    | false=>rfl
    | true =>
     simp only[FX.good.goodC,if_true]at hq;have e2:xy (F.C b0) b (.region id ops true) (ww b0 F fs) e S=if (uX ops (Z3 zE ops)||uX ops (fun j=>(wI (F.C b0) ops ops.toList e S).getD j 0))=true then uA (F.C b0) ops ops.toList e S (fun e S=>ww b0 F fs .normal (trim (F.h.at id) e) S) else none:=rfl;rw[e2,bC]
     cases hd:WI F.dyn id with
     | true =>
      dsimp only;have e3:zCv b0 F p e S=(uX ops (Z3 zE ops)||uX ops (fun j=>(wI (F.C b0) ops ops.toList e S).getD j 0)):=by
       rw[zH1,zNG,hc]
      rw[e3]
      cases uX ops (Z3 zE ops)||uX ops (fun j=>(wI (F.C b0) ops ops.toList e S).getD j 0) <;> rfl
     | false =>
      rw[hd,bZ]at hq;rw[hq,pI,bA rfl]
   | seq x y =>
    rw[hc]at k0 k1;dsimp only;rw[ih]
    show xy (F.C b0) b (sub F.root (2*p)) (zOm (fun e S=>xy (F.C b0) b (sub F.root (2*p+1)) (ww b0 F fs) e S) (ww b0 F fs)) e S=_
    rw[k0,k1];rfl
   | cond c x y =>
    rw[hc]at k0 k1;dsimp only;rw[qM]
    show zKW (ev e c) (xy (F.C b0) b (sub F.root (2*p)) (ww b0 F fs) e S) (xy (F.C b0) b (sub F.root (2*p+1)) (ww b0 F fs) e S)=_
    rw[k0,k1];exact zKX _ _ _
   | block i x =>
    rw[hc]at k0;dsimp only;rw[ih]
    show xy (F.C b0) i (sub F.root (2*p)) (WF i (ww b0 F fs)) e S=_
    rw[k0];rfl
   | loop x =>
    rw[hc]at k0;dsimp only;have e1:xy (F.C b0) b (.loop x) (ww b0 F fs) e S=(F.h.loops.lookup b).bind fun h=>(fzSlots h.fz (ownAll h.own (keepOnly h.live e) S).1 (ownAll h.own (keepOnly h.live e) S).2).bind fun r=>Xo (fun K e S=>xy (F.C b0) b x K e S) (qf h.live h.fz r.2.length) (ZT b r.2.length h.after (ww b0 F fs)) r.1 r.2:=rfl;rw[e1]
    cases hl:F.h.loops.lookup b with
    | none=>rfl
    | some h =>
     dsimp only;have e2:F.lh b=h:=by unfold FX.lh;rw[hl]
     simp only[Yq,Wp,zFU,bI,zKU,e2,k0];rfl
   | exit i=>dsimp only;rw[ih];rfl
   | ret=>dsimp only;rw[zH0,←Wq b0 F e S fs];rfl
   | _=>rfl
 | n+1,.ops b p j,fs,e,S=>by
  have ih:=jt b0 F hg n;rw[Z8];unfold qy
  try simp only[Ys,jb,jc]
  show _=(match sub F.root p with
   | .region id ops _=>uA (F.C b0) ops (ops.toList.drop j) e S fun e S=>ww b0 F fs .normal (trim (F.h.at id) e) S
   | _=>none)
  try dsimp only
  generalize hc:sub F.root p=c;cases c with
  | region id ops d =>
   dsimp only
   cases hd:ops.toList.drop j with
   | nil=>simp only[zCs,ih];rfl
   | cons o l =>
    have e1:ops.toList.drop (j+1)=l:=by rw[←PH,hd];rfl
    have e2 : ∀e S,Jl b0 F (.ops b p (j+1)) fs e S=uA (F.C b0) ops l e S fun e S=>ww b0 F fs .normal (trim (F.h.at id) e) S:=fun e S=>by
     show (match sub F.root p with
      | .region id ops _=>uA (F.C b0) ops (ops.toList.drop (j+1)) e S fun e S=>ww b0 F fs .normal (trim (F.h.at id) e) S
      | _=>none)=_
     rw[hc];dsimp only;rw[e1]
    have e4 : ∀e S,Jl b0 F (.opy b p j) fs e S=orK (ja (F.C b0) o.op e S) e S o.dst fun e S=>uA (F.C b0) ops l e S fun e S=>ww b0 F fs .normal (trim (F.h.at id) e) S:=fun e S=>by
     show (match sub F.root p with
      | .region id ops _=>(match ops.toList.drop j with
       | []=>none
       | o::_=>orK (ja (F.C b0) o.op e S) e S o.dst fun e S=>uA (F.C b0) ops (ops.toList.drop (j+1)) e S fun e S=>ww b0 F fs .normal (trim (F.h.at id) e) S)
      | _=>none)=_
     rw[hc];dsimp only;rw[hd];dsimp only;rw[e1]
    have e5 : ∀e S,Jl b0 F (.opn b p j) fs e S=uA (F.C b0) ops l (putD e o.dst .skip) S fun e S=>ww b0 F fs .normal (trim (F.h.at id) e) S:=fun e S=>by
     show (match sub F.root p with
      | .region id ops _=>(match ops.toList.drop j with
       | []=>none
       | o::_=>uA (F.C b0) ops (ops.toList.drop (j+1)) (putD e o.dst .skip) S fun e S=>ww b0 F fs .normal (trim (F.h.at id) e) S)
      | _=>none)=_
     rw[hc];dsimp only;rw[hd];dsimp only;rw[e1]
    have e3:=zOp (R:=PV × zB) Tryz.prog zE b0 F.h ops o l e S fun e S=>ww b0 F fs .normal (trim (F.h.at id) e) S;refine Eq.trans ?_ e3.symm;simp only[ih,e2,e4,e5,opK,vF,qU,zAl];cases o.guard with
    | none=>rfl
    | some jw =>
     obtain⟨i,want⟩:=jw;dsimp only
     cases (ops[i]?).bind (·.dst) with
     | none=>rfl
     | some t =>
      dsimp only
      cases get e t <;> first | rfl | (cases want <;> rfl)
  | _=>rfl
 | n+1,.opy b p j,fs,e,S=>by
  have ih:=jt b0 F hg n;rw[Z8];unfold qy
  try simp only[Ys,jb,jc]
  show _=(match sub F.root p with
   | .region id ops _=>(match ops.toList.drop j with
    | []=>none
    | o::_=>orK (ja (F.C b0) o.op e S) e S o.dst fun e S=>uA (F.C b0) ops (ops.toList.drop (j+1)) e S fun e S=>ww b0 F fs .normal (trim (F.h.at id) e) S)
   | _=>none)
  try dsimp only
  generalize hc:sub F.root p=c;cases c with
  | region id ops d =>
   dsimp only
   cases hd:ops.toList.drop j with
   | nil=>rfl
   | cons o l =>
    have e2 : ∀e S,Jl b0 F (.ops b p (j+1)) fs e S=uA (F.C b0) ops (ops.toList.drop (j+1)) e S fun e S=>ww b0 F fs .normal (trim (F.h.at id) e) S:=fun e S=>by
     show (match sub F.root p with
      | .region id ops _=>uA (F.C b0) ops (ops.toList.drop (j+1)) e S fun e S=>ww b0 F fs .normal (trim (F.h.at id) e) S
      | _=>none)=_
     rw[hc]
    simp only[ih,e2,zAl];rfl
  | _=>rfl
 | n+1,.opn b p j,fs,e,S=>by
  have ih:=jt b0 F hg n;rw[Z8];unfold qy
  try simp only[Ys,jb,jc]
  show _=(match sub F.root p with
   | .region id ops _=>(match ops.toList.drop j with
    | []=>none
    | o::_=>uA (F.C b0) ops (ops.toList.drop (j+1)) (putD e o.dst .skip) S fun e S=>ww b0 F fs .normal (trim (F.h.at id) e) S)
   | _=>none)
  try dsimp only
  generalize hc:sub F.root p=c;cases c with
  | region id ops d =>
   dsimp only
   cases hd:ops.toList.drop j with
   | nil=>rfl
   | cons o l =>
    have e2 : ∀e S,Jl b0 F (.ops b p (j+1)) fs e S=uA (F.C b0) ops (ops.toList.drop (j+1)) e S fun e S=>ww b0 F fs .normal (trim (F.h.at id) e) S:=fun e S=>by
     show (match sub F.root p with
      | .region id ops _=>uA (F.C b0) ops (ops.toList.drop (j+1)) e S fun e S=>ww b0 F fs .normal (trim (F.h.at id) e) S
      | _=>none)=_
     rw[hc]
    simp only[ih,e2,vF]
  | _=>rfl
 | n+1,.nor,fs,e,S=>by
  have ih:=jt b0 F hg n;rw[Z8];unfold qy
  try simp only[Ys,jb,jc]
  try dsimp only
  show _=ww b0 F fs .normal e S
  cases fs with
  | nil=>exact zH0 F e S
  | cons f r =>
   cases f with
   | seq b p=>dsimp only;rw[ih];rfl
   | blk i=>dsimp only;rw[ih];rfl
   | lop b p k =>
    dsimp only;simp only[Yq,zFU]
    show _=(qf (F.lh b).live (F.lh b).fz k e S).bind fun q=>Xo (fun K e S=>xy (F.C b0) b (sub F.root p) K e S) (qf (F.lh b).live (F.lh b).fz k) (ZT b k (F.lh b).after (ww b0 F r)) q.1 q.2
    unfold qf
    cases fzSlots (F.lh b).fz (keepOnly (F.lh b).live e) S <;> rfl
 | n+1,.exi i,fs,e,S=>by
  have ih:=jt b0 F hg n;rw[Z8];unfold qy
  try simp only[Ys,jb,jc]
  try dsimp only
  show _=ww b0 F fs (.exit i) e S
  cases fs with
  | nil=>rfl
  | cons f r =>
   cases f with
   | seq b p=>dsimp only;rw[ih];rfl
   | blk j =>
    dsimp only
    show _=if i=j then ww b0 F r .normal e S else ww b0 F r (.exit i) e S
    cases hb:Nat.beq i j with
    | true=>rw[bA (K3 hb)];exact ih _ _ _ _
    | false=>rw[hZ (K4 hb)];exact ih _ _ _ _
   | lop b p k =>
    dsimp only
    show _=if i=b then ww b0 F r (.exit i) (keepOnly (F.lh b).after e) (gc k (keepOnly (F.lh b).after e) S) else ww b0 F r (.exit i) e S
    cases hb:Nat.beq i b with
    | true=>rw[bA (K3 hb)];simp only[Yq];rfl
    | false=>rw[hZ (K4 hb)];exact ih _ _ _ _
section
variable {R:Type}
@[congr] theorem zOJ {t t':Bool} {A B:Option R} (h:t=t'):YX 1 t A B=YX 1 t' A B:=by rw[h]
@[congr] theorem zOK {A:Type} {x x':Option A} {K:A→Option R} (h:x=x'):Yr 1 x K=Yr 1 x' K:=by rw[h]
end
attribute [go_sem] zFS zCt zFQ zFR
theorem yv {b0:Nat} {F:FX} (hg:F.good=true) (n:Nat) {b p k:Nat} {fs:List Fr} {e:Env} {S:zB} {z:PV × zB}
  (h:run b0 F n (.at b p) (.lop b p k::fs) e S=some z):zT b0 F b p k fs e S=some z:=by
 rw[jt b0 F hg]at h;rw[jb];exact zFN h
class FX.ok (F:FX) (f:outParam FuncId):Prop where
 at_:Tryz.prog.funcs[f]? = some F.fn
 name : F.fn.name ≠ "runtime.NumGoroutine"
 hint:zE.of f=F.h
 code:(match F.fn.body with | some c=>uY F.fn.ntmps c | none=>false)=true
 good:F.good=true
 orc:zE.orc f=none
theorem FX.mk' {F : FX} {f : FuncId} (h1 : Tryz.prog.funcs[f]? = some F.fn := by kernel_rfl) (h2 : F.fn.name ≠ "runtime.NumGoroutine" := by exact HD (by kernel_rfl)) (h3 : zE.of f = F.h := by kernel_rfl) (h4 : (match F.fn.body with | some c => uY F.fn.ntmps c | none => false) = true := by kernel_rfl) (h5 : F.good = true := by kernel_rfl) (h6 : zE.orc f = none := by kernel_rfl) : F.ok f := ⟨h1, h2, h3, h4, h5, h6⟩
@[go_sem] theorem FX.t {F:FX} {f:FuncId} [h:F.ok f] (b0:Nat) (m:Md) (fs:List Fr) (e:Env) (S:zB):sem b0 F m fs e S=run b0 F 1000 m fs e S:=(Ys _ _ _ _ _ _).trans (jt b0 F h.good 1000 m fs e S).symm
theorem FX.callRL {F:FX} {f:FuncId} (ok:F.ok f) (n:Nat) {args:List PV} (ha:Nat.ble args.length F.fn.ntmps=true) {S:zB} {e:Env} (he:(List.range args.length).zip args=e) {r:PV × zB}
  (h:run S.length F n (.at 0 1) [] e S=some r):callRL Tryz.prog zE f args S=some r:=by
 have hc:=ok.code
 split at hc
 ·rename_i c hb;rw[jt _ F ok.good]at h;subst he;refine zIP ok.orc ok.at_ hb ok.name hc (Nat.le_of_ble_eq_true ha) ?_;rw[ok.hint];have e1:sub F.root 1=c:=by
   show F.root=c
   unfold FX.root;rw[hb]
  have h':xy (F.C S.length) 0 (sub F.root 1) (zOn Tryz.prog F.fn) ((List.range args.length).zip args) S=some r:=h;rw[e1]at h';exact h'
 ·cases hc
theorem FX.callL {F:FX} {f:FuncId} (ok:F.ok f) (n:Nat) {args:List PV} (ha:Nat.ble args.length F.fn.ntmps=true) {e:Env} (he:(List.range args.length).zip args=e) {r:PV × zB} {v:PV}
  (h:run 0 F n (.at 0 1) [] e []=some r) (hv:vD r.2 r.1=some v):Vs.callL Tryz.prog zE f args=some v:=by
 have h':Vs.callRL Tryz.prog zE f args []=some r:=FX.callRL ok n ha he h;simp only[Vs.callL,h',bI,hv]
theorem K7 {n:Nat} {e:Env} {S:zB} (h:S.length≤n):gc n e S=S:=by
 unfold gc
 split
 ·exact HC h
 ·rfl
@[go_sem 2000] theorem zUx (e:Env) (a:Obj):gc 1 e [a]=[a]:=K7 (by simp)
@[go_sem 2000] theorem zUy (e:Env) (a b:Obj):gc 2 e [a,b]=[a,b]:=K7 (by simp)
@[go_sem 2000] theorem zUz (e:Env) (a b c:Obj):gc 3 e [a,b,c]=[a,b,c]:=K7 (by simp)
@[go_sem 2000] theorem zVA (e:Env) (a b c d:Obj):gc 4 e [a,b,c,d]=[a,b,c,d]:=K7 (by simp)
@[go_sem 2000] theorem zVB (e:Env) (a b c d f:Obj):gc 5 e [a,b,c,d,f]=[a,b,c,d,f]:=K7 (by simp)
theorem zCw {b0:Nat} {F:FX} (hg:F.good=true) (n:Nat) {i:Nat} {fs:List Fr} {e:Env} {S:zB} {z:PV × zB} (h:run b0 F n (.exi i) fs e S=some z):yD b0 F i fs e S=some z:=by
 rw[jt b0 F hg]at h;rw[jc];exact h
@[go_sem] theorem zOq (S:zB) (rows:List (List PV)) (g:Option (Option Nat)):uT S (some (rows,g))=S++[.arr rows g false]:=nr rfl
@[go_sem] theorem zOr (S:zB):uT S none=S:=nr rfl
attribute [irreducible] sem zT yD
end
theorem zC {b0:Nat} {F:FX} {f:FuncId} [ok:F.ok f] {b p k:Nat} {fs:List Fr} {e:Env} {S:zB} {z:PV × zB} (h:run b0 F 1000 (.at b p) (.lop b p k::fs) e S=some z):zT b0 F b p k fs e S=some z:=yv ok.good 1000 h
theorem zN {b0:Nat} {F:FX} {f:FuncId} [ok:F.ok f] {i:Nat} {fs:List Fr} {e:Env} {S:zB} {z:PV × zB} (h:run b0 F 1000 (.exi i) fs e S=some z):yD b0 F i fs e S=some z:=zCw ok.good 1000 h
end
section
attribute [go_sem] if_true if_false eq_self pB Bool.true_eq_false bU bK and_self and_true true_and and_false false_and not_true_eq_false not_false_eq_true
@[go_sem] theorem zT1 (t:Nat):get [] t=.undef:=nr rfl
@[go_sem] theorem zRI (k t:Nat) (v:PV) (r:Env):get ((k,v)::r) t=if k=t then v else get r t:=nr rfl
@[go_sem] theorem zT2 (t:Nat) (v:PV):put [] t v=[(t,v)]:=nr rfl
@[go_sem] theorem zRJ (k t:Nat) (u v:PV) (r:Env):put ((k,u)::r) t v=if k=t then (t,v)::r else (k,u)::put r t v:=nr rfl
@[go_sem] theorem zQQ (ti:TI) (k:IntKind) (a b:Int):xQ .add ti (.int k a) (.int k b)=some (.int k (k.wrap (a+b))):=by simp[xQ,qB]
@[go_sem] theorem zQR (ti:TI) (k:IntKind) (a b:Int):xQ .sub ti (.int k a) (.int k b)=some (.int k (k.wrap (a-b))):=by simp[xQ,qB]
@[go_sem] theorem zQS (ti:TI) (k:IntKind) (a b:Int):xQ .mul ti (.int k a) (.int k b)=some (.int k (k.wrap (a*b))):=by simp[xQ,qB]
@[go_sem] theorem zQT (ti:TI) (k:IntKind) (a b:Int):xQ .eql ti (.int k a) (.int k b)=some (.bool (decide (a=b))):=by simp[xQ,qB]
@[go_sem] theorem zQU (ti:TI) (k:IntKind) (a b:Int):xQ .neq ti (.int k a) (.int k b)=some (.bool (!decide (a=b))):=by simp[xQ,qB]
@[go_sem] theorem zQV (ti:TI) (k:IntKind) (a b:Int):xQ .lss ti (.int k a) (.int k b)=some (.bool (decide (a<b))):=by simp[xQ,qB]
@[go_sem] theorem zQW (ti:TI) (k:IntKind) (a b:Int):xQ .leq ti (.int k a) (.int k b)=some (.bool (decide (a≤b))):=by simp[xQ,qB]
@[go_sem] theorem zQX (ti:TI) (k:IntKind) (a b:Int):xQ .gtr ti (.int k a) (.int k b)=some (.bool (decide (b<a))):=by simp[xQ,qB]
@[go_sem] theorem zQY (ti:TI) (k:IntKind) (a b:Int):xQ .geq ti (.int k a) (.int k b)=some (.bool (decide (b≤a))):=by simp[xQ,qB]
@[go_sem] theorem zQZ (ti:TI) (k:IntKind) (a b:Int):xQ .and ti (.int k a) (.int k b)=some (.int k (k.wrap (BitVec.ofInt k.bits a &&& BitVec.ofInt k.bits b).toNat)):=by simp[xQ,qB]
@[go_sem] theorem zRK (ti:TI) (k:IntKind) (a b:Int):xQ .or ti (.int k a) (.int k b)=some (.int k (k.wrap (BitVec.ofInt k.bits a ||| BitVec.ofInt k.bits b).toNat)):=by simp[xQ,qB]
@[go_sem] theorem zQ0 (ti:TI) (k:IntKind) (a b:Int):xQ .xor ti (.int k a) (.int k b)=some (.int k (k.wrap (BitVec.ofInt k.bits a ^^^ BitVec.ofInt k.bits b).toNat)):=by simp[xQ,qB]
@[go_sem] theorem zQ1 (ti:TI) (k:IntKind) (a b:Int):xQ .quo ti (.int k a) (.int k b)=if b=0 then none else some (.int k (k.wrap (a.tdiv b))):=by simp[xQ,qB]
@[go_sem] theorem zQ2 (ti:TI) (k:IntKind) (a b:Int):xQ .rem ti (.int k a) (.int k b)=if b=0 then none else some (.int k (a.tmod b)):=by simp[xQ,qB]
@[go_sem] theorem zQ3 (ti:TI) (k k':IntKind) (a b:Int):xQ .shl ti (.int k a) (.int k' b)=if b<0 then none else some (.int k (k.wrap (a*2^min b.toNat k.bits))):=by simp[xQ,W5]
@[go_sem] theorem zQ4 (ti:TI) (k k':IntKind) (a b:Int):xQ .shr ti (.int k a) (.int k' b)=if b<0 then none else some (.int k (a.fdiv (2^min b.toNat k.bits))):=by simp[xQ,W5]
@[go_sem] theorem zNH (ti:TI) (a b:ByteArray):xQ .eql ti (.str a) (.str b)=some (.bool (a.toList == b.toList)):=nr rfl
@[go_sem] theorem zNI (ti:TI) (a b:ByteArray):xQ .neq ti (.str a) (.str b)=some (.bool (!(a.toList == b.toList))):=nr rfl
@[go_sem] theorem zNJ (ti:TI) (a b:ByteArray):xQ .lss ti (.str a) (.str b)=some (.bool (Op.bytesLess a.toList b.toList)):=nr rfl
@[go_sem] theorem zKZ:(tyi Tryz.prog 4).d=.bool:=nr (by kernel_rfl)
@[go_sem] theorem zMb (a b:Bool):xQ .eql (tyi Tryz.prog 4) (.bool a) (.bool b)=some (.bool (a == b)):=by simp[xQ,zKZ]
@[go_sem] theorem zMc (a b:Bool):xQ .neq (tyi Tryz.prog 4) (.bool a) (.bool b)=some (.bool (!(a == b))):=by simp[xQ,zKZ]
@[go_sem] theorem zOs (op:BinOp) (ti:TI) (yo:Operand) (k:IntKind) (n:Int) (y:PV):qe op ti yo (.int k n) y=xQ op ti (.int k n) y:=nr rfl
@[go_sem] theorem zOL (op:BinOp) (ti:TI) (yo:Operand) (b:Bool) (y:PV):qe op ti yo (.bool b) y=xQ op ti (.bool b) y:=nr rfl
@[go_sem] theorem zOt (op:BinOp) (ti:TI) (yo:Operand) (b:ByteArray) (y:PV):qe op ti yo (.str b) y=xQ op ti (.str b) y:=nr rfl
@[go_sem] theorem zRL (b:Bool):zEz .not (.bool b)=some (.bool (!b)):=nr rfl
@[go_sem] theorem zRM (k:IntKind) (n:Int):zEz .neg (.int k n)=some (.int k (k.wrap (0-n))):=nr rfl
theorem zK0 (ti:TI) (h:ti.d=.str) (s:ByteArray):yL ti (.str s)=some (.int .i64 s.size):=by simp[yL,KD,h]
theorem zNK (ti:TI) {e:TypeId} (h:ti.d=.slice e) (r:List (List PV)) (ex:Bool):yL ti (.sl r ex)=some (.int .i64 r.length):=by simp[yL,KD,h]
theorem zK1 (ti:TI) {e:TypeId} (h:ti.d=.slice e) (i o l:Nat) (ex:Bool):yL ti (.msl i o l ex)=some (.int .i64 l):=by simp[yL,KD,h]
@[go_sem] theorem zH2:(tyi Tryz.prog 9).d=.str:=nr (by kernel_rfl)
@[go_sem] theorem zUb (s:ByteArray):yL (tyi Tryz.prog 9) (.str s)=some (.int .i64 s.size):=zK0 _ zH2 s
def xj (s:ByteArray) (i:Nat):Int:=((s.data.toList.getD i 0).toNat:Int)
@[go_sem] theorem zRN (s:ByteArray) (n:Int):za Tryz.prog 9 (.str s) (.int .i64 n)=if 0≤n∧n<s.size then some (.int .u8 (xj s n.toNat)) else none:=by
 simp[za,zH2,uq,xj]
attribute [go_sem] bD
@[go_sem] theorem zRO (k k':IntKind) (a b:Int):zMz [.int k a,.int k' b]=some (.int k (if a<b then b else a)):=nr rfl
@[go_sem] theorem zRP (k k':IntKind) (a b:Int):zNA [.int k a,.int k' b]=some (.int k (if b<a then b else a)):=nr rfl
@[go_sem] theorem zMd (v:PV) (r:List PV):Z7 (.tup (v::r)) 0=some v:=nr rfl
@[go_sem] theorem zMe (v:PV) (r:List PV) (i:Nat):Z7 (.tup (v::r)) (i+1)=Z7 (.tup r) i:=nr rfl
def zi (v:PV):Prop:=v.refs=[]∧∀S,vD S v=some v
theorem zi.int (k:IntKind) (n:Int):zi (.int k n):=⟨rfl,fun _=>rfl⟩
theorem zi.bool (b:Bool):zi (.bool b):=⟨rfl,fun _=>rfl⟩
theorem zi.str (s:ByteArray):zi (.str s):=⟨rfl,fun _=>rfl⟩
theorem zi.sl (r:List (List PV)):zi (.sl r false):=⟨rfl,fun _=>by cases r <;> rfl⟩
theorem zi.nil:zi (.sl [] true):=⟨rfl,fun _=>rfl⟩
@[go_sem] theorem zRQ (S:zB) (k:IntKind) (n:Int):vD S (.int k n)=some (.int k n):=nr rfl
@[go_sem] theorem zIV (S:zB) (b:Bool):vD S (.bool b)=some (.bool b):=nr rfl
@[go_sem] theorem zRR (S:zB) (s:ByteArray):vD S (.str s)=some (.str s):=nr rfl
@[go_sem] theorem wj (S:zB) (r:List (List PV)):vD S (.sl r false)=some (.sl r false):=nr (by cases r <;> rfl)
@[go_sem] theorem zRS (S:zB):vD S (.sl [] true)=some (.sl [] true):=nr rfl
@[go_sem] theorem zRT (S:zB) (a:List PV) (r:List (List PV)):vD S (.sl (a::r) true)=some (.sl (a::r) false):=nr rfl
@[go_sem] theorem zOu (S:zB) (d:Nat) (k:IntKind) (n:Int):vC S (d+1) (.int k n)=some (.int k n):=nr rfl
@[go_sem] theorem zCx (S:zB) (d:Nat) (b:Bool):vC S (d+1) (.bool b)=some (.bool b):=nr rfl
@[go_sem] theorem zOv (S:zB) (d:Nat) (s:ByteArray):vC S (d+1) (.str s)=some (.str s):=nr rfl
@[go_sem] theorem zQ5 (S:zB) (d:Nat) (r:List (List PV)) (ex:Bool):vC S (d+1) (.sl r ex)=some (.sl r false):=nr rfl
@[go_sem] theorem zK2 {α β:Type} (f:α→Option β):xc f []=some []:=nr rfl
@[go_sem] theorem zIW {α β:Type} (f:α→Option β) (a:α) (r:List α):xc f (a::r)=(f a).bind fun b=>(xc f r).map fun l=>b::l:=nr rfl
theorem XS (S:zB) : ∀d,wS S d []=[]
 | 0=>rfl
 | d+1=>by simp[wS,XS S d]
theorem K8 {S:zB} : ∀ {l:List PV},(∀a∈l,zi a)→xc (vD S) l=some l
 | [],_=>rfl
 | a::r,h=>by simp[xc,(h a (by simp)).2 S,K8 (S:=S) (l:=r) fun x hx=>h x (by simp[hx])]
theorem K9 : ∀ {l:List PV},(∀a∈l,zi a)→l.flatMap PV.refs=[]
 | [],_=>rfl
 | a::r,h=>by simp[BI,(h a (by simp)).1,K9 (l:=r) fun x hx=>h x (by simp[hx])]
theorem zF {S:zB} {f:FuncId} {l:List PV} {v:PV} (h:callL Tryz.prog zE f l=some v) (ha : ∀a∈l,zi a):zO (callL Tryz.prog zE) S f l=some {v} := by
 simp[zO,K9 ha,XS,K8 ha,h]
@[go_sem] theorem zIX {α β:Type} (a:α) (f:α→Option β):(some a).bind f=f a:=nr rfl
@[go_sem] theorem zK3 {α β:Type} (a:α) (f:α→β):(some a).map f=some (f a):=nr rfl
@[go_sem] theorem zQ6 (ti:TI) (S:zB) (r:List PV):zZ ti S (.cp r)=part ti r:=nr rfl
@[go_sem] theorem zQ7 (ti:TI) (S:zB) (id i off:Nat):zZ ti S (.mp id i off)=(zl S id).bind fun rows=>if i<rows.length then part ti ((rows.getD i []).drop off) else none:=nr rfl
@[go_sem] theorem zOM (rows:List (List PV)) (g:Option (Option Nat)) (f:Bool) (S:zB):zl (.arr rows g f::S) 0=some rows:=nr rfl
@[go_sem] theorem zON (o:Obj) (S:zB) (n:Nat):zl (o::S) (n+1)=zl S n:=nr rfl
attribute [go_sem] pF pO bL bV BV pA List.drop_succ_cons pE aL Nat.lt_add_one
@[go_sem] theorem zRU (S:zB) (id k:Nat) (v:PV):zs S id k v=if v.cells.length=k∧v.cells.all PV.cell=true then some {v:=.mp id 0 0,new:=some ([v.cells],none)} else none:=nr rfl
attribute [go_sem] HR BK sC bX bC bQ bB decide_true decide_false SV List.take_zero List.take_nil List.drop_nil pU sY List.set_cons_succ ge_iff_le
@[go_sem] theorem zCy (l:List PV):PV.cells (.agg l)=l:=nr rfl
@[go_sem] theorem zOO (k:IntKind) (n:Int):PV.cells (.int k n)=[.int k n]:=nr rfl
@[go_sem] theorem zNL (b:Bool):PV.cells (.bool b)=[.bool b]:=nr rfl
@[go_sem] theorem zOP (b:ByteArray):PV.cells (.str b)=[.str b]:=nr rfl
@[go_sem] theorem zOw (r:List (List PV)) (ex:Bool):PV.cells (.sl r ex)=[.sl r ex]:=nr rfl
@[go_sem] theorem zCz (a b c:Nat) (ex:Bool):PV.cells (.msl a b c ex)=[.msl a b c ex]:=nr rfl
@[go_sem] theorem zOx (a b c:Nat):PV.cells (.mp a b c)=[.mp a b c]:=nr rfl
@[go_sem] theorem zRV (k:IntKind) (n:Int):PV.cell (.int k n)=true:=nr rfl
@[go_sem] theorem zQ8 (b:Bool):PV.cell (.bool b)=true:=nr rfl
@[go_sem] theorem zRW (b:ByteArray):PV.cell (.str b)=true:=nr rfl
@[go_sem] theorem zT3 (r:List (List PV)) (ex:Bool):PV.cell (.sl r ex)=true:=nr rfl
@[go_sem] theorem zRX (a b c:Nat) (ex:Bool):PV.cell (.msl a b c ex)=true:=nr rfl
@[go_sem] theorem zT4 (a b c:Nat):PV.cell (.mp a b c)=true:=nr rfl
@[go_sem] theorem zOy:PV.refs .undef=[]:=nr rfl
@[go_sem] theorem zQ9:PV.refs .skip=[]:=nr rfl
@[go_sem] theorem jC (k:IntKind) (n:Int):PV.refs (.int k n)=[]:=nr rfl
@[go_sem] theorem zIY (b:Bool):PV.refs (.bool b)=[]:=nr rfl
@[go_sem] theorem zK4 (b:ByteArray):PV.refs (.str b)=[]:=nr rfl
@[go_sem] theorem zH3 (r:List (List PV)) (ex:Bool):PV.refs (.sl r ex)=[]:=nr rfl
@[go_sem] theorem zT5 (r:List PV):PV.refs (.cp r)=[]:=nr rfl
@[go_sem] theorem uH (l:List PV):PV.refs (.agg l)=vO l:=nr rfl
@[go_sem] theorem zRY (l:List PV):PV.refs (.tup l)=vO l:=nr rfl
@[go_sem] theorem Yt (a b c:Nat) (ex:Bool):PV.refs (.msl a b c ex)=[a]:=nr rfl
@[go_sem] theorem wK (a b c:Nat):PV.refs (.mp a b c)=[a]:=nr rfl
@[go_sem] theorem yb:vO []=[]:=nr rfl
@[go_sem] theorem yF (v:PV) (r:List PV):vO (v::r)=v.refs++vO r:=nr rfl
@[go_sem] theorem wA:zS []=[]:=nr rfl
@[go_sem] theorem yg (v:List PV) (r:List (List PV)):zS (v::r)=vO v++zS r:=nr rfl
def vg (n:Nat):Env→Bool
 | []=>true
 | (_,v)::r=>(v.refs.all fun i=>decide (i<n))&&vg n r
def xt (n:Nat):Nat→zB→Bool
 | 0,_=>true
 | _,[]=>true
 | m+1,.arr rows _ _::r=>((zS rows).all fun i=>decide (i<n))&&xt n m r
 | m+1,.gone::r=>xt n m r
theorem YA (n:Nat) : ∀e:Env,(e.all fun (_,v)=>v.refs.all fun i=>decide (i<n))=vg n e
 | []=>rfl
 | (_,v)::r=>by simp only[HR,vg,YA n r]
theorem jD (n:Nat) : ∀(m:Nat) (S:zB),((S.take m).all fun | .arr rows _ _=>(zS rows).all fun i=>decide (i<n) | .gone=>true)=xt n m S
 | 0,S=>by simp[xt]
 | m+1,[]=>by simp[xt]
 | m+1,.arr rows g f::r=>by simp only[SV,HR,xt,jD n m r]
 | m+1,.gone::r=>by simp only[SV,HR,xt,jD n m r,bC]
@[go_sem] theorem zUw (n:Nat) (k:Nat) (v:PV) (e:Env) (o:Obj) (S:zB):gc n ((k,v)::e) (o::S)=if vg n ((k,v)::e)=true∧xt n n (o::S)=true then (o::S).take n else o::S:=by
 rw[←YA,←jD];rfl
@[go_sem] theorem zMf (n:Nat):vg n []=true:=nr rfl
@[go_sem] theorem zK5 (n k:Nat) (v:PV) (r:Env):vg n ((k,v)::r)=((v.refs.all fun i=>decide (i<n))&&vg n r):=nr rfl
@[go_sem] theorem zK6 (n:Nat) (S:zB):xt n 0 S=true:=nr (by cases S <;> rfl)
@[go_sem] theorem zK7 (n m:Nat) (rows:List (List PV)) (g:Option (Option Nat)) (f:Bool) (r:zB):xt n (m+1) (.arr rows g f::r)=(((zS rows).all fun i=>decide (i<n))&&xt n m r):=nr rfl
@[go_sem] theorem zK8 (n m:Nat) (r:zB):xt n (m+1) (.gone::r)=xt n m r:=nr rfl
@[go_sem] theorem Vi (ti:TI) (S:zB) (a v:PV):zW ti S a v=if ti.known=true then (yZ ti.size S a v).map fun S => {v:=.skip,S} else none:=nr rfl
@[go_sem] theorem Wr (n:Nat) (rows:List (List PV)) (g:Option (Option Nat)) (S:zB) (i off:Nat) (v:PV):yZ n (.arr rows g false::S) (.mp 0 i off) v =
  if i<rows.length∧off+n≤(rows.getD i []).length∧v.cells.length=n∧v.cells.all PV.cell=true then some (.arr (rows.set i (kU (rows.getD i []) off v.cells)) g false::S) else none:=nr rfl
@[go_sem] theorem qV (n:Nat) (o:Obj) (S:zB) (id i off:Nat) (v:PV):yZ n (o::S) (.mp (id+1) i off) v=(yZ n S (.mp id i off) v).map fun S=>o::S:=by
 simp only[yZ,PD]
 cases h:S[id]? with
 | none=>rfl
 | some q =>
  cases q with
  | gone=>rfl
  | arr rows g f =>
   cases f with
   | true=>rfl
   | false =>
    simp only
    split <;> simp
@[go_sem] theorem Qi (row:List PV) (off:Nat) (cs:List PV):kU row off cs=if off=0∧cs.length=row.length then cs else row.take off++cs++row.drop (off+cs.length):=nr rfl
@[go_sem] theorem zOz (e:Env):qs [] e=e:=nr rfl
@[go_sem] theorem zT6:List.length ([]:zB)=0:=nr rfl
attribute [go_sem] bF
theorem zRZ {α:Type} {c:Prop} [Decidable c] {a b v:α} (h1:c→a=v) (h2 : ¬c→b=v):(if c then a else b)=v:=by
 by_cases h:c
 ·rw[bA h];exact h1 h
 ·rw[hZ h];exact h2 h
@[go_sem] theorem zPA (n:Nat):yR n []=true:=nr rfl
@[go_sem] theorem zOQ (n:Nat) (r:List PV) (l:List (List PV)):yR n (r::l)=(r.length == n&&yR n l):=nr rfl
@[go_sem] theorem zUc:List.range 0=[]:=nr rfl
@[go_sem] theorem zUd:List.range 1=[0]:=nr rfl
@[go_sem] theorem zUe:List.range 2=[0,1]:=nr rfl
@[go_sem] theorem zUf:List.range 3=[0,1,2]:=nr rfl
attribute [go_sem] beq_self_eq_true
theorem Ws {b bytes esz:Nat} {S:zB} {id len:Nat} {rows new:List (List PV)} {g:Option Nat} {ex:Bool} {y:PV} (hS:S[id]? = some (.arr rows (some g) false)) (hy:rowsS S y=some new) (hb:b≤id)
  (hl:len=rows.length) (hg:g=none∨g=some esz) (h1:yR esz rows=true) (h2:yR esz new=true) (h3:(rows.length+new.length)*bytes≤140737488355328) (h4:rows.length+new.length≤9223372036854775807)
  (h5:(zS rows++zS new).contains id=false):kG b bytes esz S (.msl id 0 len ex) y=some {v:=.msl id 0 (rows.length+new.length) false,S:=(S.map (yu [id])).set id (.arr (rows++new) (some (some esz)) false),kill:=[id]} := by
 simp only[kG,bA hb,jW,hS,hy,bI];rw[bA ⟨hb,hl,hg,h1,h2,h3,h4,h5⟩]
@[go_sem] theorem zPB (i:Nat) (e:Env):qs [i] e=e.map fun (t,v)=>(t,wW [i] v):=nr rfl
@[go_sem] theorem zR0 (ids:List Nat) (v:PV):wW ids v=if (v.refs.any fun i=>ids.contains i)=true then .undef else v:=nr rfl
@[go_sem] theorem Yu (ids:List Nat) (rows:List (List PV)) (g:Option (Option Nat)) (f:Bool):yu ids (.arr rows g f)=.arr (vQ ids rows) g f:=nr rfl
@[go_sem] theorem zDA (ids:List Nat) (rows:List (List PV)):vQ ids rows=if ((zS rows).any fun i=>ids.contains i)=true then rows.map fun r=>r.map (wW ids) else rows:=nr rfl
attribute [go_sem] pZ HS BB BU pJ bZ sQ List.contains_cons List.contains_nil
@[go_sem] theorem zK9 (S:zB) (d:Nat) (a:Nat) (ids:List Nat):wS S (d+1) (a::ids)=(a::ids)++wS S d ((a::ids).flatMap fun id=>match zl S id with | some rows=>zS rows | none=>[]):=nr rfl
@[go_sem] theorem zFV (S:zB) (d:Nat):wS S d []=[]:=nr (XS S d)
attribute [go_sem] BI List.flatMap_nil
@[go_sem] theorem zKa (S:zB) (i:Nat) (l:List Nat):zH S (i::l)=zH (kQ S i) l:=nr rfl
@[go_sem] theorem zNM (rows:List (List PV)) (g:Option (Option Nat)) (f:Bool) (S:zB):kQ (.arr rows g f::S) 0=.arr rows g true::S:=nr rfl
@[go_sem] theorem zNN (o:Obj) (S:zB) (i:Nat):kQ (o::S) (i+1)=o::kQ S i:=nr (by
 simp only[kQ,PD]
 split <;> simp_all)
@[go_sem] theorem YB (S:zB) (id off len:Nat) (ex:Bool):rowsIn S (.msl id off len ex)=(zl S id).bind fun rows=>if off+len≤rows.length then some ((rows.drop off).take len) else none:=nr rfl
theorem Wt {α β:Type} {f:α→Option β} {g:α→β} : ∀ {l:List α},(∀a∈l,f a=some (g a))→xc f l=some (l.map g)
 | [],_=>rfl
 | a::r,h=>by simp[xc,h a (by simp),Wt (l:=r) fun x hx=>h x (by simp[hx])]
@[go_sem] theorem zMg (S:zB):zH S []=S:=nr rfl
theorem zKb {n:Nat} {e:Env} {S:zB} (hn:n≤S.length):n≤(gc n e S).length∧∀j,j<n→(gc n e S)[j]? = S[j]? := by
 unfold gc
 split
 ·exact⟨by rw[sK];omega,fun j hj=>by rw[sS hj]⟩
 ·exact⟨hn,fun _ _=>rfl⟩
theorem zDB {ids:List Nat} {rows:List (List PV)} (h : ∀r∈zS rows,r ∉ ids):vQ ids rows=rows:=by
 unfold vQ;rw[hZ];simp only[List.any_eq_true,not_exists,not_and,SB];exact h
theorem xA {S:zB} {id:Nat} {rows:List (List PV)} {g:Option (Option Nat)} {f:Bool} (h:S[id]? = some (.arr rows g f)):zl S id=some rows:=by simp only[zl,h]
theorem xZ:maxLen≤9223372036854775807:=by decide
theorem zh {i n:Nat} (h:i<n) (hn:n≤maxLen):IntKind.i64.wrap ((i:Int)+1)=((i+1:Nat):Int):=by
 have:=xZ;rw[bE];omega
@[go_sem] theorem zR1 (a:Int):decide (a=a)=true:=by simp
@[go_sem] theorem zUg (n:Nat) (e:Env):gc n e []=[]:=by unfold gc;split <;> simp
@[go_sem] theorem zQa:exact (.sl [] true)=true:=nr rfl
end
end Go.Vs
