import Derived.IntWalk
import Derived.Test.YtkaeejkajfinhaaGreatMD8
set_option linter.unusedVariables false
set_option linter.unusedSimpArgs false
set_option maxRecDepth 100000
namespace Go.Vs
open Go Go.Proofs
section
noncomputable section
section
variable {α:Type}
noncomputable def Un:Env→Nat→(PV→α)→α
 | [],_,k=>k .undef
 | (s,v)::r,t,k=>match Nat.beq s t with | true=>k v | false=>Un r t k
noncomputable def zFf:Env→Nat→PV→(Env→α)→α
 | [],t,v,k=>k [(t,v)]
 | (s,u)::r,t,v,k=>match Nat.beq s t with | true=>k ((t,v)::r) | false=>zFf r t v fun r'=>k ((s,u)::r')
noncomputable def Xv (e:Env) (d:Option Nat) (v:PV) (k:Env→α):α:=match d with | some t=>zFf e t v k | none=>k e
noncomputable def zHm:List Nat→Env→(Env→α)→α
 | [],e,k=>k []
 | t::r,e,k=>Un e t fun v=>zHm r e fun l=>k ((t,v)::l)
noncomputable def WO:List Nat→Nat→Bool
 | [],_=>false
 | a::r,t=>match Nat.beq a t with | true=>true | false=>WO r t
noncomputable def Ka (live:List Nat):Env→(Env→α)→α
 | [],k=>k []
 | (t,v)::r,k=>match WO live t with | true=>Ka live r fun l=>k ((t,v)::l) | false=>Ka live r fun l=>k ((t,.undef)::l)
noncomputable def zFg (c:Value) (k:PV→α):α:=match c with
 | .int i n=>k (.int i n)
 | .bool b=>k (.bool b)
 | .string s=>k (.str s)
 | .slice none 0 0=>k (.sl [] true)
 | v=>k (qH v)
noncomputable def evK (e:Env) (o:Operand) (k:PV→α):α:=match o with
 | .tmp t=>Un e t k
 | .const c=>zFg c k
 | .global _=>k .undef
 | .func f=>k (.fn f [] [])
noncomputable def Yy (e:Env):List Operand→(List PV→α)→α
 | [],k=>k []
 | x::r,k=>evK e x fun v=>Yy e r fun l=>k (v::l)
noncomputable def zK7 (e:Env) (o:Option Operand) (k:Option PV→α):α:=match o with
 | some x=>evK e x fun v=>k (some v)
 | none=>k none
noncomputable def zBI (e:Env):List (Nat × Operand)→(List (Nat × PV)→α)→α
 | [],k=>k []
 | (i,x)::r,k=>evK e x fun v=>zBI e r fun l=>k ((i,v)::l)
theorem Kb {a b:Nat} (h:Nat.beq a b=true):a=b:=Nat.eq_of_beq_eq_true h
theorem Kc {a b:Nat} (h:Nat.beq a b=false):a≠b:=Nat.ne_of_beq_eq_false h
theorem qh (t:Nat) (k:PV→α) : ∀e:Env,Un e t k=k (get e t)
 | []=>rfl
 | (s,v)::r=>by
  simp only[Un,get]
  cases h:Nat.beq s t with
  | true=>rw[bA (Kb h)]
  | false=>rw[hZ (Kc h)];exact qh t k r
theorem Wt (t:Nat) (v:PV) : ∀(e:Env) (k:Env→α),zFf e t v k=k (put e t v)
 | [],k=>rfl
 | (s,u)::r,k=>by
  simp only[zFf,put]
  cases h:Nat.beq s t with
  | true=>rw[bA (Kb h)]
  | false=>rw[hZ (Kc h)];exact Wt t v r _
theorem vK (e:Env) (d:Option Nat) (v:PV) (k:Env→α):Xv e d v k=k (putD e d v):=by
 cases d with
 | none=>rfl
 | some t=>exact Wt t v e k
theorem zDR : ∀(l:List Nat) (e:Env) (k:Env→α),zHm l e k=k (trim l e)
 | [],e,k=>rfl
 | t::r,e,k=>by simp only[zHm,qh,zDR r];rfl
theorem qI (t:Nat) : ∀l:List Nat,WO l t=l.contains t
 | []=>rfl
 | a::r=>by
  simp only[WO,List.contains_cons]
  cases h:Nat.beq a t with
  | true=>have:=Kb h;subst this;simp
  | false =>
   have h2:=Kc h;have h3:(t == a)=false:=by simpa using fun e=>h2 e.symm
   rw[h3,bX];exact qI t r
theorem Yz (live:List Nat) : ∀(e:Env) (k:Env→α),Ka live e k=k (keepOnly live e)
 | [],k=>rfl
 | (t,v)::r,k=>by
  simp only[Ka,qI,keepOnly,sD];cases live.contains t with
  | true=>exact Yz live r _
  | false=>exact Yz live r _
theorem zIf (c:Value) (k:PV→α):zFg c k=k (qH c):=by
 unfold zFg
 split <;> rfl
theorem qX (e:Env) (o:Operand) (k:PV→α):evK e o k=k (ev e o):=by
 cases o with
 | tmp t=>exact qh t k e
 | const c=>exact zIf c k
 | global _=>rfl
 | func f=>rfl
theorem kT (e:Env) : ∀(l:List Operand) (k:List PV→α),Yy e l k=k (l.map (ev e))
 | [],k=>rfl
 | x::r,k=>by simp only[Yy,qX,kT e r,sD]
theorem zNL (e:Env) (o:Option Operand) (k:Option PV→α):zK7 e o k=k (o.map (ev e)):=by
 cases o with
 | none=>rfl
 | some x=>simp only[zK7,qX,pE]
theorem zAA (e:Env) : ∀(l:List (Nat × Operand)) (k:List (Nat × PV)→α),zBI e l k=k (l.map fun p=>(p.1,ev e p.2))
 | [],k=>rfl
 | (i,x)::r,k=>by simp only[zBI,qX,zAA e r,sD]
end
section
variable {R:Type}
noncomputable def XA {A:Type} : Nat→Option A→(A→Option R)→Option R
 | 0,_,_=>none
 | _+1,some v,K=>K v
 | n+1,none,K=>XA n none K
theorem zFh {A:Type} (v:A) (K:A→Option R):XA 1 (some v) K=K v:=nr rfl
theorem zFi {A:Type} (K:A→Option R):XA 1 none K=none:=nr rfl
theorem vn {A:Type} (x:Option A) (K:A→Option R):XA 1 x K=x.bind K:=by cases x <;> rfl
noncomputable def Ya:Nat→Bool→Option R→Option R→Option R
 | 0,_,_,B=>B
 | _+1,true,A,_=>A
 | n+1,false,A,B=>Ya n false A B
theorem zFj (A B:Option R):Ya 1 true A B=A:=nr rfl
theorem zDS (A B:Option R):Ya 1 false A B=B:=nr rfl
noncomputable def zBJ (ids:List Nat) (v:PV) (k:PV→Option R):Option R:=match v with
 | .int a b=>k (.int a b)
 | .bool b=>k (.bool b)
 | .str s=>k (.str s)
 | .sl r x=>k (.sl r x)
 | .cp r=>k (.cp r)
 | .skip=>k .skip
 | .undef=>k .undef
 | .msl i o l x=>Ya 1 (WO ids i) (k .undef) (k (.msl i o l x))
 | .mp i o l=>Ya 1 (WO ids i) (k .undef) (k (.mp i o l))
 | v=>k (wZ ids v)
noncomputable def zDT (ids:List Nat):Env→(Env→Option R)→Option R
 | [],k=>k []
 | (t,v)::r,k=>zBJ ids v fun v=>zDT ids r fun l=>k ((t,v)::l)
theorem zIg (ids:List Nat) (v:PV) (k:PV→Option R):zBJ ids v k=k (wZ ids v):=by
 cases v <;> try rfl
 case msl i o l x =>
  simp only[zBJ,qI,wZ,PV.refs,BJ,BZ,pJ]
  cases ids.contains i <;> rfl
 case mp i o l =>
  simp only[zBJ,qI,wZ,PV.refs,BJ,BZ,pJ]
  cases ids.contains i <;> rfl
theorem zAB (ids:List Nat) : ∀(e:Env) (k:Env→Option R),zDT ids e k=k (e.map fun (t,v)=>(t,wZ ids v))
 | [],k=>rfl
 | (t,v)::r,k=>by simp only[zDT,zIg,zAB ids r,sD]
theorem Kd (ids:List Nat) (e:Env) (k:Env→Option R):zDT ids e k=k (ZJ ids e):=by
 rw[zAB];cases ids with
 | nil =>
  have h:(e.map fun (t,v)=>(t,wZ [] v))=e:=by
   have : ∀v,wZ [] v=v:=fun v=>by simp[wZ]
   simp[this]
  rw[h];rfl
 | cons i r=>simp only[ZJ,reduceCtorEq,if_false]
noncomputable def zn (P:Program) (H:Hints) (S:zB) (f:FuncId) (xs:List PV):Option Eff :=
 if H.refs f then (callRL P H f xs S).bind fun (v,S')=>if S.length≤S'.length∧xW S=true∧wj S.length xs=true∧zCl (H.reads f) S S' then some {v,S:=S'} else none
 else (xf (vI S) xs).bind fun args=>(callL P H f args).map fun v => {v,S:=zH S (wV S 8 (xs.flatMap PV.refs))}
noncomputable def zg (P:Program) (H:Hints) (S:zB) (f:PV) (xs:List PV):Option Eff:=match f with
 | .fn f first caps=>zn P H S f (first++xs++caps)
 | _=>none
noncomputable def zU1:BinOp→Bool
 | .quo | .rem | .shl | .shr=>false
 | _=>true
noncomputable def YN (P:Program) (H:Hints) (h:Hint) (b0:Nat) (o:Op) (e:Env) (S:zB) (F:Bool→OR→Option R):Option R:=match o with
 | .move x | .assign x=>evK e x fun a=>F true (.val (some a))
 | .pick c a b=>evK e c fun c=>evK e a fun a=>evK e b fun b=>F true (.val (zK2 c a b))
 | .build t ps=>zBI e ps.toList fun l=>F false (.val (zX P t l))
 | .makeFunc (.func f) first caps=>Yy e first.toList fun a=>Yy e caps.toList fun b=>F true (.val (some (.fn f a b)))
 | .extract x i=>evK e x fun x=>F true (.val (Zn x i))
 | .nilCheck x=>evK e x fun x=>F true (.val (XW x))
 | .index t x i=>evK e x fun x=>evK e i fun i=>F false (.val (zf P t x i))
 | .load t a=>evK e a fun a=>F false (.val (za (tyi P t) S a))
 | .binOp op t x yo _=>evK e x fun x=>evK e yo fun y=>(match x,y with | .int k a,.int k' b=>F (zU1 op) (.val (xR op (tyi P t) (.int k a) (.int k' b))) | a,b=>F false (.val (qt op (tyi P t) yo a b)))
 | .unOp op _ x=>evK e x fun x=>F true (.val (zF0 op x))
 | .convert s d x=>evK e x fun x=>F false (.val (zL P s d S x))
 | .slice t x lo hi mx=>evK e x fun x=>zK7 e lo fun lo=>zK7 e hi fun hi=>zK7 e mx fun mx=>F false (.val (zZ P t S x lo hi mx))
 | .fieldAddr t x f=>evK e x fun x=>F false (.val (zA (tyi P t) f x))
 | .field t x f=>evK e x fun x=>F false (.val (zK (tyi P t) f x))
 | .indexAddr t x i=>evK e x fun x=>evK e i fun i=>F false (.val (zI P t S x i))
 | .alloc t=>F false (.out (zW (tyi P t) S.length))
 | .box t x=>evK e x fun x=>F false (.out (zr S S.length (tyi P t).size x))
 | .buildSlice t len ps=>Yy e (ps.toList.map (·.2)) fun l=>F false (.out (zG P t S.length len (ps.toList.map (·.1)) (l.map PV.cells)))
 | .makeSlice t l c=>evK e l fun l=>evK e c fun c=>F false (.out (zJ P t S.length l c))
 | .store t a x=>evK e a fun a=>evK e x fun x=>F false (.sto (zY (tyi P t) S a x))
 | .call c=>(match c.callee with
  | .builtin .len=>(match c.argTypes.toList,c.args.toList with | t::_,x::_=>evK e x fun x=>F false (.val (yJ (tyi P t) x)) | _,_=>F false (jq (uj P H b0 h) o e S))
  | .builtin .max=>Yy e c.args.toList fun l=>F true (.val (zNG l))
  | .builtin .min=>Yy e c.args.toList fun l=>F true (.val (zNH l))
  | .builtin .append=>(match c.argTypes.toList,c.args.toList with
   | t::u::_,[x,y]=>evK e x fun x=>evK e y fun y=>F false (.eff (zR P b0 t u S x y))
   | _,_=>F false (jq (uj P H b0 h) o e S))
  | .builtin .copy=>(match c.argTypes.toList,c.args.toList with
   | t::u::_,[x,y]=>evK e x fun x=>evK e y fun y=>F false (.sto (zq P t u S x y))
   | _,_=>F false (jq (uj P H b0 h) o e S))
  | .value (.func f)=>(match H.refs f with
   | true=>Yy e c.args.toList fun l=>F false (.sto (zn P H S f l))
   | false=>Yy e c.args.toList fun l=>F false (.out (zO (callL P H) S f l)))
  | .value f=>evK e f fun f=>Yy e c.args.toList fun l=>F false (.sto (zg P H S f l))
  | _=>F false (jq (uj P H b0 h) o e S))
 | o=>F false (jq (uj P H b0 h) o e S)
theorem zHn (P:Program) (H:Hints) (b0:Nat) (h:Hint) (o:Op) (e:Env) (S:zB) (F:Bool→OR→Option R) (hF : ∀a q,F a q=F true q):YN P H h b0 o e S F=F true (jq (uj P H b0 h) o e S):=by
 have hf : ∀q,F false q=F true q:=fun q=>hF false q
 cases o <;> try rfl
 all_goals try exact hf _
 all_goals try (simp only[YN,qX,zNL,kT,zAA,hf];rfl)
 case binOp op t x y u =>
  simp only[YN,qX,hf];have h0:jq (uj P H b0 h) (.binOp op t x y u) e S=.val (qt op (tyi P t) y (ev e x) (ev e y)):=rfl;rw[h0]
  cases ev e x <;> cases ev e y <;> first | rfl | exact hF _ _
 case makeFunc fn first caps =>
  cases fn <;> first | (simp only[YN,kT];rfl) | (simp only[YN,hf])
 case buildSlice t len ps =>
  simp only[YN,kT,List.map_map,hf];rfl
 case call c =>
  obtain⟨ce,xs,ts⟩:=c;cases ce with
  | invoke r m=>simp only[YN,hf]
  | value f =>
   cases f with
   | func f =>
    simp only[YN,kT,hf];have h0:jq (uj P H b0 h) (.call ⟨.value (.func f),xs,ts⟩) e S=if H.refs f then .sto (zn P H S f ([]++xs.toList.map (ev e)++[])) else .out (zO (callL P H) S f ([]++xs.toList.map (ev e)++[])):=rfl;rw[h0]
    cases H.refs f <;> simp
   | tmp t=>simp only[YN,qX,kT,hf];rfl
   | const t=>simp only[YN,qX,kT,hf];rfl
   | global t=>simp only[YN,qX,kT,hf];rfl
  | builtin b =>
   cases b <;> try (first | rfl | (simp only[YN,hf];done))
   case len =>
    simp only[YN,qX,hf];have h0:jq (uj P H b0 h) (.call ⟨.builtin .len,xs,ts⟩) e S=(match (match ts[0]?,xs[0]? with | some t,some x=>some (yJ (tyi P t) (ev e x)) | _,_=>none) with | some x=>OR.val x | none=>.out none):=rfl;rw[h0];obtain⟨ts⟩:=ts;obtain⟨xs⟩:=xs
    rcases ts with _ | ⟨t,ts⟩ <;> rcases xs with _ | ⟨x,xs⟩ <;> rfl
   case append =>
    simp only[YN,qX,hf];have h0:jq (uj P H b0 h) (.call ⟨.builtin .append,xs,ts⟩) e S=(match ts[0]?,ts[1]?,xs.toList with
    | some t,some u,[x,y]=>OR.eff (zR P b0 t u S (ev e x) (ev e y))
    | _,_,_=>.out none):=rfl
    rw[h0];obtain⟨ts⟩:=ts;obtain⟨l⟩:=xs
    rcases l with _ | ⟨x,_ | ⟨y,_ | ⟨w,l⟩⟩⟩ <;> rcases ts with _ | ⟨t,_ | ⟨u,ts⟩⟩ <;> rfl
   case copy =>
    simp only[YN,qX,hf];have h0:jq (uj P H b0 h) (.call ⟨.builtin .copy,xs,ts⟩) e S=(match ts[0]?,ts[1]?,xs.toList with
    | some t,some u,[x,y]=>OR.sto (zq P t u S (ev e x) (ev e y))
    | _,_,_=>.out none):=rfl
    rw[h0];obtain⟨ts⟩:=ts;obtain⟨l⟩:=xs
    rcases l with _ | ⟨x,_ | ⟨y,_ | ⟨w,l⟩⟩⟩ <;> rcases ts with _ | ⟨t,_ | ⟨u,ts⟩⟩ <;> rfl
   case max=>simp only[YN,kT];rfl
   case min=>simp only[YN,kT];rfl
noncomputable def orK (q:OR) (e:Env) (S:zB) (d:Option Nat) (K:Env→zB→Option R):Option R:=match q with
 | .val x=>XA 1 x fun v=>Xv e d v fun e=>K e S
 | .out x=>XA 1 x fun o=>Xv e d o.v fun e=>K e (ub (zH S o.fz) o.new)
 | .eff x=>XA 1 x fun r=>zDT r.kill e fun e=>Xv e d r.v fun e=>K e r.S
 | .sto x=>XA 1 x fun r=>Xv e d r.v fun e=>K e r.S
noncomputable def zK8 (g:PV) (want:Bool) (A B:Option R):Option R:=match g with
 | .bool b=>(match want with | true=>Ya 1 b A B | false=>Ya 1 b B A)
 | .skip=>B
 | _=>none
theorem XX (g:PV) (want:Bool) (A B:Option R):zK8 g want A B=(match g with | .bool b=>if b=want then A else B | .skip=>B | _=>none):=by
 cases g <;> try rfl
 rename_i b
 cases b <;> cases want <;> rfl
noncomputable def doK (P:Program) (H:Hints) (h:Hint) (b0:Nat) (o:Oper) (e:Env) (S:zB) (K1 K2:Env→zB→Option R):Option R:=match o.dst with
 | some d=>YN P H h b0 o.op e S fun now q=>(match now with | true=>orK q e S (some d) K1 | false=>orK q e S (some d) K2)
 | none=>YN P H h b0 o.op e S fun now q=>(match now with | true=>orK q e S none K1 | false=>orK q e S none K2)
theorem zBK (P:Program) (H:Hints) (h:Hint) (b0:Nat) (o:Oper) (e:Env) (S:zB) (K:Env→zB→Option R):doK P H h b0 o e S K K=orK (jq (uj P H b0 h) o.op e S) e S o.dst K:=by
 unfold doK;cases o.dst with
 | none =>
  dsimp only;rw[zHn _ _ _ _ _ _ _ _ fun a q=>by cases a <;> rfl]
 | some d =>
  dsimp only;rw[zHn _ _ _ _ _ _ _ _ fun a q=>by cases a <;> rfl]
noncomputable def opK (P:Program) (H:Hints) (h:Hint) (b0:Nat) (dsts:Nat→Option Nat) (o:Oper) (e:Env) (S:zB) (K:Env→zB→Option R):Option R:=match o.guard with
 | none=>doK P H h b0 o e S K K
 | some (j,want)=>(match dsts j with
  | none=>Xv e o.dst .skip fun e=>K e S
  | some t=>Un e t fun g=>zK8 g want (doK P H h b0 o e S K K) (Xv e o.dst .skip fun e=>K e S))
theorem zOp (P:Program) (H:Hints) (b0:Nat) (h:Hint) (ops:Array Oper) (o:Oper) (r:List Oper) (e:Env) (S:zB) (K:Env→zB→Option R):uJ (uj P H b0 h) ops (o::r) e S K=opK P H h b0 (fun j=>(ops[j]?).bind (·.dst)) o e S fun e S=>uJ (uj P H b0 h) ops r e S K:=by
 simp only[uJ,opK,zBK,vK,qh];cases o.guard with
 | none =>
  dsimp only
  cases jq (uj P H b0 h) o.op e S with
  | val x=>cases x <;> simp only[orK,vn,zDK,vK,bG,BA]
  | out x=>cases x <;> simp only[orK,vn,zDL,vK,bG,BA]
  | eff x=>cases x <;> simp only[orK,vn,zDM,vK,Kd,bG,BA]
  | sto x=>cases x <;> simp only[orK,vn,zDN,vK,bG,BA]
 | some jw =>
  obtain⟨j,want⟩:=jw;dsimp only
  cases (ops[j]?).bind (·.dst) with
  | none=>rfl
  | some t =>
   dsimp only
   cases jq (uj P H b0 h) o.op e S with
   | val x=>cases get e t <;> simp only[zOk,XX] <;> (try rfl) <;> (split <;> (try rfl)) <;> cases x <;> simp only[orK,vn,zDK,vK,bG,BA]
   | out x=>cases get e t <;> simp only[zOl,XX] <;> (try rfl) <;> (split <;> (try rfl)) <;> cases x <;> simp only[orK,vn,zDL,vK,bG,BA]
   | eff x=>cases get e t <;> simp only[zIa,XX] <;> (try rfl) <;> (split <;> (try rfl)) <;> cases x <;> simp only[orK,vn,zDM,vK,Kd,bG,BA]
   | sto x=>cases get e t <;> simp only[zIa,XX] <;> (try rfl) <;> (split <;> (try rfl)) <;> cases x <;> simp only[orK,vn,zDN,vK,bG,BA]
end
noncomputable def kid:Code→Nat→Code
 | .seq a b,i=>(match i with | 0=>a | _=>b)
 | .cond _ a b,i=>(match i with | 0=>a | _=>b)
 | .block _ a,_=>a
 | .loop a,_=>a
 | _,_=>.skip
noncomputable def Ke:Nat→Code→Nat→Code
 | 0,c,_=>c
 | n+1,c,p=>match Nat.ble p 1 with | true=>c | false=>kid (Ke n c (p / 2)) (p % 2)
noncomputable def sub (c:Code) (p:Nat):Code:=Ke 200 c p
noncomputable def far:Nat:=2^199
theorem zAC : ∀(n:Nat) (c:Code) (p:Nat),p<2^n→Ke (n+1) c p=Ke n c p
 | 0,c,p,h=>by
  have:Nat.ble p 1=true:=by rw[Nat.ble_eq];omega
  simp only[Ke,this]
 | n+1,c,p,h=>by
  have h2:p / 2<2^n:=by rw[Nat.pow_succ]at h;omega
  rw[Ke,zAC n c _ h2];rfl
theorem zHo (c:Code) (p i:Nat) (hp:1≤p) (hf:p<2^199) (hi:i<2):sub c (2*p+i)=kid (sub c p) i:=by
 have h:Nat.ble (2*p+i) 1=false:=by
  cases hb:Nat.ble (2*p+i) 1 with
  | false=>rfl
  | true=>rw[Nat.ble_eq]at hb;omega
 have e:sub c p=Ke 199 c p:=zAC 199 c p hf;rw[e]
 show Ke (199+1) c (2*p+i)=_
 rw[Ke,h];have e1:(2*p+i) / 2=p:=by omega
 have e2:(2*p+i) % 2=i:=by omega
 simp only[e1,e2]
inductive Md where
 | at (b p:Nat) | ops (b p j:Nat) | opy (b p j:Nat) | opn (b p j:Nat) | nor | exi (i:Nat)
inductive Fr where
 | seq (b p:Nat) | blk (i:Nat) | lop (b p n:Nat)
structure FX where
 fn:Func
 h:Hint
 dyn:List Nat:=[]
noncomputable def FX.C (F:FX) (b0:Nat):Ctx:=uj Tryz.prog zD b0 F.h
noncomputable def FX.root (F:FX):Code:=match F.fn.body with | some c=>c | none=>.skip
abbrev RS1:=Option (PV × zB)
abbrev KS:=Vs.X→Env→zB→RS1
noncomputable def FX.lh (F:FX) (b:Nat):LoopHint:=match F.h.loops.lookup b with | some h=>h | none => {live:=[],after:=[]}
noncomputable def vD (b0:Nat) (F:FX):List Fr→KS
 | []=>zOn Tryz.prog F.fn
 | .seq b p::r=>zOm (fun e S=>wA (F.C b0) b (sub F.root p) (vD b0 F r) e S) (vD b0 F r)
 | .blk i::r=>WL i (vD b0 F r)
 | .lop b p n::r=>zK4 (qu (F.lh b).live (F.lh b).fz n) (Z9 b n (F.lh b).after (vD b0 F r)) (fun e S=>Xt (fun K e S=>wA (F.C b0) b (sub F.root p) K e S) (qu (F.lh b).live (F.lh b).fz n) (Z9 b n (F.lh b).after (vD b0 F r)) e S)
noncomputable def QB (b0:Nat) (F:FX) (m:Md) (fs:List Fr) (e:Env) (S:zB):RS1:=match m with
 | .at b p=>wA (F.C b0) b (sub F.root p) (vD b0 F fs) e S
 | .ops b p j=>(match sub F.root p with
  | .region id ops _=>uJ (F.C b0) ops (ops.toList.drop j) e S fun e S=>vD b0 F fs .normal (trim (F.h.at id) e) S
  | _=>none)
 | .opy b p j=>(match sub F.root p with
  | .region id ops _=>(match ops.toList.drop j with
   | []=>none
   | o::_=>orK (jq (F.C b0) o.op e S) e S o.dst fun e S=>uJ (F.C b0) ops (ops.toList.drop (j+1)) e S fun e S=>vD b0 F fs .normal (trim (F.h.at id) e) S)
  | _=>none)
 | .opn b p j=>(match sub F.root p with
  | .region id ops _=>(match ops.toList.drop j with
   | []=>none
   | o::_=>uJ (F.C b0) ops (ops.toList.drop (j+1)) (putD e o.dst .skip) S fun e S=>vD b0 F fs .normal (trim (F.h.at id) e) S)
  | _=>none)
 | .nor=>vD b0 F fs .normal e S
 | .exi i=>vD b0 F fs (.exit i) e S
noncomputable def zK9 (b0:Nat) (F:FX) (b p n:Nat) (fs:List Fr) (e:Env) (S:zB):RS1 :=
 Xt (fun K e S=>wA (F.C b0) b (sub F.root p) K e S) (qu (F.lh b).live (F.lh b).fz n) (Z9 b n (F.lh b).after (vD b0 F fs)) e S
theorem zKa : ∃f:Nat→FX→Md→List Fr→Env→zB→RS1,f=QB:=⟨_,rfl⟩
theorem zHp : ∃f:Nat→FX→Nat→Nat→Nat→List Fr→Env→zB→RS1,f=zK9:=⟨_,rfl⟩
theorem zHq : ∃f:Nat→FX→Nat→List Fr→Env→zB→RS1,f=fun b0 F i fs e S=>QB b0 F (.exi i) fs e S:=⟨_,rfl⟩
noncomputable def sem:Nat→FX→Md→List Fr→Env→zB→RS1:=Classical.choose zKa
noncomputable def zU:Nat→FX→Nat→Nat→Nat→List Fr→Env→zB→RS1:=Classical.choose zHp
noncomputable def yB:Nat→FX→Nat→List Fr→Env→zB→RS1:=Classical.choose zHq
theorem XB (b0:Nat) (F:FX) (m:Md) (fs:List Fr) (e:Env) (S:zB):sem b0 F m fs e S=QB b0 F m fs e S:=by rw[sem,SW zKa]
theorem jr (b0:Nat) (F:FX) (b p n:Nat) (fs:List Fr) (e:Env) (S:zB):zU b0 F b p n fs e S=zK9 b0 F b p n fs e S:=by rw[zU,SW zHp]
theorem js (b0:Nat) (F:FX) (i:Nat) (fs:List Fr) (e:Env) (S:zB):yB b0 F i fs e S=QB b0 F (.exi i) fs e S:=by rw[yB,SW zHq]
section
variable {R:Type}
noncomputable def zFk:List Nat→Env→zB→(Env→zB→Option R)→Option R
 | [],e,S,k=>k e S
 | t::r,e,S,k=>match Nat.blt t 1000 with
  | true=>Un e t fun x=>(match x with
   | .sl [] true=>zFf e t (.msl S.length 0 0 false) fun e=>zFk r e (S++[.arr [] (some none) false]) k
   | .msl id off len true=>zFf e t (.msl id off len false) fun e=>zFk r e S k
   | _=>zFk r e S k)
  | false=>Un e (t % 1000) fun x=>zFk r e (ownMem S x (t / 1000-1)) k
noncomputable def fzK:List Nat→Env→zB→(Env→zB→Option R)→Option R
 | [],e,S,k=>k e S
 | t::r,e,S,k=>Un e t fun x=>match vI S x with
  | some v=>zFf e t v fun e=>fzK r e (zH S (wV S 8 x.refs)) k
  | none=>none
theorem Wu : ∀(l:List Nat) (e:Env) (S:zB) (k:Env→zB→Option R),zFk l e S k=k (ownAll l e S).1 (ownAll l e S).2
 | [],e,S,k=>rfl
 | t::r,e,S,k=>by
  have e1:ownAll (t::r) e S=ownAll r (own1 e S t).1 (own1 e S t).2:=rfl;rw[e1];simp only[zFk,qh,own1]
  cases hb:Nat.blt t 1000 with
  | true =>
   have ht:t<1000:=Eq.mp Nat.blt_eq hb;rw[bA ht];dsimp only;generalize hx:get e t=x
   split
   ·simp only[Wt,Wu r]
   ·simp only[Wt,Wu r]
   ·rename_i h1 h2
    split
    ·exact (h1 rfl).elim
    ·exact (h2 _ _ _ rfl).elim
    ·exact Wu r _ _ _
  | false =>
   have ht : ¬t<1000:=fun h=>by rw[Eq.mpr Nat.blt_eq h]at hb;cases hb
   rw[hZ ht];exact Wu r _ _ _
theorem zFl : ∀(l:List Nat) (e:Env) (S:zB) (k:Env→zB→Option R),fzK l e S k=(fzSlots l e S).bind fun r=>k r.1 r.2
 | [],e,S,k=>rfl
 | t::r,e,S,k=>by
  simp only[fzK,qh,fzSlots,fzSlot]
  cases vI S (get e t) with
  | none=>rfl
  | some v=>simp only[Wt,zFl r,pE,bG]
end
noncomputable def zIh (P:Program) (e:Env) (S:zB):List ResultVar→(List PV→RS1)→RS1
 | [],k=>k []
 | .tmp t::r,k=>Un e t fun v=>zIh P e S r fun l=>k (v::l)
 | .cell a t::r,k=>Un e a fun a=>XA 1 (za (tyi P t) S a) fun v=>zIh P e S r fun l=>k (v::l)
noncomputable def zNM (F:FX) (e:Env) (S:zB):RS1:=zIh Tryz.prog e S F.fn.results.toList fun vs=>match vs with | [v]=>some (v,S) | vs=>some (.tup vs,S)
theorem zBL (P:Program) (e:Env) (S:zB) : ∀(rs:List ResultVar) (k:List PV→RS1),zIh P e S rs k=(xf (ug P e S) rs).bind k
 | [],k=>rfl
 | .tmp t::r,k=>by
  simp only[zIh,qh,zBL P e S r,xf,ug,bG]
  cases xf (ug P e S) r <;> rfl
 | .cell a t::r,k=>by
  simp only[zIh,qh,xf,ug,vn]
  cases za (tyi P t) S (get e a) with
  | none=>rfl
  | some v =>
   simp only[bG,zBL P e S r]
   cases xf (ug P e S) r <;> rfl
theorem zHr (F:FX) (e:Env) (S:zB):zNM F e S=(kC Tryz.prog F.fn e S).map fun v=>(v,S):=by
 unfold zNM kC;rw[zBL]
 cases xf (ug Tryz.prog e S) F.fn.results.toList with
 | none=>rfl
 | some vs =>
  simp only[bG,pE]
  rcases vs with _ | ⟨v,_ | ⟨w,vs⟩⟩ <;> rfl
noncomputable def zKb (v:PV) (A B:RS1):RS1:=match v with
 | .bool t=>Ya 1 t A B
 | _=>none
theorem zKc (v:PV) (A B:RS1):zKb v A B=Qx v A B:=by
 cases v <;> try rfl
 rename_i b
 cases b <;> rfl
noncomputable def zNN (b0:Nat) (F:FX) (p:Nat) (e:Env) (S:zB):Bool:=match sub F.root p with
 | .region _ ops _=>ue ops (Zj zD ops)||ue ops (fun j=>(wK (F.C b0) ops ops.toList e S).getD j 0)
 | _=>false
theorem zKd : ∃f:Nat→FX→Nat→Env→zB→Bool,f=zNN:=⟨_,rfl⟩
noncomputable def zDU:Nat→FX→Nat→Env→zB→Bool:=Classical.choose zKd
theorem zHs (b0:Nat) (F:FX) (p:Nat) (e:Env) (S:zB):zDU b0 F p e S=zNN b0 F p e S:=by rw[zDU,SW zKd]
noncomputable def ZO (b0:Nat) (F:FX) (_:Nat) (ih:Md→List Fr→Env→zB→RS1) (m:Md) (fs:List Fr) (e:Env) (S:zB):RS1:=match m with
  | .at b p=>(match Nat.ble 1 p&&Nat.blt p far with
   | false=>sem b0 F (.at b p) fs e S
   | true=>(match sub F.root p with
    | .skip=>ih .nor fs e S
    | .seq _ _=>ih (.at b (2*p)) (.seq b (2*p+1)::fs) e S
    | .cond c _ _=>evK e c fun v=>zKb v (sem b0 F (.at b (2*p)) fs e S) (sem b0 F (.at b (2*p+1)) fs e S)
    | .block i _=>ih (.at i (2*p)) (.blk i::fs) e S
    | .exit i=>ih (.exi i) fs e S
    | .ret=>zNM F e S
    | .region id ops d=>(match d&&WO F.dyn id with
     | true=>(match zDU b0 F p e S with | true=>ih (.ops b p 0) fs e S | false=>none)
     | false=>ih (.ops b p 0) fs e S)
    | .loop _=>(match F.h.loops.lookup b with
     | none=>none
     | some h=>Ka h.live e fun e=>zFk h.own e S fun e S=>fzK h.fz e S fun e S=>zU b0 F b (2*p) S.length fs e S)
    | _=>none))
  | .ops b p j=>(match sub F.root p with
   | .region id ops _=>(match ops.toList.drop j with
    | []=>zHm (F.h.at id) e fun e=>ih .nor fs e S
    | o::_=>(match o.guard with
     | none=>doK Tryz.prog zD F.h b0 o e S (fun e S=>ih (.ops b p (j+1)) fs e S) (fun e S=>sem b0 F (.ops b p (j+1)) fs e S)
     | some (i,want)=>(match (ops[i]?).bind (·.dst) with
      | none=>Xv e o.dst .skip fun e=>ih (.ops b p (j+1)) fs e S
      | some t=>Un e t fun g=>(match g with
       | .bool g=>(match want with
        | true=>Ya 1 g (sem b0 F (.opy b p j) fs e S) (sem b0 F (.opn b p j) fs e S)
        | false=>Ya 1 g (sem b0 F (.opn b p j) fs e S) (sem b0 F (.opy b p j) fs e S))
       | .skip=>Xv e o.dst .skip fun e=>ih (.ops b p (j+1)) fs e S
       | _=>none))))
   | _=>none)
  | .opy b p j=>(match sub F.root p with
   | .region id ops _=>(match ops.toList.drop j with
    | []=>none
    | o::_=>doK Tryz.prog zD F.h b0 o e S (fun e S=>ih (.ops b p (j+1)) fs e S) (fun e S=>sem b0 F (.ops b p (j+1)) fs e S))
   | _=>none)
  | .opn b p j=>(match sub F.root p with
   | .region id ops _=>(match ops.toList.drop j with
    | []=>none
    | o::_=>Xv e o.dst .skip fun e=>ih (.ops b p (j+1)) fs e S)
   | _=>none)
  | .nor=>(match fs with
   | []=>zNM F e S
   | .seq b p::r=>ih (.at b p) r e S
   | .blk _::r=>ih .nor r e S
   | .lop b p k::r=>Ka (F.lh b).live e fun e=>fzK (F.lh b).fz e S fun e S=>zU b0 F b p k r e (gc k e S))
  | .exi i=>(match fs with
   | []=>none
   | .seq _ _::r=>ih (.exi i) r e S
   | .blk j::r=>(match Nat.beq i j with | true=>ih .nor r e S | false=>ih (.exi i) r e S)
   | .lop b _ k::r=>(match Nat.beq i b with | true=>Ka (F.lh b).after e fun e=>yB b0 F i r e (gc k e S) | false=>ih (.exi i) r e S))
noncomputable def run (b0:Nat) (F:FX):Nat→Md→List Fr→Env→zB→RS1
 | 0,m,fs,e,S=>sem b0 F m fs e S
 | n+1,m,fs,e,S=>ZO b0 F n (run b0 F n) m fs e S
theorem Zo (b0:Nat) (F:FX) (n:Nat) (m:Md) (fs:List Fr) (e:Env) (S:zB):run b0 F (n+1) m fs e S=ZO b0 F n (run b0 F n) m fs e S:=rfl
noncomputable def FX.good (F:FX):Bool:=goodC zD F.dyn F.root
where goodC (H:Hints) (dyn:List Nat):Code→Bool
 | .region id ops d=>if d=true then WO dyn id||ue ops (Zj H ops) else true
 | .seq a b=>goodC H dyn a&&goodC H dyn b
 | .cond _ a b=>goodC H dyn a&&goodC H dyn b
 | .block _ a=>goodC H dyn a
 | .loop a=>goodC H dyn a
 | _=>true
theorem zIi (H:Hints) (dyn:List Nat) (c:Code) (i:Nat) (h:FX.good.goodC H dyn c=true):FX.good.goodC H dyn (kid c i)=true:=by
 cases c <;> simp only[FX.good.goodC,kid,bP]at h ⊢ <;> (try exact h)
 ·cases i <;> simp_all
 ·cases i <;> simp_all
theorem zAD (H:Hints) (dyn:List Nat) : ∀(n:Nat) (c:Code) (p:Nat),FX.good.goodC H dyn c=true→FX.good.goodC H dyn (Ke n c p)=true
 | 0,c,p,h=>h
 | n+1,c,p,h=>by
  rw[Ke];cases Nat.ble p 1 with
  | true=>exact h
  | false=>exact zIi H dyn _ _ (zAD H dyn n c _ h)
theorem Wv (b0:Nat) (F:FX) (e:Env) (S:zB) : ∀fs,vD b0 F fs .ret e S=(kC Tryz.prog F.fn e S).map fun v=>(v,S)
 | []=>rfl
 | .seq b p::r=>Wv b0 F e S r
 | .blk i::r=>Wv b0 F e S r
 | .lop b p n::r=>Wv b0 F e S r
theorem qJ (b0:Nat) (F:FX) (hg:F.good=true) : ∀(n:Nat) (m:Md) (fs:List Fr) (e:Env) (S:zB),run b0 F n m fs e S=QB b0 F m fs e S
 | 0,m,fs,e,S=>XB b0 F m fs e S
 | n+1,.at b p,fs,e,S=>by
  have ih:=qJ b0 F hg n;rw[Zo];unfold ZO
  try simp only[XB,jr,js]
  try dsimp only
  cases hb:(Nat.ble 1 p&&Nat.blt p far) with
  | false=>rfl
  | true =>
   rw[bP]at hb;have hp:1≤p:=Nat.le_of_ble_eq_true hb.1;have hf:p<2^199:=Eq.mp Nat.blt_eq hb.2;have k0:=zHo F.root p 0 hp hf (by omega);have k1:=zHo F.root p 1 hp hf (by omega);rw[aT]at k0;have hq:FX.good.goodC zD F.dyn (sub F.root p)=true:=zAD zD F.dyn 200 F.root p hg;dsimp only
   show _=wA (F.C b0) b (sub F.root p) (vD b0 F fs) e S
   cases hc:sub F.root p with
   | skip=>dsimp only;rw[ih];rfl
   | region id ops d =>
    dsimp only;rw[hc]at hq;have e1:run b0 F n (.ops b p 0) fs e S=uJ (F.C b0) ops ops.toList e S fun e S=>vD b0 F fs .normal (trim (F.h.at id) e) S:=by
     rw[ih]
     show (match sub F.root p with
      | .region id ops _=>uJ (F.C b0) ops (ops.toList.drop 0) e S fun e S=>vD b0 F fs .normal (trim (F.h.at id) e) S
      | _=>none)=_
     rw[hc];rfl
    rw[e1];cases d with
    | false=>rfl
    | true =>
     simp only[FX.good.goodC,if_true]at hq;have e2:wA (F.C b0) b (.region id ops true) (vD b0 F fs) e S=if (ue ops (Zj zD ops)||ue ops (fun j=>(wK (F.C b0) ops ops.toList e S).getD j 0))=true then uJ (F.C b0) ops ops.toList e S (fun e S=>vD b0 F fs .normal (trim (F.h.at id) e) S) else none:=rfl;rw[e2,bC]
     cases hd:WO F.dyn id with
     | true =>
      dsimp only;have e3:zDU b0 F p e S=(ue ops (Zj zD ops)||ue ops (fun j=>(wK (F.C b0) ops ops.toList e S).getD j 0)):=by
       rw[zHs,zNN,hc]
      rw[e3]
      cases ue ops (Zj zD ops)||ue ops (fun j=>(wK (F.C b0) ops ops.toList e S).getD j 0) <;> rfl
     | false =>
      rw[hd,bX]at hq;rw[hq,pI,bA rfl]
   | seq x y =>
    rw[hc]at k0 k1;dsimp only;rw[ih]
    show wA (F.C b0) b (sub F.root (2*p)) (zOm (fun e S=>wA (F.C b0) b (sub F.root (2*p+1)) (vD b0 F fs) e S) (vD b0 F fs)) e S=_
    rw[k0,k1];rfl
   | cond c x y =>
    rw[hc]at k0 k1;dsimp only;rw[qX]
    show zKb (ev e c) (wA (F.C b0) b (sub F.root (2*p)) (vD b0 F fs) e S) (wA (F.C b0) b (sub F.root (2*p+1)) (vD b0 F fs) e S)=_
    rw[k0,k1];exact zKc _ _ _
   | block i x =>
    rw[hc]at k0;dsimp only;rw[ih]
    show wA (F.C b0) i (sub F.root (2*p)) (WL i (vD b0 F fs)) e S=_
    rw[k0];rfl
   | loop x =>
    rw[hc]at k0;dsimp only;have e1:wA (F.C b0) b (.loop x) (vD b0 F fs) e S=(F.h.loops.lookup b).bind fun h=>(fzSlots h.fz (ownAll h.own (keepOnly h.live e) S).1 (ownAll h.own (keepOnly h.live e) S).2).bind fun r=>Xt (fun K e S=>wA (F.C b0) b x K e S) (qu h.live h.fz r.2.length) (Z9 b r.2.length h.after (vD b0 F fs)) r.1 r.2:=rfl;rw[e1]
    cases hl:F.h.loops.lookup b with
    | none=>rfl
    | some h =>
     dsimp only;have e2:F.lh b=h:=by unfold FX.lh;rw[hl]
     simp only[Yz,Wu,zFl,bG,zK9,e2,k0];rfl
   | exit i=>dsimp only;rw[ih];rfl
   | ret=>dsimp only;rw[zHr,←Wv b0 F e S fs];rfl
   | _=>rfl
 | n+1,.ops b p j,fs,e,S=>by
  have ih:=qJ b0 F hg n;rw[Zo];unfold ZO
  try simp only[XB,jr,js]
  show _=(match sub F.root p with
   | .region id ops _=>uJ (F.C b0) ops (ops.toList.drop j) e S fun e S=>vD b0 F fs .normal (trim (F.h.at id) e) S
   | _=>none)
  try dsimp only
  generalize hc:sub F.root p=c;cases c with
  | region id ops d =>
   dsimp only
   cases hd:ops.toList.drop j with
   | nil=>simp only[zDR,ih];rfl
   | cons o l =>
    have e1:ops.toList.drop (j+1)=l:=by rw[←PP,hd];rfl
    have e2 : ∀e S,QB b0 F (.ops b p (j+1)) fs e S=uJ (F.C b0) ops l e S fun e S=>vD b0 F fs .normal (trim (F.h.at id) e) S:=fun e S=>by
     show (match sub F.root p with
      | .region id ops _=>uJ (F.C b0) ops (ops.toList.drop (j+1)) e S fun e S=>vD b0 F fs .normal (trim (F.h.at id) e) S
      | _=>none)=_
     rw[hc];dsimp only;rw[e1]
    have e4 : ∀e S,QB b0 F (.opy b p j) fs e S=orK (jq (F.C b0) o.op e S) e S o.dst fun e S=>uJ (F.C b0) ops l e S fun e S=>vD b0 F fs .normal (trim (F.h.at id) e) S:=fun e S=>by
     show (match sub F.root p with
      | .region id ops _=>(match ops.toList.drop j with
       | []=>none
       | o::_=>orK (jq (F.C b0) o.op e S) e S o.dst fun e S=>uJ (F.C b0) ops (ops.toList.drop (j+1)) e S fun e S=>vD b0 F fs .normal (trim (F.h.at id) e) S)
      | _=>none)=_
     rw[hc];dsimp only;rw[hd];dsimp only;rw[e1]
    have e5 : ∀e S,QB b0 F (.opn b p j) fs e S=uJ (F.C b0) ops l (putD e o.dst .skip) S fun e S=>vD b0 F fs .normal (trim (F.h.at id) e) S:=fun e S=>by
     show (match sub F.root p with
      | .region id ops _=>(match ops.toList.drop j with
       | []=>none
       | o::_=>uJ (F.C b0) ops (ops.toList.drop (j+1)) (putD e o.dst .skip) S fun e S=>vD b0 F fs .normal (trim (F.h.at id) e) S)
      | _=>none)=_
     rw[hc];dsimp only;rw[hd];dsimp only;rw[e1]
    have e3:=zOp (R:=PV × zB) Tryz.prog zD b0 F.h ops o l e S fun e S=>vD b0 F fs .normal (trim (F.h.at id) e) S;refine Eq.trans ?_ e3.symm;simp only[ih,e2,e4,e5,opK,vK,qh,zBK];cases o.guard with
    | none=>rfl
    | some jw =>
     obtain⟨i,want⟩:=jw;dsimp only
     cases (ops[i]?).bind (·.dst) with
     | none=>rfl
     | some t =>
      dsimp only
      cases get e t <;> first | rfl | (cases want <;> rfl)
  | _=>rfl
 | n+1,.opy b p j,fs,e,S=>by
  have ih:=qJ b0 F hg n;rw[Zo];unfold ZO
  try simp only[XB,jr,js]
  show _=(match sub F.root p with
   | .region id ops _=>(match ops.toList.drop j with
    | []=>none
    | o::_=>orK (jq (F.C b0) o.op e S) e S o.dst fun e S=>uJ (F.C b0) ops (ops.toList.drop (j+1)) e S fun e S=>vD b0 F fs .normal (trim (F.h.at id) e) S)
   | _=>none)
  try dsimp only
  generalize hc:sub F.root p=c;cases c with
  | region id ops d =>
   dsimp only
   cases hd:ops.toList.drop j with
   | nil=>rfl
   | cons o l =>
    have e2 : ∀e S,QB b0 F (.ops b p (j+1)) fs e S=uJ (F.C b0) ops (ops.toList.drop (j+1)) e S fun e S=>vD b0 F fs .normal (trim (F.h.at id) e) S:=fun e S=>by
     show (match sub F.root p with
      | .region id ops _=>uJ (F.C b0) ops (ops.toList.drop (j+1)) e S fun e S=>vD b0 F fs .normal (trim (F.h.at id) e) S
      | _=>none)=_
     rw[hc]
    simp only[ih,e2,zBK];rfl
  | _=>rfl
 | n+1,.opn b p j,fs,e,S=>by
  have ih:=qJ b0 F hg n;rw[Zo];unfold ZO
  try simp only[XB,jr,js]
  show _=(match sub F.root p with
   | .region id ops _=>(match ops.toList.drop j with
    | []=>none
    | o::_=>uJ (F.C b0) ops (ops.toList.drop (j+1)) (putD e o.dst .skip) S fun e S=>vD b0 F fs .normal (trim (F.h.at id) e) S)
   | _=>none)
  try dsimp only
  generalize hc:sub F.root p=c;cases c with
  | region id ops d =>
   dsimp only
   cases hd:ops.toList.drop j with
   | nil=>rfl
   | cons o l =>
    have e2 : ∀e S,QB b0 F (.ops b p (j+1)) fs e S=uJ (F.C b0) ops (ops.toList.drop (j+1)) e S fun e S=>vD b0 F fs .normal (trim (F.h.at id) e) S:=fun e S=>by
     show (match sub F.root p with
      | .region id ops _=>uJ (F.C b0) ops (ops.toList.drop (j+1)) e S fun e S=>vD b0 F fs .normal (trim (F.h.at id) e) S
      | _=>none)=_
     rw[hc]
    simp only[ih,e2,vK]
  | _=>rfl
 | n+1,.nor,fs,e,S=>by
  have ih:=qJ b0 F hg n;rw[Zo];unfold ZO
  try simp only[XB,jr,js]
  try dsimp only
  show _=vD b0 F fs .normal e S
  cases fs with
  | nil=>exact zHr F e S
  | cons f r =>
   cases f with
   | seq b p=>dsimp only;rw[ih];rfl
   | blk i=>dsimp only;rw[ih];rfl
   | lop b p k =>
    dsimp only;simp only[Yz,zFl]
    show _=(qu (F.lh b).live (F.lh b).fz k e S).bind fun q=>Xt (fun K e S=>wA (F.C b0) b (sub F.root p) K e S) (qu (F.lh b).live (F.lh b).fz k) (Z9 b k (F.lh b).after (vD b0 F r)) q.1 q.2
    unfold qu
    cases fzSlots (F.lh b).fz (keepOnly (F.lh b).live e) S <;> rfl
 | n+1,.exi i,fs,e,S=>by
  have ih:=qJ b0 F hg n;rw[Zo];unfold ZO
  try simp only[XB,jr,js]
  try dsimp only
  show _=vD b0 F fs (.exit i) e S
  cases fs with
  | nil=>rfl
  | cons f r =>
   cases f with
   | seq b p=>dsimp only;rw[ih];rfl
   | blk j =>
    dsimp only
    show _=if i=j then vD b0 F r .normal e S else vD b0 F r (.exit i) e S
    cases hb:Nat.beq i j with
    | true=>rw[bA (Kb hb)];exact ih _ _ _ _
    | false=>rw[hZ (Kc hb)];exact ih _ _ _ _
   | lop b p k =>
    dsimp only
    show _=if i=b then vD b0 F r (.exit i) (keepOnly (F.lh b).after e) (gc k (keepOnly (F.lh b).after e) S) else vD b0 F r (.exit i) e S
    cases hb:Nat.beq i b with
    | true=>rw[bA (Kb hb)];simp only[Yz];rfl
    | false=>rw[hZ (Kc hb)];exact ih _ _ _ _
section
variable {R:Type}
@[congr] theorem zOL {t t':Bool} {A B:Option R} (h:t=t'):Ya 1 t A B=Ya 1 t' A B:=by rw[h]
@[congr] theorem zOM {A:Type} {x x':Option A} {K:A→Option R} (h:x=x'):XA 1 x K=XA 1 x' K:=by rw[h]
end
attribute [go_sem] zFj zDS zFh zFi
theorem yv {b0:Nat} {F:FX} (hg:F.good=true) (n:Nat) {b p k:Nat} {fs:List Fr} {e:Env} {S:zB} {z:PV × zB}
  (h:run b0 F n (.at b p) (.lop b p k::fs) e S=some z):zU b0 F b p k fs e S=some z:=by
 rw[qJ b0 F hg]at h;rw[jr];exact zFe h
class FX.ok (F:FX) (f:outParam FuncId):Prop where
 at_:Tryz.prog.funcs[f]? = some F.fn
 name : F.fn.name ≠ "runtime.NumGoroutine"
 hint:zD.of f=F.h
 code:(match F.fn.body with | some c=>uf F.fn.ntmps c | none=>false)=true
 good:F.good=true
 orc:zD.orc f=none
theorem FX.mk' {F : FX} {f : FuncId} (h1 : Tryz.prog.funcs[f]? = some F.fn := by kernel_rfl) (h2 : F.fn.name ≠ "runtime.NumGoroutine" := by exact HK (by kernel_rfl)) (h3 : zD.of f = F.h := by kernel_rfl) (h4 : (match F.fn.body with | some c => uf F.fn.ntmps c | none => false) = true := by kernel_rfl) (h5 : F.good = true := by kernel_rfl) (h6 : zD.orc f = none := by kernel_rfl) : F.ok f := ⟨h1, h2, h3, h4, h5, h6⟩
@[go_sem] theorem FX.t {F:FX} {f:FuncId} [h:F.ok f] (b0:Nat) (m:Md) (fs:List Fr) (e:Env) (S:zB):sem b0 F m fs e S=run b0 F 1000 m fs e S:=(XB _ _ _ _ _ _).trans (qJ b0 F h.good 1000 m fs e S).symm
theorem FX.callRL {F:FX} {f:FuncId} (ok:F.ok f) (n:Nat) {args:List PV} (ha:Nat.ble args.length F.fn.ntmps=true) {S:zB} {e:Env} (he:(List.range args.length).zip args=e) {r:PV × zB}
  (h:run S.length F n (.at 0 1) [] e S=some r):callRL Tryz.prog zD f args S=some r:=by
 have hc:=ok.code
 split at hc
 ·rename_i c hb;rw[qJ _ F ok.good]at h;subst he;refine zId ok.orc ok.at_ hb ok.name hc (Nat.le_of_ble_eq_true ha) ?_;rw[ok.hint];have e1:sub F.root 1=c:=by
   show F.root=c
   unfold FX.root;rw[hb]
  have h':wA (F.C S.length) 0 (sub F.root 1) (zOn Tryz.prog F.fn) ((List.range args.length).zip args) S=some r:=h;rw[e1]at h';exact h'
 ·cases hc
theorem FX.callL {F:FX} {f:FuncId} (ok:F.ok f) (n:Nat) {args:List PV} (ha:Nat.ble args.length F.fn.ntmps=true) {e:Env} (he:(List.range args.length).zip args=e) {r:PV × zB} {v:PV}
  (h:run 0 F n (.at 0 1) [] e []=some r) (hv:vI r.2 r.1=some v):Vs.callL Tryz.prog zD f args=some v:=by
 have h':Vs.callRL Tryz.prog zD f args []=some r:=FX.callRL ok n ha he h;simp only[Vs.callL,h',bG,hv]
theorem Kf {n:Nat} {e:Env} {S:zB} (h:S.length≤n):gc n e S=S:=by
 unfold gc
 split
 ·exact aW h
 ·rfl
@[go_sem 2000] theorem zUn (e:Env) (a:Obj):gc 1 e [a]=[a]:=Kf (by simp)
@[go_sem 2000] theorem zUo (e:Env) (a b:Obj):gc 2 e [a,b]=[a,b]:=Kf (by simp)
@[go_sem 2000] theorem zUp (e:Env) (a b c:Obj):gc 3 e [a,b,c]=[a,b,c]:=Kf (by simp)
@[go_sem 2000] theorem zUq (e:Env) (a b c d:Obj):gc 4 e [a,b,c,d]=[a,b,c,d]:=Kf (by simp)
@[go_sem 2000] theorem zUr (e:Env) (a b c d f:Obj):gc 5 e [a,b,c,d,f]=[a,b,c,d,f]:=Kf (by simp)
theorem zDV {b0:Nat} {F:FX} (hg:F.good=true) (n:Nat) {i:Nat} {fs:List Fr} {e:Env} {S:zB} {z:PV × zB} (h:run b0 F n (.exi i) fs e S=some z):yB b0 F i fs e S=some z:=by
 rw[qJ b0 F hg]at h;rw[js];exact h
@[go_sem] theorem zOq (S:zB) (rows:List (List PV)) (g:Option (Option Nat)):ub S (some (rows,g))=S++[.arr rows g false]:=nr rfl
@[go_sem] theorem zOr (S:zB):ub S none=S:=nr rfl
attribute [irreducible] sem zU yB
end
theorem zC {b0:Nat} {F:FX} {f:FuncId} [ok:F.ok f] {b p k:Nat} {fs:List Fr} {e:Env} {S:zB} {z:PV × zB} (h:run b0 F 1000 (.at b p) (.lop b p k::fs) e S=some z):zU b0 F b p k fs e S=some z:=yv ok.good 1000 h
theorem zN {b0:Nat} {F:FX} {f:FuncId} [ok:F.ok f] {i:Nat} {fs:List Fr} {e:Env} {S:zB} {z:PV × zB} (h:run b0 F 1000 (.exi i) fs e S=some z):yB b0 F i fs e S=some z:=zDV ok.good 1000 h
end
section
attribute [go_sem] if_true if_false eq_self bZ Bool.true_eq_false bT bK and_self and_true true_and and_false false_and not_true_eq_false not_false_eq_true
@[go_sem] theorem zTS (t:Nat):get [] t=.undef:=nr rfl
@[go_sem] theorem zRB (k t:Nat) (v:PV) (r:Env):get ((k,v)::r) t=if k=t then v else get r t:=nr rfl
@[go_sem] theorem zTT (t:Nat) (v:PV):put [] t v=[(t,v)]:=nr rfl
@[go_sem] theorem zRC (k t:Nat) (u v:PV) (r:Env):put ((k,u)::r) t v=if k=t then (t,v)::r else (k,u)::put r t v:=nr rfl
@[go_sem] theorem zQJ (ti:TI) (k:IntKind) (a b:Int):xR .add ti (.int k a) (.int k b)=some (.int k (k.wrap (a+b))):=by simp[xR,qP]
@[go_sem] theorem zQK (ti:TI) (k:IntKind) (a b:Int):xR .sub ti (.int k a) (.int k b)=some (.int k (k.wrap (a-b))):=by simp[xR,qP]
@[go_sem] theorem zQL (ti:TI) (k:IntKind) (a b:Int):xR .mul ti (.int k a) (.int k b)=some (.int k (k.wrap (a*b))):=by simp[xR,qP]
@[go_sem] theorem zQM (ti:TI) (k:IntKind) (a b:Int):xR .eql ti (.int k a) (.int k b)=some (.bool (decide (a=b))):=by simp[xR,qP]
@[go_sem] theorem zQN (ti:TI) (k:IntKind) (a b:Int):xR .neq ti (.int k a) (.int k b)=some (.bool (!decide (a=b))):=by simp[xR,qP]
@[go_sem] theorem zQO (ti:TI) (k:IntKind) (a b:Int):xR .lss ti (.int k a) (.int k b)=some (.bool (decide (a<b))):=by simp[xR,qP]
@[go_sem] theorem zQP (ti:TI) (k:IntKind) (a b:Int):xR .leq ti (.int k a) (.int k b)=some (.bool (decide (a≤b))):=by simp[xR,qP]
@[go_sem] theorem zQQ (ti:TI) (k:IntKind) (a b:Int):xR .gtr ti (.int k a) (.int k b)=some (.bool (decide (b<a))):=by simp[xR,qP]
@[go_sem] theorem zQR (ti:TI) (k:IntKind) (a b:Int):xR .geq ti (.int k a) (.int k b)=some (.bool (decide (b≤a))):=by simp[xR,qP]
@[go_sem] theorem zQS (ti:TI) (k:IntKind) (a b:Int):xR .and ti (.int k a) (.int k b)=some (.int k (k.wrap (BitVec.ofInt k.bits a &&& BitVec.ofInt k.bits b).toNat)):=by simp[xR,qP]
@[go_sem] theorem zRD (ti:TI) (k:IntKind) (a b:Int):xR .or ti (.int k a) (.int k b)=some (.int k (k.wrap (BitVec.ofInt k.bits a ||| BitVec.ofInt k.bits b).toNat)):=by simp[xR,qP]
@[go_sem] theorem zQT (ti:TI) (k:IntKind) (a b:Int):xR .xor ti (.int k a) (.int k b)=some (.int k (k.wrap (BitVec.ofInt k.bits a ^^^ BitVec.ofInt k.bits b).toNat)):=by simp[xR,qP]
@[go_sem] theorem zQU (ti:TI) (k:IntKind) (a b:Int):xR .quo ti (.int k a) (.int k b)=if b=0 then none else some (.int k (k.wrap (a.tdiv b))):=by simp[xR,qP]
@[go_sem] theorem zQV (ti:TI) (k:IntKind) (a b:Int):xR .rem ti (.int k a) (.int k b)=if b=0 then none else some (.int k (a.tmod b)):=by simp[xR,qP]
@[go_sem] theorem zQW (ti:TI) (k k':IntKind) (a b:Int):xR .shl ti (.int k a) (.int k' b)=if b<0 then none else some (.int k (k.wrap (a*2^min b.toNat k.bits))):=by simp[xR,Wa]
@[go_sem] theorem zQX (ti:TI) (k k':IntKind) (a b:Int):xR .shr ti (.int k a) (.int k' b)=if b<0 then none else some (.int k (a.fdiv (2^min b.toNat k.bits))):=by simp[xR,Wa]
@[go_sem] theorem zNO (ti:TI) (a b:ByteArray):xR .eql ti (.str a) (.str b)=some (.bool (a.toList == b.toList)):=nr rfl
@[go_sem] theorem zNP (ti:TI) (a b:ByteArray):xR .neq ti (.str a) (.str b)=some (.bool (!(a.toList == b.toList))):=nr rfl
@[go_sem] theorem zNQ (ti:TI) (a b:ByteArray):xR .lss ti (.str a) (.str b)=some (.bool (Op.bytesLess a.toList b.toList)):=nr rfl
@[go_sem] theorem zKe:(tyi Tryz.prog 4).d=.bool:=nr (by kernel_rfl)
@[go_sem] theorem zMi (a b:Bool):xR .eql (tyi Tryz.prog 4) (.bool a) (.bool b)=some (.bool (a == b)):=by simp[xR,zKe]
@[go_sem] theorem zMj (a b:Bool):xR .neq (tyi Tryz.prog 4) (.bool a) (.bool b)=some (.bool (!(a == b))):=by simp[xR,zKe]
@[go_sem] theorem zOs (op:BinOp) (ti:TI) (yo:Operand) (k:IntKind) (n:Int) (y:PV):qt op ti yo (.int k n) y=xR op ti (.int k n) y:=nr rfl
@[go_sem] theorem zON (op:BinOp) (ti:TI) (yo:Operand) (b:Bool) (y:PV):qt op ti yo (.bool b) y=xR op ti (.bool b) y:=nr rfl
@[go_sem] theorem zOt (op:BinOp) (ti:TI) (yo:Operand) (b:ByteArray) (y:PV):qt op ti yo (.str b) y=xR op ti (.str b) y:=nr rfl
@[go_sem] theorem zRE (b:Bool):zF0 .not (.bool b)=some (.bool (!b)):=nr rfl
@[go_sem] theorem zRF (k:IntKind) (n:Int):zF0 .neg (.int k n)=some (.int k (k.wrap (0-n))):=nr rfl
theorem zKf (ti:TI) (h:ti.d=.str) (s:ByteArray):yJ ti (.str s)=some (.int .i64 s.size):=by simp[yJ,KL,h]
theorem zNR (ti:TI) {e:TypeId} (h:ti.d=.slice e) (r:List (List PV)) (ex:Bool):yJ ti (.sl r ex)=some (.int .i64 r.length):=by simp[yJ,KL,h]
theorem zKg (ti:TI) {e:TypeId} (h:ti.d=.slice e) (i o l:Nat) (ex:Bool):yJ ti (.msl i o l ex)=some (.int .i64 l):=by simp[yJ,KL,h]
@[go_sem] theorem zHt:(tyi Tryz.prog 9).d=.str:=nr (by kernel_rfl)
@[go_sem] theorem zU2 (s:ByteArray):yJ (tyi Tryz.prog 9) (.str s)=some (.int .i64 s.size):=zKf _ zHt s
def xn (s:ByteArray) (i:Nat):Int:=((s.data.toList.getD i 0).toNat:Int)
@[go_sem] theorem zRG (s:ByteArray) (n:Int):zf Tryz.prog 9 (.str s) (.int .i64 n)=if 0≤n∧n<s.size then some (.int .u8 (xn s n.toNat)) else none:=by
 simp[zf,zHt,kc,xn]
attribute [go_sem] bD
@[go_sem] theorem zRH (k k':IntKind) (a b:Int):zNG [.int k a,.int k' b]=some (.int k (if a<b then b else a)):=nr rfl
@[go_sem] theorem zRI (k k':IntKind) (a b:Int):zNH [.int k a,.int k' b]=some (.int k (if b<a then b else a)):=nr rfl
@[go_sem] theorem zMk (v:PV) (r:List PV):Zn (.tup (v::r)) 0=some v:=nr rfl
@[go_sem] theorem zMl (v:PV) (r:List PV) (i:Nat):Zn (.tup (v::r)) (i+1)=Zn (.tup r) i:=nr rfl
def zh (v:PV):Prop:=v.refs=[]∧∀S,vI S v=some v
theorem zh.int (k:IntKind) (n:Int):zh (.int k n):=⟨rfl,fun _=>rfl⟩
theorem zh.bool (b:Bool):zh (.bool b):=⟨rfl,fun _=>rfl⟩
theorem zh.str (s:ByteArray):zh (.str s):=⟨rfl,fun _=>rfl⟩
theorem zh.sl (r:List (List PV)):zh (.sl r false):=⟨rfl,fun _=>by cases r <;> rfl⟩
theorem zh.nil:zh (.sl [] true):=⟨rfl,fun _=>rfl⟩
@[go_sem] theorem zRJ (S:zB) (k:IntKind) (n:Int):vI S (.int k n)=some (.int k n):=nr rfl
@[go_sem] theorem zIj (S:zB) (b:Bool):vI S (.bool b)=some (.bool b):=nr rfl
@[go_sem] theorem zRK (S:zB) (s:ByteArray):vI S (.str s)=some (.str s):=nr rfl
@[go_sem] theorem wr (S:zB) (r:List (List PV)):vI S (.sl r false)=some (.sl r false):=nr (by cases r <;> rfl)
@[go_sem] theorem zRL (S:zB):vI S (.sl [] true)=some (.sl [] true):=nr rfl
@[go_sem] theorem zRM (S:zB) (a:List PV) (r:List (List PV)):vI S (.sl (a::r) true)=some (.sl (a::r) false):=nr rfl
@[go_sem] theorem zOu (S:zB) (d:Nat) (k:IntKind) (n:Int):vH S (d+1) (.int k n)=some (.int k n):=nr rfl
@[go_sem] theorem zDW (S:zB) (d:Nat) (b:Bool):vH S (d+1) (.bool b)=some (.bool b):=nr rfl
@[go_sem] theorem zOv (S:zB) (d:Nat) (s:ByteArray):vH S (d+1) (.str s)=some (.str s):=nr rfl
@[go_sem] theorem zQY (S:zB) (d:Nat) (r:List (List PV)) (ex:Bool):vH S (d+1) (.sl r ex)=some (.sl r false):=nr rfl
@[go_sem] theorem zKh {α β:Type} (f:α→Option β):xf f []=some []:=nr rfl
@[go_sem] theorem zIk {α β:Type} (f:α→Option β) (a:α) (r:List α):xf f (a::r)=(f a).bind fun b=>(xf f r).map fun l=>b::l:=nr rfl
theorem XY (S:zB) : ∀d,wV S d []=[]
 | 0=>rfl
 | d+1=>by simp[wV,XY S d]
theorem Kg {S:zB} : ∀ {l:List PV},(∀a∈l,zh a)→xf (vI S) l=some l
 | [],_=>rfl
 | a::r,h=>by simp[xf,(h a (by simp)).2 S,Kg (S:=S) (l:=r) fun x hx=>h x (by simp[hx])]
theorem Kh : ∀ {l:List PV},(∀a∈l,zh a)→l.flatMap PV.refs=[]
 | [],_=>rfl
 | a::r,h=>by simp[BN,(h a (by simp)).1,Kh (l:=r) fun x hx=>h x (by simp[hx])]
theorem zF {S:zB} {f:FuncId} {l:List PV} {v:PV} (h:callL Tryz.prog zD f l=some v) (ha : ∀a∈l,zh a):zO (callL Tryz.prog zD) S f l=some {v} := by
 simp[zO,Kh ha,XY,Kg ha,h]
@[go_sem] theorem zIl {α β:Type} (a:α) (f:α→Option β):(some a).bind f=f a:=nr rfl
@[go_sem] theorem zKi {α β:Type} (a:α) (f:α→β):(some a).map f=some (f a):=nr rfl
@[go_sem] theorem zQZ (ti:TI) (S:zB) (r:List PV):za ti S (.cp r)=part ti r:=nr rfl
@[go_sem] theorem zQ0 (ti:TI) (S:zB) (id i off:Nat):za ti S (.mp id i off)=(zl S id).bind fun rows=>if i<rows.length then part ti ((rows.getD i []).drop off) else none:=nr rfl
@[go_sem] theorem zOO (rows:List (List PV)) (g:Option (Option Nat)) (f:Bool) (S:zB):zl (.arr rows g f::S) 0=some rows:=nr rfl
@[go_sem] theorem zOP (o:Obj) (S:zB) (n:Nat):zl (o::S) (n+1)=zl S n:=nr rfl
attribute [go_sem] pG sB bL bV PA bY List.drop_succ_cons pC aT Nat.lt_add_one
@[go_sem] theorem zRN (S:zB) (id k:Nat) (v:PV):zr S id k v=if v.cells.length=k∧v.cells.all PV.cell=true then some {v:=.mp id 0 0,new:=some ([v.cells],none)} else none:=nr rfl
attribute [go_sem] HY BP sH pD bC bQ bB decide_true decide_false SX List.take_zero List.take_nil List.drop_nil pX aG List.set_cons_succ ge_iff_le
@[go_sem] theorem zDX (l:List PV):PV.cells (.agg l)=l:=nr rfl
@[go_sem] theorem zOQ (k:IntKind) (n:Int):PV.cells (.int k n)=[.int k n]:=nr rfl
@[go_sem] theorem zNS (b:Bool):PV.cells (.bool b)=[.bool b]:=nr rfl
@[go_sem] theorem zOR (b:ByteArray):PV.cells (.str b)=[.str b]:=nr rfl
@[go_sem] theorem zOw (r:List (List PV)) (ex:Bool):PV.cells (.sl r ex)=[.sl r ex]:=nr rfl
@[go_sem] theorem zDY (a b c:Nat) (ex:Bool):PV.cells (.msl a b c ex)=[.msl a b c ex]:=nr rfl
@[go_sem] theorem zOx (a b c:Nat):PV.cells (.mp a b c)=[.mp a b c]:=nr rfl
@[go_sem] theorem zRO (k:IntKind) (n:Int):PV.cell (.int k n)=true:=nr rfl
@[go_sem] theorem zQ1 (b:Bool):PV.cell (.bool b)=true:=nr rfl
@[go_sem] theorem zRP (b:ByteArray):PV.cell (.str b)=true:=nr rfl
@[go_sem] theorem zTU (r:List (List PV)) (ex:Bool):PV.cell (.sl r ex)=true:=nr rfl
@[go_sem] theorem zRQ (a b c:Nat) (ex:Bool):PV.cell (.msl a b c ex)=true:=nr rfl
@[go_sem] theorem zTV (a b c:Nat):PV.cell (.mp a b c)=true:=nr rfl
@[go_sem] theorem zOy:PV.refs .undef=[]:=nr rfl
@[go_sem] theorem zQ2:PV.refs .skip=[]:=nr rfl
@[go_sem] theorem jM (k:IntKind) (n:Int):PV.refs (.int k n)=[]:=nr rfl
@[go_sem] theorem zIm (b:Bool):PV.refs (.bool b)=[]:=nr rfl
@[go_sem] theorem zKj (b:ByteArray):PV.refs (.str b)=[]:=nr rfl
@[go_sem] theorem zHu (r:List (List PV)) (ex:Bool):PV.refs (.sl r ex)=[]:=nr rfl
@[go_sem] theorem zTW (r:List PV):PV.refs (.cp r)=[]:=nr rfl
@[go_sem] theorem jN (l:List PV):PV.refs (.agg l)=vX l:=nr rfl
@[go_sem] theorem zRR (l:List PV):PV.refs (.tup l)=vX l:=nr rfl
@[go_sem] theorem XC (a b c:Nat) (ex:Bool):PV.refs (.msl a b c ex)=[a]:=nr rfl
@[go_sem] theorem vc (a b c:Nat):PV.refs (.mp a b c)=[a]:=nr rfl
@[go_sem] theorem yy:vX []=[]:=nr rfl
@[go_sem] theorem yR (v:PV) (r:List PV):vX (v::r)=v.refs++vX r:=nr rfl
@[go_sem] theorem wQ:zV []=[]:=nr rfl
@[go_sem] theorem yq (v:List PV) (r:List (List PV)):zV (v::r)=vX v++zV r:=nr rfl
def vo (n:Nat):Env→Bool
 | []=>true
 | (_,v)::r=>(v.refs.all fun i=>decide (i<n))&&vo n r
def xv (n:Nat):Nat→zB→Bool
 | 0,_=>true
 | _,[]=>true
 | m+1,.arr rows _ _::r=>((zV rows).all fun i=>decide (i<n))&&xv n m r
 | m+1,.gone::r=>xv n m r
theorem YO (n:Nat) : ∀e:Env,(e.all fun (_,v)=>v.refs.all fun i=>decide (i<n))=vo n e
 | []=>rfl
 | (_,v)::r=>by simp only[HY,vo,YO n r]
theorem jO (n:Nat) : ∀(m:Nat) (S:zB),((S.take m).all fun | .arr rows _ _=>(zV rows).all fun i=>decide (i<n) | .gone=>true)=xv n m S
 | 0,S=>by simp[xv]
 | m+1,[]=>by simp[xv]
 | m+1,.arr rows g f::r=>by simp only[SX,HY,xv,jO n m r]
 | m+1,.gone::r=>by simp only[SX,HY,xv,jO n m r,bC]
@[go_sem] theorem zUm (n:Nat) (k:Nat) (v:PV) (e:Env) (o:Obj) (S:zB):gc n ((k,v)::e) (o::S)=if vo n ((k,v)::e)=true∧xv n n (o::S)=true then (o::S).take n else o::S:=by
 rw[←YO,←jO];rfl
@[go_sem] theorem zMm (n:Nat):vo n []=true:=nr rfl
@[go_sem] theorem zKk (n k:Nat) (v:PV) (r:Env):vo n ((k,v)::r)=((v.refs.all fun i=>decide (i<n))&&vo n r):=nr rfl
@[go_sem] theorem zKl (n:Nat) (S:zB):xv n 0 S=true:=nr (by cases S <;> rfl)
@[go_sem] theorem zKm (n m:Nat) (rows:List (List PV)) (g:Option (Option Nat)) (f:Bool) (r:zB):xv n (m+1) (.arr rows g f::r)=(((zV rows).all fun i=>decide (i<n))&&xv n m r):=nr rfl
@[go_sem] theorem zKn (n m:Nat) (r:zB):xv n (m+1) (.gone::r)=xv n m r:=nr rfl
@[go_sem] theorem Vo (ti:TI) (S:zB) (a v:PV):zY ti S a v=if ti.known=true then (yW ti.size S a v).map fun S => {v:=.skip,S} else none:=nr rfl
@[go_sem] theorem Ww (n:Nat) (rows:List (List PV)) (g:Option (Option Nat)) (S:zB) (i off:Nat) (v:PV):yW n (.arr rows g false::S) (.mp 0 i off) v =
  if i<rows.length∧off+n≤(rows.getD i []).length∧v.cells.length=n∧v.cells.all PV.cell=true then some (.arr (rows.set i (kq (rows.getD i []) off v.cells)) g false::S) else none:=nr rfl
@[go_sem] theorem qj (n:Nat) (o:Obj) (S:zB) (id i off:Nat) (v:PV):yW n (o::S) (.mp (id+1) i off) v=(yW n S (.mp id i off) v).map fun S=>o::S:=by
 simp only[yW,PL]
 cases h:S[id]? with
 | none=>rfl
 | some q =>
  cases q with
  | gone=>rfl
  | arr rows g f =>
   cases f with
   | true=>rfl
   | false =>
    simp only
    split <;> simp
@[go_sem] theorem zAE (row:List PV) (off:Nat) (cs:List PV):kq row off cs=if off=0∧cs.length=row.length then cs else row.take off++cs++row.drop (off+cs.length):=nr rfl
@[go_sem] theorem zOz (e:Env):ZJ [] e=e:=nr rfl
@[go_sem] theorem zTX:List.length ([]:zB)=0:=nr rfl
attribute [go_sem] bF
theorem zRS {α:Type} {c:Prop} [Decidable c] {a b v:α} (h1:c→a=v) (h2 : ¬c→b=v):(if c then a else b)=v:=by
 by_cases h:c
 ·rw[bA h];exact h1 h
 ·rw[hZ h];exact h2 h
@[go_sem] theorem zPA (n:Nat):yO n []=true:=nr rfl
@[go_sem] theorem zOS (n:Nat) (r:List PV) (l:List (List PV)):yO n (r::l)=(r.length == n&&yO n l):=nr rfl
@[go_sem] theorem zU3:List.range 0=[]:=nr rfl
@[go_sem] theorem zU4:List.range 1=[0]:=nr rfl
@[go_sem] theorem zU5:List.range 2=[0,1]:=nr rfl
@[go_sem] theorem zU6:List.range 3=[0,1,2]:=nr rfl
attribute [go_sem] beq_self_eq_true
theorem Wx {b bytes esz:Nat} {S:zB} {id len:Nat} {rows new:List (List PV)} {g:Option Nat} {ex:Bool} {y:PV} (hS:S[id]? = some (.arr rows (some g) false)) (hy:rowsS S y=some new) (hb:b≤id)
  (hl:len=rows.length) (hg:g=none∨g=some esz) (h1:yO esz rows=true) (h2:yO esz new=true) (h3:(rows.length+new.length)*bytes≤140737488355328) (h4:rows.length+new.length≤9223372036854775807)
  (h5:(zV rows++zV new).contains id=false):kM b bytes esz S (.msl id 0 len ex) y=some {v:=.msl id 0 (rows.length+new.length) false,S:=(S.map (yu [id])).set id (.arr (rows++new) (some (some esz)) false),kill:=[id]} := by
 simp only[kM,bA hb,jm,hS,hy,bG];rw[bA ⟨hb,hl,hg,h1,h2,h3,h4,h5⟩]
@[go_sem] theorem zPB (i:Nat) (e:Env):ZJ [i] e=e.map fun (t,v)=>(t,wZ [i] v):=nr rfl
@[go_sem] theorem zRT (ids:List Nat) (v:PV):wZ ids v=if (v.refs.any fun i=>ids.contains i)=true then .undef else v:=nr rfl
@[go_sem] theorem XD (ids:List Nat) (rows:List (List PV)) (g:Option (Option Nat)) (f:Bool):yu ids (.arr rows g f)=.arr (vZ ids rows) g f:=nr rfl
@[go_sem] theorem zDZ (ids:List Nat) (rows:List (List PV)):vZ ids rows=if ((zV rows).any fun i=>ids.contains i)=true then rows.map fun r=>r.map (wZ ids) else rows:=nr rfl
attribute [go_sem] sD HZ BJ BZ pJ bX sX List.contains_cons List.contains_nil
@[go_sem] theorem zKo (S:zB) (d:Nat) (a:Nat) (ids:List Nat):wV S (d+1) (a::ids)=(a::ids)++wV S d ((a::ids).flatMap fun id=>match zl S id with | some rows=>zV rows | none=>[]):=nr rfl
@[go_sem] theorem zFm (S:zB) (d:Nat):wV S d []=[]:=nr (XY S d)
attribute [go_sem] BN List.flatMap_nil
@[go_sem] theorem zKp (S:zB) (i:Nat) (l:List Nat):zH S (i::l)=zH (ke S i) l:=nr rfl
@[go_sem] theorem zNT (rows:List (List PV)) (g:Option (Option Nat)) (f:Bool) (S:zB):ke (.arr rows g f::S) 0=.arr rows g true::S:=nr rfl
@[go_sem] theorem zNU (o:Obj) (S:zB) (i:Nat):ke (o::S) (i+1)=o::ke S i:=nr (by
 simp only[ke,PL]
 split <;> simp_all)
@[go_sem] theorem YP (S:zB) (id off len:Nat) (ex:Bool):rowsIn S (.msl id off len ex)=(zl S id).bind fun rows=>if off+len≤rows.length then some ((rows.drop off).take len) else none:=nr rfl
theorem Wy {α β:Type} {f:α→Option β} {g:α→β} : ∀ {l:List α},(∀a∈l,f a=some (g a))→xf f l=some (l.map g)
 | [],_=>rfl
 | a::r,h=>by simp[xf,h a (by simp),Wy (l:=r) fun x hx=>h x (by simp[hx])]
@[go_sem] theorem zMn (S:zB):zH S []=S:=nr rfl
theorem zKq {n:Nat} {e:Env} {S:zB} (hn:n≤S.length):n≤(gc n e S).length∧∀j,j<n→(gc n e S)[j]? = S[j]? := by
 unfold gc
 split
 ·exact⟨by rw[sM];omega,fun j hj=>by rw[aC hj]⟩
 ·exact⟨hn,fun _ _=>rfl⟩
theorem zD0 {ids:List Nat} {rows:List (List PV)} (h : ∀r∈zV rows,r ∉ ids):vZ ids rows=rows:=by
 unfold vZ;rw[hZ];simp only[List.any_eq_true,not_exists,not_and,SE];exact h
theorem xH {S:zB} {id:Nat} {rows:List (List PV)} {g:Option (Option Nat)} {f:Bool} (h:S[id]? = some (.arr rows g f)):zl S id=some rows:=by simp only[zl,h]
theorem xZ:maxLen≤9223372036854775807:=by decide
theorem zi {i n:Nat} (h:i<n) (hn:n≤maxLen):IntKind.i64.wrap ((i:Int)+1)=((i+1:Nat):Int):=by
 have:=xZ;rw[bE];omega
@[go_sem] theorem zRU (a:Int):decide (a=a)=true:=by simp
@[go_sem] theorem zU7 (n:Nat) (e:Env):gc n e []=[]:=by unfold gc;split <;> simp
@[go_sem] theorem zQ3:exact (.sl [] true)=true:=nr rfl
end
end Go.Vs
