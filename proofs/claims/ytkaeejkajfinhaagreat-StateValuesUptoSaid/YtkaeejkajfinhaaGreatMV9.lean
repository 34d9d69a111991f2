import Derived.IntWalk
import Derived.Test.YtkaeejkajfinhaaGreatMV8
set_option linter.unusedVariables false
set_option linter.unusedSimpArgs false
set_option maxRecDepth 100000
namespace Go.Vs
open Go Go.Proofs
section
noncomputable section
section
variable {α:Type}
noncomputable def US:Env→Nat→(PV→α)→α
 | [],_,k=>k .undef
 | (s,v)::r,t,k=>match Nat.beq s t with | true=>k v | false=>US r t k
noncomputable def zEv:Env→Nat→PV→(Env→α)→α
 | [],t,v,k=>k [(t,v)]
 | (s,u)::r,t,v,k=>match Nat.beq s t with | true=>k ((t,v)::r) | false=>zEv r t v fun r'=>k ((s,u)::r')
noncomputable def Xa (e:Env) (d:Option Nat) (v:PV) (k:Env→α):α:=match d with | some t=>zEv e t v k | none=>k e
noncomputable def zHB:List Nat→Env→(Env→α)→α
 | [],e,k=>k []
 | t::r,e,k=>US e t fun v=>zHB r e fun l=>k ((t,v)::l)
noncomputable def Xq:List Nat→Nat→Bool
 | [],_=>false
 | a::r,t=>match Nat.beq a t with | true=>true | false=>Xq r t
noncomputable def Uy (live:List Nat):Env→(Env→α)→α
 | [],k=>k []
 | (t,v)::r,k=>match Xq live t with | true=>Uy live r fun l=>k ((t,v)::l) | false=>Uy live r fun l=>k ((t,.undef)::l)
noncomputable def zEw (c:Value) (k:PV→α):α:=match c with
 | .int i n=>k (.int i n)
 | .bool b=>k (.bool b)
 | .string s=>k (.str s)
 | .slice none 0 0=>k (.sl [] true)
 | v=>k (jk v)
noncomputable def evK (e:Env) (o:Operand) (k:PV→α):α:=match o with
 | .tmp t=>US e t k
 | .const c=>zEw c k
 | .global _=>k .undef
 | .func f=>k (.fn f [] [])
noncomputable def Yc (e:Env):List Operand→(List PV→α)→α
 | [],k=>k []
 | x::r,k=>evK e x fun v=>Yc e r fun l=>k (v::l)
noncomputable def zJp (e:Env) (o:Option Operand) (k:Option PV→α):α:=match o with
 | some x=>evK e x fun v=>k (some v)
 | none=>k none
noncomputable def zAY (e:Env):List (Nat × Operand)→(List (Nat × PV)→α)→α
 | [],k=>k []
 | (i,x)::r,k=>evK e x fun v=>zAY e r fun l=>k ((i,v)::l)
theorem Uz {a b:Nat} (h:Nat.beq a b=true):a=b:=Nat.eq_of_beq_eq_true h
theorem KA {a b:Nat} (h:Nat.beq a b=false):a≠b:=Nat.ne_of_beq_eq_false h
theorem qL (t:Nat) (k:PV→α) : ∀e:Env,US e t k=k (get e t)
 | []=>rfl
 | (s,v)::r=>by
  simp only[US,get]
  cases h:Nat.beq s t with
  | true=>rw[bA (Uz h)]
  | false=>rw[hZ (KA h)];exact qL t k r
theorem W3 (t:Nat) (v:PV) : ∀(e:Env) (k:Env→α),zEv e t v k=k (put e t v)
 | [],k=>rfl
 | (s,u)::r,k=>by
  simp only[zEv,put]
  cases h:Nat.beq s t with
  | true=>rw[bA (Uz h)]
  | false=>rw[hZ (KA h)];exact W3 t v r _
theorem vC (e:Env) (d:Option Nat) (v:PV) (k:Env→α):Xa e d v k=k (putD e d v):=by
 cases d with
 | none=>rfl
 | some t=>exact W3 t v e k
theorem zCa : ∀(l:List Nat) (e:Env) (k:Env→α),zHB l e k=k (trim l e)
 | [],e,k=>rfl
 | t::r,e,k=>by simp only[zHB,qL,zCa r];rfl
theorem jl (t:Nat) : ∀l:List Nat,Xq l t=l.contains t
 | []=>rfl
 | a::r=>by
  simp only[Xq,List.contains_cons]
  cases h:Nat.beq a t with
  | true=>have:=Uz h;subst this;simp
  | false =>
   have h2:=KA h;have h3:(t == a)=false:=by simpa using fun e=>h2 e.symm
   rw[h3,bW];exact jl t r
theorem Yd (live:List Nat) : ∀(e:Env) (k:Env→α),Uy live e k=k (keepOnly live e)
 | [],k=>rfl
 | (t,v)::r,k=>by
  simp only[Uy,jl,keepOnly,pZ];cases live.contains t with
  | true=>exact Yd live r _
  | false=>exact Yd live r _
theorem zHw (c:Value) (k:PV→α):zEw c k=k (jk c):=by
 unfold zEw
 split <;> rfl
theorem qC (e:Env) (o:Operand) (k:PV→α):evK e o k=k (ev e o):=by
 cases o with
 | tmp t=>exact qL t k e
 | const c=>exact zHw c k
 | global _=>rfl
 | func f=>rfl
theorem kB (e:Env) : ∀(l:List Operand) (k:List PV→α),Yc e l k=k (l.map (ev e))
 | [],k=>rfl
 | x::r,k=>by simp only[Yc,qC,kB e r,pZ]
theorem zMZ (e:Env) (o:Option Operand) (k:Option PV→α):zJp e o k=k (o.map (ev e)):=by
 cases o with
 | none=>rfl
 | some x=>simp only[zJp,qC,pE]
theorem QS (e:Env) : ∀(l:List (Nat × Operand)) (k:List (Nat × PV)→α),zAY e l k=k (l.map fun p=>(p.1,ev e p.2))
 | [],k=>rfl
 | (i,x)::r,k=>by simp only[zAY,qC,QS e r,pZ]
end
section
variable {R:Type}
noncomputable def Ye {A:Type} : Nat→Option A→(A→Option R)→Option R
 | 0,_,_=>none
 | _+1,some v,K=>K v
 | n+1,none,K=>Ye n none K
theorem zEx {A:Type} (v:A) (K:A→Option R):Ye 1 (some v) K=K v:=nr rfl
theorem zEy {A:Type} (K:A→Option R):Ye 1 none K=none:=nr rfl
theorem vZ {A:Type} (x:Option A) (K:A→Option R):Ye 1 x K=x.bind K:=by cases x <;> rfl
noncomputable def YM:Nat→Bool→Option R→Option R→Option R
 | 0,_,_,B=>B
 | _+1,true,A,_=>A
 | n+1,false,A,B=>YM n false A B
theorem zEz (A B:Option R):YM 1 true A B=A:=nr rfl
theorem zCb (A B:Option R):YM 1 false A B=B:=nr rfl
noncomputable def zAZ (ids:List Nat) (v:PV) (k:PV→Option R):Option R:=match v with
 | .int a b=>k (.int a b)
 | .bool b=>k (.bool b)
 | .str s=>k (.str s)
 | .sl r x=>k (.sl r x)
 | .cp r=>k (.cp r)
 | .skip=>k .skip
 | .undef=>k .undef
 | .msl i o l x=>YM 1 (Xq ids i) (k .undef) (k (.msl i o l x))
 | .mp i o l=>YM 1 (Xq ids i) (k .undef) (k (.mp i o l))
 | v=>k (wS ids v)
noncomputable def zCc (ids:List Nat):Env→(Env→Option R)→Option R
 | [],k=>k []
 | (t,v)::r,k=>zAZ ids v fun v=>zCc ids r fun l=>k ((t,v)::l)
theorem zHx (ids:List Nat) (v:PV) (k:PV→Option R):zAZ ids v k=k (wS ids v):=by
 cases v <;> try rfl
 case msl i o l x =>
  simp only[zAZ,jl,wS,PV.refs,BA,BQ,pJ]
  cases ids.contains i <;> rfl
 case mp i o l =>
  simp only[zAZ,jl,wS,PV.refs,BA,BQ,pJ]
  cases ids.contains i <;> rfl
theorem QT (ids:List Nat) : ∀(e:Env) (k:Env→Option R),zCc ids e k=k (e.map fun (t,v)=>(t,wS ids v))
 | [],k=>rfl
 | (t,v)::r,k=>by simp only[zCc,zHx,QT ids r,pZ]
theorem KB (ids:List Nat) (e:Env) (k:Env→Option R):zCc ids e k=k (qj ids e):=by
 rw[QT];cases ids with
 | nil =>
  have h:(e.map fun (t,v)=>(t,wS [] v))=e:=by
   have : ∀v,wS [] v=v:=fun v=>by simp[wS]
   simp[this]
  rw[h];rfl
 | cons i r=>simp only[qj,reduceCtorEq,if_false]
noncomputable def zl (P:Program) (H:Hints) (S:zB) (f:FuncId) (xs:List PV):Option Eff :=
 if H.refs f then (callRL P H f xs S).bind fun (v,S')=>if S.length≤S'.length∧xS S=true∧wU S.length xs=true∧zCE (H.reads f) S S' then some {v,S:=S'} else none
 else (xY (wy S) xs).bind fun args=>(callL P H f args).map fun v => {v,S:=zH S (wO S 8 (xs.flatMap PV.refs))}
noncomputable def zf (P:Program) (H:Hints) (S:zB) (f:PV) (xs:List PV):Option Eff:=match f with
 | .fn f first caps=>zl P H S f (first++xs++caps)
 | _=>none
noncomputable def zTa:BinOp→Bool
 | .quo | .rem | .shl | .shr=>false
 | _=>true
noncomputable def Zo (P:Program) (H:Hints) (h:Hint) (b0:Nat) (o:Op) (e:Env) (S:zB) (F:Bool→OR→Option R):Option R:=match o with
 | .move x | .assign x=>evK e x fun a=>F true (.val (some a))
 | .pick c a b=>evK e c fun c=>evK e a fun a=>evK e b fun b=>F true (.val (zJk c a b))
 | .build t ps=>zAY e ps.toList fun l=>F false (.val (zV P t l))
 | .makeFunc (.func f) first caps=>Yc e first.toList fun a=>Yc e caps.toList fun b=>F true (.val (some (.fn f a b)))
 | .extract x i=>evK e x fun x=>F true (.val (ZY x i))
 | .nilCheck x=>evK e x fun x=>F true (.val (XB x))
 | .index t x i=>evK e x fun x=>evK e i fun i=>F false (.val (ze P t x i))
 | .load t a=>evK e a fun a=>F false (.val (za (tyi P t) S a))
 | .binOp op t x yo _=>evK e x fun x=>evK e yo fun y=>(match x,y with | .int k a,.int k' b=>F (zTa op) (.val (xN op (tyi P t) (.int k a) (.int k' b))) | a,b=>F false (.val (qU op (tyi P t) yo a b)))
 | .unOp op _ x=>evK e x fun x=>F true (.val (zEg op x))
 | .convert s d x=>evK e x fun x=>F false (.val (zL P s d S x))
 | .slice t x lo hi mx=>evK e x fun x=>zJp e lo fun lo=>zJp e hi fun hi=>zJp e mx fun mx=>F false (.val (zY P t S x lo hi mx))
 | .fieldAddr t x f=>evK e x fun x=>F false (.val (zA (tyi P t) f x))
 | .field t x f=>evK e x fun x=>F false (.val (zK (tyi P t) f x))
 | .indexAddr t x i=>evK e x fun x=>evK e i fun i=>F false (.val (zI P t S x i))
 | .alloc t=>F false (.out (zU (tyi P t) S.length))
 | .box t x=>evK e x fun x=>F false (.out (zn S S.length (tyi P t).size x))
 | .buildSlice t len ps=>Yc e (ps.toList.map (·.2)) fun l=>F false (.out (zG P t S.length len (ps.toList.map (·.1)) (l.map PV.cells)))
 | .makeSlice t l c=>evK e l fun l=>evK e c fun c=>F false (.out (zJ P t S.length l c))
 | .store t a x=>evK e a fun a=>evK e x fun x=>F false (.sto (zW (tyi P t) S a x))
 | .call c=>(match c.callee with
  | .builtin .len=>(match c.argTypes.toList,c.args.toList with | t::_,x::_=>evK e x fun x=>F false (.val (yI (tyi P t) x)) | _,_=>F false (jT (uX P H b0 h) o e S))
  | .builtin .max=>Yc e c.args.toList fun l=>F true (.val (zMU l))
  | .builtin .min=>Yc e c.args.toList fun l=>F true (.val (zMV l))
  | .builtin .append=>(match c.argTypes.toList,c.args.toList with
   | t::u::_,[x,y]=>evK e x fun x=>evK e y fun y=>F false (.eff (zR P b0 t u S x y))
   | _,_=>F false (jT (uX P H b0 h) o e S))
  | .builtin .copy=>(match c.argTypes.toList,c.args.toList with
   | t::u::_,[x,y]=>evK e x fun x=>evK e y fun y=>F false (.sto (zm P t u S x y))
   | _,_=>F false (jT (uX P H b0 h) o e S))
  | .value (.func f)=>(match H.refs f with
   | true=>Yc e c.args.toList fun l=>F false (.sto (zl P H S f l))
   | false=>Yc e c.args.toList fun l=>F false (.out (zO (callL P H) S f l)))
  | .value f=>evK e f fun f=>Yc e c.args.toList fun l=>F false (.sto (zf P H S f l))
  | _=>F false (jT (uX P H b0 h) o e S))
 | o=>F false (jT (uX P H b0 h) o e S)
theorem zHC (P:Program) (H:Hints) (b0:Nat) (h:Hint) (o:Op) (e:Env) (S:zB) (F:Bool→OR→Option R) (hF : ∀a q,F a q=F true q):Zo P H h b0 o e S F=F true (jT (uX P H b0 h) o e S):=by
 have hf : ∀q,F false q=F true q:=fun q=>hF false q
 cases o <;> try rfl
 all_goals try exact hf _
 all_goals try (simp only[Zo,qC,zMZ,kB,QS,hf];rfl)
 case binOp op t x y u =>
  simp only[Zo,qC,hf];have h0:jT (uX P H b0 h) (.binOp op t x y u) e S=.val (qU op (tyi P t) y (ev e x) (ev e y)):=rfl;rw[h0]
  cases ev e x <;> cases ev e y <;> first | rfl | exact hF _ _
 case makeFunc fn first caps =>
  cases fn <;> first | (simp only[Zo,kB];rfl) | (simp only[Zo,hf])
 case buildSlice t len ps =>
  simp only[Zo,kB,List.map_map,hf];rfl
 case call c =>
  obtain⟨ce,xs,ts⟩:=c;cases ce with
  | invoke r m=>simp only[Zo,hf]
  | value f =>
   cases f with
   | func f =>
    simp only[Zo,kB,hf];have h0:jT (uX P H b0 h) (.call ⟨.value (.func f),xs,ts⟩) e S=if H.refs f then .sto (zl P H S f ([]++xs.toList.map (ev e)++[])) else .out (zO (callL P H) S f ([]++xs.toList.map (ev e)++[])):=rfl;rw[h0]
    cases H.refs f <;> simp
   | tmp t=>simp only[Zo,qC,kB,hf];rfl
   | const t=>simp only[Zo,qC,kB,hf];rfl
   | global t=>simp only[Zo,qC,kB,hf];rfl
  | builtin b =>
   cases b <;> try (first | rfl | (simp only[Zo,hf];done))
   case len =>
    simp only[Zo,qC,hf];have h0:jT (uX P H b0 h) (.call ⟨.builtin .len,xs,ts⟩) e S=(match (match ts[0]?,xs[0]? with | some t,some x=>some (yI (tyi P t) (ev e x)) | _,_=>none) with | some x=>OR.val x | none=>.out none):=rfl;rw[h0];obtain⟨ts⟩:=ts;obtain⟨xs⟩:=xs
    rcases ts with _ | ⟨t,ts⟩ <;> rcases xs with _ | ⟨x,xs⟩ <;> rfl
   case append =>
    simp only[Zo,qC,hf];have h0:jT (uX P H b0 h) (.call ⟨.builtin .append,xs,ts⟩) e S=(match ts[0]?,ts[1]?,xs.toList with
    | some t,some u,[x,y]=>OR.eff (zR P b0 t u S (ev e x) (ev e y))
    | _,_,_=>.out none):=rfl
    rw[h0];obtain⟨ts⟩:=ts;obtain⟨l⟩:=xs
    rcases l with _ | ⟨x,_ | ⟨y,_ | ⟨w,l⟩⟩⟩ <;> rcases ts with _ | ⟨t,_ | ⟨u,ts⟩⟩ <;> rfl
   case copy =>
    simp only[Zo,qC,hf];have h0:jT (uX P H b0 h) (.call ⟨.builtin .copy,xs,ts⟩) e S=(match ts[0]?,ts[1]?,xs.toList with
    | some t,some u,[x,y]=>OR.sto (zm P t u S (ev e x) (ev e y))
    | _,_,_=>.out none):=rfl
    rw[h0];obtain⟨ts⟩:=ts;obtain⟨l⟩:=xs
    rcases l with _ | ⟨x,_ | ⟨y,_ | ⟨w,l⟩⟩⟩ <;> rcases ts with _ | ⟨t,_ | ⟨u,ts⟩⟩ <;> rfl
   case max=>simp only[Zo,kB];rfl
   case min=>simp only[Zo,kB];rfl
noncomputable def orK (q:OR) (e:Env) (S:zB) (d:Option Nat) (K:Env→zB→Option R):Option R:=match q with
 | .val x=>Ye 1 x fun v=>Xa e d v fun e=>K e S
 | .out x=>Ye 1 x fun o=>Xa e d o.v fun e=>K e (uP (zH S o.fz) o.new)
 | .eff x=>Ye 1 x fun r=>zCc r.kill e fun e=>Xa e d r.v fun e=>K e r.S
 | .sto x=>Ye 1 x fun r=>Xa e d r.v fun e=>K e r.S
noncomputable def zJq (g:PV) (want:Bool) (A B:Option R):Option R:=match g with
 | .bool b=>(match want with | true=>YM 1 b A B | false=>YM 1 b B A)
 | .skip=>B
 | _=>none
theorem XC (g:PV) (want:Bool) (A B:Option R):zJq g want A B=(match g with | .bool b=>if b=want then A else B | .skip=>B | _=>none):=by
 cases g <;> try rfl
 rename_i b
 cases b <;> cases want <;> rfl
noncomputable def doK (P:Program) (H:Hints) (h:Hint) (b0:Nat) (o:Oper) (e:Env) (S:zB) (K1 K2:Env→zB→Option R):Option R:=match o.dst with
 | some d=>Zo P H h b0 o.op e S fun now q=>(match now with | true=>orK q e S (some d) K1 | false=>orK q e S (some d) K2)
 | none=>Zo P H h b0 o.op e S fun now q=>(match now with | true=>orK q e S none K1 | false=>orK q e S none K2)
theorem zA0 (P:Program) (H:Hints) (h:Hint) (b0:Nat) (o:Oper) (e:Env) (S:zB) (K:Env→zB→Option R):doK P H h b0 o e S K K=orK (jT (uX P H b0 h) o.op e S) e S o.dst K:=by
 unfold doK;cases o.dst with
 | none =>
  dsimp only;rw[zHC _ _ _ _ _ _ _ _ fun a q=>by cases a <;> rfl]
 | some d =>
  dsimp only;rw[zHC _ _ _ _ _ _ _ _ fun a q=>by cases a <;> rfl]
noncomputable def opK (P:Program) (H:Hints) (h:Hint) (b0:Nat) (dsts:Nat→Option Nat) (o:Oper) (e:Env) (S:zB) (K:Env→zB→Option R):Option R:=match o.guard with
 | none=>doK P H h b0 o e S K K
 | some (j,want)=>(match dsts j with
  | none=>Xa e o.dst .skip fun e=>K e S
  | some t=>US e t fun g=>zJq g want (doK P H h b0 o e S K K) (Xa e o.dst .skip fun e=>K e S))
theorem zOC (P:Program) (H:Hints) (b0:Nat) (h:Hint) (ops:Array Oper) (o:Oper) (r:List Oper) (e:Env) (S:zB) (K:Env→zB→Option R):vw (uX P H b0 h) ops (o::r) e S K=opK P H h b0 (fun j=>(ops[j]?).bind (·.dst)) o e S fun e S=>vw (uX P H b0 h) ops r e S K:=by
 simp only[vw,opK,zA0,vC,qL];cases o.guard with
 | none =>
  dsimp only
  cases jT (uX P H b0 h) o.op e S with
  | val x=>cases x <;> simp only[orK,vZ,zC3,vC,bI,HR]
  | out x=>cases x <;> simp only[orK,vZ,zC4,vC,bI,HR]
  | eff x=>cases x <;> simp only[orK,vZ,zC5,vC,KB,bI,HR]
  | sto x=>cases x <;> simp only[orK,vZ,zC6,vC,bI,HR]
 | some jw =>
  obtain⟨j,want⟩:=jw;dsimp only
  cases (ops[j]?).bind (·.dst) with
  | none=>rfl
  | some t =>
   dsimp only
   cases jT (uX P H b0 h) o.op e S with
   | val x=>cases get e t <;> simp only[zNx,XC] <;> (try rfl) <;> (split <;> (try rfl)) <;> cases x <;> simp only[orK,vZ,zC3,vC,bI,HR]
   | out x=>cases get e t <;> simp only[zNy,XC] <;> (try rfl) <;> (split <;> (try rfl)) <;> cases x <;> simp only[orK,vZ,zC4,vC,bI,HR]
   | eff x=>cases get e t <;> simp only[zHr,XC] <;> (try rfl) <;> (split <;> (try rfl)) <;> cases x <;> simp only[orK,vZ,zC5,vC,KB,bI,HR]
   | sto x=>cases get e t <;> simp only[zHr,XC] <;> (try rfl) <;> (split <;> (try rfl)) <;> cases x <;> simp only[orK,vZ,zC6,vC,bI,HR]
end
noncomputable def kid:Code→Nat→Code
 | .seq a b,i=>(match i with | 0=>a | _=>b)
 | .cond _ a b,i=>(match i with | 0=>a | _=>b)
 | .block _ a,_=>a
 | .loop a,_=>a
 | _,_=>.skip
noncomputable def KC:Nat→Code→Nat→Code
 | 0,c,_=>c
 | n+1,c,p=>match Nat.ble p 1 with | true=>c | false=>kid (KC n c (p / 2)) (p % 2)
noncomputable def sub (c:Code) (p:Nat):Code:=KC 200 c p
noncomputable def far:Nat:=2^199
theorem QU : ∀(n:Nat) (c:Code) (p:Nat),p<2^n→KC (n+1) c p=KC n c p
 | 0,c,p,h=>by
  have:Nat.ble p 1=true:=by rw[Nat.ble_eq];omega
  simp only[KC,this]
 | n+1,c,p,h=>by
  have h2:p / 2<2^n:=by rw[Nat.pow_succ]at h;omega
  rw[KC,QU n c _ h2];rfl
theorem zHD (c:Code) (p i:Nat) (hp:1≤p) (hf:p<2^199) (hi:i<2):sub c (2*p+i)=kid (sub c p) i:=by
 have h:Nat.ble (2*p+i) 1=false:=by
  cases hb:Nat.ble (2*p+i) 1 with
  | false=>rfl
  | true=>rw[Nat.ble_eq]at hb;omega
 have e:sub c p=KC 199 c p:=QU 199 c p hf;rw[e]
 show KC (199+1) c (2*p+i)=_
 rw[KC,h];have e1:(2*p+i) / 2=p:=by omega
 have e2:(2*p+i) % 2=i:=by omega
 simp only[e1,e2]
inductive Md where
 | at (b p:Nat) | ops (b p j:Nat) | opy (b p j:Nat) | opn (b p j:Nat) | nor | exi (i:Nat)
inductive Fr where
 | seq (b p:Nat) | blk (i:Nat) | lop (b p n:Nat)
structure FX where
 fn:Func
 h:Hint
 dyn:List Nat:=[]
noncomputable def FX.C (F:FX) (b0:Nat):Ctx:=uX Tryz.prog zE b0 F.h
noncomputable def FX.root (F:FX):Code:=match F.fn.body with | some c=>c | none=>.skip
abbrev RS1:=Option (PV × zB)
abbrev KS:=Vs.X→Env→zB→RS1
noncomputable def FX.lh (F:FX) (b:Nat):LoopHint:=match F.h.loops.lookup b with | some h=>h | none => {live:=[],after:=[]}
noncomputable def ws (b0:Nat) (F:FX):List Fr→KS
 | []=>zOA Tryz.prog F.fn
 | .seq b p::r=>zNz (fun e S=>xu (F.C b0) b (sub F.root p) (ws b0 F r) e S) (ws b0 F r)
 | .blk i::r=>Xn i (ws b0 F r)
 | .lop b p n::r=>zJm (qV (F.lh b).live (F.lh b).fz n) (ZK b n (F.lh b).after (ws b0 F r)) (fun e S=>X8 (fun K e S=>xu (F.C b0) b (sub F.root p) K e S) (qV (F.lh b).live (F.lh b).fz n) (ZK b n (F.lh b).after (ws b0 F r)) e S)
noncomputable def JZ (b0:Nat) (F:FX) (m:Md) (fs:List Fr) (e:Env) (S:zB):RS1:=match m with
 | .at b p=>xu (F.C b0) b (sub F.root p) (ws b0 F fs) e S
 | .ops b p j=>(match sub F.root p with
  | .region id ops _=>vw (F.C b0) ops (ops.toList.drop j) e S fun e S=>ws b0 F fs .normal (trim (F.h.at id) e) S
  | _=>none)
 | .opy b p j=>(match sub F.root p with
  | .region id ops _=>(match ops.toList.drop j with
   | []=>none
   | o::_=>orK (jT (F.C b0) o.op e S) e S o.dst fun e S=>vw (F.C b0) ops (ops.toList.drop (j+1)) e S fun e S=>ws b0 F fs .normal (trim (F.h.at id) e) S)
  | _=>none)
 | .opn b p j=>(match sub F.root p with
  | .region id ops _=>(match ops.toList.drop j with
   | []=>none
   | o::_=>vw (F.C b0) ops (ops.toList.drop (j+1)) (putD e o.dst .skip) S fun e S=>ws b0 F fs .normal (trim (F.h.at id) e) S)
  | _=>none)
 | .nor=>ws b0 F fs .normal e S
 | .exi i=>ws b0 F fs (.exit i) e S
noncomputable def zJr (b0:Nat) (F:FX) (b p n:Nat) (fs:List Fr) (e:Env) (S:zB):RS1 :=
 X8 (fun K e S=>xu (F.C b0) b (sub F.root p) K e S) (qV (F.lh b).live (F.lh b).fz n) (ZK b n (F.lh b).after (ws b0 F fs)) e S
theorem zJs : ∃f:Nat→FX→Md→List Fr→Env→zB→RS1,f=JZ:=⟨_,rfl⟩
theorem zHE : ∃f:Nat→FX→Nat→Nat→Nat→List Fr→Env→zB→RS1,f=zJr:=⟨_,rfl⟩
theorem zHF : ∃f:Nat→FX→Nat→List Fr→Env→zB→RS1,f=fun b0 F i fs e S=>JZ b0 F (.exi i) fs e S:=⟨_,rfl⟩
noncomputable def sem:Nat→FX→Md→List Fr→Env→zB→RS1:=Classical.choose zJs
noncomputable def zS:Nat→FX→Nat→Nat→Nat→List Fr→Env→zB→RS1:=Classical.choose zHE
noncomputable def yB:Nat→FX→Nat→List Fr→Env→zB→RS1:=Classical.choose zHF
theorem Yf (b0:Nat) (F:FX) (m:Md) (fs:List Fr) (e:Env) (S:zB):sem b0 F m fs e S=JZ b0 F m fs e S:=by rw[sem,SN zJs]
theorem jU (b0:Nat) (F:FX) (b p n:Nat) (fs:List Fr) (e:Env) (S:zB):zS b0 F b p n fs e S=zJr b0 F b p n fs e S:=by rw[zS,SN zHE]
theorem jV (b0:Nat) (F:FX) (i:Nat) (fs:List Fr) (e:Env) (S:zB):yB b0 F i fs e S=JZ b0 F (.exi i) fs e S:=by rw[yB,SN zHF]
section
variable {R:Type}
noncomputable def zFA:List Nat→Env→zB→(Env→zB→Option R)→Option R
 | [],e,S,k=>k e S
 | t::r,e,S,k=>match Nat.blt t 1000 with
  | true=>US e t fun x=>(match x with
   | .sl [] true=>zEv e t (.msl S.length 0 0 false) fun e=>zFA r e (S++[.arr [] (some none) false]) k
   | .msl id off len true=>zEv e t (.msl id off len false) fun e=>zFA r e S k
   | _=>zFA r e S k)
  | false=>US e (t % 1000) fun x=>zFA r e (ownMem S x (t / 1000-1)) k
noncomputable def fzK:List Nat→Env→zB→(Env→zB→Option R)→Option R
 | [],e,S,k=>k e S
 | t::r,e,S,k=>US e t fun x=>match wy S x with
  | some v=>zEv e t v fun e=>fzK r e (zH S (wO S 8 x.refs)) k
  | none=>none
theorem W4 : ∀(l:List Nat) (e:Env) (S:zB) (k:Env→zB→Option R),zFA l e S k=k (ownAll l e S).1 (ownAll l e S).2
 | [],e,S,k=>rfl
 | t::r,e,S,k=>by
  have e1:ownAll (t::r) e S=ownAll r (own1 e S t).1 (own1 e S t).2:=rfl;rw[e1];simp only[zFA,qL,own1]
  cases hb:Nat.blt t 1000 with
  | true =>
   have ht:t<1000:=Eq.mp Nat.blt_eq hb;rw[bA ht];dsimp only;generalize hx:get e t=x
   split
   ·simp only[W3,W4 r]
   ·simp only[W3,W4 r]
   ·rename_i h1 h2
    split
    ·exact (h1 rfl).elim
    ·exact (h2 _ _ _ rfl).elim
    ·exact W4 r _ _ _
  | false =>
   have ht : ¬t<1000:=fun h=>by rw[Eq.mpr Nat.blt_eq h]at hb;cases hb
   rw[hZ ht];exact W4 r _ _ _
theorem zFB : ∀(l:List Nat) (e:Env) (S:zB) (k:Env→zB→Option R),fzK l e S k=(fzSlots l e S).bind fun r=>k r.1 r.2
 | [],e,S,k=>rfl
 | t::r,e,S,k=>by
  simp only[fzK,qL,fzSlots,fzSlot]
  cases wy S (get e t) with
  | none=>rfl
  | some v=>simp only[W3,zFB r,pE,bI]
end
noncomputable def zHy (P:Program) (e:Env) (S:zB):List ResultVar→(List PV→RS1)→RS1
 | [],k=>k []
 | .tmp t::r,k=>US e t fun v=>zHy P e S r fun l=>k (v::l)
 | .cell a t::r,k=>US e a fun a=>Ye 1 (za (tyi P t) S a) fun v=>zHy P e S r fun l=>k (v::l)
noncomputable def zM0 (F:FX) (e:Env) (S:zB):RS1:=zHy Tryz.prog e S F.fn.results.toList fun vs=>match vs with | [v]=>some (v,S) | vs=>some (.tup vs,S)
theorem zA1 (P:Program) (e:Env) (S:zB) : ∀(rs:List ResultVar) (k:List PV→RS1),zHy P e S rs k=(xY (uU P e S) rs).bind k
 | [],k=>rfl
 | .tmp t::r,k=>by
  simp only[zHy,qL,zA1 P e S r,xY,uU,bI]
  cases xY (uU P e S) r <;> rfl
 | .cell a t::r,k=>by
  simp only[zHy,qL,xY,uU,vZ]
  cases za (tyi P t) S (get e a) with
  | none=>rfl
  | some v =>
   simp only[bI,zA1 P e S r]
   cases xY (uU P e S) r <;> rfl
theorem zHG (F:FX) (e:Env) (S:zB):zM0 F e S=(uk Tryz.prog F.fn e S).map fun v=>(v,S):=by
 unfold zM0 uk;rw[zA1]
 cases xY (uU Tryz.prog e S) F.fn.results.toList with
 | none=>rfl
 | some vs =>
  simp only[bI,pE]
  rcases vs with _ | ⟨v,_ | ⟨w,vs⟩⟩ <;> rfl
noncomputable def zJt (v:PV) (A B:RS1):RS1:=match v with
 | .bool t=>YM 1 t A B
 | _=>none
theorem zJu (v:PV) (A B:RS1):zJt v A B=QP v A B:=by
 cases v <;> try rfl
 rename_i b
 cases b <;> rfl
noncomputable def zM1 (b0:Nat) (F:FX) (p:Nat) (e:Env) (S:zB):Bool:=match sub F.root p with
 | .region _ ops _=>uS ops (ZU zE ops)||uS ops (fun j=>(wB (F.C b0) ops ops.toList e S).getD j 0)
 | _=>false
theorem zJv : ∃f:Nat→FX→Nat→Env→zB→Bool,f=zM1:=⟨_,rfl⟩
noncomputable def zCd:Nat→FX→Nat→Env→zB→Bool:=Classical.choose zJv
theorem zHH (b0:Nat) (F:FX) (p:Nat) (e:Env) (S:zB):zCd b0 F p e S=zM1 b0 F p e S:=by rw[zCd,SN zJv]
noncomputable def qp (b0:Nat) (F:FX) (_:Nat) (ih:Md→List Fr→Env→zB→RS1) (m:Md) (fs:List Fr) (e:Env) (S:zB):RS1:=match m with
  | .at b p=>(match Nat.ble 1 p&&Nat.blt p far with
   | false=>sem b0 F (.at b p) fs e S
   | true=>(match sub F.root p with
    | .skip=>ih .nor fs e S
    | .seq _ _=>ih (.at b (2*p)) (.seq b (2*p+1)::fs) e S
    | .cond c _ _=>evK e c fun v=>zJt v (sem b0 F (.at b (2*p)) fs e S) (sem b0 F (.at b (2*p+1)) fs e S)
    | .block i _=>ih (.at i (2*p)) (.blk i::fs) e S
    | .exit i=>ih (.exi i) fs e S
    | .ret=>zM0 F e S
    | .region id ops d=>(match d&&Xq F.dyn id with
     | true=>(match zCd b0 F p e S with | true=>ih (.ops b p 0) fs e S | false=>none)
     | false=>ih (.ops b p 0) fs e S)
    | .loop _=>(match F.h.loops.lookup b with
     | none=>none
     | some h=>Uy h.live e fun e=>zFA h.own e S fun e S=>fzK h.fz e S fun e S=>zS b0 F b (2*p) S.length fs e S)
    | _=>none))
  | .ops b p j=>(match sub F.root p with
   | .region id ops _=>(match ops.toList.drop j with
    | []=>zHB (F.h.at id) e fun e=>ih .nor fs e S
    | o::_=>(match o.guard with
     | none=>doK Tryz.prog zE F.h b0 o e S (fun e S=>ih (.ops b p (j+1)) fs e S) (fun e S=>sem b0 F (.ops b p (j+1)) fs e S)
     | some (i,want)=>(match (ops[i]?).bind (·.dst) with
      | none=>Xa e o.dst .skip fun e=>ih (.ops b p (j+1)) fs e S
      | some t=>US e t fun g=>(match g with
       | .bool g=>(match want with
        | true=>YM 1 g (sem b0 F (.opy b p j) fs e S) (sem b0 F (.opn b p j) fs e S)
        | false=>YM 1 g (sem b0 F (.opn b p j) fs e S) (sem b0 F (.opy b p j) fs e S))
       | .skip=>Xa e o.dst .skip fun e=>ih (.ops b p (j+1)) fs e S
       | _=>none))))
   | _=>none)
  | .opy b p j=>(match sub F.root p with
   | .region id ops _=>(match ops.toList.drop j with
    | []=>none
    | o::_=>doK Tryz.prog zE F.h b0 o e S (fun e S=>ih (.ops b p (j+1)) fs e S) (fun e S=>sem b0 F (.ops b p (j+1)) fs e S))
   | _=>none)
  | .opn b p j=>(match sub F.root p with
   | .region id ops _=>(match ops.toList.drop j with
    | []=>none
    | o::_=>Xa e o.dst .skip fun e=>ih (.ops b p (j+1)) fs e S)
   | _=>none)
  | .nor=>(match fs with
   | []=>zM0 F e S
   | .seq b p::r=>ih (.at b p) r e S
   | .blk _::r=>ih .nor r e S
   | .lop b p k::r=>Uy (F.lh b).live e fun e=>fzK (F.lh b).fz e S fun e S=>zS b0 F b p k r e (gc k e S))
  | .exi i=>(match fs with
   | []=>none
   | .seq _ _::r=>ih (.exi i) r e S
   | .blk j::r=>(match Nat.beq i j with | true=>ih .nor r e S | false=>ih (.exi i) r e S)
   | .lop b _ k::r=>(match Nat.beq i b with | true=>Uy (F.lh b).after e fun e=>yB b0 F i r e (gc k e S) | false=>ih (.exi i) r e S))
noncomputable def run (b0:Nat) (F:FX):Nat→Md→List Fr→Env→zB→RS1
 | 0,m,fs,e,S=>sem b0 F m fs e S
 | n+1,m,fs,e,S=>qp b0 F n (run b0 F n) m fs e S
theorem ZZ (b0:Nat) (F:FX) (n:Nat) (m:Md) (fs:List Fr) (e:Env) (S:zB):run b0 F (n+1) m fs e S=qp b0 F n (run b0 F n) m fs e S:=rfl
noncomputable def FX.good (F:FX):Bool:=goodC zE F.dyn F.root
where goodC (H:Hints) (dyn:List Nat):Code→Bool
 | .region id ops d=>if d=true then Xq dyn id||uS ops (ZU H ops) else true
 | .seq a b=>goodC H dyn a&&goodC H dyn b
 | .cond _ a b=>goodC H dyn a&&goodC H dyn b
 | .block _ a=>goodC H dyn a
 | .loop a=>goodC H dyn a
 | _=>true
theorem zHz (H:Hints) (dyn:List Nat) (c:Code) (i:Nat) (h:FX.good.goodC H dyn c=true):FX.good.goodC H dyn (kid c i)=true:=by
 cases c <;> simp only[FX.good.goodC,kid,bO]at h ⊢ <;> (try exact h)
 ·cases i <;> simp_all
 ·cases i <;> simp_all
theorem QV (H:Hints) (dyn:List Nat) : ∀(n:Nat) (c:Code) (p:Nat),FX.good.goodC H dyn c=true→FX.good.goodC H dyn (KC n c p)=true
 | 0,c,p,h=>h
 | n+1,c,p,h=>by
  rw[KC];cases Nat.ble p 1 with
  | true=>exact h
  | false=>exact zHz H dyn _ _ (QV H dyn n c _ h)
theorem W5 (b0:Nat) (F:FX) (e:Env) (S:zB) : ∀fs,ws b0 F fs .ret e S=(uk Tryz.prog F.fn e S).map fun v=>(v,S)
 | []=>rfl
 | .seq b p::r=>W5 b0 F e S r
 | .blk i::r=>W5 b0 F e S r
 | .lop b p n::r=>W5 b0 F e S r
theorem jm (b0:Nat) (F:FX) (hg:F.good=true) : ∀(n:Nat) (m:Md) (fs:List Fr) (e:Env) (S:zB),run b0 F n m fs e S=JZ b0 F m fs e S
 | 0,m,fs,e,S=>Yf b0 F m fs e S
 | n+1,.at b p,fs,e,S=>by
  have ih:=jm b0 F hg n;rw[ZZ];unfold qp
  try simp only[Yf,jU,jV]
  try dsimp only
  cases hb:(Nat.ble 1 p&&Nat.blt p far) with
  | false=>rfl
  | true =>
   rw[bO]at hb;have hp:1≤p:=Nat.le_of_ble_eq_true hb.1;have hf:p<2^199:=Eq.mp Nat.blt_eq hb.2;have k0:=zHD F.root p 0 hp hf (by omega);have k1:=zHD F.root p 1 hp hf (by omega);rw[aK]at k0;have hq:FX.good.goodC zE F.dyn (sub F.root p)=true:=QV zE F.dyn 200 F.root p hg;dsimp only
   show _=xu (F.C b0) b (sub F.root p) (ws b0 F fs) e S
   cases hc:sub F.root p with
   | skip=>dsimp only;rw[ih];rfl
   | region id ops d =>
    dsimp only;rw[hc]at hq;have e1:run b0 F n (.ops b p 0) fs e S=vw (F.C b0) ops ops.toList e S fun e S=>ws b0 F fs .normal (trim (F.h.at id) e) S:=by
     rw[ih]
     show (match sub F.root p with
      | .region id ops _=>vw (F.C b0) ops (ops.toList.drop 0) e S fun e S=>ws b0 F fs .normal (trim (F.h.at id) e) S
      | _=>none)=_
     rw[hc];rfl
    rw[e1];cases d with
    | false=>rfl
    | true =>
     simp only[FX.good.goodC,if_true]at hq;have e2:xu (F.C b0) b (.region id ops true) (ws b0 F fs) e S=if (uS ops (ZU zE ops)||uS ops (fun j=>(wB (F.C b0) ops ops.toList e S).getD j 0))=true then vw (F.C b0) ops ops.toList e S (fun e S=>ws b0 F fs .normal (trim (F.h.at id) e) S) else none:=rfl;rw[e2,bC]
     cases hd:Xq F.dyn id with
     | true =>
      dsimp only;have e3:zCd b0 F p e S=(uS ops (ZU zE ops)||uS ops (fun j=>(wB (F.C b0) ops ops.toList e S).getD j 0)):=by
       rw[zHH,zM1,hc]
      rw[e3]
      cases uS ops (ZU zE ops)||uS ops (fun j=>(wB (F.C b0) ops ops.toList e S).getD j 0) <;> rfl
     | false =>
      rw[hd,bW]at hq;rw[hq,pI,bA rfl]
   | seq x y =>
    rw[hc]at k0 k1;dsimp only;rw[ih]
    show xu (F.C b0) b (sub F.root (2*p)) (zNz (fun e S=>xu (F.C b0) b (sub F.root (2*p+1)) (ws b0 F fs) e S) (ws b0 F fs)) e S=_
    rw[k0,k1];rfl
   | cond c x y =>
    rw[hc]at k0 k1;dsimp only;rw[qC]
    show zJt (ev e c) (xu (F.C b0) b (sub F.root (2*p)) (ws b0 F fs) e S) (xu (F.C b0) b (sub F.root (2*p+1)) (ws b0 F fs) e S)=_
    rw[k0,k1];exact zJu _ _ _
   | block i x =>
    rw[hc]at k0;dsimp only;rw[ih]
    show xu (F.C b0) i (sub F.root (2*p)) (Xn i (ws b0 F fs)) e S=_
    rw[k0];rfl
   | loop x =>
    rw[hc]at k0;dsimp only;have e1:xu (F.C b0) b (.loop x) (ws b0 F fs) e S=(F.h.loops.lookup b).bind fun h=>(fzSlots h.fz (ownAll h.own (keepOnly h.live e) S).1 (ownAll h.own (keepOnly h.live e) S).2).bind fun r=>X8 (fun K e S=>xu (F.C b0) b x K e S) (qV h.live h.fz r.2.length) (ZK b r.2.length h.after (ws b0 F fs)) r.1 r.2:=rfl;rw[e1]
    cases hl:F.h.loops.lookup b with
    | none=>rfl
    | some h =>
     dsimp only;have e2:F.lh b=h:=by unfold FX.lh;rw[hl]
     simp only[Yd,W4,zFB,bI,zJr,e2,k0];rfl
   | exit i=>dsimp only;rw[ih];rfl
   | ret=>dsimp only;rw[zHG,←W5 b0 F e S fs];rfl
   | _=>rfl
 | n+1,.ops b p j,fs,e,S=>by
  have ih:=jm b0 F hg n;rw[ZZ];unfold qp
  try simp only[Yf,jU,jV]
  show _=(match sub F.root p with
   | .region id ops _=>vw (F.C b0) ops (ops.toList.drop j) e S fun e S=>ws b0 F fs .normal (trim (F.h.at id) e) S
   | _=>none)
  try dsimp only
  generalize hc:sub F.root p=c;cases c with
  | region id ops d =>
   dsimp only
   cases hd:ops.toList.drop j with
   | nil=>simp only[zCa,ih];rfl
   | cons o l =>
    have e1:ops.toList.drop (j+1)=l:=by rw[←PF,hd];rfl
    have e2 : ∀e S,JZ b0 F (.ops b p (j+1)) fs e S=vw (F.C b0) ops l e S fun e S=>ws b0 F fs .normal (trim (F.h.at id) e) S:=fun e S=>by
     show (match sub F.root p with
      | .region id ops _=>vw (F.C b0) ops (ops.toList.drop (j+1)) e S fun e S=>ws b0 F fs .normal (trim (F.h.at id) e) S
      | _=>none)=_
     rw[hc];dsimp only;rw[e1]
    have e4 : ∀e S,JZ b0 F (.opy b p j) fs e S=orK (jT (F.C b0) o.op e S) e S o.dst fun e S=>vw (F.C b0) ops l e S fun e S=>ws b0 F fs .normal (trim (F.h.at id) e) S:=fun e S=>by
     show (match sub F.root p with
      | .region id ops _=>(match ops.toList.drop j with
       | []=>none
       | o::_=>orK (jT (F.C b0) o.op e S) e S o.dst fun e S=>vw (F.C b0) ops (ops.toList.drop (j+1)) e S fun e S=>ws b0 F fs .normal (trim (F.h.at id) e) S)
      | _=>none)=_
     rw[hc];dsimp only;rw[hd];dsimp only;rw[e1]
    have e5 : ∀e S,JZ b0 F (.opn b p j) fs e S=vw (F.C b0) ops l (putD e o.dst .skip) S fun e S=>ws b0 F fs .normal (trim (F.h.at id) e) S:=fun e S=>by
     show (match sub F.root p with
      | .region id ops _=>(match ops.toList.drop j with
       | []=>none
       | o::_=>vw (F.C b0) ops (ops.toList.drop (j+1)) (putD e o.dst .skip) S fun e S=>ws b0 F fs .normal (trim (F.h.at id) e) S)
      | _=>none)=_
     rw[hc];dsimp only;rw[hd];dsimp only;rw[e1]
    have e3:=zOC (R:=PV × zB) Tryz.prog zE b0 F.h ops o l e S fun e S=>ws b0 F fs .normal (trim (F.h.at id) e) S;refine Eq.trans ?_ e3.symm;simp only[ih,e2,e4,e5,opK,vC,qL,zA0];cases o.guard with
    | none=>rfl
    | some jw =>
     obtain⟨i,want⟩:=jw;dsimp only
     cases (ops[i]?).bind (·.dst) with
     | none=>rfl
     | some t =>
      dsimp only
      cases get e t <;> first | rfl | (cases want <;> rfl)
  | _=>rfl
 | n+1,.opy b p j,fs,e,S=>by
  have ih:=jm b0 F hg n;rw[ZZ];unfold qp
  try simp only[Yf,jU,jV]
  show _=(match sub F.root p with
   | .region id ops _=>(match ops.toList.drop j with
    | []=>none
    | o::_=>orK (jT (F.C b0) o.op e S) e S o.dst fun e S=>vw (F.C b0) ops (ops.toList.drop (j+1)) e S fun e S=>ws b0 F fs .normal (trim (F.h.at id) e) S)
   | _=>none)
  try dsimp only
  generalize hc:sub F.root p=c;cases c with
  | region id ops d =>
   dsimp only
   cases hd:ops.toList.drop j with
   | nil=>rfl
   | cons o l =>
    have e2 : ∀e S,JZ b0 F (.ops b p (j+1)) fs e S=vw (F.C b0) ops (ops.toList.drop (j+1)) e S fun e S=>ws b0 F fs .normal (trim (F.h.at id) e) S:=fun e S=>by
     show (match sub F.root p with
      | .region id ops _=>vw (F.C b0) ops (ops.toList.drop (j+1)) e S fun e S=>ws b0 F fs .normal (trim (F.h.at id) e) S
      | _=>none)=_
     rw[hc]
    simp only[ih,e2,zA0];rfl
  | _=>rfl
 | n+1,.opn b p j,fs,e,S=>by
  have ih:=jm b0 F hg n;rw[ZZ];unfold qp
  try simp only[Yf,jU,jV]
  show _=(match sub F.root p with
   | .region id ops _=>(match ops.toList.drop j with
    | []=>none
    | o::_=>vw (F.C b0) ops (ops.toList.drop (j+1)) (putD e o.dst .skip) S fun e S=>ws b0 F fs .normal (trim (F.h.at id) e) S)
   | _=>none)
  try dsimp only
  generalize hc:sub F.root p=c;cases c with
  | region id ops d =>
   dsimp only
   cases hd:ops.toList.drop j with
   | nil=>rfl
   | cons o l =>
    have e2 : ∀e S,JZ b0 F (.ops b p (j+1)) fs e S=vw (F.C b0) ops (ops.toList.drop (j+1)) e S fun e S=>ws b0 F fs .normal (trim (F.h.at id) e) S:=fun e S=>by
     show (match sub F.root p with
      | .region id ops _=>vw (F.C b0) ops (ops.toList.drop (j+1)) e S fun e S=>ws b0 F fs .normal (trim (F.h.at id) e) S
      | _=>none)=_
     rw[hc]
    simp only[ih,e2,vC]
  | _=>rfl
 | n+1,.nor,fs,e,S=>by
  have ih:=jm b0 F hg n;rw[ZZ];unfold qp
  try simp only[Yf,jU,jV]
  try dsimp only
  show _=ws b0 F fs .normal e S
  cases fs with
  | nil=>exact zHG F e S
  | cons f r =>
   cases f with
   | seq b p=>dsimp only;rw[ih];rfl
   | blk i=>dsimp only;rw[ih];rfl
   | lop b p k =>
    dsimp only;simp only[Yd,zFB]
    show _=(qV (F.lh b).live (F.lh b).fz k e S).bind fun q=>X8 (fun K e S=>xu (F.C b0) b (sub F.root p) K e S) (qV (F.lh b).live (F.lh b).fz k) (ZK b k (F.lh b).after (ws b0 F r)) q.1 q.2
    unfold qV
    cases fzSlots (F.lh b).fz (keepOnly (F.lh b).live e) S <;> rfl
 | n+1,.exi i,fs,e,S=>by
  have ih:=jm b0 F hg n;rw[ZZ];unfold qp
  try simp only[Yf,jU,jV]
  try dsimp only
  show _=ws b0 F fs (.exit i) e S
  cases fs with
  | nil=>rfl
  | cons f r =>
   cases f with
   | seq b p=>dsimp only;rw[ih];rfl
   | blk j =>
    dsimp only
    show _=if i=j then ws b0 F r .normal e S else ws b0 F r (.exit i) e S
    cases hb:Nat.beq i j with
    | true=>rw[bA (Uz hb)];exact ih _ _ _ _
    | false=>rw[hZ (KA hb)];exact ih _ _ _ _
   | lop b p k =>
    dsimp only
    show _=if i=b then ws b0 F r (.exit i) (keepOnly (F.lh b).after e) (gc k (keepOnly (F.lh b).after e) S) else ws b0 F r (.exit i) e S
    cases hb:Nat.beq i b with
    | true=>rw[bA (Uz hb)];simp only[Yd];rfl
    | false=>rw[hZ (KA hb)];exact ih _ _ _ _
section
variable {R:Type}
@[congr] theorem zNY {t t':Bool} {A B:Option R} (h:t=t'):YM 1 t A B=YM 1 t' A B:=by rw[h]
@[congr] theorem zNZ {A:Type} {x x':Option A} {K:A→Option R} (h:x=x'):Ye 1 x K=Ye 1 x' K:=by rw[h]
end
attribute [go_sem] zEz zCb zEx zEy
theorem ys {b0:Nat} {F:FX} (hg:F.good=true) (n:Nat) {b p k:Nat} {fs:List Fr} {e:Env} {S:zB} {z:PV × zB}
  (h:run b0 F n (.at b p) (.lop b p k::fs) e S=some z):zS b0 F b p k fs e S=some z:=by
 rw[jm b0 F hg]at h;rw[jU];exact zEu h
class FX.ok (F:FX) (f:outParam FuncId):Prop where
 at_:Tryz.prog.funcs[f]? = some F.fn
 name : F.fn.name ≠ "runtime.NumGoroutine"
 hint:zE.of f=F.h
 code:(match F.fn.body with | some c=>uT F.fn.ntmps c | none=>false)=true
 good:F.good=true
 orc:zE.orc f=none
theorem FX.mk' {F : FX} {f : FuncId} (h1 : Tryz.prog.funcs[f]? = some F.fn := by kernel_rfl) (h2 : F.fn.name ≠ "runtime.NumGoroutine" := by exact HC (by kernel_rfl)) (h3 : zE.of f = F.h := by kernel_rfl) (h4 : (match F.fn.body with | some c => uT F.fn.ntmps c | none => false) = true := by kernel_rfl) (h5 : F.good = true := by kernel_rfl) (h6 : zE.orc f = none := by kernel_rfl) : F.ok f := ⟨h1, h2, h3, h4, h5, h6⟩
@[go_sem] theorem FX.t {F:FX} {f:FuncId} [h:F.ok f] (b0:Nat) (m:Md) (fs:List Fr) (e:Env) (S:zB):sem b0 F m fs e S=run b0 F 1000 m fs e S:=(Yf _ _ _ _ _ _).trans (jm b0 F h.good 1000 m fs e S).symm
theorem FX.callRL {F:FX} {f:FuncId} (ok:F.ok f) (n:Nat) {args:List PV} (ha:Nat.ble args.length F.fn.ntmps=true) {S:zB} {e:Env} (he:(List.range args.length).zip args=e) {r:PV × zB}
  (h:run S.length F n (.at 0 1) [] e S=some r):callRL Tryz.prog zE f args S=some r:=by
 have hc:=ok.code
 split at hc
 ·rename_i c hb;rw[jm _ F ok.good]at h;subst he;refine zHu ok.orc ok.at_ hb ok.name hc (Nat.le_of_ble_eq_true ha) ?_;rw[ok.hint];have e1:sub F.root 1=c:=by
   show F.root=c
   unfold FX.root;rw[hb]
  have h':xu (F.C S.length) 0 (sub F.root 1) (zOA Tryz.prog F.fn) ((List.range args.length).zip args) S=some r:=h;rw[e1]at h';exact h'
 ·cases hc
theorem FX.callL {F:FX} {f:FuncId} (ok:F.ok f) (n:Nat) {args:List PV} (ha:Nat.ble args.length F.fn.ntmps=true) {e:Env} (he:(List.range args.length).zip args=e) {r:PV × zB} {v:PV}
  (h:run 0 F n (.at 0 1) [] e []=some r) (hv:wy r.2 r.1=some v):Vs.callL Tryz.prog zE f args=some v:=by
 have h':Vs.callRL Tryz.prog zE f args []=some r:=FX.callRL ok n ha he h;simp only[Vs.callL,h',bI,hv]
theorem KD {n:Nat} {e:Env} {S:zB} (h:S.length≤n):gc n e S=S:=by
 unfold gc
 split
 ·exact aN h
 ·rfl
@[go_sem 2000] theorem zTx (e:Env) (a:Obj):gc 1 e [a]=[a]:=KD (by simp)
@[go_sem 2000] theorem zTy (e:Env) (a b:Obj):gc 2 e [a,b]=[a,b]:=KD (by simp)
@[go_sem 2000] theorem zTz (e:Env) (a b c:Obj):gc 3 e [a,b,c]=[a,b,c]:=KD (by simp)
@[go_sem 2000] theorem zUA (e:Env) (a b c d:Obj):gc 4 e [a,b,c,d]=[a,b,c,d]:=KD (by simp)
@[go_sem 2000] theorem zUB (e:Env) (a b c d f:Obj):gc 5 e [a,b,c,d,f]=[a,b,c,d,f]:=KD (by simp)
theorem zCe {b0:Nat} {F:FX} (hg:F.good=true) (n:Nat) {i:Nat} {fs:List Fr} {e:Env} {S:zB} {z:PV × zB} (h:run b0 F n (.exi i) fs e S=some z):yB b0 F i fs e S=some z:=by
 rw[jm b0 F hg]at h;rw[jV];exact h
@[go_sem] theorem zOD (S:zB) (rows:List (List PV)) (g:Option (Option Nat)):uP S (some (rows,g))=S++[.arr rows g false]:=nr rfl
@[go_sem] theorem zOE (S:zB):uP S none=S:=nr rfl
attribute [irreducible] sem zS yB
end
theorem zC {b0:Nat} {F:FX} {f:FuncId} [ok:F.ok f] {b p k:Nat} {fs:List Fr} {e:Env} {S:zB} {z:PV × zB} (h:run b0 F 1000 (.at b p) (.lop b p k::fs) e S=some z):zS b0 F b p k fs e S=some z:=ys ok.good 1000 h
theorem zN {b0:Nat} {F:FX} {f:FuncId} [ok:F.ok f] {i:Nat} {fs:List Fr} {e:Env} {S:zB} {z:PV × zB} (h:run b0 F 1000 (.exi i) fs e S=some z):yB b0 F i fs e S=some z:=zCe ok.good 1000 h
end
section
attribute [go_sem] if_true if_false eq_self bY Bool.true_eq_false bS bJ and_self and_true true_and and_false false_and not_true_eq_false not_false_eq_true
@[go_sem] theorem zS1 (t:Nat):get [] t=.undef:=nr rfl
@[go_sem] theorem zQM (k t:Nat) (v:PV) (r:Env):get ((k,v)::r) t=if k=t then v else get r t:=nr rfl
@[go_sem] theorem zS2 (t:Nat) (v:PV):put [] t v=[(t,v)]:=nr rfl
@[go_sem] theorem zQN (k t:Nat) (u v:PV) (r:Env):put ((k,u)::r) t v=if k=t then (t,v)::r else (k,u)::put r t v:=nr rfl
@[go_sem] theorem zPU (ti:TI) (k:IntKind) (a b:Int):xN .add ti (.int k a) (.int k b)=some (.int k (k.wrap (a+b))):=by simp[xN,jt]
@[go_sem] theorem zPV (ti:TI) (k:IntKind) (a b:Int):xN .sub ti (.int k a) (.int k b)=some (.int k (k.wrap (a-b))):=by simp[xN,jt]
@[go_sem] theorem zPW (ti:TI) (k:IntKind) (a b:Int):xN .mul ti (.int k a) (.int k b)=some (.int k (k.wrap (a*b))):=by simp[xN,jt]
@[go_sem] theorem zPX (ti:TI) (k:IntKind) (a b:Int):xN .eql ti (.int k a) (.int k b)=some (.bool (decide (a=b))):=by simp[xN,jt]
@[go_sem] theorem zPY (ti:TI) (k:IntKind) (a b:Int):xN .neq ti (.int k a) (.int k b)=some (.bool (!decide (a=b))):=by simp[xN,jt]
@[go_sem] theorem zPZ (ti:TI) (k:IntKind) (a b:Int):xN .lss ti (.int k a) (.int k b)=some (.bool (decide (a<b))):=by simp[xN,jt]
@[go_sem] theorem zP0 (ti:TI) (k:IntKind) (a b:Int):xN .leq ti (.int k a) (.int k b)=some (.bool (decide (a≤b))):=by simp[xN,jt]
@[go_sem] theorem zP1 (ti:TI) (k:IntKind) (a b:Int):xN .gtr ti (.int k a) (.int k b)=some (.bool (decide (b<a))):=by simp[xN,jt]
@[go_sem] theorem zP2 (ti:TI) (k:IntKind) (a b:Int):xN .geq ti (.int k a) (.int k b)=some (.bool (decide (b≤a))):=by simp[xN,jt]
@[go_sem] theorem zP3 (ti:TI) (k:IntKind) (a b:Int):xN .and ti (.int k a) (.int k b)=some (.int k (k.wrap (BitVec.ofInt k.bits a &&& BitVec.ofInt k.bits b).toNat)):=by simp[xN,jt]
@[go_sem] theorem zQO (ti:TI) (k:IntKind) (a b:Int):xN .or ti (.int k a) (.int k b)=some (.int k (k.wrap (BitVec.ofInt k.bits a ||| BitVec.ofInt k.bits b).toNat)):=by simp[xN,jt]
@[go_sem] theorem zP4 (ti:TI) (k:IntKind) (a b:Int):xN .xor ti (.int k a) (.int k b)=some (.int k (k.wrap (BitVec.ofInt k.bits a ^^^ BitVec.ofInt k.bits b).toNat)):=by simp[xN,jt]
@[go_sem] theorem zP5 (ti:TI) (k:IntKind) (a b:Int):xN .quo ti (.int k a) (.int k b)=if b=0 then none else some (.int k (k.wrap (a.tdiv b))):=by simp[xN,jt]
@[go_sem] theorem zP6 (ti:TI) (k:IntKind) (a b:Int):xN .rem ti (.int k a) (.int k b)=if b=0 then none else some (.int k (a.tmod b)):=by simp[xN,jt]
@[go_sem] theorem zP7 (ti:TI) (k k':IntKind) (a b:Int):xN .shl ti (.int k a) (.int k' b)=if b<0 then none else some (.int k (k.wrap (a*2^min b.toNat k.bits))):=by simp[xN,WL]
@[go_sem] theorem zP8 (ti:TI) (k k':IntKind) (a b:Int):xN .shr ti (.int k a) (.int k' b)=if b<0 then none else some (.int k (a.fdiv (2^min b.toNat k.bits))):=by simp[xN,WL]
@[go_sem] theorem zM2 (ti:TI) (a b:ByteArray):xN .eql ti (.str a) (.str b)=some (.bool (a.toList == b.toList)):=nr rfl
@[go_sem] theorem zM3 (ti:TI) (a b:ByteArray):xN .neq ti (.str a) (.str b)=some (.bool (!(a.toList == b.toList))):=nr rfl
@[go_sem] theorem zM4 (ti:TI) (a b:ByteArray):xN .lss ti (.str a) (.str b)=some (.bool (Op.bytesLess a.toList b.toList)):=nr rfl
@[go_sem] theorem zJw:(tyi Tryz.prog 4).d=.bool:=nr (by kernel_rfl)
@[go_sem] theorem zLw (a b:Bool):xN .eql (tyi Tryz.prog 4) (.bool a) (.bool b)=some (.bool (a == b)):=by simp[xN,zJw]
@[go_sem] theorem zLx (a b:Bool):xN .neq (tyi Tryz.prog 4) (.bool a) (.bool b)=some (.bool (!(a == b))):=by simp[xN,zJw]
@[go_sem] theorem zOF (op:BinOp) (ti:TI) (yo:Operand) (k:IntKind) (n:Int) (y:PV):qU op ti yo (.int k n) y=xN op ti (.int k n) y:=nr rfl
@[go_sem] theorem zN0 (op:BinOp) (ti:TI) (yo:Operand) (b:Bool) (y:PV):qU op ti yo (.bool b) y=xN op ti (.bool b) y:=nr rfl
@[go_sem] theorem zOG (op:BinOp) (ti:TI) (yo:Operand) (b:ByteArray) (y:PV):qU op ti yo (.str b) y=xN op ti (.str b) y:=nr rfl
@[go_sem] theorem zQP (b:Bool):zEg .not (.bool b)=some (.bool (!b)):=nr rfl
@[go_sem] theorem zQQ (k:IntKind) (n:Int):zEg .neg (.int k n)=some (.int k (k.wrap (0-n))):=nr rfl
theorem zJx (ti:TI) (h:ti.d=.str) (s:ByteArray):yI ti (.str s)=some (.int .i64 s.size):=by simp[yI,Uc,h]
theorem zM5 (ti:TI) {e:TypeId} (h:ti.d=.slice e) (r:List (List PV)) (ex:Bool):yI ti (.sl r ex)=some (.int .i64 r.length):=by simp[yI,Uc,h]
theorem zJy (ti:TI) {e:TypeId} (h:ti.d=.slice e) (i o l:Nat) (ex:Bool):yI ti (.msl i o l ex)=some (.int .i64 l):=by simp[yI,Uc,h]
@[go_sem] theorem zHI:(tyi Tryz.prog 9).d=.str:=nr (by kernel_rfl)
@[go_sem] theorem zTb (s:ByteArray):yI (tyi Tryz.prog 9) (.str s)=some (.int .i64 s.size):=zJx _ zHI s
def xf (s:ByteArray) (i:Nat):Int:=((s.data.toList.getD i 0).toNat:Int)
@[go_sem] theorem zQR (s:ByteArray) (n:Int):ze Tryz.prog 9 (.str s) (.int .i64 n)=if 0≤n∧n<s.size then some (.int .u8 (xf s n.toNat)) else none:=by
 simp[ze,zHI,kI,xf]
attribute [go_sem] bD
@[go_sem] theorem zQS (k k':IntKind) (a b:Int):zMU [.int k a,.int k' b]=some (.int k (if a<b then b else a)):=nr rfl
@[go_sem] theorem zQT (k k':IntKind) (a b:Int):zMV [.int k a,.int k' b]=some (.int k (if b<a then b else a)):=nr rfl
@[go_sem] theorem zLy (v:PV) (r:List PV):ZY (.tup (v::r)) 0=some v:=nr rfl
@[go_sem] theorem zLz (v:PV) (r:List PV) (i:Nat):ZY (.tup (v::r)) (i+1)=ZY (.tup r) i:=nr rfl
def zh (v:PV):Prop:=v.refs=[]∧∀S,wy S v=some v
theorem zh.int (k:IntKind) (n:Int):zh (.int k n):=⟨rfl,fun _=>rfl⟩
theorem zh.bool (b:Bool):zh (.bool b):=⟨rfl,fun _=>rfl⟩
theorem zh.str (s:ByteArray):zh (.str s):=⟨rfl,fun _=>rfl⟩
theorem zh.sl (r:List (List PV)):zh (.sl r false):=⟨rfl,fun _=>by cases r <;> rfl⟩
theorem zh.nil:zh (.sl [] true):=⟨rfl,fun _=>rfl⟩
@[go_sem] theorem zQU (S:zB) (k:IntKind) (n:Int):wy S (.int k n)=some (.int k n):=nr rfl
@[go_sem] theorem zIA (S:zB) (b:Bool):wy S (.bool b)=some (.bool b):=nr rfl
@[go_sem] theorem zQV (S:zB) (s:ByteArray):wy S (.str s)=some (.str s):=nr rfl
@[go_sem] theorem wY (S:zB) (r:List (List PV)):wy S (.sl r false)=some (.sl r false):=nr (by cases r <;> rfl)
@[go_sem] theorem zQW (S:zB):wy S (.sl [] true)=some (.sl [] true):=nr rfl
@[go_sem] theorem zQX (S:zB) (a:List PV) (r:List (List PV)):wy S (.sl (a::r) true)=some (.sl (a::r) false):=nr rfl
@[go_sem] theorem zOH (S:zB) (d:Nat) (k:IntKind) (n:Int):wx S (d+1) (.int k n)=some (.int k n):=nr rfl
@[go_sem] theorem zCf (S:zB) (d:Nat) (b:Bool):wx S (d+1) (.bool b)=some (.bool b):=nr rfl
@[go_sem] theorem zOI (S:zB) (d:Nat) (s:ByteArray):wx S (d+1) (.str s)=some (.str s):=nr rfl
@[go_sem] theorem zP9 (S:zB) (d:Nat) (r:List (List PV)) (ex:Bool):wx S (d+1) (.sl r ex)=some (.sl r false):=nr rfl
@[go_sem] theorem zJz {α β:Type} (f:α→Option β):xY f []=some []:=nr rfl
@[go_sem] theorem zIB {α β:Type} (f:α→Option β) (a:α) (r:List α):xY f (a::r)=(f a).bind fun b=>(xY f r).map fun l=>b::l:=nr rfl
theorem XD (S:zB) : ∀d,wO S d []=[]
 | 0=>rfl
 | d+1=>by simp[wO,XD S d]
theorem KE {S:zB} : ∀ {l:List PV},(∀a∈l,zh a)→xY (wy S) l=some l
 | [],_=>rfl
 | a::r,h=>by simp[xY,(h a (by simp)).2 S,KE (S:=S) (l:=r) fun x hx=>h x (by simp[hx])]
theorem KF : ∀ {l:List PV},(∀a∈l,zh a)→l.flatMap PV.refs=[]
 | [],_=>rfl
 | a::r,h=>by simp[BF,(h a (by simp)).1,KF (l:=r) fun x hx=>h x (by simp[hx])]
theorem zF {S:zB} {f:FuncId} {l:List PV} {v:PV} (h:callL Tryz.prog zE f l=some v) (ha : ∀a∈l,zh a):zO (callL Tryz.prog zE) S f l=some {v} := by
 simp[zO,KF ha,XD,KE ha,h]
@[go_sem] theorem zIC {α β:Type} (a:α) (f:α→Option β):(some a).bind f=f a:=nr rfl
@[go_sem] theorem zKA {α β:Type} (a:α) (f:α→β):(some a).map f=some (f a):=nr rfl
@[go_sem] theorem zPa (ti:TI) (S:zB) (r:List PV):za ti S (.cp r)=part ti r:=nr rfl
@[go_sem] theorem zPb (ti:TI) (S:zB) (id i off:Nat):za ti S (.mp id i off)=(zj S id).bind fun rows=>if i<rows.length then part ti ((rows.getD i []).drop off) else none:=nr rfl
@[go_sem] theorem zN1 (rows:List (List PV)) (g:Option (Option Nat)) (f:Bool) (S:zB):zj (.arr rows g f::S) 0=some rows:=nr rfl
@[go_sem] theorem zN2 (o:Obj) (S:zB) (n:Nat):zj (o::S) (n+1)=zj S n:=nr rfl
attribute [go_sem] pG pX bK bU BR bX List.drop_succ_cons pC aK Nat.lt_add_one
@[go_sem] theorem zQY (S:zB) (id k:Nat) (v:PV):zn S id k v=if v.cells.length=k∧v.cells.all PV.cell=true then some {v:=.mp id 0 0,new:=some ([v.cells],none)} else none:=nr rfl
attribute [go_sem] HP BH sC pD bC bQ bB decide_true decide_false SO List.take_zero List.take_nil List.drop_nil pU sX List.set_cons_succ ge_iff_le
@[go_sem] theorem zCg (l:List PV):PV.cells (.agg l)=l:=nr rfl
@[go_sem] theorem zN3 (k:IntKind) (n:Int):PV.cells (.int k n)=[.int k n]:=nr rfl
@[go_sem] theorem zM6 (b:Bool):PV.cells (.bool b)=[.bool b]:=nr rfl
@[go_sem] theorem zN4 (b:ByteArray):PV.cells (.str b)=[.str b]:=nr rfl
@[go_sem] theorem zOJ (r:List (List PV)) (ex:Bool):PV.cells (.sl r ex)=[.sl r ex]:=nr rfl
@[go_sem] theorem zCh (a b c:Nat) (ex:Bool):PV.cells (.msl a b c ex)=[.msl a b c ex]:=nr rfl
@[go_sem] theorem zOK (a b c:Nat):PV.cells (.mp a b c)=[.mp a b c]:=nr rfl
@[go_sem] theorem zQZ (k:IntKind) (n:Int):PV.cell (.int k n)=true:=nr rfl
@[go_sem] theorem zPc (b:Bool):PV.cell (.bool b)=true:=nr rfl
@[go_sem] theorem zQ0 (b:ByteArray):PV.cell (.str b)=true:=nr rfl
@[go_sem] theorem zS3 (r:List (List PV)) (ex:Bool):PV.cell (.sl r ex)=true:=nr rfl
@[go_sem] theorem zQ1 (a b c:Nat) (ex:Bool):PV.cell (.msl a b c ex)=true:=nr rfl
@[go_sem] theorem zS4 (a b c:Nat):PV.cell (.mp a b c)=true:=nr rfl
@[go_sem] theorem zOL:PV.refs .undef=[]:=nr rfl
@[go_sem] theorem zPd:PV.refs .skip=[]:=nr rfl
@[go_sem] theorem kq (k:IntKind) (n:Int):PV.refs (.int k n)=[]:=nr rfl
@[go_sem] theorem zID (b:Bool):PV.refs (.bool b)=[]:=nr rfl
@[go_sem] theorem zKB (b:ByteArray):PV.refs (.str b)=[]:=nr rfl
@[go_sem] theorem zHJ (r:List (List PV)) (ex:Bool):PV.refs (.sl r ex)=[]:=nr rfl
@[go_sem] theorem zS5 (r:List PV):PV.refs (.cp r)=[]:=nr rfl
@[go_sem] theorem kr (l:List PV):PV.refs (.agg l)=vK l:=nr rfl
@[go_sem] theorem zQ2 (l:List PV):PV.refs (.tup l)=vK l:=nr rfl
@[go_sem] theorem Yg (a b c:Nat) (ex:Bool):PV.refs (.msl a b c ex)=[a]:=nr rfl
@[go_sem] theorem vM (a b c:Nat):PV.refs (.mp a b c)=[a]:=nr rfl
@[go_sem] theorem yt:vK []=[]:=nr rfl
@[go_sem] theorem yQ (v:PV) (r:List PV):vK (v::r)=v.refs++vK r:=nr rfl
@[go_sem] theorem wH:zT []=[]:=nr rfl
@[go_sem] theorem yn (v:List PV) (r:List (List PV)):zT (v::r)=vK v++zT r:=nr rfl
def vc (n:Nat):Env→Bool
 | []=>true
 | (_,v)::r=>(v.refs.all fun i=>decide (i<n))&&vc n r
def xk (n:Nat):Nat→zB→Bool
 | 0,_=>true
 | _,[]=>true
 | m+1,.arr rows _ _::r=>((zT rows).all fun i=>decide (i<n))&&xk n m r
 | m+1,.gone::r=>xk n m r
theorem Zp (n:Nat) : ∀e:Env,(e.all fun (_,v)=>v.refs.all fun i=>decide (i<n))=vc n e
 | []=>rfl
 | (_,v)::r=>by simp only[HP,vc,Zp n r]
theorem kt (n:Nat) : ∀(m:Nat) (S:zB),((S.take m).all fun | .arr rows _ _=>(zT rows).all fun i=>decide (i<n) | .gone=>true)=xk n m S
 | 0,S=>by simp[xk]
 | m+1,[]=>by simp[xk]
 | m+1,.arr rows g f::r=>by simp only[SO,HP,xk,kt n m r]
 | m+1,.gone::r=>by simp only[SO,HP,xk,kt n m r,bC]
@[go_sem] theorem zTw (n:Nat) (k:Nat) (v:PV) (e:Env) (o:Obj) (S:zB):gc n ((k,v)::e) (o::S)=if vc n ((k,v)::e)=true∧xk n n (o::S)=true then (o::S).take n else o::S:=by
 rw[←Zp,←kt];rfl
@[go_sem] theorem zMA (n:Nat):vc n []=true:=nr rfl
@[go_sem] theorem zKC (n k:Nat) (v:PV) (r:Env):vc n ((k,v)::r)=((v.refs.all fun i=>decide (i<n))&&vc n r):=nr rfl
@[go_sem] theorem zKD (n:Nat) (S:zB):xk n 0 S=true:=nr (by cases S <;> rfl)
@[go_sem] theorem zKE (n m:Nat) (rows:List (List PV)) (g:Option (Option Nat)) (f:Bool) (r:zB):xk n (m+1) (.arr rows g f::r)=(((zT rows).all fun i=>decide (i<n))&&xk n m r):=nr rfl
@[go_sem] theorem zKF (n m:Nat) (r:zB):xk n (m+1) (.gone::r)=xk n m r:=nr rfl
@[go_sem] theorem VX (ti:TI) (S:zB) (a v:PV):zW ti S a v=if ti.known=true then (yV ti.size S a v).map fun S => {v:=.skip,S} else none:=nr rfl
@[go_sem] theorem W6 (n:Nat) (rows:List (List PV)) (g:Option (Option Nat)) (S:zB) (i off:Nat) (v:PV):yV n (.arr rows g false::S) (.mp 0 i off) v =
  if i<rows.length∧off+n≤(rows.getD i []).length∧v.cells.length=n∧v.cells.all PV.cell=true then some (.arr (rows.set i (kN (rows.getD i []) off v.cells)) g false::S) else none:=nr rfl
@[go_sem] theorem qM (n:Nat) (o:Obj) (S:zB) (id i off:Nat) (v:PV):yV n (o::S) (.mp (id+1) i off) v=(yV n S (.mp id i off) v).map fun S=>o::S:=by
 simp only[yV,PB]
 cases h:S[id]? with
 | none=>rfl
 | some q =>
  cases q with
  | gone=>rfl
  | arr rows g f =>
   cases f with
   | true=>rfl
   | false =>
    simp only
    split <;> simp
@[go_sem] theorem QW (row:List PV) (off:Nat) (cs:List PV):kN row off cs=if off=0∧cs.length=row.length then cs else row.take off++cs++row.drop (off+cs.length):=nr rfl
@[go_sem] theorem zOM (e:Env):qj [] e=e:=nr rfl
@[go_sem] theorem zS6:List.length ([]:zB)=0:=nr rfl
attribute [go_sem] bF
theorem zQ3 {α:Type} {c:Prop} [Decidable c] {a b v:α} (h1:c→a=v) (h2 : ¬c→b=v):(if c then a else b)=v:=by
 by_cases h:c
 ·rw[bA h];exact h1 h
 ·rw[hZ h];exact h2 h
@[go_sem] theorem zON (n:Nat):yM n []=true:=nr rfl
@[go_sem] theorem zN5 (n:Nat) (r:List PV) (l:List (List PV)):yM n (r::l)=(r.length == n&&yM n l):=nr rfl
@[go_sem] theorem zTc:List.range 0=[]:=nr rfl
@[go_sem] theorem zTd:List.range 1=[0]:=nr rfl
@[go_sem] theorem zTe:List.range 2=[0,1]:=nr rfl
@[go_sem] theorem zTf:List.range 3=[0,1,2]:=nr rfl
attribute [go_sem] beq_self_eq_true
theorem W7 {b bytes esz:Nat} {S:zB} {id len:Nat} {rows new:List (List PV)} {g:Option Nat} {ex:Bool} {y:PV} (hS:S[id]? = some (.arr rows (some g) false)) (hy:rowsS S y=some new) (hb:b≤id)
  (hl:len=rows.length) (hg:g=none∨g=some esz) (h1:yM esz rows=true) (h2:yM esz new=true) (h3:(rows.length+new.length)*bytes≤140737488355328) (h4:rows.length+new.length≤9223372036854775807)
  (h5:(zT rows++zT new).contains id=false):uw b bytes esz S (.msl id 0 len ex) y=some {v:=.msl id 0 (rows.length+new.length) false,S:=(S.map (yr [id])).set id (.arr (rows++new) (some (some esz)) false),kill:=[id]} := by
 simp only[uw,bA hb,jP,hS,hy,bI];rw[bA ⟨hb,hl,hg,h1,h2,h3,h4,h5⟩]
@[go_sem] theorem zOO (i:Nat) (e:Env):qj [i] e=e.map fun (t,v)=>(t,wS [i] v):=nr rfl
@[go_sem] theorem zQ4 (ids:List Nat) (v:PV):wS ids v=if (v.refs.any fun i=>ids.contains i)=true then .undef else v:=nr rfl
@[go_sem] theorem Yh (ids:List Nat) (rows:List (List PV)) (g:Option (Option Nat)) (f:Bool):yr ids (.arr rows g f)=.arr (vL ids rows) g f:=nr rfl
@[go_sem] theorem zCi (ids:List Nat) (rows:List (List PV)):vL ids rows=if ((zT rows).any fun i=>ids.contains i)=true then rows.map fun r=>r.map (wS ids) else rows:=nr rfl
attribute [go_sem] pZ HQ BA BQ pJ bW sO List.contains_cons List.contains_nil
@[go_sem] theorem zKG (S:zB) (d:Nat) (a:Nat) (ids:List Nat):wO S (d+1) (a::ids)=(a::ids)++wO S d ((a::ids).flatMap fun id=>match zj S id with | some rows=>zT rows | none=>[]):=nr rfl
@[go_sem] theorem zFC (S:zB) (d:Nat):wO S d []=[]:=nr (XD S d)
attribute [go_sem] BF List.flatMap_nil
@[go_sem] theorem zKH (S:zB) (i:Nat) (l:List Nat):zH S (i::l)=zH (kJ S i) l:=nr rfl
@[go_sem] theorem zM7 (rows:List (List PV)) (g:Option (Option Nat)) (f:Bool) (S:zB):kJ (.arr rows g f::S) 0=.arr rows g true::S:=nr rfl
@[go_sem] theorem zM8 (o:Obj) (S:zB) (i:Nat):kJ (o::S) (i+1)=o::kJ S i:=nr (by
 simp only[kJ,PB]
 split <;> simp_all)
@[go_sem] theorem Zq (S:zB) (id off len:Nat) (ex:Bool):rowsIn S (.msl id off len ex)=(zj S id).bind fun rows=>if off+len≤rows.length then some ((rows.drop off).take len) else none:=nr rfl
theorem W8 {α β:Type} {f:α→Option β} {g:α→β} : ∀ {l:List α},(∀a∈l,f a=some (g a))→xY f l=some (l.map g)
 | [],_=>rfl
 | a::r,h=>by simp[xY,h a (by simp),W8 (l:=r) fun x hx=>h x (by simp[hx])]
@[go_sem] theorem zMB (S:zB):zH S []=S:=nr rfl
theorem zKI {n:Nat} {e:Env} {S:zB} (hn:n≤S.length):n≤(gc n e S).length∧∀j,j<n→(gc n e S)[j]? = S[j]? := by
 unfold gc
 split
 ·exact⟨by rw[sI];omega,fun j hj=>by rw[sR hj]⟩
 ·exact⟨hn,fun _ _=>rfl⟩
theorem zCj {ids:List Nat} {rows:List (List PV)} (h : ∀r∈zT rows,r ∉ ids):vL ids rows=rows:=by
 unfold vL;rw[hZ];simp only[List.any_eq_true,not_exists,not_and,PW];exact h
theorem xE {S:zB} {id:Nat} {rows:List (List PV)} {g:Option (Option Nat)} {f:Bool} (h:S[id]? = some (.arr rows g f)):zj S id=some rows:=by simp only[zj,h]
theorem xV:maxLen≤9223372036854775807:=by decide
theorem zg {i n:Nat} (h:i<n) (hn:n≤maxLen):IntKind.i64.wrap ((i:Int)+1)=((i+1:Nat):Int):=by
 have:=xV;rw[bE];omega
@[go_sem] theorem zQ5 (a:Int):decide (a=a)=true:=by simp
@[go_sem] theorem zTg (n:Nat) (e:Env):gc n e []=[]:=by unfold gc;split <;> simp
@[go_sem] theorem zPe:exact (.sl [] true)=true:=nr rfl
end
end Go.Vs
