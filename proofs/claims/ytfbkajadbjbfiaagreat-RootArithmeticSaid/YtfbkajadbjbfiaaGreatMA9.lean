import Derived.IntWalk
import Derived.Test.YtfbkajadbjbfiaaGreatMA8
set_option linter.unusedVariables false
set_option linter.unusedSimpArgs false
set_option maxRecDepth 100000
namespace Go.Vs
open Go Go.Proofs
section
noncomputable section
section
variable {α:Type}
noncomputable def Zp:Env→Nat→(PV→α)→α
 | [],_,k=>k .undef
 | (s,v)::r,t,k=>match Nat.beq s t with | true=>k v | false=>Zp r t k
noncomputable def Ko:Env→Nat→PV→(Env→α)→α
 | [],t,v,k=>k [(t,v)]
 | (s,u)::r,t,v,k=>match Nat.beq s t with | true=>k ((t,v)::r) | false=>Ko r t v fun r'=>k ((s,u)::r')
noncomputable def jk (e:Env) (d:Option Nat) (v:PV) (k:Env→α):α:=match d with | some t=>Ko e t v k | none=>k e
noncomputable def QO:List Nat→Env→(Env→α)→α
 | [],e,k=>k []
 | t::r,e,k=>Zp e t fun v=>QO r e fun l=>k ((t,v)::l)
noncomputable def Wr:List Nat→Nat→Bool
 | [],_=>false
 | a::r,t=>match Nat.beq a t with | true=>true | false=>Wr r t
noncomputable def Y7 (live:List Nat):Env→(Env→α)→α
 | [],k=>k []
 | (t,v)::r,k=>match Wr live t with | true=>Y7 live r fun l=>k ((t,v)::l) | false=>Y7 live r fun l=>k ((t,.undef)::l)
noncomputable def Kp (c:Value) (k:PV→α):α:=match c with
 | .int i n=>k (.int i n)
 | .bool b=>k (.bool b)
 | .string s=>k (.str s)
 | .slice none 0 0=>k (.sl [] true)
 | v=>k (vl v)
noncomputable def evK (e:Env) (o:Operand) (k:PV→α):α:=match o with
 | .tmp t=>Zp e t k
 | .const c=>Kp c k
 | .global _=>k .undef
 | .func f=>k (.fn f [] [])
noncomputable def kt (e:Env):List Operand→(List PV→α)→α
 | [],k=>k []
 | x::r,k=>evK e x fun v=>kt e r fun l=>k (v::l)
noncomputable def zBF (e:Env) (o:Option Operand) (k:Option PV→α):α:=match o with
 | some x=>evK e x fun v=>k (some v)
 | none=>k none
noncomputable def Ws (e:Env):List (Nat × Operand)→(List (Nat × PV)→α)→α
 | [],k=>k []
 | (i,x)::r,k=>evK e x fun v=>Ws e r fun l=>k ((i,v)::l)
theorem Y8 {a b:Nat} (h:Nat.beq a b=true):a=b:=Nat.eq_of_beq_eq_true h
theorem Y9 {a b:Nat} (h:Nat.beq a b=false):a≠b:=Nat.ne_of_beq_eq_false h
theorem vo (t:Nat) (k:PV→α) : ∀e:Env,Zp e t k=k (get e t)
 | []=>rfl
 | (s,v)::r=>by
  simp only[Zp,get]
  cases h:Nat.beq s t with
  | true=>rw[hZ (Y8 h)]
  | false=>rw[hI (Y9 h)];exact vo t k r
theorem qZ (t:Nat) (v:PV) : ∀(e:Env) (k:Env→α),Ko e t v k=k (put e t v)
 | [],k=>rfl
 | (s,u)::r,k=>by
  simp only[Ko,put]
  cases h:Nat.beq s t with
  | true=>rw[hZ (Y8 h)]
  | false=>rw[hI (Y9 h)];exact qZ t v r _
theorem xy (e:Env) (d:Option Nat) (v:PV) (k:Env→α):jk e d v k=k (putD e d v):=by
 cases d with
 | none=>rfl
 | some t=>exact qZ t v e k
theorem UM : ∀(l:List Nat) (e:Env) (k:Env→α),QO l e k=k (trim l e)
 | [],e,k=>rfl
 | t::r,e,k=>by simp only[QO,vo,UM r];rfl
theorem Zy (t:Nat) : ∀l:List Nat,Wr l t=l.contains t
 | []=>rfl
 | a::r=>by
  simp only[Wr,List.contains_cons]
  cases h:Nat.beq a t with
  | true=>have:=Y8 h;subst this;simp
  | false =>
   have h2:=Y9 h;have h3:(t == a)=false:=by simpa using fun e=>h2 e.symm
   rw[h3,HI];exact Zy t r
theorem ku (live:List Nat) : ∀(e:Env) (k:Env→α),Y7 live e k=k (keepOnly live e)
 | [],k=>rfl
 | (t,v)::r,k=>by
  simp only[Y7,Zy,keepOnly,pF];cases live.contains t with
  | true=>exact ku live r _
  | false=>exact ku live r _
theorem Qt (c:Value) (k:PV→α):Kp c k=k (vl c):=by
 unfold Kp
 split <;> rfl
theorem vh (e:Env) (o:Operand) (k:PV→α):evK e o k=k (ev e o):=by
 cases o with
 | tmp t=>exact vo t k e
 | const c=>exact Qt c k
 | global _=>rfl
 | func f=>rfl
theorem wL (e:Env) : ∀(l:List Operand) (k:List PV→α),kt e l k=k (l.map (ev e))
 | [],k=>rfl
 | x::r,k=>by simp only[kt,vh,wL e r,pF]
theorem zCt (e:Env) (o:Option Operand) (k:Option PV→α):zBF e o k=k (o.map (ev e)):=by
 cases o with
 | none=>rfl
 | some x=>simp only[zBF,vh,bJ]
theorem Xv (e:Env) : ∀(l:List (Nat × Operand)) (k:List (Nat × PV)→α),Ws e l k=k (l.map fun p=>(p.1,ev e p.2))
 | [],k=>rfl
 | (i,x)::r,k=>by simp only[Ws,vh,Xv e r,pF]
end
section
variable {R:Type}
noncomputable def kv {A:Type} : Nat→Option A→(A→Option R)→Option R
 | 0,_,_=>none
 | _+1,some v,K=>K v
 | n+1,none,K=>kv n none K
theorem Kq {A:Type} (v:A) (K:A→Option R):kv 1 (some v) K=K v:=nr rfl
theorem Kr {A:Type} (K:A→Option R):kv 1 none K=none:=nr rfl
theorem ww {A:Type} (x:Option A) (K:A→Option R):kv 1 x K=x.bind K:=by cases x <;> rfl
noncomputable def kT:Nat→Bool→Option R→Option R→Option R
 | 0,_,_,B=>B
 | _+1,true,A,_=>A
 | n+1,false,A,B=>kT n false A B
theorem Ks (A B:Option R):kT 1 true A B=A:=nr rfl
theorem UN (A B:Option R):kT 1 false A B=B:=nr rfl
noncomputable def Wt (ids:List Nat) (v:PV) (k:PV→Option R):Option R:=match v with
 | .int a b=>k (.int a b)
 | .bool b=>k (.bool b)
 | .str s=>k (.str s)
 | .sl r x=>k (.sl r x)
 | .cp r=>k (.cp r)
 | .skip=>k .skip
 | .undef=>k .undef
 | .msl i o l x=>kT 1 (Wr ids i) (k .undef) (k (.msl i o l x))
 | .mp i o l=>kT 1 (Wr ids i) (k .undef) (k (.mp i o l))
 | v=>k (xU ids v)
noncomputable def UO (ids:List Nat):Env→(Env→Option R)→Option R
 | [],k=>k []
 | (t,v)::r,k=>Wt ids v fun v=>UO ids r fun l=>k ((t,v)::l)
theorem Qu (ids:List Nat) (v:PV) (k:PV→Option R):Wt ids v k=k (xU ids v):=by
 cases v <;> try rfl
 case msl i o l x =>
  simp only[Wt,Zy,xU,PV.refs,List.any_cons,List.any_nil,HJ]
  cases ids.contains i <;> rfl
 case mp i o l =>
  simp only[Wt,Zy,xU,PV.refs,List.any_cons,List.any_nil,HJ]
  cases ids.contains i <;> rfl
theorem Xw (ids:List Nat) : ∀(e:Env) (k:Env→Option R),UO ids e k=k (e.map fun (t,v)=>(t,xU ids v))
 | [],k=>rfl
 | (t,v)::r,k=>by simp only[UO,Qu,Xw ids r,pF]
theorem UP (ids:List Nat) (e:Env) (k:Env→Option R):UO ids e k=k (uH ids e):=by
 rw[Xw];cases ids with
 | nil =>
  have h:(e.map fun (t,v)=>(t,xU [] v))=e:=by
   have : ∀v,xU [] v=v:=fun v=>by simp[xU]
   simp[this]
  rw[h];rfl
 | cons i r=>simp only[uH,reduceCtorEq,if_false]
noncomputable def yE (P:Program) (H:Hints) (S:zA) (f:FuncId) (xs:List PV):Option Eff :=
 if H.refs f then (callRL P H f xs S).bind fun (v,S')=>if S.length≤S'.length∧uI S=true∧jp S.length xs=true∧Vf (H.reads f) S S' then some {v,S:=S'} else none
 else (yG (ym S) xs).bind fun args=>(callL P H f args).map fun v => {v,S:=zH S (yq S 8 (xs.flatMap PV.refs))}
noncomputable def zm (P:Program) (H:Hints) (S:zA) (f:PV) (xs:List PV):Option Eff:=match f with
 | .fn f first caps=>yE P H S f (first++xs++caps)
 | _=>none
noncomputable def zHg:BinOp→Bool
 | .quo | .rem | .shl | .shr=>false
 | _=>true
noncomputable def uu (P:Program) (H:Hints) (h:Hint) (b0:Nat) (o:Op) (e:Env) (S:zA) (F:Bool→OR→Option R):Option R:=match o with
 | .move x | .assign x=>evK e x fun a=>F true (.val (some a))
 | .pick c a b=>evK e c fun c=>evK e a fun a=>evK e b fun b=>F true (.val (zBA c a b))
 | .build t ps=>Ws e ps.toList fun l=>F false (.val (zi P t l))
 | .makeFunc (.func f) first caps=>kt e first.toList fun a=>kt e caps.toList fun b=>F true (.val (some (.fn f a b)))
 | .extract x i=>evK e x fun x=>F true (.val (uY x i))
 | .nilCheck x=>evK e x fun x=>F true (.val (ZM x))
 | .index t x i=>evK e x fun x=>evK e i fun i=>F false (.val (zh P t x i))
 | .load t a=>evK e a fun a=>F false (.val (zb (tyi P t) S a))
 | .binOp op t x yo _=>evK e x fun x=>evK e yo fun y=>(match x,y with | .int k a,.int k' b=>F (zHg op) (.val (yQ op (tyi P t) (.int k a) (.int k' b))) | a,b=>F false (.val (vw op (tyi P t) yo a b)))
 | .unOp op _ x=>evK e x fun x=>F true (.val (K8 op x))
 | .convert s d x=>evK e x fun x=>F false (.val (zN P s d S x))
 | .slice t x lo hi mx=>evK e x fun x=>zBF e lo fun lo=>zBF e hi fun hi=>zBF e mx fun mx=>F false (.val (zf P t S x lo hi mx))
 | .fieldAddr t x f=>evK e x fun x=>F false (.val (zF (tyi P t) f x))
 | .field t x f=>evK e x fun x=>F false (.val (zT (tyi P t) f x))
 | .indexAddr t x i=>evK e x fun x=>evK e i fun i=>F false (.val (zK P t S x i))
 | .alloc t=>F false (.out (zj (tyi P t) S.length))
 | .box t x=>evK e x fun x=>F false (.out (yB S S.length (tyi P t).size x))
 | .buildSlice t len ps=>kt e (ps.toList.map (·.2)) fun l=>F false (.out (zJ P t S.length len (ps.toList.map (·.1)) (l.map PV.cells)))
 | .makeSlice t l c=>evK e l fun l=>evK e c fun c=>F false (.out (zL P t S.length l c))
 | .store t a x=>evK e a fun a=>evK e x fun x=>F false (.sto (zk (tyi P t) S a x))
 | .call c=>(match c.callee with
  | .builtin .len=>(match c.argTypes.toList,c.args.toList with | t::_,x::_=>evK e x fun x=>F false (.val (yO (tyi P t) x)) | _,_=>F false (vg (xM P H b0 h) o e S))
  | .builtin .max=>kt e c.args.toList fun l=>F true (.val (zCo l))
  | .builtin .min=>kt e c.args.toList fun l=>F true (.val (zCp l))
  | .builtin .append=>(match c.argTypes.toList,c.args.toList with
   | t::u::_,[x,y]=>evK e x fun x=>evK e y fun y=>F false (.eff (zV P b0 t u S x y))
   | _,_=>F false (vg (xM P H b0 h) o e S))
  | .builtin .copy=>(match c.argTypes.toList,c.args.toList with
   | t::u::_,[x,y]=>evK e x fun x=>evK e y fun y=>F false (.sto (yD P t u S x y))
   | _,_=>F false (vg (xM P H b0 h) o e S))
  | .value (.func f)=>(match H.refs f with
   | true=>kt e c.args.toList fun l=>F false (.sto (yE P H S f l))
   | false=>kt e c.args.toList fun l=>F false (.out (zQ (callL P H) S f l)))
  | .value f=>evK e f fun f=>kt e c.args.toList fun l=>F false (.sto (zm P H S f l))
  | _=>F false (vg (xM P H b0 h) o e S))
 | o=>F false (vg (xM P H b0 h) o e S)
theorem QP (P:Program) (H:Hints) (b0:Nat) (h:Hint) (o:Op) (e:Env) (S:zA) (F:Bool→OR→Option R) (hF : ∀a q,F a q=F true q):uu P H h b0 o e S F=F true (vg (xM P H b0 h) o e S):=by
 have hf : ∀q,F false q=F true q:=fun q=>hF false q
 cases o <;> try rfl
 all_goals try exact hf _
 all_goals try (simp only[uu,vh,zCt,wL,Xv,hf];rfl)
 case binOp op t x y u =>
  simp only[uu,vh,hf];have h0:vg (xM P H b0 h) (.binOp op t x y u) e S=.val (vw op (tyi P t) y (ev e x) (ev e y)):=rfl;rw[h0]
  cases ev e x <;> cases ev e y <;> first | rfl | exact hF _ _
 case makeFunc fn first caps =>
  cases fn <;> first | (simp only[uu,wL];rfl) | (simp only[uu,hf])
 case buildSlice t len ps =>
  simp only[uu,wL,List.map_map,hf];rfl
 case call c =>
  obtain⟨ce,xs,ts⟩:=c;cases ce with
  | invoke r m=>simp only[uu,hf]
  | value f =>
   cases f with
   | func f =>
    simp only[uu,wL,hf];have h0:vg (xM P H b0 h) (.call ⟨.value (.func f),xs,ts⟩) e S=if H.refs f then .sto (yE P H S f ([]++xs.toList.map (ev e)++[])) else .out (zQ (callL P H) S f ([]++xs.toList.map (ev e)++[])):=rfl;rw[h0]
    cases H.refs f <;> simp
   | tmp t=>simp only[uu,vh,wL,hf];rfl
   | const t=>simp only[uu,vh,wL,hf];rfl
   | global t=>simp only[uu,vh,wL,hf];rfl
  | builtin b =>
   cases b <;> try (first | rfl | (simp only[uu,hf];done))
   case len =>
    simp only[uu,vh,hf];have h0:vg (xM P H b0 h) (.call ⟨.builtin .len,xs,ts⟩) e S=(match (match ts[0]?,xs[0]? with | some t,some x=>some (yO (tyi P t) (ev e x)) | _,_=>none) with | some x=>OR.val x | none=>.out none):=rfl;rw[h0];obtain⟨ts⟩:=ts;obtain⟨xs⟩:=xs
    rcases ts with _ | ⟨t,ts⟩ <;> rcases xs with _ | ⟨x,xs⟩ <;> rfl
   case append =>
    simp only[uu,vh,hf];have h0:vg (xM P H b0 h) (.call ⟨.builtin .append,xs,ts⟩) e S=(match ts[0]?,ts[1]?,xs.toList with
    | some t,some u,[x,y]=>OR.eff (zV P b0 t u S (ev e x) (ev e y))
    | _,_,_=>.out none):=rfl
    rw[h0];obtain⟨ts⟩:=ts;obtain⟨l⟩:=xs
    rcases l with _ | ⟨x,_ | ⟨y,_ | ⟨w,l⟩⟩⟩ <;> rcases ts with _ | ⟨t,_ | ⟨u,ts⟩⟩ <;> rfl
   case copy =>
    simp only[uu,vh,hf];have h0:vg (xM P H b0 h) (.call ⟨.builtin .copy,xs,ts⟩) e S=(match ts[0]?,ts[1]?,xs.toList with
    | some t,some u,[x,y]=>OR.sto (yD P t u S (ev e x) (ev e y))
    | _,_,_=>.out none):=rfl
    rw[h0];obtain⟨ts⟩:=ts;obtain⟨l⟩:=xs
    rcases l with _ | ⟨x,_ | ⟨y,_ | ⟨w,l⟩⟩⟩ <;> rcases ts with _ | ⟨t,_ | ⟨u,ts⟩⟩ <;> rfl
   case max=>simp only[uu,wL];rfl
   case min=>simp only[uu,wL];rfl
noncomputable def orK (q:OR) (e:Env) (S:zA) (d:Option Nat) (K:Env→zA→Option R):Option R:=match q with
 | .val x=>kv 1 x fun v=>jk e d v fun e=>K e S
 | .out x=>kv 1 x fun o=>jk e d o.v fun e=>K e (xn (zH S o.fz) o.new)
 | .eff x=>kv 1 x fun r=>UO r.kill e fun e=>jk e d r.v fun e=>K e r.S
 | .sto x=>kv 1 x fun r=>jk e d r.v fun e=>K e r.S
noncomputable def zBG (g:PV) (want:Bool) (A B:Option R):Option R:=match g with
 | .bool b=>(match want with | true=>kT 1 b A B | false=>kT 1 b B A)
 | .skip=>B
 | _=>none
theorem jK (g:PV) (want:Bool) (A B:Option R):zBG g want A B=(match g with | .bool b=>if b=want then A else B | .skip=>B | _=>none):=by
 cases g <;> try rfl
 rename_i b
 cases b <;> cases want <;> rfl
noncomputable def doK (P:Program) (H:Hints) (h:Hint) (b0:Nat) (o:Oper) (e:Env) (S:zA) (K1 K2:Env→zA→Option R):Option R:=match o.dst with
 | some d=>uu P H h b0 o.op e S fun now q=>(match now with | true=>orK q e S (some d) K1 | false=>orK q e S (some d) K2)
 | none=>uu P H h b0 o.op e S fun now q=>(match now with | true=>orK q e S none K1 | false=>orK q e S none K2)
theorem Kt (P:Program) (H:Hints) (h:Hint) (b0:Nat) (o:Oper) (e:Env) (S:zA) (K:Env→zA→Option R):doK P H h b0 o e S K K=orK (vg (xM P H b0 h) o.op e S) e S o.dst K:=by
 unfold doK;cases o.dst with
 | none =>
  dsimp only;rw[QP _ _ _ _ _ _ _ _ fun a q=>by cases a <;> rfl]
 | some d =>
  dsimp only;rw[QP _ _ _ _ _ _ _ _ fun a q=>by cases a <;> rfl]
noncomputable def opK (P:Program) (H:Hints) (h:Hint) (b0:Nat) (dsts:Nat→Option Nat) (o:Oper) (e:Env) (S:zA) (K:Env→zA→Option R):Option R:=match o.guard with
 | none=>doK P H h b0 o e S K K
 | some (j,want)=>(match dsts j with
  | none=>jk e o.dst .skip fun e=>K e S
  | some t=>Zp e t fun g=>zBG g want (doK P H h b0 o e S K K) (jk e o.dst .skip fun e=>K e S))
theorem zEQ (P:Program) (H:Hints) (b0:Nat) (h:Hint) (ops:Array Oper) (o:Oper) (r:List Oper) (e:Env) (S:zA) (K:Env→zA→Option R):xe (xM P H b0 h) ops (o::r) e S K=opK P H h b0 (fun j=>(ops[j]?).bind (·.dst)) o e S fun e S=>xe (xM P H b0 h) ops r e S K:=by
 simp only[xe,opK,Kt,xy,vo];cases o.guard with
 | none =>
  dsimp only
  cases vg (xM P H b0 h) o.op e S with
  | val x=>cases x <;> simp only[orK,ww,UF,xy,bC,HA]
  | out x=>cases x <;> simp only[orK,ww,UG,xy,bC,HA]
  | eff x=>cases x <;> simp only[orK,ww,UH,xy,UP,bC,HA]
  | sto x=>cases x <;> simp only[orK,ww,UI,xy,bC,HA]
 | some jw =>
  obtain⟨j,want⟩:=jw;dsimp only
  cases (ops[j]?).bind (·.dst) with
  | none=>rfl
  | some t =>
   dsimp only
   cases vg (xM P H b0 h) o.op e S with
   | val x=>cases get e t <;> simp only[zEL,jK] <;> (try rfl) <;> (split <;> (try rfl)) <;> cases x <;> simp only[orK,ww,UF,xy,bC,HA]
   | out x=>cases get e t <;> simp only[zEM,jK] <;> (try rfl) <;> (split <;> (try rfl)) <;> cases x <;> simp only[orK,ww,UG,xy,bC,HA]
   | eff x=>cases get e t <;> simp only[Qn,jK] <;> (try rfl) <;> (split <;> (try rfl)) <;> cases x <;> simp only[orK,ww,UH,xy,UP,bC,HA]
   | sto x=>cases get e t <;> simp only[Qn,jK] <;> (try rfl) <;> (split <;> (try rfl)) <;> cases x <;> simp only[orK,ww,UI,xy,bC,HA]
end
noncomputable def kid:Code→Nat→Code
 | .seq a b,i=>(match i with | 0=>a | _=>b)
 | .cond _ a b,i=>(match i with | 0=>a | _=>b)
 | .block _ a,_=>a
 | .loop a,_=>a
 | _,_=>.skip
noncomputable def Ya:Nat→Code→Nat→Code
 | 0,c,_=>c
 | n+1,c,p=>match Nat.ble p 1 with | true=>c | false=>kid (Ya n c (p / 2)) (p % 2)
noncomputable def sub (c:Code) (p:Nat):Code:=Ya 200 c p
noncomputable def far:Nat:=2^199
theorem Xx : ∀(n:Nat) (c:Code) (p:Nat),p<2^n→Ya (n+1) c p=Ya n c p
 | 0,c,p,h=>by
  have:Nat.ble p 1=true:=by rw[Nat.ble_eq];omega
  simp only[Ya,this]
 | n+1,c,p,h=>by
  have h2:p / 2<2^n:=by rw[Nat.pow_succ]at h;omega
  rw[Ya,Xx n c _ h2];rfl
theorem QQ (c:Code) (p i:Nat) (hp:1≤p) (hf:p<2^199) (hi:i<2):sub c (2*p+i)=kid (sub c p) i:=by
 have h:Nat.ble (2*p+i) 1=false:=by
  cases hb:Nat.ble (2*p+i) 1 with
  | false=>rfl
  | true=>rw[Nat.ble_eq]at hb;omega
 have e:sub c p=Ya 199 c p:=Xx 199 c p hf;rw[e]
 show Ya (199+1) c (2*p+i)=_
 rw[Ya,h];have e1:(2*p+i) / 2=p:=by omega
 have e2:(2*p+i) % 2=i:=by omega
 simp only[e1,e2]
inductive Md where
 | at (b p:Nat) | ops (b p j:Nat) | opy (b p j:Nat) | opn (b p j:Nat) | nor | exi (i:Nat)
inductive Fr where
 | seq (b p:Nat) | blk (i:Nat) | lop (b p n:Nat)
structure FX where
 fn:Func
 h:Hint
 dyn:List Nat:=[]
noncomputable def FX.C (F:FX) (b0:Nat):Ctx:=xM Tryz.prog zD b0 F.h
noncomputable def FX.root (F:FX):Code:=match F.fn.body with | some c=>c | none=>.skip
abbrev RS1:=Option (PV × zA)
abbrev KS:=Vs.X→Env→zA→RS1
noncomputable def FX.lh (F:FX) (b:Nat):LoopHint:=match F.h.loops.lookup b with | some h=>h | none => {live:=[],after:=[]}
noncomputable def xD (b0:Nat) (F:FX):List Fr→KS
 | []=>zEO Tryz.prog F.fn
 | .seq b p::r=>zEN (fun e S=>yY (F.C b0) b (sub F.root p) (xD b0 F r) e S) (xD b0 F r)
 | .blk i::r=>jv i (xD b0 F r)
 | .lop b p n::r=>zBC (vV (F.lh b).live (F.lh b).fz n) (uR b n (F.lh b).after (xD b0 F r)) (fun e S=>jh (fun K e S=>yY (F.C b0) b (sub F.root p) K e S) (vV (F.lh b).live (F.lh b).fz n) (uR b n (F.lh b).after (xD b0 F r)) e S)
noncomputable def X4 (b0:Nat) (F:FX) (m:Md) (fs:List Fr) (e:Env) (S:zA):RS1:=match m with
 | .at b p=>yY (F.C b0) b (sub F.root p) (xD b0 F fs) e S
 | .ops b p j=>(match sub F.root p with
  | .region id ops _=>xe (F.C b0) ops (ops.toList.drop j) e S fun e S=>xD b0 F fs .normal (trim (F.h.at id) e) S
  | _=>none)
 | .opy b p j=>(match sub F.root p with
  | .region id ops _=>(match ops.toList.drop j with
   | []=>none
   | o::_=>orK (vg (F.C b0) o.op e S) e S o.dst fun e S=>xe (F.C b0) ops (ops.toList.drop (j+1)) e S fun e S=>xD b0 F fs .normal (trim (F.h.at id) e) S)
  | _=>none)
 | .opn b p j=>(match sub F.root p with
  | .region id ops _=>(match ops.toList.drop j with
   | []=>none
   | o::_=>xe (F.C b0) ops (ops.toList.drop (j+1)) (putD e o.dst .skip) S fun e S=>xD b0 F fs .normal (trim (F.h.at id) e) S)
  | _=>none)
 | .nor=>xD b0 F fs .normal e S
 | .exi i=>xD b0 F fs (.exit i) e S
noncomputable def zBH (b0:Nat) (F:FX) (b p n:Nat) (fs:List Fr) (e:Env) (S:zA):RS1 :=
 jh (fun K e S=>yY (F.C b0) b (sub F.root p) K e S) (vV (F.lh b).live (F.lh b).fz n) (uR b n (F.lh b).after (xD b0 F fs)) e S
theorem zBI : ∃f:Nat→FX→Md→List Fr→Env→zA→RS1,f=X4:=⟨_,rfl⟩
theorem QR : ∃f:Nat→FX→Nat→Nat→Nat→List Fr→Env→zA→RS1,f=zBH:=⟨_,rfl⟩
theorem QS : ∃f:Nat→FX→Nat→List Fr→Env→zA→RS1,f=fun b0 F i fs e S=>X4 b0 F (.exi i) fs e S:=⟨_,rfl⟩
noncomputable def sem:Nat→FX→Md→List Fr→Env→zA→RS1:=Classical.choose zBI
noncomputable def zS:Nat→FX→Nat→Nat→Nat→List Fr→Env→zA→RS1:=Classical.choose QR
noncomputable def zZ:Nat→FX→Nat→List Fr→Env→zA→RS1:=Classical.choose QS
theorem kw (b0:Nat) (F:FX) (m:Md) (fs:List Fr) (e:Env) (S:zA):sem b0 F m fs e S=X4 b0 F m fs e S:=by rw[sem,PM zBI]
theorem vI (b0:Nat) (F:FX) (b p n:Nat) (fs:List Fr) (e:Env) (S:zA):zS b0 F b p n fs e S=zBH b0 F b p n fs e S:=by rw[zS,PM QR]
theorem vJ (b0:Nat) (F:FX) (i:Nat) (fs:List Fr) (e:Env) (S:zA):zZ b0 F i fs e S=X4 b0 F (.exi i) fs e S:=by rw[zZ,PM QS]
section
variable {R:Type}
noncomputable def Ku:List Nat→Env→zA→(Env→zA→Option R)→Option R
 | [],e,S,k=>k e S
 | t::r,e,S,k=>match Nat.blt t 1000 with
  | true=>Zp e t fun x=>(match x with
   | .sl [] true=>Ko e t (.msl S.length 0 0 false) fun e=>Ku r e (S++[.arr [] (some none) false]) k
   | .msl id off len true=>Ko e t (.msl id off len false) fun e=>Ku r e S k
   | _=>Ku r e S k)
  | false=>Zp e (t % 1000) fun x=>Ku r e (ownMem S x (t / 1000-1)) k
noncomputable def fzK:List Nat→Env→zA→(Env→zA→Option R)→Option R
 | [],e,S,k=>k e S
 | t::r,e,S,k=>Zp e t fun x=>match ym S x with
  | some v=>Ko e t v fun e=>fzK r e (zH S (yq S 8 x.refs)) k
  | none=>none
theorem qd : ∀(l:List Nat) (e:Env) (S:zA) (k:Env→zA→Option R),Ku l e S k=k (ownAll l e S).1 (ownAll l e S).2
 | [],e,S,k=>rfl
 | t::r,e,S,k=>by
  have e1:ownAll (t::r) e S=ownAll r (own1 e S t).1 (own1 e S t).2:=rfl;rw[e1];simp only[Ku,vo,own1]
  cases hb:Nat.blt t 1000 with
  | true =>
   have ht:t<1000:=Eq.mp Nat.blt_eq hb;rw[hZ ht];dsimp only;generalize hx:get e t=x
   split
   ·simp only[qZ,qd r]
   ·simp only[qZ,qd r]
   ·rename_i h1 h2
    split
    ·exact (h1 rfl).elim
    ·exact (h2 _ _ _ rfl).elim
    ·exact qd r _ _ _
  | false =>
   have ht : ¬t<1000:=fun h=>by rw[Eq.mpr Nat.blt_eq h]at hb;cases hb
   rw[hI ht];exact qd r _ _ _
theorem Kv : ∀(l:List Nat) (e:Env) (S:zA) (k:Env→zA→Option R),fzK l e S k=(fzSlots l e S).bind fun r=>k r.1 r.2
 | [],e,S,k=>rfl
 | t::r,e,S,k=>by
  simp only[fzK,vo,fzSlots,fzSlot]
  cases ym S (get e t) with
  | none=>rfl
  | some v=>simp only[qZ,Kv r,bJ,bC]
end
noncomputable def Qv (P:Program) (e:Env) (S:zA):List ResultVar→(List PV→RS1)→RS1
 | [],k=>k []
 | .tmp t::r,k=>Zp e t fun v=>Qv P e S r fun l=>k (v::l)
 | .cell a t::r,k=>Zp e a fun a=>kv 1 (zb (tyi P t) S a) fun v=>Qv P e S r fun l=>k (v::l)
noncomputable def zCu (F:FX) (e:Env) (S:zA):RS1:=Qv Tryz.prog e S F.fn.results.toList fun vs=>match vs with | [v]=>some (v,S) | vs=>some (.tup vs,S)
theorem Wu (P:Program) (e:Env) (S:zA) : ∀(rs:List ResultVar) (k:List PV→RS1),Qv P e S rs k=(yG (xu P e S) rs).bind k
 | [],k=>rfl
 | .tmp t::r,k=>by
  simp only[Qv,vo,Wu P e S r,yG,xu,bC]
  cases yG (xu P e S) r <;> rfl
 | .cell a t::r,k=>by
  simp only[Qv,vo,yG,xu,ww]
  cases zb (tyi P t) S (get e a) with
  | none=>rfl
  | some v =>
   simp only[bC,Wu P e S r]
   cases yG (xu P e S) r <;> rfl
theorem QT (F:FX) (e:Env) (S:zA):zCu F e S=(wA Tryz.prog F.fn e S).map fun v=>(v,S):=by
 unfold zCu wA;rw[Wu]
 cases yG (xu Tryz.prog e S) F.fn.results.toList with
 | none=>rfl
 | some vs =>
  simp only[bC,bJ]
  rcases vs with _ | ⟨v,_ | ⟨w,vs⟩⟩ <;> rfl
noncomputable def zBJ (v:PV) (A B:RS1):RS1:=match v with
 | .bool t=>kT 1 t A B
 | _=>none
theorem zBK (v:PV) (A B:RS1):zBJ v A B=Xt v A B:=by
 cases v <;> try rfl
 rename_i b
 cases b <;> rfl
noncomputable def zER (b0:Nat) (F:FX) (p:Nat) (e:Env) (S:zA):Bool:=match sub F.root p with
 | .region _ ops _=>wY ops (uT zD ops)||wY ops (fun j=>(yj (F.C b0) ops ops.toList e S).getD j 0)
 | _=>false
theorem zBL : ∃f:Nat→FX→Nat→Env→zA→Bool,f=zER:=⟨_,rfl⟩
noncomputable def zCv:Nat→FX→Nat→Env→zA→Bool:=Classical.choose zBL
theorem zCw (b0:Nat) (F:FX) (p:Nat) (e:Env) (S:zA):zCv b0 F p e S=zER b0 F p e S:=by rw[zCv,PM zBL]
noncomputable def uL (b0:Nat) (F:FX) (_:Nat) (ih:Md→List Fr→Env→zA→RS1) (m:Md) (fs:List Fr) (e:Env) (S:zA):RS1:=match m with
  | .at b p=>(match Nat.ble 1 p&&Nat.blt p far with
   | false=>sem b0 F (.at b p) fs e S
   | true=>(match sub F.root p with
    | .skip=>ih .nor fs e S
    | .seq _ _=>ih (.at b (2*p)) (.seq b (2*p+1)::fs) e S
    | .cond c _ _=>evK e c fun v=>zBJ v (sem b0 F (.at b (2*p)) fs e S) (sem b0 F (.at b (2*p+1)) fs e S)
    | .block i _=>ih (.at i (2*p)) (.blk i::fs) e S
    | .exit i=>ih (.exi i) fs e S
    | .ret=>zCu F e S
    | .region id ops d=>(match d&&Wr F.dyn id with
     | true=>(match zCv b0 F p e S with | true=>ih (.ops b p 0) fs e S | false=>none)
     | false=>ih (.ops b p 0) fs e S)
    | .loop _=>(match F.h.loops.lookup b with
     | none=>none
     | some h=>Y7 h.live e fun e=>Ku h.own e S fun e S=>fzK h.fz e S fun e S=>zS b0 F b (2*p) S.length fs e S)
    | _=>none))
  | .ops b p j=>(match sub F.root p with
   | .region id ops _=>(match ops.toList.drop j with
    | []=>QO (F.h.at id) e fun e=>ih .nor fs e S
    | o::_=>(match o.guard with
     | none=>doK Tryz.prog zD F.h b0 o e S (fun e S=>ih (.ops b p (j+1)) fs e S) (fun e S=>sem b0 F (.ops b p (j+1)) fs e S)
     | some (i,want)=>(match (ops[i]?).bind (·.dst) with
      | none=>jk e o.dst .skip fun e=>ih (.ops b p (j+1)) fs e S
      | some t=>Zp e t fun g=>(match g with
       | .bool g=>(match want with
        | true=>kT 1 g (sem b0 F (.opy b p j) fs e S) (sem b0 F (.opn b p j) fs e S)
        | false=>kT 1 g (sem b0 F (.opn b p j) fs e S) (sem b0 F (.opy b p j) fs e S))
       | .skip=>jk e o.dst .skip fun e=>ih (.ops b p (j+1)) fs e S
       | _=>none))))
   | _=>none)
  | .opy b p j=>(match sub F.root p with
   | .region id ops _=>(match ops.toList.drop j with
    | []=>none
    | o::_=>doK Tryz.prog zD F.h b0 o e S (fun e S=>ih (.ops b p (j+1)) fs e S) (fun e S=>sem b0 F (.ops b p (j+1)) fs e S))
   | _=>none)
  | .opn b p j=>(match sub F.root p with
   | .region id ops _=>(match ops.toList.drop j with
    | []=>none
    | o::_=>jk e o.dst .skip fun e=>ih (.ops b p (j+1)) fs e S)
   | _=>none)
  | .nor=>(match fs with
   | []=>zCu F e S
   | .seq b p::r=>ih (.at b p) r e S
   | .blk _::r=>ih .nor r e S
   | .lop b p k::r=>Y7 (F.lh b).live e fun e=>fzK (F.lh b).fz e S fun e S=>zS b0 F b p k r e (gc k e S))
  | .exi i=>(match fs with
   | []=>none
   | .seq _ _::r=>ih (.exi i) r e S
   | .blk j::r=>(match Nat.beq i j with | true=>ih .nor r e S | false=>ih (.exi i) r e S)
   | .lop b _ k::r=>(match Nat.beq i b with | true=>Y7 (F.lh b).after e fun e=>zZ b0 F i r e (gc k e S) | false=>ih (.exi i) r e S))
noncomputable def run (b0:Nat) (F:FX):Nat→Md→List Fr→Env→zA→RS1
 | 0,m,fs,e,S=>sem b0 F m fs e S
 | n+1,m,fs,e,S=>uL b0 F n (run b0 F n) m fs e S
theorem uZ (b0:Nat) (F:FX) (n:Nat) (m:Md) (fs:List Fr) (e:Env) (S:zA):run b0 F (n+1) m fs e S=uL b0 F n (run b0 F n) m fs e S:=rfl
noncomputable def FX.good (F:FX):Bool:=goodC zD F.dyn F.root
where goodC (H:Hints) (dyn:List Nat):Code→Bool
 | .region id ops d=>if d=true then Wr dyn id||wY ops (uT H ops) else true
 | .seq a b=>goodC H dyn a&&goodC H dyn b
 | .cond _ a b=>goodC H dyn a&&goodC H dyn b
 | .block _ a=>goodC H dyn a
 | .loop a=>goodC H dyn a
 | _=>true
theorem Qw (H:Hints) (dyn:List Nat) (c:Code) (i:Nat) (h:FX.good.goodC H dyn c=true):FX.good.goodC H dyn (kid c i)=true:=by
 cases c <;> simp only[FX.good.goodC,kid,bS]at h ⊢ <;> (try exact h)
 ·cases i <;> simp_all
 ·cases i <;> simp_all
theorem Xy (H:Hints) (dyn:List Nat) : ∀(n:Nat) (c:Code) (p:Nat),FX.good.goodC H dyn c=true→FX.good.goodC H dyn (Ya n c p)=true
 | 0,c,p,h=>h
 | n+1,c,p,h=>by
  rw[Ya];cases Nat.ble p 1 with
  | true=>exact h
  | false=>exact Qw H dyn _ _ (Xy H dyn n c _ h)
theorem qe (b0:Nat) (F:FX) (e:Env) (S:zA) : ∀fs,xD b0 F fs .ret e S=(wA Tryz.prog F.fn e S).map fun v=>(v,S)
 | []=>rfl
 | .seq b p::r=>qe b0 F e S r
 | .blk i::r=>qe b0 F e S r
 | .lop b p n::r=>qe b0 F e S r
theorem vT (b0:Nat) (F:FX) (hg:F.good=true) : ∀(n:Nat) (m:Md) (fs:List Fr) (e:Env) (S:zA),run b0 F n m fs e S=X4 b0 F m fs e S
 | 0,m,fs,e,S=>kw b0 F m fs e S
 | n+1,.at b p,fs,e,S=>by
  have ih:=vT b0 F hg n;rw[uZ];unfold uL
  try simp only[kw,vI,vJ]
  try dsimp only
  cases hb:(Nat.ble 1 p&&Nat.blt p far) with
  | false=>rfl
  | true =>
   rw[bS]at hb;have hp:1≤p:=Nat.le_of_ble_eq_true hb.1;have hf:p<2^199:=Eq.mp Nat.blt_eq hb.2;have k0:=QQ F.root p 0 hp hf (by omega);have k1:=QQ F.root p 1 hp hf (by omega);rw[sC]at k0;have hq:FX.good.goodC zD F.dyn (sub F.root p)=true:=Xy zD F.dyn 200 F.root p hg;dsimp only
   show _=yY (F.C b0) b (sub F.root p) (xD b0 F fs) e S
   cases hc:sub F.root p with
   | skip=>dsimp only;rw[ih];rfl
   | region id ops d =>
    dsimp only;rw[hc]at hq;have e1:run b0 F n (.ops b p 0) fs e S=xe (F.C b0) ops ops.toList e S fun e S=>xD b0 F fs .normal (trim (F.h.at id) e) S:=by
     rw[ih]
     show (match sub F.root p with
      | .region id ops _=>xe (F.C b0) ops (ops.toList.drop 0) e S fun e S=>xD b0 F fs .normal (trim (F.h.at id) e) S
      | _=>none)=_
     rw[hc];rfl
    rw[e1];cases d with
    | false=>rfl
    | true =>
     simp only[FX.good.goodC,if_true]at hq;have e2:yY (F.C b0) b (.region id ops true) (xD b0 F fs) e S=if (wY ops (uT zD ops)||wY ops (fun j=>(yj (F.C b0) ops ops.toList e S).getD j 0))=true then xe (F.C b0) ops ops.toList e S (fun e S=>xD b0 F fs .normal (trim (F.h.at id) e) S) else none:=rfl;rw[e2,pQ]
     cases hd:Wr F.dyn id with
     | true =>
      dsimp only;have e3:zCv b0 F p e S=(wY ops (uT zD ops)||wY ops (fun j=>(yj (F.C b0) ops ops.toList e S).getD j 0)):=by
       rw[zCw,zER,hc]
      rw[e3]
      cases wY ops (uT zD ops)||wY ops (fun j=>(yj (F.C b0) ops ops.toList e S).getD j 0) <;> rfl
     | false =>
      rw[hd,HI]at hq;rw[hq,Bool.true_or,hZ rfl]
   | seq x y =>
    rw[hc]at k0 k1;dsimp only;rw[ih]
    show yY (F.C b0) b (sub F.root (2*p)) (zEN (fun e S=>yY (F.C b0) b (sub F.root (2*p+1)) (xD b0 F fs) e S) (xD b0 F fs)) e S=_
    rw[k0,k1];rfl
   | cond c x y =>
    rw[hc]at k0 k1;dsimp only;rw[vh]
    show zBJ (ev e c) (yY (F.C b0) b (sub F.root (2*p)) (xD b0 F fs) e S) (yY (F.C b0) b (sub F.root (2*p+1)) (xD b0 F fs) e S)=_
    rw[k0,k1];exact zBK _ _ _
   | block i x =>
    rw[hc]at k0;dsimp only;rw[ih]
    show yY (F.C b0) i (sub F.root (2*p)) (jv i (xD b0 F fs)) e S=_
    rw[k0];rfl
   | loop x =>
    rw[hc]at k0;dsimp only;have e1:yY (F.C b0) b (.loop x) (xD b0 F fs) e S=(F.h.loops.lookup b).bind fun h=>(fzSlots h.fz (ownAll h.own (keepOnly h.live e) S).1 (ownAll h.own (keepOnly h.live e) S).2).bind fun r=>jh (fun K e S=>yY (F.C b0) b x K e S) (vV h.live h.fz r.2.length) (uR b r.2.length h.after (xD b0 F fs)) r.1 r.2:=rfl;rw[e1]
    cases hl:F.h.loops.lookup b with
    | none=>rfl
    | some h =>
     dsimp only;have e2:F.lh b=h:=by unfold FX.lh;rw[hl]
     simp only[ku,qd,Kv,bC,zBH,e2,k0];rfl
   | exit i=>dsimp only;rw[ih];rfl
   | ret=>dsimp only;rw[QT,←qe b0 F e S fs];rfl
   | _=>rfl
 | n+1,.ops b p j,fs,e,S=>by
  have ih:=vT b0 F hg n;rw[uZ];unfold uL
  try simp only[kw,vI,vJ]
  show _=(match sub F.root p with
   | .region id ops _=>xe (F.C b0) ops (ops.toList.drop j) e S fun e S=>xD b0 F fs .normal (trim (F.h.at id) e) S
   | _=>none)
  try dsimp only
  generalize hc:sub F.root p=c;cases c with
  | region id ops d =>
   dsimp only
   cases hd:ops.toList.drop j with
   | nil=>simp only[UM,ih];rfl
   | cons o l =>
    have e1:ops.toList.drop (j+1)=l:=by rw[←List.tail_drop,hd];rfl
    have e2 : ∀e S,X4 b0 F (.ops b p (j+1)) fs e S=xe (F.C b0) ops l e S fun e S=>xD b0 F fs .normal (trim (F.h.at id) e) S:=fun e S=>by
     show (match sub F.root p with
      | .region id ops _=>xe (F.C b0) ops (ops.toList.drop (j+1)) e S fun e S=>xD b0 F fs .normal (trim (F.h.at id) e) S
      | _=>none)=_
     rw[hc];dsimp only;rw[e1]
    have e4 : ∀e S,X4 b0 F (.opy b p j) fs e S=orK (vg (F.C b0) o.op e S) e S o.dst fun e S=>xe (F.C b0) ops l e S fun e S=>xD b0 F fs .normal (trim (F.h.at id) e) S:=fun e S=>by
     show (match sub F.root p with
      | .region id ops _=>(match ops.toList.drop j with
       | []=>none
       | o::_=>orK (vg (F.C b0) o.op e S) e S o.dst fun e S=>xe (F.C b0) ops (ops.toList.drop (j+1)) e S fun e S=>xD b0 F fs .normal (trim (F.h.at id) e) S)
      | _=>none)=_
     rw[hc];dsimp only;rw[hd];dsimp only;rw[e1]
    have e5 : ∀e S,X4 b0 F (.opn b p j) fs e S=xe (F.C b0) ops l (putD e o.dst .skip) S fun e S=>xD b0 F fs .normal (trim (F.h.at id) e) S:=fun e S=>by
     show (match sub F.root p with
      | .region id ops _=>(match ops.toList.drop j with
       | []=>none
       | o::_=>xe (F.C b0) ops (ops.toList.drop (j+1)) (putD e o.dst .skip) S fun e S=>xD b0 F fs .normal (trim (F.h.at id) e) S)
      | _=>none)=_
     rw[hc];dsimp only;rw[hd];dsimp only;rw[e1]
    have e3:=zEQ (R:=PV × zA) Tryz.prog zD b0 F.h ops o l e S fun e S=>xD b0 F fs .normal (trim (F.h.at id) e) S;refine Eq.trans ?_ e3.symm;simp only[ih,e2,e4,e5,opK,xy,vo,Kt];cases o.guard with
    | none=>rfl
    | some jw =>
     obtain⟨i,want⟩:=jw;dsimp only
     cases (ops[i]?).bind (·.dst) with
     | none=>rfl
     | some t =>
      dsimp only
      cases get e t <;> first | rfl | (cases want <;> rfl)
  | _=>rfl
 | n+1,.opy b p j,fs,e,S=>by
  have ih:=vT b0 F hg n;rw[uZ];unfold uL
  try simp only[kw,vI,vJ]
  show _=(match sub F.root p with
   | .region id ops _=>(match ops.toList.drop j with
    | []=>none
    | o::_=>orK (vg (F.C b0) o.op e S) e S o.dst fun e S=>xe (F.C b0) ops (ops.toList.drop (j+1)) e S fun e S=>xD b0 F fs .normal (trim (F.h.at id) e) S)
   | _=>none)
  try dsimp only
  generalize hc:sub F.root p=c;cases c with
  | region id ops d =>
   dsimp only
   cases hd:ops.toList.drop j with
   | nil=>rfl
   | cons o l =>
    have e2 : ∀e S,X4 b0 F (.ops b p (j+1)) fs e S=xe (F.C b0) ops (ops.toList.drop (j+1)) e S fun e S=>xD b0 F fs .normal (trim (F.h.at id) e) S:=fun e S=>by
     show (match sub F.root p with
      | .region id ops _=>xe (F.C b0) ops (ops.toList.drop (j+1)) e S fun e S=>xD b0 F fs .normal (trim (F.h.at id) e) S
      | _=>none)=_
     rw[hc]
    simp only[ih,e2,Kt];rfl
  | _=>rfl
 | n+1,.opn b p j,fs,e,S=>by
  have ih:=vT b0 F hg n;rw[uZ];unfold uL
  try simp only[kw,vI,vJ]
  show _=(match sub F.root p with
   | .region id ops _=>(match ops.toList.drop j with
    | []=>none
    | o::_=>xe (F.C b0) ops (ops.toList.drop (j+1)) (putD e o.dst .skip) S fun e S=>xD b0 F fs .normal (trim (F.h.at id) e) S)
   | _=>none)
  try dsimp only
  generalize hc:sub F.root p=c;cases c with
  | region id ops d =>
   dsimp only
   cases hd:ops.toList.drop j with
   | nil=>rfl
   | cons o l =>
    have e2 : ∀e S,X4 b0 F (.ops b p (j+1)) fs e S=xe (F.C b0) ops (ops.toList.drop (j+1)) e S fun e S=>xD b0 F fs .normal (trim (F.h.at id) e) S:=fun e S=>by
     show (match sub F.root p with
      | .region id ops _=>xe (F.C b0) ops (ops.toList.drop (j+1)) e S fun e S=>xD b0 F fs .normal (trim (F.h.at id) e) S
      | _=>none)=_
     rw[hc]
    simp only[ih,e2,xy]
  | _=>rfl
 | n+1,.nor,fs,e,S=>by
  have ih:=vT b0 F hg n;rw[uZ];unfold uL
  try simp only[kw,vI,vJ]
  try dsimp only
  show _=xD b0 F fs .normal e S
  cases fs with
  | nil=>exact QT F e S
  | cons f r =>
   cases f with
   | seq b p=>dsimp only;rw[ih];rfl
   | blk i=>dsimp only;rw[ih];rfl
   | lop b p k =>
    dsimp only;simp only[ku,Kv]
    show _=(vV (F.lh b).live (F.lh b).fz k e S).bind fun q=>jh (fun K e S=>yY (F.C b0) b (sub F.root p) K e S) (vV (F.lh b).live (F.lh b).fz k) (uR b k (F.lh b).after (xD b0 F r)) q.1 q.2
    unfold vV
    cases fzSlots (F.lh b).fz (keepOnly (F.lh b).live e) S <;> rfl
 | n+1,.exi i,fs,e,S=>by
  have ih:=vT b0 F hg n;rw[uZ];unfold uL
  try simp only[kw,vI,vJ]
  try dsimp only
  show _=xD b0 F fs (.exit i) e S
  cases fs with
  | nil=>rfl
  | cons f r =>
   cases f with
   | seq b p=>dsimp only;rw[ih];rfl
   | blk j =>
    dsimp only
    show _=if i=j then xD b0 F r .normal e S else xD b0 F r (.exit i) e S
    cases hb:Nat.beq i j with
    | true=>rw[hZ (Y8 hb)];exact ih _ _ _ _
    | false=>rw[hI (Y9 hb)];exact ih _ _ _ _
   | lop b p k =>
    dsimp only
    show _=if i=b then xD b0 F r (.exit i) (keepOnly (F.lh b).after e) (gc k (keepOnly (F.lh b).after e) S) else xD b0 F r (.exit i) e S
    cases hb:Nat.beq i b with
    | true=>rw[hZ (Y8 hb)];simp only[ku];rfl
    | false=>rw[hI (Y9 hb)];exact ih _ _ _ _
section
variable {R:Type}
@[congr] theorem zDj {t t':Bool} {A B:Option R} (h:t=t'):kT 1 t A B=kT 1 t' A B:=by rw[h]
@[congr] theorem zDk {A:Type} {x x':Option A} {K:A→Option R} (h:x=x'):kv 1 x K=kv 1 x' K:=by rw[h]
end
attribute [go_sem] Ks UN Kq Kr
theorem UQ {b0:Nat} {F:FX} (hg:F.good=true) (n:Nat) {b p k:Nat} {fs:List Fr} {e:Env} {S:zA} {z:PV × zA}
  (h:run b0 F n (.at b p) (.lop b p k::fs) e S=some z):zS b0 F b p k fs e S=some z:=by
 rw[vT b0 F hg]at h;rw[vI];exact Km h
class FX.ok (F:FX) (f:outParam FuncId):Prop where
 at_:Tryz.prog.funcs[f]? = some F.fn
 name : F.fn.name ≠ "runtime.NumGoroutine"
 hint:zD.of f=F.h
 code:(match F.fn.body with | some c=>xt F.fn.ntmps c | none=>false)=true
 good:F.good=true
 orc:zD.orc f=none
theorem FX.mk' {F : FX} {f : FuncId} (h1 : Tryz.prog.funcs[f]? = some F.fn := by kernel_rfl) (h2 : F.fn.name ≠ "runtime.NumGoroutine" := by exact BW (by kernel_rfl)) (h3 : zD.of f = F.h := by kernel_rfl) (h4 : (match F.fn.body with | some c => xt F.fn.ntmps c | none => false) = true := by kernel_rfl) (h5 : F.good = true := by kernel_rfl) (h6 : zD.orc f = none := by kernel_rfl) : F.ok f := ⟨h1, h2, h3, h4, h5, h6⟩
@[go_sem] theorem FX.t {F:FX} {f:FuncId} [h:F.ok f] (b0:Nat) (m:Md) (fs:List Fr) (e:Env) (S:zA):sem b0 F m fs e S=run b0 F 1000 m fs e S:=(kw _ _ _ _ _ _).trans (vT b0 F h.good 1000 m fs e S).symm
theorem FX.callRL {F:FX} {f:FuncId} (ok:F.ok f) (n:Nat) {args:List PV} (ha:Nat.ble args.length F.fn.ntmps=true) {S:zA} {e:Env} (he:(List.range args.length).zip args=e) {r:PV × zA}
  (h:run S.length F n (.at 0 1) [] e S=some r):callRL Tryz.prog zD f args S=some r:=by
 have hc:=ok.code
 split at hc
 ·rename_i c hb;rw[vT _ F ok.good]at h;subst he;refine Qr ok.orc ok.at_ hb ok.name hc (Nat.le_of_ble_eq_true ha) ?_;rw[ok.hint];have e1:sub F.root 1=c:=by
   show F.root=c
   unfold FX.root;rw[hb]
  have h':yY (F.C S.length) 0 (sub F.root 1) (zEO Tryz.prog F.fn) ((List.range args.length).zip args) S=some r:=h;rw[e1]at h';exact h'
 ·cases hc
theorem FX.callL {F:FX} {f:FuncId} (ok:F.ok f) (n:Nat) {args:List PV} (ha:Nat.ble args.length F.fn.ntmps=true) {e:Env} (he:(List.range args.length).zip args=e) {r:PV × zA} {v:PV}
  (h:run 0 F n (.at 0 1) [] e []=some r) (hv:ym r.2 r.1=some v):Vs.callL Tryz.prog zD f args=some v:=by
 have h':Vs.callRL Tryz.prog zD f args []=some r:=FX.callRL ok n ha he h;simp only[Vs.callL,h',bC,hv]
theorem UR {n:Nat} {e:Env} {S:zA} (h:S.length≤n):gc n e S=S:=by
 unfold gc
 split
 ·exact pZ h
 ·rfl
@[go_sem 2000] theorem zIK (e:Env) (a:Obj):gc 1 e [a]=[a]:=UR (by simp)
@[go_sem 2000] theorem zIL (e:Env) (a b:Obj):gc 2 e [a,b]=[a,b]:=UR (by simp)
@[go_sem 2000] theorem zIM (e:Env) (a b c:Obj):gc 3 e [a,b,c]=[a,b,c]:=UR (by simp)
@[go_sem 2000] theorem zIN (e:Env) (a b c d:Obj):gc 4 e [a,b,c,d]=[a,b,c,d]:=UR (by simp)
@[go_sem 2000] theorem zIO (e:Env) (a b c d f:Obj):gc 5 e [a,b,c,d,f]=[a,b,c,d,f]:=UR (by simp)
theorem zBM {b0:Nat} {F:FX} (hg:F.good=true) (n:Nat) {i:Nat} {fs:List Fr} {e:Env} {S:zA} {z:PV × zA} (h:run b0 F n (.exi i) fs e S=some z):zZ b0 F i fs e S=some z:=by
 rw[vT b0 F hg]at h;rw[vJ];exact h
@[go_sem] theorem zES (S:zA) (rows:List (List PV)) (g:Option (Option Nat)):xn S (some (rows,g))=S++[.arr rows g false]:=nr rfl
@[go_sem] theorem zET (S:zA):xn S none=S:=nr rfl
attribute [irreducible] sem zS zZ
end
theorem zC {b0:Nat} {F:FX} {f:FuncId} [ok:F.ok f] {b p k:Nat} {fs:List Fr} {e:Env} {S:zA} {z:PV × zA} (h:run b0 F 1000 (.at b p) (.lop b p k::fs) e S=some z):zS b0 F b p k fs e S=some z:=UQ ok.good 1000 h
theorem zR {b0:Nat} {F:FX} {f:FuncId} [ok:F.ok f] {i:Nat} {fs:List Fr} {e:Env} {S:zA} {z:PV × zA} (h:run b0 F 1000 (.exi i) fs e S=some z):zZ b0 F i fs e S=some z:=zBM ok.good 1000 h
end
section
attribute [go_sem] if_true if_false eq_self bH Bool.true_eq_false HQ aP and_self and_true true_and and_false false_and not_true_eq_false not_false_eq_true
@[go_sem] theorem zGz (t:Nat):get [] t=.undef:=nr rfl
@[go_sem] theorem zFi (k t:Nat) (v:PV) (r:Env):get ((k,v)::r) t=if k=t then v else get r t:=nr rfl
@[go_sem] theorem zHA (t:Nat) (v:PV):put [] t v=[(t,v)]:=nr rfl
@[go_sem] theorem zFj (k t:Nat) (u v:PV) (r:Env):put ((k,u)::r) t v=if k=t then (t,v)::r else (k,u)::put r t v:=nr rfl
@[go_sem] theorem zFJ (ti:TI) (k:IntKind) (a b:Int):yQ .add ti (.int k a) (.int k b)=some (.int k (k.wrap (a+b))):=by simp[yQ,vU]
@[go_sem] theorem zFK (ti:TI) (k:IntKind) (a b:Int):yQ .sub ti (.int k a) (.int k b)=some (.int k (k.wrap (a-b))):=by simp[yQ,vU]
@[go_sem] theorem zFL (ti:TI) (k:IntKind) (a b:Int):yQ .mul ti (.int k a) (.int k b)=some (.int k (k.wrap (a*b))):=by simp[yQ,vU]
@[go_sem] theorem zFM (ti:TI) (k:IntKind) (a b:Int):yQ .eql ti (.int k a) (.int k b)=some (.bool (decide (a=b))):=by simp[yQ,vU]
@[go_sem] theorem zFN (ti:TI) (k:IntKind) (a b:Int):yQ .neq ti (.int k a) (.int k b)=some (.bool (!decide (a=b))):=by simp[yQ,vU]
@[go_sem] theorem zFO (ti:TI) (k:IntKind) (a b:Int):yQ .lss ti (.int k a) (.int k b)=some (.bool (decide (a<b))):=by simp[yQ,vU]
@[go_sem] theorem zFP (ti:TI) (k:IntKind) (a b:Int):yQ .leq ti (.int k a) (.int k b)=some (.bool (decide (a≤b))):=by simp[yQ,vU]
@[go_sem] theorem zFQ (ti:TI) (k:IntKind) (a b:Int):yQ .gtr ti (.int k a) (.int k b)=some (.bool (decide (b<a))):=by simp[yQ,vU]
@[go_sem] theorem zFR (ti:TI) (k:IntKind) (a b:Int):yQ .geq ti (.int k a) (.int k b)=some (.bool (decide (b≤a))):=by simp[yQ,vU]
@[go_sem] theorem zFS (ti:TI) (k:IntKind) (a b:Int):yQ .and ti (.int k a) (.int k b)=some (.int k (k.wrap (BitVec.ofInt k.bits a &&& BitVec.ofInt k.bits b).toNat)):=by simp[yQ,vU]
@[go_sem] theorem zFk (ti:TI) (k:IntKind) (a b:Int):yQ .or ti (.int k a) (.int k b)=some (.int k (k.wrap (BitVec.ofInt k.bits a ||| BitVec.ofInt k.bits b).toNat)):=by simp[yQ,vU]
@[go_sem] theorem zFT (ti:TI) (k:IntKind) (a b:Int):yQ .xor ti (.int k a) (.int k b)=some (.int k (k.wrap (BitVec.ofInt k.bits a ^^^ BitVec.ofInt k.bits b).toNat)):=by simp[yQ,vU]
@[go_sem] theorem zFU (ti:TI) (k:IntKind) (a b:Int):yQ .quo ti (.int k a) (.int k b)=if b=0 then none else some (.int k (k.wrap (a.tdiv b))):=by simp[yQ,vU]
@[go_sem] theorem zFV (ti:TI) (k:IntKind) (a b:Int):yQ .rem ti (.int k a) (.int k b)=if b=0 then none else some (.int k (a.tmod b)):=by simp[yQ,vU]
@[go_sem] theorem zFW (ti:TI) (k k':IntKind) (a b:Int):yQ .shl ti (.int k a) (.int k' b)=if b<0 then none else some (.int k (k.wrap (a*2^min b.toNat k.bits))):=by simp[yQ,qJ]
@[go_sem] theorem zFX (ti:TI) (k k':IntKind) (a b:Int):yQ .shr ti (.int k a) (.int k' b)=if b<0 then none else some (.int k (a.fdiv (2^min b.toNat k.bits))):=by simp[yQ,qJ]
@[go_sem] theorem zCx (ti:TI) (a b:ByteArray):yQ .eql ti (.str a) (.str b)=some (.bool (a.toList == b.toList)):=nr rfl
@[go_sem] theorem zCy (ti:TI) (a b:ByteArray):yQ .neq ti (.str a) (.str b)=some (.bool (!(a.toList == b.toList))):=nr rfl
@[go_sem] theorem zCz (ti:TI) (a b:ByteArray):yQ .lss ti (.str a) (.str b)=some (.bool (Op.bytesLess a.toList b.toList)):=nr rfl
@[go_sem] theorem zBN:(tyi Tryz.prog 4).d=.bool:=nr (by kernel_rfl)
@[go_sem] theorem zC0 (a b:Bool):yQ .eql (tyi Tryz.prog 4) (.bool a) (.bool b)=some (.bool (a == b)):=by simp[yQ,zBN]
@[go_sem] theorem zC1 (a b:Bool):yQ .neq (tyi Tryz.prog 4) (.bool a) (.bool b)=some (.bool (!(a == b))):=by simp[yQ,zBN]
@[go_sem] theorem zEU (op:BinOp) (ti:TI) (yo:Operand) (k:IntKind) (n:Int) (y:PV):vw op ti yo (.int k n) y=yQ op ti (.int k n) y:=nr rfl
@[go_sem] theorem zDl (op:BinOp) (ti:TI) (yo:Operand) (b:Bool) (y:PV):vw op ti yo (.bool b) y=yQ op ti (.bool b) y:=nr rfl
@[go_sem] theorem zEV (op:BinOp) (ti:TI) (yo:Operand) (b:ByteArray) (y:PV):vw op ti yo (.str b) y=yQ op ti (.str b) y:=nr rfl
@[go_sem] theorem zFl (b:Bool):K8 .not (.bool b)=some (.bool (!b)):=nr rfl
@[go_sem] theorem zFm (k:IntKind) (n:Int):K8 .neg (.int k n)=some (.int k (k.wrap (0-n))):=nr rfl
theorem zBO (ti:TI) (h:ti.d=.str) (s:ByteArray):yO ti (.str s)=some (.int .i64 s.size):=by simp[yO,YJ,h]
theorem zDA (ti:TI) {e:TypeId} (h:ti.d=.slice e) (r:List (List PV)) (ex:Bool):yO ti (.sl r ex)=some (.int .i64 r.length):=by simp[yO,YJ,h]
theorem zBP (ti:TI) {e:TypeId} (h:ti.d=.slice e) (i o l:Nat) (ex:Bool):yO ti (.msl i o l ex)=some (.int .i64 l):=by simp[yO,YJ,h]
@[go_sem] theorem zBQ:(tyi Tryz.prog 9).d=.str:=nr (by kernel_rfl)
@[go_sem] theorem zHh (s:ByteArray):yO (tyi Tryz.prog 9) (.str s)=some (.int .i64 s.size):=zBO _ zBQ s
def Yb (s:ByteArray) (i:Nat):Int:=((s.data.toList.getD i 0).toNat:Int)
@[go_sem] theorem zFn (s:ByteArray) (n:Int):zh Tryz.prog 9 (.str s) (.int .i64 n)=if 0≤n∧n<s.size then some (.int .u8 (Yb s n.toNat)) else none:=by
 simp[zh,zBQ,wU,Yb]
attribute [go_sem] bD
@[go_sem] theorem zFo (k k':IntKind) (a b:Int):zCo [.int k a,.int k' b]=some (.int k (if a<b then b else a)):=nr rfl
@[go_sem] theorem zFp (k k':IntKind) (a b:Int):zCp [.int k a,.int k' b]=some (.int k (if b<a then b else a)):=nr rfl
@[go_sem] theorem zC2 (v:PV) (r:List PV):uY (.tup (v::r)) 0=some v:=nr rfl
@[go_sem] theorem zC3 (v:PV) (r:List PV) (i:Nat):uY (.tup (v::r)) (i+1)=uY (.tup r) i:=nr rfl
def zW (v:PV):Prop:=v.refs=[]∧∀S,ym S v=some v
theorem zW.int (k:IntKind) (n:Int):zW (.int k n):=⟨rfl,fun _=>rfl⟩
theorem zW.bool (b:Bool):zW (.bool b):=⟨rfl,fun _=>rfl⟩
theorem zW.str (s:ByteArray):zW (.str s):=⟨rfl,fun _=>rfl⟩
theorem zW.sl (r:List (List PV)):zW (.sl r false):=⟨rfl,fun _=>by cases r <;> rfl⟩
theorem zW.nil:zW (.sl [] true):=⟨rfl,fun _=>rfl⟩
@[go_sem] theorem zFq (S:zA) (k:IntKind) (n:Int):ym S (.int k n)=some (.int k n):=nr rfl
@[go_sem] theorem Qx (S:zA) (b:Bool):ym S (.bool b)=some (.bool b):=nr rfl
@[go_sem] theorem zFr (S:zA) (s:ByteArray):ym S (.str s)=some (.str s):=nr rfl
@[go_sem] theorem xA (S:zA) (r:List (List PV)):ym S (.sl r false)=some (.sl r false):=nr (by cases r <;> rfl)
@[go_sem] theorem zFs (S:zA):ym S (.sl [] true)=some (.sl [] true):=nr rfl
@[go_sem] theorem zFt (S:zA) (a:List PV) (r:List (List PV)):ym S (.sl (a::r) true)=some (.sl (a::r) false):=nr rfl
@[go_sem] theorem zEW (S:zA) (d:Nat) (k:IntKind) (n:Int):yu S (d+1) (.int k n)=some (.int k n):=nr rfl
@[go_sem] theorem US (S:zA) (d:Nat) (b:Bool):yu S (d+1) (.bool b)=some (.bool b):=nr rfl
@[go_sem] theorem zEX (S:zA) (d:Nat) (s:ByteArray):yu S (d+1) (.str s)=some (.str s):=nr rfl
@[go_sem] theorem zFY (S:zA) (d:Nat) (r:List (List PV)) (ex:Bool):yu S (d+1) (.sl r ex)=some (.sl r false):=nr rfl
@[go_sem] theorem zBR {α β:Type} (f:α→Option β):yG f []=some []:=nr rfl
@[go_sem] theorem Qy {α β:Type} (f:α→Option β) (a:α) (r:List α):yG f (a::r)=(f a).bind fun b=>(yG f r).map fun l=>b::l:=nr rfl
theorem jL (S:zA) : ∀d,yq S d []=[]
 | 0=>rfl
 | d+1=>by simp[yq,jL S d]
theorem jy {S:zA} : ∀ {l:List PV},(∀a∈l,zW a)→yG (ym S) l=some l
 | [],_=>rfl
 | a::r,h=>by simp[yG,(h a (by simp)).2 S,jy (S:=S) (l:=r) fun x hx=>h x (by simp[hx])]
theorem jz : ∀ {l:List PV},(∀a∈l,zW a)→l.flatMap PV.refs=[]
 | [],_=>rfl
 | a::r,h=>by simp[HY,(h a (by simp)).1,jz (l:=r) fun x hx=>h x (by simp[hx])]
theorem zE {S:zA} {f:FuncId} {l:List PV} {v:PV} (h:callL Tryz.prog zD f l=some v) (ha : ∀a∈l,zW a):zQ (callL Tryz.prog zD) S f l=some {v} := by
 simp[zQ,jz ha,jL,jy ha,h]
@[go_sem] theorem Qz {α β:Type} (a:α) (f:α→Option β):(some a).bind f=f a:=nr rfl
@[go_sem] theorem zBS {α β:Type} (a:α) (f:α→β):(some a).map f=some (f a):=nr rfl
@[go_sem] theorem zFZ (ti:TI) (S:zA) (r:List PV):zb ti S (.cp r)=part ti r:=nr rfl
@[go_sem] theorem zF0 (ti:TI) (S:zA) (id i off:Nat):zb ti S (.mp id i off)=(zz S id).bind fun rows=>if i<rows.length then part ti ((rows.getD i []).drop off) else none:=nr rfl
@[go_sem] theorem zDm (rows:List (List PV)) (g:Option (Option Nat)) (f:Bool) (S:zA):zz (.arr rows g f::S) 0=some rows:=nr rfl
@[go_sem] theorem zDn (o:Obj) (S:zA) (n:Nat):zz (o::S) (n+1)=zz S n:=nr rfl
attribute [go_sem] pC HC bP HR List.getD_cons_zero pH List.drop_succ_cons bW sC Nat.lt_add_one
@[go_sem] theorem zFu (S:zA) (id k:Nat) (v:PV):yB S id k v=if v.cells.length=k∧v.cells.all PV.cell=true then some {v:=.mp id 0 0,new:=some ([v.cells],none)} else none:=nr rfl
attribute [go_sem] aY List.all_nil BE BF pQ HD pS decide_true decide_false List.take_succ_cons List.take_zero List.take_nil List.drop_nil pD pV List.set_cons_succ ge_iff_le
@[go_sem] theorem zDo (l:List PV):PV.cells (.agg l)=l:=nr rfl
@[go_sem] theorem zDp (k:IntKind) (n:Int):PV.cells (.int k n)=[.int k n]:=nr rfl
@[go_sem] theorem zDB (b:Bool):PV.cells (.bool b)=[.bool b]:=nr rfl
@[go_sem] theorem zDq (b:ByteArray):PV.cells (.str b)=[.str b]:=nr rfl
@[go_sem] theorem zEY (r:List (List PV)) (ex:Bool):PV.cells (.sl r ex)=[.sl r ex]:=nr rfl
@[go_sem] theorem zDr (a b c:Nat) (ex:Bool):PV.cells (.msl a b c ex)=[.msl a b c ex]:=nr rfl
@[go_sem] theorem zEZ (a b c:Nat):PV.cells (.mp a b c)=[.mp a b c]:=nr rfl
@[go_sem] theorem zFv (k:IntKind) (n:Int):PV.cell (.int k n)=true:=nr rfl
@[go_sem] theorem zF1 (b:Bool):PV.cell (.bool b)=true:=nr rfl
@[go_sem] theorem zFw (b:ByteArray):PV.cell (.str b)=true:=nr rfl
@[go_sem] theorem zHB (r:List (List PV)) (ex:Bool):PV.cell (.sl r ex)=true:=nr rfl
@[go_sem] theorem zFx (a b c:Nat) (ex:Bool):PV.cell (.msl a b c ex)=true:=nr rfl
@[go_sem] theorem zHC (a b c:Nat):PV.cell (.mp a b c)=true:=nr rfl
@[go_sem] theorem zE0:PV.refs .undef=[]:=nr rfl
@[go_sem] theorem zF2:PV.refs .skip=[]:=nr rfl
@[go_sem] theorem qf (k:IntKind) (n:Int):PV.refs (.int k n)=[]:=nr rfl
@[go_sem] theorem zAA (b:Bool):PV.refs (.bool b)=[]:=nr rfl
@[go_sem] theorem zBT (b:ByteArray):PV.refs (.str b)=[]:=nr rfl
@[go_sem] theorem zDC (r:List (List PV)) (ex:Bool):PV.refs (.sl r ex)=[]:=nr rfl
@[go_sem] theorem zHD (r:List PV):PV.refs (.cp r)=[]:=nr rfl
@[go_sem] theorem zFy (l:List PV):PV.refs (.agg l)=xa l:=nr rfl
@[go_sem] theorem zFz (l:List PV):PV.refs (.tup l)=xa l:=nr rfl
@[go_sem] theorem zBU (a b c:Nat) (ex:Bool):PV.refs (.msl a b c ex)=[a]:=nr rfl
@[go_sem] theorem zDD (a b c:Nat):PV.refs (.mp a b c)=[a]:=nr rfl
@[go_sem] theorem jM:xa []=[]:=nr rfl
@[go_sem] theorem uv (v:PV) (r:List PV):xa (v::r)=v.refs++xa r:=nr rfl
@[go_sem] theorem vp:zd []=[]:=nr rfl
@[go_sem] theorem yP (v:List PV) (r:List (List PV)):zd (v::r)=xa v++zd r:=nr rfl
def vK (n:Nat):Env→Bool
 | []=>true
 | (_,v)::r=>(v.refs.all fun i=>decide (i<n))&&vK n r
def xE (n:Nat):Nat→zA→Bool
 | 0,_=>true
 | _,[]=>true
 | m+1,.arr rows _ _::r=>((zd rows).all fun i=>decide (i<n))&&xE n m r
 | m+1,.gone::r=>xE n m r
theorem qg (n:Nat) : ∀e:Env,(e.all fun (_,v)=>v.refs.all fun i=>decide (i<n))=vK n e
 | []=>rfl
 | (_,v)::r=>by simp only[aY,vK,qg n r]
theorem uw (n:Nat) : ∀(m:Nat) (S:zA),((S.take m).all fun | .arr rows _ _=>(zd rows).all fun i=>decide (i<n) | .gone=>true)=xE n m S
 | 0,S=>by simp[xE]
 | m+1,[]=>by simp[xE]
 | m+1,.arr rows g f::r=>by simp only[List.take_succ_cons,aY,xE,uw n m r]
 | m+1,.gone::r=>by simp only[List.take_succ_cons,aY,xE,uw n m r,pQ]
@[go_sem] theorem zIJ (n:Nat) (k:Nat) (v:PV) (e:Env) (o:Obj) (S:zA):gc n ((k,v)::e) (o::S)=if vK n ((k,v)::e)=true∧xE n n (o::S)=true then (o::S).take n else o::S:=by
 rw[←qg,←uw];rfl
@[go_sem] theorem zC4 (n:Nat):vK n []=true:=nr rfl
@[go_sem] theorem zBV (n k:Nat) (v:PV) (r:Env):vK n ((k,v)::r)=((v.refs.all fun i=>decide (i<n))&&vK n r):=nr rfl
@[go_sem] theorem zBW (n:Nat) (S:zA):xE n 0 S=true:=nr (by cases S <;> rfl)
@[go_sem] theorem zBX (n m:Nat) (rows:List (List PV)) (g:Option (Option Nat)) (f:Bool) (r:zA):xE n (m+1) (.arr rows g f::r)=(((zd rows).all fun i=>decide (i<n))&&xE n m r):=nr rfl
@[go_sem] theorem zBY (n m:Nat) (r:zA):xE n (m+1) (.gone::r)=xE n m r:=nr rfl
@[go_sem] theorem zF3 (ti:TI) (S:zA) (a v:PV):zk ti S a v=if ti.known=true then (yr ti.size S a v).map fun S => {v:=.skip,S} else none:=nr rfl
@[go_sem] theorem zDE (n:Nat) (rows:List (List PV)) (g:Option (Option Nat)) (S:zA) (i off:Nat) (v:PV):yr n (.arr rows g false::S) (.mp 0 i off) v =
  if i<rows.length∧off+n≤(rows.getD i []).length∧v.cells.length=n∧v.cells.all PV.cell=true then some (.arr (rows.set i (wH (rows.getD i []) off v.cells)) g false::S) else none:=nr rfl
@[go_sem] theorem zDF (n:Nat) (o:Obj) (S:zA) (id i off:Nat) (v:PV):yr n (o::S) (.mp (id+1) i off) v=(yr n S (.mp id i off) v).map fun S=>o::S:=by
 simp only[yr,BB]
 cases h:S[id]? with
 | none=>rfl
 | some q =>
  cases q with
  | gone=>rfl
  | arr rows g f =>
   cases f with
   | true=>rfl
   | false =>
    simp only
    split <;> simp
@[go_sem] theorem zF4 (row:List PV) (off:Nat) (cs:List PV):wH row off cs=if off=0∧cs.length=row.length then cs else row.take off++cs++row.drop (off+cs.length):=nr rfl
@[go_sem] theorem zE1 (e:Env):uH [] e=e:=nr rfl
@[go_sem] theorem zHE:List.length ([]:zA)=0:=nr rfl
attribute [go_sem] bB
@[go_sem] theorem zE2 (n:Nat):zq n []=true:=nr rfl
@[go_sem] theorem zDs (n:Nat) (r:List PV) (l:List (List PV)):zq n (r::l)=(r.length == n&&zq n l):=nr rfl
@[go_sem] theorem zHi:List.range 0=[]:=nr rfl
@[go_sem] theorem zHj:List.range 1=[0]:=nr rfl
@[go_sem] theorem zHk:List.range 2=[0,1]:=nr rfl
@[go_sem] theorem zHl:List.range 3=[0,1,2]:=nr rfl
attribute [go_sem] beq_self_eq_true
theorem Wv {b bytes esz:Nat} {S:zA} {id len:Nat} {rows new:List (List PV)} {g:Option Nat} {ex:Bool} {y:PV} (hS:S[id]? = some (.arr rows (some g) false)) (hy:rowsS S y=some new) (hb:b≤id)
  (hl:len=rows.length) (hg:g=none∨g=some esz) (h1:zq esz rows=true) (h2:zq esz new=true) (h3:(rows.length+new.length)*bytes≤140737488355328) (h4:rows.length+new.length≤9223372036854775807)
  (h5:(zd rows++zd new).contains id=false):vz b bytes esz S (.msl id 0 len ex) y=some {v:=.msl id 0 (rows.length+new.length) false,S:=(S.map (yF [id])).set id (.arr (rows++new) (some (some esz)) false),kill:=[id]} := by
 simp only[vz,hZ hb,vE,hS,hy,bC];rw[hZ ⟨hb,hl,hg,h1,h2,h3,h4,h5⟩]
@[go_sem] theorem zE3 (i:Nat) (e:Env):uH [i] e=e.map fun (t,v)=>(t,xU [i] v):=nr rfl
@[go_sem] theorem zGA (ids:List Nat) (v:PV):xU ids v=if (v.refs.any fun i=>ids.contains i)=true then .undef else v:=nr rfl
@[go_sem] theorem zDt (ids:List Nat) (rows:List (List PV)) (g:Option (Option Nat)) (f:Bool):yF ids (.arr rows g f)=.arr (xG ids rows) g f:=nr rfl
@[go_sem] theorem zDu (ids:List Nat) (rows:List (List PV)):xG ids rows=if ((zd rows).any fun i=>ids.contains i)=true then rows.map fun r=>r.map (xU ids) else rows:=nr rfl
attribute [go_sem] pF aA List.any_cons List.any_nil HJ HI Bool.or_self List.contains_cons List.contains_nil
@[go_sem] theorem zBZ (S:zA) (d:Nat) (a:Nat) (ids:List Nat):yq S (d+1) (a::ids)=(a::ids)++yq S d ((a::ids).flatMap fun id=>match zz S id with | some rows=>zd rows | none=>[]):=nr rfl
@[go_sem] theorem Kw (S:zA) (d:Nat):yq S d []=[]:=nr (jL S d)
attribute [go_sem] HY List.flatMap_nil
@[go_sem] theorem zB0 (S:zA) (i:Nat) (l:List Nat):zH S (i::l)=zH (wV S i) l:=nr rfl
@[go_sem] theorem zDG (rows:List (List PV)) (g:Option (Option Nat)) (f:Bool) (S:zA):wV (.arr rows g f::S) 0=.arr rows g true::S:=nr rfl
@[go_sem] theorem zDH (o:Obj) (S:zA) (i:Nat):wV (o::S) (i+1)=o::wV S i:=nr (by
 simp only[wV,BB]
 split <;> simp_all)
@[go_sem] theorem qA (S:zA) (id off len:Nat) (ex:Bool):rowsIn S (.msl id off len ex)=(zz S id).bind fun rows=>if off+len≤rows.length then some ((rows.drop off).take len) else none:=nr rfl
theorem qh {α β:Type} {f:α→Option β} {g:α→β} : ∀ {l:List α},(∀a∈l,f a=some (g a))→yG f l=some (l.map g)
 | [],_=>rfl
 | a::r,h=>by simp[yG,h a (by simp),qh (l:=r) fun x hx=>h x (by simp[hx])]
@[go_sem] theorem zC5 (S:zA):zH S []=S:=nr rfl
theorem Xz {S:zA} {id:Nat} {rows:List (List PV)} {g:Option (Option Nat)} {f:Bool} (h:S[id]? = some (.arr rows g f)):zz S id=some rows:=by simp only[zz,h]
theorem vt:maxLen≤9223372036854775807:=by decide
theorem xF {i n:Nat} (h:i<n) (hn:n≤maxLen):IntKind.i64.wrap ((i:Int)+1)=((i+1:Nat):Int):=by
 have:=vt;rw[bA];omega
@[go_sem] theorem zGB (a:Int):decide (a=a)=true:=by simp
@[go_sem] theorem zHm (n:Nat) (e:Env):gc n e []=[]:=by unfold gc;split <;> simp
@[go_sem] theorem zF5:exact (.sl [] true)=true:=nr rfl
end
end Go.Vs
