
import Derived.Test.YtkaeejkajfinhaaGreatMI11
set_option linter.unusedVariables false
set_option linter.unusedSimpArgs false
namespace Go.Vs
open Go Go.Proofs
noncomputable section
section
variable {α : Type}
noncomputable def getK : Env → Nat → (PV → α) → α
  | [], _, k => k .undef
  | (s, v) :: r, t, k => match Nat.beq s t with | true => k v | false => getK r t k
noncomputable def putK : Env → Nat → PV → (Env → α) → α
  | [], t, v, k => k [(t, v)]
  | (s, u) :: r, t, v, k => match Nat.beq s t with | true => k ((t, v) :: r) | false => putK r t v fun r' => k ((s, u) :: r')
noncomputable def putDK (e : Env) (d : Option Nat) (v : PV) (k : Env → α) : α := match d with | some t => putK e t v k | none => k e
noncomputable def trimK : List Nat → Env → (Env → α) → α
  | [], e, k => k []
  | t :: r, e, k => getK e t fun v => trimK r e fun l => k ((t, v) :: l)
noncomputable def memN : List Nat → Nat → Bool
  | [], _ => false
  | a :: r, t => match Nat.beq a t with | true => true | false => memN r t
noncomputable def keepK (live : List Nat) : Env → (Env → α) → α
  | [], k => k []
  | (t, v) :: r, k => match memN live t with | true => keepK live r fun l => k ((t, v) :: l) | false => keepK live r fun l => k ((t, .undef) :: l)
noncomputable def constK (c : Value) (k : PV → α) : α := match c with
  | .int i n => k (.int i n)
  | .bool b => k (.bool b)
  | .string s => k (.str s)
  | .slice none 0 0 => k (.sl [] true)
  | v => k (ofConst v)
noncomputable def evK (e : Env) (o : Operand) (k : PV → α) : α := match o with
  | .tmp t => getK e t k
  | .const c => constK c k
  | .global _ => k .undef
  | .func f => k (.fn f [] [])
noncomputable def argsK (e : Env) : List Operand → (List PV → α) → α
  | [], k => k []
  | x :: r, k => evK e x fun v => argsK e r fun l => k (v :: l)
noncomputable def optK (e : Env) (o : Option Operand) (k : Option PV → α) : α := match o with
  | some x => evK e x fun v => k (some v)
  | none => k none
noncomputable def partsK (e : Env) : List (Nat × Operand) → (List (Nat × PV) → α) → α
  | [], k => k []
  | (i, x) :: r, k => evK e x fun v => partsK e r fun l => k ((i, v) :: l)
theorem beq_tt {a b : Nat} (h : Nat.beq a b = true) : a = b := Nat.eq_of_beq_eq_true h
theorem beq_ff {a b : Nat} (h : Nat.beq a b = false) : a ≠ b := Nat.ne_of_beq_eq_false h
theorem getK_eq (t : Nat) (k : PV → α) : ∀ e : Env, getK e t k = k (get e t)
  | [] => rfl
  | (s, v) :: r => by
    simp only [getK, get]
    cases h : Nat.beq s t with
    | true => rw [if_pos (beq_tt h)]
    | false => rw [if_neg (beq_ff h)]; exact getK_eq t k r
theorem putK_eq (t : Nat) (v : PV) : ∀ (e : Env) (k : Env → α), putK e t v k = k (put e t v)
  | [], k => rfl
  | (s, u) :: r, k => by
    simp only [putK, put]
    cases h : Nat.beq s t with
    | true => rw [if_pos (beq_tt h)]
    | false => rw [if_neg (beq_ff h)]; exact putK_eq t v r _
theorem putDK_eq (e : Env) (d : Option Nat) (v : PV) (k : Env → α) : putDK e d v k = k (putD e d v) := by
  cases d with
  | none => rfl
  | some t => exact putK_eq t v e k
theorem trimK_eq : ∀ (l : List Nat) (e : Env) (k : Env → α), trimK l e k = k (trim l e)
  | [], e, k => rfl
  | t :: r, e, k => by simp only [trimK, getK_eq, trimK_eq r]; rfl
theorem memN_eq (t : Nat) : ∀ l : List Nat, memN l t = l.contains t
  | [] => rfl
  | a :: r => by
    simp only [memN, List.contains_cons]
    cases h : Nat.beq a t with
    | true => have := beq_tt h; subst this; simp
    | false =>
      have h2 := beq_ff h
      have h3 : (t == a) = false := by simpa using fun e => h2 e.symm
      rw [h3, Bool.false_or]; exact memN_eq t r
theorem keepK_eq (live : List Nat) : ∀ (e : Env) (k : Env → α), keepK live e k = k (keepOnly live e)
  | [], k => rfl
  | (t, v) :: r, k => by
    simp only [keepK, memN_eq, keepOnly, List.map_cons]
    cases live.contains t with
    | true => exact keepK_eq live r _
    | false => exact keepK_eq live r _
theorem constK_eq (c : Value) (k : PV → α) : constK c k = k (ofConst c) := by
  unfold constK
  split <;> rfl
theorem evK_eq (e : Env) (o : Operand) (k : PV → α) : evK e o k = k (ev e o) := by
  cases o with
  | tmp t => exact getK_eq t k e
  | const c => exact constK_eq c k
  | global _ => rfl
  | func f => rfl
theorem argsK_eq (e : Env) : ∀ (l : List Operand) (k : List PV → α), argsK e l k = k (l.map (ev e))
  | [], k => rfl
  | x :: r, k => by simp only [argsK, evK_eq, argsK_eq e r, List.map_cons]
theorem optK_eq (e : Env) (o : Option Operand) (k : Option PV → α) : optK e o k = k (o.map (ev e)) := by
  cases o with
  | none => rfl
  | some x => simp only [optK, evK_eq, Option.map_some]
theorem partsK_eq (e : Env) : ∀ (l : List (Nat × Operand)) (k : List (Nat × PV) → α), partsK e l k = k (l.map fun p => (p.1, ev e p.2))
  | [], k => rfl
  | (i, x) :: r, k => by simp only [partsK, evK_eq, partsK_eq e r, List.map_cons]
end
section
variable {R : Type}
noncomputable def bindV {A : Type} : Nat → Option A → (A → Option R) → Option R
  | 0, _, _ => none
  | _ + 1, some v, K => K v
  | n + 1, none, K => bindV n none K
theorem bindV_some {A : Type} (v : A) (K : A → Option R) : bindV 1 (some v) K = K v := nr rfl
theorem bindV_none {A : Type} (K : A → Option R) : bindV 1 none K = none := nr rfl
theorem bindV_eq {A : Type} (x : Option A) (K : A → Option R) : bindV 1 x K = x.bind K := by cases x <;> rfl
noncomputable def condB : Nat → Bool → Option R → Option R → Option R
  | 0, _, _, B => B
  | _ + 1, true, A, _ => A
  | n + 1, false, A, B => condB n false A B
theorem condB_true (A B : Option R) : condB 1 true A B = A := nr rfl
theorem condB_false (A B : Option R) : condB 1 false A B = B := nr rfl
noncomputable def killVK (ids : List Nat) (v : PV) (k : PV → Option R) : Option R := match v with
  | .int a b => k (.int a b)
  | .bool b => k (.bool b)
  | .str s => k (.str s)
  | .sl r x => k (.sl r x)
  | .cp r => k (.cp r)
  | .skip => k .skip
  | .undef => k .undef
  | .msl i o l x => condB 1 (memN ids i) (k .undef) (k (.msl i o l x))
  | .mp i o l => condB 1 (memN ids i) (k .undef) (k (.mp i o l))
  | v => k (kill1 ids v)
noncomputable def killK (ids : List Nat) : Env → (Env → Option R) → Option R
  | [], k => k []
  | (t, v) :: r, k => killVK ids v fun v => killK ids r fun l => k ((t, v) :: l)
theorem killVK_eq (ids : List Nat) (v : PV) (k : PV → Option R) : killVK ids v k = k (kill1 ids v) := by
  cases v <;> try rfl
  case msl i o l x =>
    simp only [killVK, memN_eq, kill1, PV.refs, List.any_cons, List.any_nil, Bool.or_false]
    cases ids.contains i <;> rfl
  case mp i o l =>
    simp only [killVK, memN_eq, kill1, PV.refs, List.any_cons, List.any_nil, Bool.or_false]
    cases ids.contains i <;> rfl
theorem killK_map (ids : List Nat) : ∀ (e : Env) (k : Env → Option R), killK ids e k = k (e.map fun (t, v) => (t, kill1 ids v))
  | [], k => rfl
  | (t, v) :: r, k => by simp only [killK, killVK_eq, killK_map ids r, List.map_cons]
theorem killK_eq (ids : List Nat) (e : Env) (k : Env → Option R) : killK ids e k = k (killE ids e) := by
  rw [killK_map]
  cases ids with
  | nil =>
    have h : (e.map fun (t, v) => (t, kill1 [] v)) = e := by
      have : ∀ v, kill1 [] v = v := fun v => by simp [kill1]
      simp [this]
    rw [h]
    rfl
  | cons i r => simp only [killE, reduceCtorEq, if_false]
noncomputable def callM (P : Program) (H : Hints) (S : Store) (f : FuncId) (xs : List PV) : Option Eff :=
  if H.refs f then (callRL P H f xs S).bind fun (v, S') => if S.length ≤ S'.length ∧ closedS S = true ∧ belowL S.length xs = true ∧ Keep0 (H.reads f) S S' then some { v, S := S' } else none
  else (mapO (fzPV S) xs).bind fun args => (callL P H f args).map fun v => { v, S := freezeAll S (reach S 8 (xs.flatMap PV.refs)) }
noncomputable def callMV (P : Program) (H : Hints) (S : Store) (f : PV) (xs : List PV) : Option Eff := match f with
  | .fn f first caps => callM P H S f (first ++ xs ++ caps)
  | _ => none
noncomputable def soon : BinOp → Bool
  | .quo | .rem | .shl | .shr => false
  | _ => true
noncomputable def valK (P : Program) (H : Hints) (h : Hint) (b0 : Nat) (o : Op) (e : Env) (S : Store) (F : Bool → OR → Option R) : Option R := match o with
  | .move x | .assign x => evK e x fun a => F true (.val (some a))
  | .pick c a b => evK e c fun c => evK e a fun a => evK e b fun b => F true (.val (pickO c a b))
  | .build t ps => partsK e ps.toList fun l => F false (.val (buildO (tyi P t) l))
  | .makeFunc (.func f) first caps => argsK e first.toList fun a => argsK e caps.toList fun b => F true (.val (some (.fn f a b)))
  | .extract x i => evK e x fun x => F true (.val (extractO x i))
  | .nilCheck x => evK e x fun x => F true (.val (nilCheckO x))
  | .index t x i => evK e x fun x => evK e i fun i => F false (.val (indexO P t x i))
  | .load t a => evK e a fun a => F false (.val (evLoad (tyi P t) S a))
  | .binOp op t x yo _ => evK e x fun x => evK e yo fun y => (match x, y with | .int k a, .int k' b => F (soon op) (.val (evBin op (tyi P t) (.int k a) (.int k' b))) | a, b => F false (.val (evBinO op (tyi P t) yo a b)))
  | .unOp op _ x => evK e x fun x => F true (.val (evUn op x))
  | .convert s d x => evK e x fun x => F false (.val (convertO P s d S x))
  | .slice t x lo hi mx => evK e x fun x => optK e lo fun lo => optK e hi fun hi => optK e mx fun mx => F false (.val (sliceO P t S x lo hi mx))
  | .fieldAddr t x f => evK e x fun x => F false (.val (evFieldAddr (tyi P t) f x))
  | .field t x f => evK e x fun x => F false (.val (evField (tyi P t) f x))
  | .indexAddr t x i => evK e x fun x => evK e i fun i => F false (.val (indexAddrO P t S x i))
  | .alloc t => F false (.out (allocO (tyi P t) S.length))
  | .box t x => evK e x fun x => F false (.out (boxed S S.length (tyi P t).size x))
  | .buildSlice t len ps => argsK e (ps.toList.map (·.2)) fun l => F false (.out (buildSliceO P t S.length len (ps.toList.map (·.1)) (l.map PV.cells)))
  | .makeSlice t l c => evK e l fun l => evK e c fun c => F false (.out (makeSliceO P t S.length l c))
  | .store t a x => evK e a fun a => evK e x fun x => F false (.sto (storeE (tyi P t) S a x))
  | .call c => (match c.callee with
    | .builtin .len => (match c.argTypes.toList, c.args.toList with | t :: _, x :: _ => evK e x fun x => F false (.val (lenO (tyi P t) x)) | _, _ => F false (evOp (ctxL P H b0 h) o e S))
    | .builtin .max => argsK e c.args.toList fun l => F true (.val (maxO l))
    | .builtin .min => argsK e c.args.toList fun l => F true (.val (minO l))
    | .builtin .append => (match c.argTypes.toList, c.args.toList with
      | t :: u :: _, [x, y] => evK e x fun x => evK e y fun y => F false (.eff (appendE P b0 t u S x y))
      | _, _ => F false (evOp (ctxL P H b0 h) o e S))
    | .builtin .copy => (match c.argTypes.toList, c.args.toList with
      | t :: u :: _, [x, y] => evK e x fun x => evK e y fun y => F false (.sto (copyE P t u S x y))
      | _, _ => F false (evOp (ctxL P H b0 h) o e S))
    | .value (.func f) => (match H.refs f with
      | true => argsK e c.args.toList fun l => F false (.sto (callM P H S f l))
      | false => argsK e c.args.toList fun l => F false (.out (callO (callL P H) S f l)))
    | .value f => evK e f fun f => argsK e c.args.toList fun l => F false (.sto (callMV P H S f l))
    | _ => F false (evOp (ctxL P H b0 h) o e S))
  | o => F false (evOp (ctxL P H b0 h) o e S)
theorem valK_eq (P : Program) (H : Hints) (b0 : Nat) (h : Hint) (o : Op) (e : Env) (S : Store) (F : Bool → OR → Option R) (hF : ∀ a q, F a q = F true q) : valK P H h b0 o e S F = F true (evOp (ctxL P H b0 h) o e S) := by
  have hf : ∀ q, F false q = F true q := fun q => hF false q
  cases o <;> try rfl
  all_goals try exact hf _
  all_goals try (simp only [valK, evK_eq, optK_eq, argsK_eq, partsK_eq, hf]; rfl)
  case binOp op t x y u =>
    simp only [valK, evK_eq, hf]
    have h0 : evOp (ctxL P H b0 h) (.binOp op t x y u) e S = .val (evBinO op (tyi P t) y (ev e x) (ev e y)) := rfl
    rw [h0]
    cases ev e x <;> cases ev e y <;> first | rfl | exact hF _ _
  case makeFunc fn first caps =>
    cases fn <;> first | (simp only [valK, argsK_eq]; rfl) | (simp only [valK, hf])
  case buildSlice t len ps =>
    simp only [valK, argsK_eq, List.map_map, hf]; rfl
  case call c =>
    obtain ⟨ce, xs, ts⟩ := c
    cases ce with
    | invoke r m => simp only [valK, hf]
    | value f =>
      cases f with
      | func f =>
        simp only [valK, argsK_eq, hf]
        have h0 : evOp (ctxL P H b0 h) (.call ⟨.value (.func f), xs, ts⟩) e S = if H.refs f then .sto (callM P H S f ([] ++ xs.toList.map (ev e) ++ [])) else .out (callO (callL P H) S f ([] ++ xs.toList.map (ev e) ++ [])) := rfl
        rw [h0]
        cases H.refs f <;> simp
      | tmp t => simp only [valK, evK_eq, argsK_eq, hf]; rfl
      | const t => simp only [valK, evK_eq, argsK_eq, hf]; rfl
      | global t => simp only [valK, evK_eq, argsK_eq, hf]; rfl
    | builtin b =>
      cases b <;> try (first | rfl | (simp only [valK, hf]; done))
      case len =>
        simp only [valK, evK_eq, hf]
        have h0 : evOp (ctxL P H b0 h) (.call ⟨.builtin .len, xs, ts⟩) e S = (match (match ts[0]?, xs[0]? with | some t, some x => some (lenO (tyi P t) (ev e x)) | _, _ => none) with | some x => OR.val x | none => .out none) := rfl
        rw [h0]
        obtain ⟨ts⟩ := ts
        obtain ⟨xs⟩ := xs
        rcases ts with _ | ⟨t, ts⟩ <;> rcases xs with _ | ⟨x, xs⟩ <;> rfl
      case append =>
        simp only [valK, evK_eq, hf]
        have h0 : evOp (ctxL P H b0 h) (.call ⟨.builtin .append, xs, ts⟩) e S = (match ts[0]?, ts[1]?, xs.toList with
        | some t, some u, [x, y] => OR.eff (appendE P b0 t u S (ev e x) (ev e y))
        | _, _, _ => .out none) := rfl
        rw [h0]
        obtain ⟨ts⟩ := ts
        obtain ⟨l⟩ := xs
        rcases l with _ | ⟨x, _ | ⟨y, _ | ⟨w, l⟩⟩⟩ <;> rcases ts with _ | ⟨t, _ | ⟨u, ts⟩⟩ <;> rfl
      case copy =>
        simp only [valK, evK_eq, hf]
        have h0 : evOp (ctxL P H b0 h) (.call ⟨.builtin .copy, xs, ts⟩) e S = (match ts[0]?, ts[1]?, xs.toList with
        | some t, some u, [x, y] => OR.sto (copyE P t u S (ev e x) (ev e y))
        | _, _, _ => .out none) := rfl
        rw [h0]
        obtain ⟨ts⟩ := ts
        obtain ⟨l⟩ := xs
        rcases l with _ | ⟨x, _ | ⟨y, _ | ⟨w, l⟩⟩⟩ <;> rcases ts with _ | ⟨t, _ | ⟨u, ts⟩⟩ <;> rfl
      case max => simp only [valK, argsK_eq]; rfl
      case min => simp only [valK, argsK_eq]; rfl
noncomputable def orK (q : OR) (e : Env) (S : Store) (d : Option Nat) (K : Env → Store → Option R) : Option R := match q with
  | .val x => bindV 1 x fun v => putDK e d v fun e => K e S
  | .out x => bindV 1 x fun o => putDK e d o.v fun e => K e (place (freezeAll S o.fz) o.new)
  | .eff x => bindV 1 x fun r => killK r.kill e fun e => putDK e d r.v fun e => K e r.S
  | .sto x => bindV 1 x fun r => putDK e d r.v fun e => K e r.S
noncomputable def guardK (g : PV) (want : Bool) (A B : Option R) : Option R := match g with
  | .bool b => (match want with | true => condB 1 b A B | false => condB 1 b B A)
  | .skip => B
  | _ => none
theorem guardK_eq (g : PV) (want : Bool) (A B : Option R) : guardK g want A B = (match g with | .bool b => if b = want then A else B | .skip => B | _ => none) := by
  cases g <;> try rfl
  rename_i b
  cases b <;> cases want <;> rfl
noncomputable def doK (P : Program) (H : Hints) (h : Hint) (b0 : Nat) (o : Oper) (e : Env) (S : Store) (K1 K2 : Env → Store → Option R) : Option R := match o.dst with
  | some d => valK P H h b0 o.op e S fun now q => (match now with | true => orK q e S (some d) K1 | false => orK q e S (some d) K2)
  | none => valK P H h b0 o.op e S fun now q => (match now with | true => orK q e S none K1 | false => orK q e S none K2)
theorem doK_eq (P : Program) (H : Hints) (h : Hint) (b0 : Nat) (o : Oper) (e : Env) (S : Store) (K : Env → Store → Option R) : doK P H h b0 o e S K K = orK (evOp (ctxL P H b0 h) o.op e S) e S o.dst K := by
  unfold doK
  cases o.dst with
  | none =>
    dsimp only
    rw [valK_eq _ _ _ _ _ _ _ _ fun a q => by cases a <;> rfl]
  | some d =>
    dsimp only
    rw [valK_eq _ _ _ _ _ _ _ _ fun a q => by cases a <;> rfl]
noncomputable def opK (P : Program) (H : Hints) (h : Hint) (b0 : Nat) (dsts : Nat → Option Nat) (o : Oper) (e : Env) (S : Store) (K : Env → Store → Option R) : Option R := match o.guard with
  | none => doK P H h b0 o e S K K
  | some (j, want) => (match dsts j with
    | none => putDK e o.dst .skip fun e => K e S
    | some t => getK e t fun g => guardK g want (doK P H h b0 o e S K K) (putDK e o.dst .skip fun e => K e S))
theorem opK_eq (P : Program) (H : Hints) (b0 : Nat) (h : Hint) (ops : Array Oper) (o : Oper) (r : List Oper) (e : Env) (S : Store) (K : Env → Store → Option R) : runC (ctxL P H b0 h) ops (o :: r) e S K = opK P H h b0 (fun j => (ops[j]?).bind (·.dst)) o e S fun e S => runC (ctxL P H b0 h) ops r e S K := by
  simp only [runC, opK, doK_eq, putDK_eq, getK_eq]
  cases o.guard with
  | none =>
    dsimp only
    cases evOp (ctxL P H b0 h) o.op e S with
    | val x => cases x <;> simp only [orK, bindV_eq, withV, putDK_eq, Option.bind_some, Option.bind_none]
    | out x => cases x <;> simp only [orK, bindV_eq, withN, putDK_eq, Option.bind_some, Option.bind_none]
    | eff x => cases x <;> simp only [orK, bindV_eq, withE, putDK_eq, killK_eq, Option.bind_some, Option.bind_none]
    | sto x => cases x <;> simp only [orK, bindV_eq, withS, putDK_eq, Option.bind_some, Option.bind_none]
  | some jw =>
    obtain ⟨j, want⟩ := jw
    dsimp only
    cases (ops[j]?).bind (·.dst) with
    | none => rfl
    | some t =>
      dsimp only
      cases evOp (ctxL P H b0 h) o.op e S with
      | val x => cases get e t <;> simp only [gval, guardK_eq] <;> (try rfl) <;> (split <;> (try rfl)) <;> cases x <;> simp only [orK, bindV_eq, withV, putDK_eq, Option.bind_some, Option.bind_none]
      | out x => cases get e t <;> simp only [gout, guardK_eq] <;> (try rfl) <;> (split <;> (try rfl)) <;> cases x <;> simp only [orK, bindV_eq, withN, putDK_eq, Option.bind_some, Option.bind_none]
      | eff x => cases get e t <;> simp only [geff, guardK_eq] <;> (try rfl) <;> (split <;> (try rfl)) <;> cases x <;> simp only [orK, bindV_eq, withE, putDK_eq, killK_eq, Option.bind_some, Option.bind_none]
      | sto x => cases get e t <;> simp only [geff, guardK_eq] <;> (try rfl) <;> (split <;> (try rfl)) <;> cases x <;> simp only [orK, bindV_eq, withS, putDK_eq, Option.bind_some, Option.bind_none]
end
noncomputable def kid : Code → Nat → Code
  | .seq a b, i => (match i with | 0 => a | _ => b)
  | .cond _ a b, i => (match i with | 0 => a | _ => b)
  | .block _ a, _ => a
  | .loop a, _ => a
  | _, _ => .skip
noncomputable def subN : Nat → Code → Nat → Code
  | 0, c, _ => c
  | n + 1, c, p => match Nat.ble p 1 with | true => c | false => kid (subN n c (p / 2)) (p % 2)
noncomputable def sub (c : Code) (p : Nat) : Code := subN 200 c p
noncomputable def far : Nat := 2 ^ 199
theorem subN_more : ∀ (n : Nat) (c : Code) (p : Nat), p < 2 ^ n → subN (n + 1) c p = subN n c p
  | 0, c, p, h => by
    have : Nat.ble p 1 = true := by rw [Nat.ble_eq]; omega
    simp only [subN, this]
  | n + 1, c, p, h => by
    have h2 : p / 2 < 2 ^ n := by rw [Nat.pow_succ] at h; omega
    rw [subN, subN_more n c _ h2]; rfl
theorem sub_kid (c : Code) (p i : Nat) (hp : 1 ≤ p) (hf : p < 2 ^ 199) (hi : i < 2) : sub c (2 * p + i) = kid (sub c p) i := by
  have h : Nat.ble (2 * p + i) 1 = false := by
    cases hb : Nat.ble (2 * p + i) 1 with
    | false => rfl
    | true => rw [Nat.ble_eq] at hb; omega
  have e : sub c p = subN 199 c p := subN_more 199 c p hf
  rw [e]
  show subN (199 + 1) c (2 * p + i) = _
  rw [subN, h]
  have e1 : (2 * p + i) / 2 = p := by omega
  have e2 : (2 * p + i) % 2 = i := by omega
  simp only [e1, e2]
inductive Md where
  | at (b p : Nat) | ops (b p j : Nat) | opy (b p j : Nat) | opn (b p j : Nat) | nor | exi (i : Nat)
inductive Fr where
  | seq (b p : Nat) | blk (i : Nat) | lop (b p n : Nat)
structure FX where
  fn : Func
  h : Hint
  dyn : List Nat := []
noncomputable def FX.C (F : FX) (b0 : Nat) : Ctx := ctxL Tryz.prog hints b0 F.h
noncomputable def FX.root (F : FX) : Code := match F.fn.body with | some c => c | none => .skip
abbrev RS1 := Option (PV × Store)
abbrev KS := Vs.X → Env → Store → RS1
noncomputable def FX.lh (F : FX) (b : Nat) : LoopHint := match F.h.loops.lookup b with | some h => h | none => { live := [], after := [] }
noncomputable def cont (b0 : Nat) (F : FX) : List Fr → KS
  | [] => endC Tryz.prog F.fn
  | .seq b p :: r => seqC (fun e S => execL (F.C b0) b (sub F.root p) (cont b0 F r) e S) (cont b0 F r)
  | .blk i :: r => blockC i (cont b0 F r)
  | .lop b p n :: r => stepC (normG (F.lh b).live (F.lh b).fz n) (afterC b n (F.lh b).after (cont b0 F r)) (fun e S => loopL (fun K e S => execL (F.C b0) b (sub F.root p) K e S) (normG (F.lh b).live (F.lh b).fz n) (afterC b n (F.lh b).after (cont b0 F r)) e S)
noncomputable def semR (b0 : Nat) (F : FX) (m : Md) (fs : List Fr) (e : Env) (S : Store) : RS1 := match m with
  | .at b p => execL (F.C b0) b (sub F.root p) (cont b0 F fs) e S
  | .ops b p j => (match sub F.root p with
    | .region id ops _ => runC (F.C b0) ops (ops.toList.drop j) e S fun e S => cont b0 F fs .normal (trim (F.h.at id) e) S
    | _ => none)
  | .opy b p j => (match sub F.root p with
    | .region id ops _ => (match ops.toList.drop j with
      | [] => none
      | o :: _ => orK (evOp (F.C b0) o.op e S) e S o.dst fun e S => runC (F.C b0) ops (ops.toList.drop (j + 1)) e S fun e S => cont b0 F fs .normal (trim (F.h.at id) e) S)
    | _ => none)
  | .opn b p j => (match sub F.root p with
    | .region id ops _ => (match ops.toList.drop j with
      | [] => none
      | o :: _ => runC (F.C b0) ops (ops.toList.drop (j + 1)) (putD e o.dst .skip) S fun e S => cont b0 F fs .normal (trim (F.h.at id) e) S)
    | _ => none)
  | .nor => cont b0 F fs .normal e S
  | .exi i => cont b0 F fs (.exit i) e S
noncomputable def loopR (b0 : Nat) (F : FX) (b p n : Nat) (fs : List Fr) (e : Env) (S : Store) : RS1 :=
  loopL (fun K e S => execL (F.C b0) b (sub F.root p) K e S) (normG (F.lh b).live (F.lh b).fz n) (afterC b n (F.lh b).after (cont b0 F fs)) e S
theorem sem_ex : ∃ f : Nat → FX → Md → List Fr → Env → Store → RS1, f = semR := ⟨_, rfl⟩
theorem loop_ex : ∃ f : Nat → FX → Nat → Nat → Nat → List Fr → Env → Store → RS1, f = loopR := ⟨_, rfl⟩
theorem exit_ex : ∃ f : Nat → FX → Nat → List Fr → Env → Store → RS1, f = fun b0 F i fs e S => semR b0 F (.exi i) fs e S := ⟨_, rfl⟩
noncomputable def sem : Nat → FX → Md → List Fr → Env → Store → RS1 := Classical.choose sem_ex
noncomputable def loopAt : Nat → FX → Nat → Nat → Nat → List Fr → Env → Store → RS1 := Classical.choose loop_ex
noncomputable def exitTo : Nat → FX → Nat → List Fr → Env → Store → RS1 := Classical.choose exit_ex
theorem sem_eq (b0 : Nat) (F : FX) (m : Md) (fs : List Fr) (e : Env) (S : Store) : sem b0 F m fs e S = semR b0 F m fs e S := by rw [sem, Classical.choose_spec sem_ex]
theorem loopAt_eq (b0 : Nat) (F : FX) (b p n : Nat) (fs : List Fr) (e : Env) (S : Store) : loopAt b0 F b p n fs e S = loopR b0 F b p n fs e S := by rw [loopAt, Classical.choose_spec loop_ex]
theorem exitTo_eq (b0 : Nat) (F : FX) (i : Nat) (fs : List Fr) (e : Env) (S : Store) : exitTo b0 F i fs e S = semR b0 F (.exi i) fs e S := by rw [exitTo, Classical.choose_spec exit_ex]
section
variable {R : Type}
noncomputable def ownK : List Nat → Env → Store → (Env → Store → Option R) → Option R
  | [], e, S, k => k e S
  | t :: r, e, S, k => match Nat.blt t 1000 with
    | true => getK e t fun x => (match x with
      | .sl [] true => putK e t (.msl S.length 0 0 false) fun e => ownK r e (S ++ [.arr [] (some none) false]) k
      | .msl id off len true => putK e t (.msl id off len false) fun e => ownK r e S k
      | _ => ownK r e S k)
    | false => getK e (t % 1000) fun x => ownK r e (ownMem S x (t / 1000 - 1)) k
noncomputable def fzK : List Nat → Env → Store → (Env → Store → Option R) → Option R
  | [], e, S, k => k e S
  | t :: r, e, S, k => getK e t fun x => match fzPV S x with
    | some v => putK e t v fun e => fzK r e (freezeAll S (reach S 8 x.refs)) k
    | none => none
theorem ownK_eq : ∀ (l : List Nat) (e : Env) (S : Store) (k : Env → Store → Option R), ownK l e S k = k (ownAll l e S).1 (ownAll l e S).2
  | [], e, S, k => rfl
  | t :: r, e, S, k => by
    have e1 : ownAll (t :: r) e S = ownAll r (own1 e S t).1 (own1 e S t).2 := rfl
    rw [e1]
    simp only [ownK, getK_eq, own1]
    cases hb : Nat.blt t 1000 with
    | true =>
      have ht : t < 1000 := Eq.mp Nat.blt_eq hb
      rw [if_pos ht]
      dsimp only
      generalize hx : get e t = x
      split
      · simp only [putK_eq, ownK_eq r]
      · simp only [putK_eq, ownK_eq r]
      · rename_i h1 h2
        split
        · exact (h1 rfl).elim
        · exact (h2 _ _ _ rfl).elim
        · exact ownK_eq r _ _ _
    | false =>
      have ht : ¬ t < 1000 := fun h => by rw [Eq.mpr Nat.blt_eq h] at hb; cases hb
      rw [if_neg ht]
      exact ownK_eq r _ _ _
theorem fzK_eq : ∀ (l : List Nat) (e : Env) (S : Store) (k : Env → Store → Option R), fzK l e S k = (fzSlots l e S).bind fun r => k r.1 r.2
  | [], e, S, k => rfl
  | t :: r, e, S, k => by
    simp only [fzK, getK_eq, fzSlots, fzSlot]
    cases fzPV S (get e t) with
    | none => rfl
    | some v => simp only [putK_eq, fzK_eq r, Option.map_some, Option.bind_some]
end
noncomputable def retK (P : Program) (e : Env) (S : Store) : List ResultVar → (List PV → RS1) → RS1
  | [], k => k []
  | .tmp t :: r, k => getK e t fun v => retK P e S r fun l => k (v :: l)
  | .cell a t :: r, k => getK e a fun a => bindV 1 (evLoad (tyi P t) S a) fun v => retK P e S r fun l => k (v :: l)
noncomputable def endK (F : FX) (e : Env) (S : Store) : RS1 := retK Tryz.prog e S F.fn.results.toList fun vs => match vs with | [v] => some (v, S) | vs => some (.tup vs, S)
theorem retK_eq (P : Program) (e : Env) (S : Store) : ∀ (rs : List ResultVar) (k : List PV → RS1), retK P e S rs k = (mapO (evResult P e S) rs).bind k
  | [], k => rfl
  | .tmp t :: r, k => by
    simp only [retK, getK_eq, retK_eq P e S r, mapO, evResult, Option.bind_some]
    cases mapO (evResult P e S) r <;> rfl
  | .cell a t :: r, k => by
    simp only [retK, getK_eq, mapO, evResult, bindV_eq]
    cases evLoad (tyi P t) S (get e a) with
    | none => rfl
    | some v =>
      simp only [Option.bind_some, retK_eq P e S r]
      cases mapO (evResult P e S) r <;> rfl
theorem endK_eq (F : FX) (e : Env) (S : Store) : endK F e S = (evResults Tryz.prog F.fn e S).map fun v => (v, S) := by
  unfold endK evResults
  rw [retK_eq]
  cases mapO (evResult Tryz.prog e S) F.fn.results.toList with
  | none => rfl
  | some vs =>
    simp only [Option.bind_some, Option.map_some]
    rcases vs with _ | ⟨v, _ | ⟨w, vs⟩⟩ <;> rfl
noncomputable def condK (v : PV) (A B : RS1) : RS1 := match v with
  | .bool t => condB 1 t A B
  | _ => none
theorem condK_eq (v : PV) (A B : RS1) : condK v A B = condC v A B := by
  cases v <;> try rfl
  rename_i b
  cases b <;> rfl
noncomputable def dynR (b0 : Nat) (F : FX) (p : Nat) (e : Env) (S : Store) : Bool := match sub F.root p with
  | .region _ ops _ => drawOK ops (kindS hints ops) || drawOK ops (fun j => (kindsOf (F.C b0) ops ops.toList e S).getD j 0)
  | _ => false
theorem dyn_ex : ∃ f : Nat → FX → Nat → Env → Store → Bool, f = dynR := ⟨_, rfl⟩
noncomputable def dynB : Nat → FX → Nat → Env → Store → Bool := Classical.choose dyn_ex
theorem dynB_eq (b0 : Nat) (F : FX) (p : Nat) (e : Env) (S : Store) : dynB b0 F p e S = dynR b0 F p e S := by rw [dynB, Classical.choose_spec dyn_ex]
noncomputable def runStep (b0 : Nat) (F : FX) (_ : Nat) (ih : Md → List Fr → Env → Store → RS1) (m : Md) (fs : List Fr) (e : Env) (S : Store) : RS1 := match m with
    | .at b p => (match Nat.ble 1 p && Nat.blt p far with
      | false => sem b0 F (.at b p) fs e S
      | true => (match sub F.root p with
        | .skip => ih .nor fs e S
        | .seq _ _ => ih (.at b (2 * p)) (.seq b (2 * p + 1) :: fs) e S
        | .cond c _ _ => evK e c fun v => condK v (sem b0 F (.at b (2 * p)) fs e S) (sem b0 F (.at b (2 * p + 1)) fs e S)
        | .block i _ => ih (.at i (2 * p)) (.blk i :: fs) e S
        | .exit i => ih (.exi i) fs e S
        | .ret => endK F e S
        | .region id ops d => (match d && memN F.dyn id with
          | true => (match dynB b0 F p e S with | true => ih (.ops b p 0) fs e S | false => none)
          | false => ih (.ops b p 0) fs e S)
        | .loop _ => (match F.h.loops.lookup b with
          | none => none
          | some h => keepK h.live e fun e => ownK h.own e S fun e S => fzK h.fz e S fun e S => loopAt b0 F b (2 * p) S.length fs e S)
        | _ => none))
    | .ops b p j => (match sub F.root p with
      | .region id ops _ => (match ops.toList.drop j with
        | [] => trimK (F.h.at id) e fun e => ih .nor fs e S
        | o :: _ => (match o.guard with
          | none => doK Tryz.prog hints F.h b0 o e S (fun e S => ih (.ops b p (j + 1)) fs e S) (fun e S => sem b0 F (.ops b p (j + 1)) fs e S)
          | some (i, want) => (match (ops[i]?).bind (·.dst) with
            | none => putDK e o.dst .skip fun e => ih (.ops b p (j + 1)) fs e S
            | some t => getK e t fun g => (match g with
              | .bool g => (match want with
                | true => condB 1 g (sem b0 F (.opy b p j) fs e S) (sem b0 F (.opn b p j) fs e S)
                | false => condB 1 g (sem b0 F (.opn b p j) fs e S) (sem b0 F (.opy b p j) fs e S))
              | .skip => putDK e o.dst .skip fun e => ih (.ops b p (j + 1)) fs e S
              | _ => none))))
      | _ => none)
    | .opy b p j => (match sub F.root p with
      | .region id ops _ => (match ops.toList.drop j with
        | [] => none
        | o :: _ => doK Tryz.prog hints F.h b0 o e S (fun e S => ih (.ops b p (j + 1)) fs e S) (fun e S => sem b0 F (.ops b p (j + 1)) fs e S))
      | _ => none)
    | .opn b p j => (match sub F.root p with
      | .region id ops _ => (match ops.toList.drop j with
        | [] => none
        | o :: _ => putDK e o.dst .skip fun e => ih (.ops b p (j + 1)) fs e S)
      | _ => none)
    | .nor => (match fs with
      | [] => endK F e S
      | .seq b p :: r => ih (.at b p) r e S
      | .blk _ :: r => ih .nor r e S
      | .lop b p k :: r => keepK (F.lh b).live e fun e => fzK (F.lh b).fz e S fun e S => loopAt b0 F b p k r e (gc k e S))
    | .exi i => (match fs with
      | [] => none
      | .seq _ _ :: r => ih (.exi i) r e S
      | .blk j :: r => (match Nat.beq i j with | true => ih .nor r e S | false => ih (.exi i) r e S)
      | .lop b _ k :: r => (match Nat.beq i b with | true => keepK (F.lh b).after e fun e => exitTo b0 F i r e (gc k e S) | false => ih (.exi i) r e S))
noncomputable def run (b0 : Nat) (F : FX) : Nat → Md → List Fr → Env → Store → RS1
  | 0, m, fs, e, S => sem b0 F m fs e S
  | n + 1, m, fs, e, S => runStep b0 F n (run b0 F n) m fs e S
theorem run_succ (b0 : Nat) (F : FX) (n : Nat) (m : Md) (fs : List Fr) (e : Env) (S : Store) : run b0 F (n + 1) m fs e S = runStep b0 F n (run b0 F n) m fs e S := rfl
noncomputable def FX.good (F : FX) : Bool := goodC hints F.dyn F.root
where goodC (H : Hints) (dyn : List Nat) : Code → Bool
  | .region id ops d => if d = true then memN dyn id || drawOK ops (kindS H ops) else true
  | .seq a b => goodC H dyn a && goodC H dyn b
  | .cond _ a b => goodC H dyn a && goodC H dyn b
  | .block _ a => goodC H dyn a
  | .loop a => goodC H dyn a
  | _ => true
theorem goodC_kid (H : Hints) (dyn : List Nat) (c : Code) (i : Nat) (h : FX.good.goodC H dyn c = true) : FX.good.goodC H dyn (kid c i) = true := by
  cases c <;> simp only [FX.good.goodC, kid, Bool.and_eq_true] at h ⊢ <;> (try exact h)
  · cases i <;> simp_all
  · cases i <;> simp_all
theorem goodC_sub (H : Hints) (dyn : List Nat) : ∀ (n : Nat) (c : Code) (p : Nat), FX.good.goodC H dyn c = true → FX.good.goodC H dyn (subN n c p) = true
  | 0, c, p, h => h
  | n + 1, c, p, h => by
    rw [subN]
    cases Nat.ble p 1 with
    | true => exact h
    | false => exact goodC_kid H dyn _ _ (goodC_sub H dyn n c _ h)
theorem cont_ret (b0 : Nat) (F : FX) (e : Env) (S : Store) : ∀ fs, cont b0 F fs .ret e S = (evResults Tryz.prog F.fn e S).map fun v => (v, S)
  | [] => rfl
  | .seq b p :: r => cont_ret b0 F e S r
  | .blk i :: r => cont_ret b0 F e S r
  | .lop b p n :: r => cont_ret b0 F e S r
theorem run_sem (b0 : Nat) (F : FX) (hg : F.good = true) : ∀ (n : Nat) (m : Md) (fs : List Fr) (e : Env) (S : Store), run b0 F n m fs e S = semR b0 F m fs e S
  | 0, m, fs, e, S => sem_eq b0 F m fs e S
  | n + 1, .at b p, fs, e, S => by
    have ih := run_sem b0 F hg n
    rw [run_succ]
    unfold runStep
    try simp only [sem_eq, loopAt_eq, exitTo_eq]
    try dsimp only
    cases hb : (Nat.ble 1 p && Nat.blt p far) with
    | false => rfl
    | true =>
      rw [Bool.and_eq_true] at hb
      have hp : 1 ≤ p := Nat.le_of_ble_eq_true hb.1
      have hf : p < 2 ^ 199 := Eq.mp Nat.blt_eq hb.2
      have k0 := sub_kid F.root p 0 hp hf (by omega)
      have k1 := sub_kid F.root p 1 hp hf (by omega)
      rw [Nat.add_zero] at k0
      have hq : FX.good.goodC hints F.dyn (sub F.root p) = true := goodC_sub hints F.dyn 200 F.root p hg
      dsimp only
      show _ = execL (F.C b0) b (sub F.root p) (cont b0 F fs) e S
      cases hc : sub F.root p with
      | skip => dsimp only; rw [ih]; rfl
      | region id ops d =>
        dsimp only
        rw [hc] at hq
        have e1 : run b0 F n (.ops b p 0) fs e S = runC (F.C b0) ops ops.toList e S fun e S => cont b0 F fs .normal (trim (F.h.at id) e) S := by
          rw [ih]
          show (match sub F.root p with
            | .region id ops _ => runC (F.C b0) ops (ops.toList.drop 0) e S fun e S => cont b0 F fs .normal (trim (F.h.at id) e) S
            | _ => none) = _
          rw [hc]
          rfl
        rw [e1]
        cases d with
        | false => rfl
        | true =>
          simp only [FX.good.goodC, if_true] at hq
          have e2 : execL (F.C b0) b (.region id ops true) (cont b0 F fs) e S = if (drawOK ops (kindS hints ops) || drawOK ops (fun j => (kindsOf (F.C b0) ops ops.toList e S).getD j 0)) = true then runC (F.C b0) ops ops.toList e S (fun e S => cont b0 F fs .normal (trim (F.h.at id) e) S) else none := rfl
          rw [e2, Bool.true_and]
          cases hd : memN F.dyn id with
          | true =>
            dsimp only
            have e3 : dynB b0 F p e S = (drawOK ops (kindS hints ops) || drawOK ops (fun j => (kindsOf (F.C b0) ops ops.toList e S).getD j 0)) := by
              rw [dynB_eq, dynR, hc]
            rw [e3]
            cases drawOK ops (kindS hints ops) || drawOK ops (fun j => (kindsOf (F.C b0) ops ops.toList e S).getD j 0) <;> rfl
          | false =>
            rw [hd, Bool.false_or] at hq
            rw [hq, Bool.true_or, if_pos rfl]
      | seq x y =>
        rw [hc] at k0 k1
        dsimp only
        rw [ih]
        show execL (F.C b0) b (sub F.root (2 * p)) (seqC (fun e S => execL (F.C b0) b (sub F.root (2 * p + 1)) (cont b0 F fs) e S) (cont b0 F fs)) e S = _
        rw [k0, k1]
        rfl
      | cond c x y =>
        rw [hc] at k0 k1
        dsimp only
        rw [evK_eq]
        show condK (ev e c) (execL (F.C b0) b (sub F.root (2 * p)) (cont b0 F fs) e S) (execL (F.C b0) b (sub F.root (2 * p + 1)) (cont b0 F fs) e S) = _
        rw [k0, k1]
        exact condK_eq _ _ _
      | block i x =>
        rw [hc] at k0
        dsimp only
        rw [ih]
        show execL (F.C b0) i (sub F.root (2 * p)) (blockC i (cont b0 F fs)) e S = _
        rw [k0]
        rfl
      | loop x =>
        rw [hc] at k0
        dsimp only
        have e1 : execL (F.C b0) b (.loop x) (cont b0 F fs) e S = (F.h.loops.lookup b).bind fun h => (fzSlots h.fz (ownAll h.own (keepOnly h.live e) S).1 (ownAll h.own (keepOnly h.live e) S).2).bind fun r => loopL (fun K e S => execL (F.C b0) b x K e S) (normG h.live h.fz r.2.length) (afterC b r.2.length h.after (cont b0 F fs)) r.1 r.2 := rfl
        rw [e1]
        cases hl : F.h.loops.lookup b with
        | none => rfl
        | some h =>
          dsimp only
          have e2 : F.lh b = h := by unfold FX.lh; rw [hl]
          simp only [keepK_eq, ownK_eq, fzK_eq, Option.bind_some, loopR, e2, k0]
          rfl
      | exit i => dsimp only; rw [ih]; rfl
      | ret => dsimp only; rw [endK_eq, ← cont_ret b0 F e S fs]; rfl
      | _ => rfl
  | n + 1, .ops b p j, fs, e, S => by
    have ih := run_sem b0 F hg n
    rw [run_succ]
    unfold runStep
    try simp only [sem_eq, loopAt_eq, exitTo_eq]
    show _ = (match sub F.root p with
      | .region id ops _ => runC (F.C b0) ops (ops.toList.drop j) e S fun e S => cont b0 F fs .normal (trim (F.h.at id) e) S
      | _ => none)
    try dsimp only
    generalize hc : sub F.root p = c
    cases c with
    | region id ops d =>
      dsimp only
      cases hd : ops.toList.drop j with
      | nil => simp only [trimK_eq, ih]; rfl
      | cons o l =>
        have e1 : ops.toList.drop (j + 1) = l := by rw [← List.tail_drop, hd]; rfl
        have e2 : ∀ e S, semR b0 F (.ops b p (j + 1)) fs e S = runC (F.C b0) ops l e S fun e S => cont b0 F fs .normal (trim (F.h.at id) e) S := fun e S => by
          show (match sub F.root p with
            | .region id ops _ => runC (F.C b0) ops (ops.toList.drop (j + 1)) e S fun e S => cont b0 F fs .normal (trim (F.h.at id) e) S
            | _ => none) = _
          rw [hc]
          dsimp only
          rw [e1]
        have e4 : ∀ e S, semR b0 F (.opy b p j) fs e S = orK (evOp (F.C b0) o.op e S) e S o.dst fun e S => runC (F.C b0) ops l e S fun e S => cont b0 F fs .normal (trim (F.h.at id) e) S := fun e S => by
          show (match sub F.root p with
            | .region id ops _ => (match ops.toList.drop j with
              | [] => none
              | o :: _ => orK (evOp (F.C b0) o.op e S) e S o.dst fun e S => runC (F.C b0) ops (ops.toList.drop (j + 1)) e S fun e S => cont b0 F fs .normal (trim (F.h.at id) e) S)
            | _ => none) = _
          rw [hc]
          dsimp only
          rw [hd]
          dsimp only
          rw [e1]
        have e5 : ∀ e S, semR b0 F (.opn b p j) fs e S = runC (F.C b0) ops l (putD e o.dst .skip) S fun e S => cont b0 F fs .normal (trim (F.h.at id) e) S := fun e S => by
          show (match sub F.root p with
            | .region id ops _ => (match ops.toList.drop j with
              | [] => none
              | o :: _ => runC (F.C b0) ops (ops.toList.drop (j + 1)) (putD e o.dst .skip) S fun e S => cont b0 F fs .normal (trim (F.h.at id) e) S)
            | _ => none) = _
          rw [hc]
          dsimp only
          rw [hd]
          dsimp only
          rw [e1]
        have e3 := opK_eq (R := PV × Store) Tryz.prog hints b0 F.h ops o l e S fun e S => cont b0 F fs .normal (trim (F.h.at id) e) S
        refine Eq.trans ?_ e3.symm
        simp only [ih, e2, e4, e5, opK, putDK_eq, getK_eq, doK_eq]
        cases o.guard with
        | none => rfl
        | some jw =>
          obtain ⟨i, want⟩ := jw
          dsimp only
          cases (ops[i]?).bind (·.dst) with
          | none => rfl
          | some t =>
            dsimp only
            cases get e t <;> first | rfl | (cases want <;> rfl)
    | _ => rfl
  | n + 1, .opy b p j, fs, e, S => by
    have ih := run_sem b0 F hg n
    rw [run_succ]
    unfold runStep
    try simp only [sem_eq, loopAt_eq, exitTo_eq]
    show _ = (match sub F.root p with
      | .region id ops _ => (match ops.toList.drop j with
        | [] => none
        | o :: _ => orK (evOp (F.C b0) o.op e S) e S o.dst fun e S => runC (F.C b0) ops (ops.toList.drop (j + 1)) e S fun e S => cont b0 F fs .normal (trim (F.h.at id) e) S)
      | _ => none)
    try dsimp only
    generalize hc : sub F.root p = c
    cases c with
    | region id ops d =>
      dsimp only
      cases hd : ops.toList.drop j with
      | nil => rfl
      | cons o l =>
        have e2 : ∀ e S, semR b0 F (.ops b p (j + 1)) fs e S = runC (F.C b0) ops (ops.toList.drop (j + 1)) e S fun e S => cont b0 F fs .normal (trim (F.h.at id) e) S := fun e S => by
          show (match sub F.root p with
            | .region id ops _ => runC (F.C b0) ops (ops.toList.drop (j + 1)) e S fun e S => cont b0 F fs .normal (trim (F.h.at id) e) S
            | _ => none) = _
          rw [hc]
        simp only [ih, e2, doK_eq]
        rfl
    | _ => rfl
  | n + 1, .opn b p j, fs, e, S => by
    have ih := run_sem b0 F hg n
    rw [run_succ]
    unfold runStep
    try simp only [sem_eq, loopAt_eq, exitTo_eq]
    show _ = (match sub F.root p with
      | .region id ops _ => (match ops.toList.drop j with
        | [] => none
        | o :: _ => runC (F.C b0) ops (ops.toList.drop (j + 1)) (putD e o.dst .skip) S fun e S => cont b0 F fs .normal (trim (F.h.at id) e) S)
      | _ => none)
    try dsimp only
    generalize hc : sub F.root p = c
    cases c with
    | region id ops d =>
      dsimp only
      cases hd : ops.toList.drop j with
      | nil => rfl
      | cons o l =>
        have e2 : ∀ e S, semR b0 F (.ops b p (j + 1)) fs e S = runC (F.C b0) ops (ops.toList.drop (j + 1)) e S fun e S => cont b0 F fs .normal (trim (F.h.at id) e) S := fun e S => by
          show (match sub F.root p with
            | .region id ops _ => runC (F.C b0) ops (ops.toList.drop (j + 1)) e S fun e S => cont b0 F fs .normal (trim (F.h.at id) e) S
            | _ => none) = _
          rw [hc]
        simp only [ih, e2, putDK_eq]
    | _ => rfl
  | n + 1, .nor, fs, e, S => by
    have ih := run_sem b0 F hg n
    rw [run_succ]
    unfold runStep
    try simp only [sem_eq, loopAt_eq, exitTo_eq]
    try dsimp only
    show _ = cont b0 F fs .normal e S
    cases fs with
    | nil => exact endK_eq F e S
    | cons f r =>
      cases f with
      | seq b p => dsimp only; rw [ih]; rfl
      | blk i => dsimp only; rw [ih]; rfl
      | lop b p k =>
        dsimp only
        simp only [keepK_eq, fzK_eq]
        show _ = (normG (F.lh b).live (F.lh b).fz k e S).bind fun q => loopL (fun K e S => execL (F.C b0) b (sub F.root p) K e S) (normG (F.lh b).live (F.lh b).fz k) (afterC b k (F.lh b).after (cont b0 F r)) q.1 q.2
        unfold normG
        cases fzSlots (F.lh b).fz (keepOnly (F.lh b).live e) S <;> rfl
  | n + 1, .exi i, fs, e, S => by
    have ih := run_sem b0 F hg n
    rw [run_succ]
    unfold runStep
    try simp only [sem_eq, loopAt_eq, exitTo_eq]
    try dsimp only
    show _ = cont b0 F fs (.exit i) e S
    cases fs with
    | nil => rfl
    | cons f r =>
      cases f with
      | seq b p => dsimp only; rw [ih]; rfl
      | blk j =>
        dsimp only
        show _ = if i = j then cont b0 F r .normal e S else cont b0 F r (.exit i) e S
        cases hb : Nat.beq i j with
        | true => rw [if_pos (beq_tt hb)]; exact ih _ _ _ _
        | false => rw [if_neg (beq_ff hb)]; exact ih _ _ _ _
      | lop b p k =>
        dsimp only
        show _ = if i = b then cont b0 F r (.exit i) (keepOnly (F.lh b).after e) (gc k (keepOnly (F.lh b).after e) S) else cont b0 F r (.exit i) e S
        cases hb : Nat.beq i b with
        | true => rw [if_pos (beq_tt hb)]; simp only [keepK_eq]; rfl
        | false => rw [if_neg (beq_ff hb)]; exact ih _ _ _ _
section
variable {R : Type}
@[congr] theorem condB_congr {t t' : Bool} {A B : Option R} (h : t = t') : condB 1 t A B = condB 1 t' A B := by rw [h]
@[congr] theorem bindV_congr {A : Type} {x x' : Option A} {K : A → Option R} (h : x = x') : bindV 1 x K = bindV 1 x' K := by rw [h]
end
attribute [go_sem] condB_true condB_false bindV_some bindV_none
theorem loopAt_step {b0 : Nat} {F : FX} (hg : F.good = true) (n : Nat) {b p k : Nat} {fs : List Fr} {e : Env} {S : Store} {z : PV × Store}
    (h : run b0 F n (.at b p) (.lop b p k :: fs) e S = some z) : loopAt b0 F b p k fs e S = some z := by
  rw [run_sem b0 F hg] at h
  rw [loopAt_eq]
  exact loopL_step h
structure FX.ok (F : FX) (f : FuncId) : Prop where
  at_ : Tryz.prog.funcs[f]? = some F.fn
  name : F.fn.name ≠ "runtime.NumGoroutine"
  hint : hints.of f = F.h
  code : (match F.fn.body with | some c => codeOK F.fn.ntmps c | none => false) = true
  good : F.good = true
  orc : hints.orc f = none
theorem FX.callRL {F : FX} {f : FuncId} (ok : F.ok f) (n : Nat) {args : List PV} (ha : Nat.ble args.length F.fn.ntmps = true) {S : Store} {e : Env} (he : (List.range args.length).zip args = e) {r : PV × Store}
    (h : run S.length F n (.at 0 1) [] e S = some r) : callRL Tryz.prog hints f args S = some r := by
  have hc := ok.code
  split at hc
  · rename_i c hb
    rw [run_sem _ F ok.good] at h
    subst he
    refine callRL_of ok.orc ok.at_ hb ok.name hc (Nat.le_of_ble_eq_true ha) ?_
    rw [ok.hint]
    have e1 : sub F.root 1 = c := by
      show F.root = c
      unfold FX.root
      rw [hb]
    have h' : execL (F.C S.length) 0 (sub F.root 1) (endC Tryz.prog F.fn) ((List.range args.length).zip args) S = some r := h
    rw [e1] at h'
    exact h'
  · cases hc
theorem FX.callL {F : FX} {f : FuncId} (ok : F.ok f) (n : Nat) {args : List PV} (ha : Nat.ble args.length F.fn.ntmps = true) {e : Env} (he : (List.range args.length).zip args = e) {r : PV × Store} {v : PV}
    (h : run 0 F n (.at 0 1) [] e [] = some r) (hv : fzPV r.2 r.1 = some v) : Vs.callL Tryz.prog hints f args = some v := by
  have h' : Vs.callRL Tryz.prog hints f args [] = some r := FX.callRL ok n ha he h
  simp only [Vs.callL, h', Option.bind_some, hv]
theorem gc_le {n : Nat} {e : Env} {S : Store} (h : S.length ≤ n) : gc n e S = S := by
  unfold gc
  split
  · exact List.take_of_length_le h
  · rfl
@[go_sem 2000] theorem gc_1 (e : Env) (a : Obj) : gc 1 e [a] = [a] := gc_le (by simp)
@[go_sem 2000] theorem gc_2 (e : Env) (a b : Obj) : gc 2 e [a, b] = [a, b] := gc_le (by simp)
@[go_sem 2000] theorem gc_3 (e : Env) (a b c : Obj) : gc 3 e [a, b, c] = [a, b, c] := gc_le (by simp)
@[go_sem 2000] theorem gc_4 (e : Env) (a b c d : Obj) : gc 4 e [a, b, c, d] = [a, b, c, d] := gc_le (by simp)
@[go_sem 2000] theorem gc_5 (e : Env) (a b c d f : Obj) : gc 5 e [a, b, c, d, f] = [a, b, c, d, f] := gc_le (by simp)
theorem exit_run {b0 : Nat} {F : FX} (hg : F.good = true) (n : Nat) {i : Nat} {fs : List Fr} {e : Env} {S : Store} {z : PV × Store} (h : run b0 F n (.exi i) fs e S = some z) : exitTo b0 F i fs e S = some z := by
  rw [run_sem b0 F hg] at h; rw [exitTo_eq]; exact h
@[go_sem] theorem place_some (S : Store) (rows : List (List PV)) (g : Option (Option Nat)) : place S (some (rows, g)) = S ++ [.arr rows g false] := nr rfl
@[go_sem] theorem place_none (S : Store) : place S none = S := nr rfl
attribute [irreducible] sem loopAt exitTo
end
end Go.Vs
