/- The interpreter again, with what goes on behind: each step by definition. -/
import Derived.Test.YtnddhkcciphhkaaVs24
set_option linter.unusedVariables false
set_option linter.unusedSimpArgs false
namespace Go.Vs
open Go

section
variable {R : Type}
def withV (x : Option PV) (K : PV → Option R) : Option R := x.bind K
/-- An array more. -/
def withN (x : Option Out) (S : Store) (K : PV → Store → Option R) : Option R := x.bind fun o => K o.v (place (freezeAll S o.fz) o.new)
def withE (x : Option Eff) (e : Env) (K : PV → Env → Store → Option R) : Option R := x.bind fun r => K r.v (killE r.kill e) r.S
/-- The same under a guard. -/
def gval (g : PV) (want : Bool) (x : Option PV) : Option PV := match g with
  | .bool b => if b = want then x else some .skip
  | .skip => some .skip
  | _ => none
def gout (g : PV) (want : Bool) (x : Option Out) : Option Out := match g with
  | .bool b => if b = want then x else some { v := .skip }
  | .skip => some { v := .skip }
  | _ => none
def geff (g : PV) (want : Bool) (S : Store) (x : Option Eff) : Option Eff := match g with
  | .bool b => if b = want then x else some { v := .skip, S }
  | .skip => some { v := .skip, S }
  | _ => none

/-- Operations that give a value and leave the store. -/
def evPure (P : Program) (o : Op) (e : Env) (S : Store) : Option (Option PV) := match o with
  | .load t a => some (evLoad (tyi P t) S (ev e a))
  | .binOp op t x y _ => some (evBin op (tyi P t) (ev e x) (ev e y))
  | .unOp op _ x => some (evUn op (ev e x))
  | .convert s d x => some (if (tyi P s).known then evConvert (tyi P s) (tyi P d) (ev e x) else none)
  | .slice t x lo hi mx => some (if isSlice (tyi P t) = true ∧ (tyi P (elemTy (tyi P t))).known = false then none else evSlice (tyi P t) (tyi P (elemTy (tyi P t))).size S (ev e x) (lo.map (ev e)) (hi.map (ev e)) (mx.map (ev e)))
  | .fieldAddr t x f => some (evFieldAddr (tyi P t) f (ev e x))
  | .field t x f => some (evField (tyi P t) f (ev e x))
  | .indexAddr t x i => some (if isSlice (tyi P t) = true ∧ (tyi P (elemTy (tyi P t))).known = true then evIndexAddr (tyi P (elemTy (tyi P t))).size S (ev e x) (ev e i) else none)
  | _ => none

theorem evPure_spec {P : Program} {cp : CallP} {o : Oper} {e : Env} {S : Store} {nid : Nat} {x : Option PV} (h : evPure P o.op e S = some x) : ev1 P cp o e S nid = x.map (fun v => ({ v } : Out)) := by
  obtain ⟨dst, op, type, pos, after, guard⟩ := o
  cases op <;> simp only [evPure, Option.some.injEq, reduceCtorEq] at h <;> subst h <;> simp only [ev1]
  all_goals (try rfl)
  all_goals (split <;> rfl)
theorem evPure_eff {P : Program} {H : Hints} {o : Oper} {e : Env} {S : Store} {x : Option PV} (h : evPure P o.op e S = some x) : isEff H o e = false := by
  obtain ⟨dst, op, type, pos, after, guard⟩ := o
  cases op <;> simp only [evPure, Option.some.injEq, reduceCtorEq] at h <;> rfl

def pickO (c x y : PV) : Option PV := match c with
  | .bool t => if t = true then some x else some y
  | _ => none
def fillV (fs : List (Nat × Nat × Bool)) : List PV → List (Nat × PV) → Option (List PV)
  | cs, [] => some cs
  | cs, (i, x) :: r => match fs[i]? with
    | some (o, n, _) => if x.cells.length = n ∧ x.cells.all PV.cell ∧ o + n ≤ cs.length then fillV fs (cs.take o ++ x.cells ++ cs.drop (o + n)) r else none
    | none => none
theorem fillV_eq {fs : List (Nat × Nat × Bool)} {ρ : Operand → PV} : ∀ (ps : List (Nat × Operand)) (cs : List PV), fillAll fs ρ cs ps = fillV fs cs (ps.map fun p => (p.1, ρ p.2))
  | [], cs => rfl
  | (i, x) :: r, cs => by
    simp only [fillAll, fillV, List.map_cons]
    cases fs[i]? with
    | none => rfl
    | some q =>
      obtain ⟨o, n, g⟩ := q
      simp only [fillV_eq r]
def buildO (ti : TI) (ps : List (Nat × PV)) : Option PV := match ti.d with
  | .struct fs => ti.zero.bind fun z => if z.all PV.cell ∧ (fs.all fun x => decide (x.2.1 ≠ 0)) then (fillV fs z ps).map fun cs => .agg cs else none
  | _ => none
def lenO (ti : TI) (x : PV) : Option PV := evLen ti x
def extractO (x : PV) (i : Nat) : Option PV := match x with
  | .tup vs => vs[i]?
  | _ => none
def nilCheckO (x : PV) : Option PV := match x with
  | .mp a b c => some (.mp a b c)
  | .cp r => some (.cp r)
  | .fn f a b => some (.fn f a b)
  | _ => none
def indexO (P : Program) (t : TypeId) (x i : PV) : Option PV := match (tyi P t).d with
  | .array n el => if (tyi P el).known then evIndex { d := .array n el, size := (tyi P t).size, bytes := 0, zero := none } (tyi P el).size (tyi P el).isAgg x i else none
  | .str => evIndex { d := .str, size := 0, bytes := 0, zero := none } 0 false x i
  | _ => none
def maxO (xs : List PV) : Option PV := match xs with
  | [.int k a, .int _ b] => some (.int k (if b > a then b else a))
  | _ => none
def minO (xs : List PV) : Option PV := match xs with
  | [.int k a, .int _ b] => some (.int k (if b < a then b else a))
  | _ => none
/-- Operations that give a value and leave the store (all). -/
def evVal (P : Program) (o : Op) (e : Env) (S : Store) : Option (Option PV) := match o with
  | .move x | .assign x => some (some (ev e x))
  | .pick c a b => some (pickO (ev e c) (ev e a) (ev e b))
  | .build t ps => some (buildO (tyi P t) (ps.toList.map fun p => (p.1, ev e p.2)))
  | .makeFunc (.func f) first caps => some (some (.fn f (first.toList.map (ev e)) (caps.toList.map (ev e))))
  | .extract x i => some (extractO (ev e x) i)
  | .nilCheck x => some (nilCheckO (ev e x))
  | .index t x i => some (indexO P t (ev e x) (ev e i))
  | .call c => (match c.callee with
    | .builtin .len => (match c.argTypes[0]?, c.args[0]? with | some t, some x => some (lenO (tyi P t) (ev e x)) | _, _ => none)
    | .builtin .max => some (maxO (c.args.toList.map (ev e)))
    | .builtin .min => some (minO (c.args.toList.map (ev e)))
    | _ => none)
  | o => evPure P o e S
theorem evVal_spec {P : Program} {H : Hints} {cp : CallP} {o : Oper} {e : Env} {S : Store} {nid : Nat} {x : Option PV} (h : evVal P o.op e S = some x) : ev1 P cp o e S nid = x.map (fun v => ({ v } : Out)) ∧ isEff H o e = false := by
  obtain ⟨dst, op, type, pos, after, guard⟩ := o
  cases op <;> try exact ⟨evPure_spec h, evPure_eff h⟩
  all_goals simp only [evVal, Option.some.injEq] at h
  all_goals try (simp only [evPure, reduceCtorEq] at h; done)
  all_goals try (exact ⟨evPure_spec (o := ⟨dst, _, type, pos, after, guard⟩) h, evPure_eff (o := ⟨dst, _, type, pos, after, guard⟩) h⟩)
  case move x => subst h; exact ⟨rfl, rfl⟩
  case assign x => subst h; exact ⟨rfl, rfl⟩
  case pick c a b =>
    subst h
    refine ⟨?_, rfl⟩
    simp only [ev1, pickO]
    generalize ev e c = v
    cases v <;> try rfl
    rename_i t
    cases t <;> rfl
  case build t ps =>
    subst h
    refine ⟨?_, rfl⟩
    simp only [ev1, buildO, fillV_eq]
    generalize (tyi P t).d = dd
    cases dd <;> try rfl
    cases (tyi P t).zero with
    | none => rfl
    | some z =>
      simp only [Option.bind_some]
      split
      · cases fillV _ z _ <;> rfl
      · rfl
  case makeFunc fn first caps =>
    cases fn <;> simp only [reduceCtorEq, Option.some.injEq, evPure] at h
    subst h
    exact ⟨rfl, rfl⟩
  case extract x i =>
    subst h
    refine ⟨?_, rfl⟩
    simp only [ev1, extractO]
    generalize ev e x = v
    cases v <;> rfl
  case nilCheck x =>
    subst h
    refine ⟨?_, rfl⟩
    simp only [ev1, nilCheckO]
    generalize ev e x = v
    cases v <;> rfl
  case index t x i =>
    subst h
    refine ⟨?_, rfl⟩
    simp only [ev1, indexO]
    generalize (tyi P t).d = dd
    cases dd <;> try rfl
    simp only
    split <;> rfl
  case call c =>
    cases hc : c.callee with
    | invoke r m => rw [hc] at h; cases h
    | value f => rw [hc] at h; cases h
    | builtin b =>
      rw [hc] at h
      cases b <;> simp only [reduceCtorEq, Option.some.injEq] at h
      case len =>
        refine ⟨?_, by simp [isEff, hc]⟩
        simp only [ev1, hc]
        split at h
        · rename_i t x ht hx
          simp only [Option.some.injEq] at h
          subst h
          simp only [ht, hx]
          rfl
        · cases h
      case max =>
        refine ⟨?_, by simp [isEff, hc]⟩
        subst h
        simp only [ev1, hc, maxO]
        split
        · rename_i hx; rw [hx]; rfl
        · rename_i hx
          split
          · rename_i hy; exact absurd hy (hx _ _ _ _)
          · rfl
      case min =>
        refine ⟨?_, by simp [isEff, hc]⟩
        subst h
        simp only [ev1, hc, minO]
        split
        · rename_i hx; rw [hx]; rfl
        · rename_i hx
          split
          · rename_i hy; exact absurd hy (hx _ _ _ _)
          · rfl

def allocO (ti : TI) (n : Nat) : Option Out := ti.zero.bind fun z => if z.all PV.cell then some { v := .mp n 0 0, new := some ([z], none) } else none
def buildSliceO (P : Program) (t : TypeId) (n len : Nat) (is : List Nat) (rows : List (List PV)) : Option Out := match (tyi P t).d with
  | .slice el => if is = List.range len ∧ rowsOK (tyi P el).size rows ∧ (rows.all fun r => r.all PV.cell) ∧ len * (tyi P el).size ≤ 16777216 ∧ 0 < (tyi P el).size ∧ (tyi P el).zero.isSome then
      some { v := .msl n 0 len true, new := some (rows, some (some (tyi P el).size)) } else none
  | _ => none
def makeSliceO (P : Program) (t : TypeId) (n : Nat) (l c : PV) : Option Out := match (tyi P t).d, l, c with
  | .slice el, .int _ a, .int _ m => (tyi P el).zero.bind fun z =>
    if 0 ≤ a ∧ a ≤ m ∧ (tyi P el).bytes * m ≤ 281474976710656 ∧ m ≤ 9223372036854775807 ∧ z.length = (tyi P el).size ∧ z.all PV.cell then
      some { v := .msl n 0 a.toNat (decide (a = m)), new := some (List.replicate a.toNat z, some (some (tyi P el).size)) } else none
  | _, _, _ => none
def callO (cp : CallP) (S : Store) (f : FuncId) (as : List PV) : Option Out :=
  if (reach S 8 (as.flatMap PV.refs)).all (fun i => decide (i < S.length)) then (mapO (fzPV S) as).bind fun args => (cp f args).map fun v => { v, fz := reach S 8 (as.flatMap PV.refs) } else none
def callE (C : Ctx) (S : Store) (f : FuncId) (as : List PV) : Option Eff :=
  if C.H.refs f then (C.cr f as S).bind fun (v, S') => if S.length ≤ S'.length then some { v, S := S' } else none
  else (mapO (fzPV S) as).bind fun args => (C.cp f args).map fun v => { v, S := freezeAll S (reach S 8 (as.flatMap PV.refs)) }
def callV (C : Ctx) (S : Store) (f : PV) (as : List PV) : Option Eff := match f with
  | .fn f first caps => callE C S f (first ++ as ++ caps)
  | _ => none
def appendN (P : Program) (t u : TypeId) (S : Store) (n : Nat) (x y : PV) : Option Out := match (tyi P t).d, (tyi P u).d with
  | .slice el, .slice _ => if zeroOK (tyi P el) then evAppendNew (tyi P el).bytes (tyi P el).size S n x y else none
  | _, _ => none
def appendE (P : Program) (base : Nat) (t u : TypeId) (S : Store) (x y : PV) : Option Eff :=
  if exact x = true then (appendN P t u S S.length x y).map fun o => { v := o.v, S := place S o.new }
  else match (tyi P t).d, (tyi P u).d with
    | .slice el, .slice _ => if zeroOK (tyi P el) then evAppend base (tyi P el).bytes (tyi P el).size S x y else none
    | _, _ => none
def copyE (P : Program) (t u : TypeId) (S : Store) (x y : PV) : Option Eff := match (tyi P t).d, (tyi P u).d with
  | .slice el, .slice _ => if (tyi P el).known then evCopy (tyi P el).size S x y else none
  | _, _ => none
def storeE (ti : TI) (S : Store) (a v : PV) : Option Eff := if ti.known then (evStore ti.size S a v).map fun S => { v := .skip, S } else none
/-- What an operation comes to, in one of three forms. -/
inductive OR where
  | val (x : Option PV)
  | out (x : Option Out)
  | eff (x : Option Eff)
def evOp (C : Ctx) (o : Op) (e : Env) (S : Store) : OR := match evVal C.P o e S with
  | some x => .val x
  | none => match o with
    | .alloc t => .out (allocO (tyi C.P t) S.length)
    | .box t x => .out (boxed S S.length (tyi C.P t).size (ev e x))
    | .buildSlice t len ps => .out (buildSliceO C.P t S.length len (ps.toList.map (·.1)) (ps.toList.map fun (_, x) => (ev e x).cells))
    | .makeSlice t l c => .out (makeSliceO C.P t S.length (ev e l) (ev e c))
    | .store t a x => .eff (storeE (tyi C.P t) S (ev e a) (ev e x))
    | .call c => (match c.callee with
      | .builtin .append => (match c.argTypes[0]?, c.argTypes[1]?, c.args.toList with
        | some t, some u, [x, y] => .eff (appendE C.P C.base t u S (ev e x) (ev e y))
        | _, _, _ => .out none)
      | .builtin .copy => (match c.argTypes[0]?, c.argTypes[1]?, c.args.toList with
        | some t, some u, [x, y] => .eff (copyE C.P t u S (ev e x) (ev e y))
        | _, _, _ => .out none)
      | .value (.func f) => if C.H.refs f then .eff (callE C S f ([] ++ c.args.toList.map (ev e) ++ [])) else .out (callO C.cp S f ([] ++ c.args.toList.map (ev e) ++ []))
      | .value f => .eff (callV C S (ev e f) (c.args.toList.map (ev e)))
      | _ => .out none)
    | _ => .out none

def OR.step (q : OR) (d : Option Nat) (e : Env) (S : Store) : Option (Env × Store) := match q with
  | .val x => x.map fun v => (putD e d v, S)
  | .out x => x.map fun o => (putD e d o.v, place (freezeAll S o.fz) o.new)
  | .eff x => x.map fun r => (putD (killE r.kill e) d r.v, r.S)
theorem killE_nil (e : Env) : killE [] e = e := rfl
theorem evOp_spec {C : Ctx} {o : Oper} {e : Env} {S : Store} {e' : Env} {S' : Store} (h : (evOp C o.op e S).step o.dst e S = some (e', S')) :
    (if isEff C.H o e then (ev2 C o e S).map fun r => (putD (killE r.kill e) o.dst r.v, r.S)
     else (ev1 C.P C.cp o e S S.length).map fun r => (putD e o.dst r.v, place (freezeAll S r.fz) r.new)) = some (e', S') := by
  unfold evOp at h
  cases hv : evVal C.P o.op e S with
  | some x =>
    rw [hv] at h
    simp only [OR.step] at h
    obtain ⟨h1, h2⟩ := evVal_spec (H := C.H) (cp := C.cp) (nid := S.length) hv
    rw [h2, h1]
    simp only [Bool.false_eq_true, if_false, Option.map_map]
    exact h
  | none =>
    rw [hv] at h
    simp only at h
    obtain ⟨dst, op, type, pos, after, guard⟩ := o
    cases op <;> simp only [OR.step, Option.map_none, reduceCtorEq] at h
    case alloc t => exact h
    case box t x => exact h
    case buildSlice t len ps =>
      rw [← h]
      simp only [isEff, Bool.false_eq_true, if_false, ev1, buildSliceO]
      generalize (tyi C.P t).d = dd
      cases dd <;> rfl
    case makeSlice t l c => exact h
    case store t a x =>
      rw [← h]
      simp only [isEff, if_true, ev2, storeE]
    case call c =>
      cases hc : c.callee with
      | invoke r m => rw [hc] at h; cases h
      | value f =>
        rw [hc] at h
        cases f with
        | func f =>
          simp only at h
          by_cases hr : C.H.refs f = true
          · rw [if_pos hr] at h
            simp only [callE, hr, if_true] at h
            simp only [isEff, hc, hr, if_true, ev2, ev]
            exact h
          · rw [if_neg hr] at h
            simp only [callO] at h
            simp only [isEff, hc, hr, if_false, Bool.false_eq_true, ev1, ev]
            exact h
        | _ =>
          simp only [callV, callE] at h
          simp only [isEff, hc, if_true, ev2]
          rw [← h]
          rfl
      | builtin b =>
        rw [hc] at h
        cases b <;> simp only [Option.map_none, reduceCtorEq] at h
        case append =>
          cases ht : c.argTypes[0]? with
          | none => simp only [ht, Option.map_none, reduceCtorEq] at h
          | some t =>
          cases hu : c.argTypes[1]? with
          | none => simp only [ht, hu, Option.map_none, reduceCtorEq] at h
          | some u =>
          obtain ⟨x, y, hargs⟩ : ∃ x y, c.args.toList = [x, y] := by
            rcases hl : c.args.toList with _ | ⟨x, _ | ⟨y, _ | ⟨z, l⟩⟩⟩
            · simp only [ht, hu, hl, Option.map_none, reduceCtorEq] at h
            · simp only [ht, hu, hl, Option.map_none, reduceCtorEq] at h
            · exact ⟨x, y, rfl⟩
            · simp only [ht, hu, hl, Option.map_none, reduceCtorEq] at h
          simp only [ht, hu, hargs] at h
          have ha : c.args[0]? = some x := by rw [← Array.getElem?_toList, hargs]; rfl
          simp only [appendE] at h
          by_cases hx : exact (ev e x) = true
          · rw [if_pos hx] at h
            simp only [isEff, hc, ha, hx, Bool.not_true, Bool.false_eq_true, if_false, ev1, ht, hu, hargs]
            simp only [appendN, Option.map_map] at h
            rw [← h]
            generalize (tyi C.P t).d = d1
            generalize (tyi C.P u).d = d2
            cases d1 <;> try rfl
            cases d2 <;> try rfl
            simp only
            split
            · rename_i el _ _
              cases hq : evAppendNew (tyi C.P el).bytes (tyi C.P el).size S S.length (ev e x) (ev e y) with
              | none => rfl
              | some o =>
                have hfz : o.fz = [] := by
                  unfold evAppendNew at hq
                  rw [if_pos hx] at hq
                  obtain ⟨_, _, hq⟩ := bind_some hq
                  obtain ⟨_, _, hq⟩ := bind_some hq
                  split at hq
                  · split at hq
                    · split at hq <;> (cases hq; rfl)
                    · cases hq; rfl
                  · cases hq
                simp only [Option.map_some, hfz, Function.comp, killE_nil]
                rfl
            · rfl
          · rw [if_neg hx] at h
            have hx' : exact (ev e x) = false := by simpa using hx
            simp only [isEff, hc, ha, hx', Bool.not_false, if_true, ev2, ht, hu, hargs]
            exact h
        case copy =>
          cases ht : c.argTypes[0]? with
          | none => simp only [ht, Option.map_none, reduceCtorEq] at h
          | some t =>
          cases hu : c.argTypes[1]? with
          | none => simp only [ht, hu, Option.map_none, reduceCtorEq] at h
          | some u =>
          obtain ⟨x, y, hargs⟩ : ∃ x y, c.args.toList = [x, y] := by
            rcases hl : c.args.toList with _ | ⟨x, _ | ⟨y, _ | ⟨z, l⟩⟩⟩
            · simp only [ht, hu, hl, Option.map_none, reduceCtorEq] at h
            · simp only [ht, hu, hl, Option.map_none, reduceCtorEq] at h
            · exact ⟨x, y, rfl⟩
            · simp only [ht, hu, hl, Option.map_none, reduceCtorEq] at h
          simp only [ht, hu, hargs] at h
          simp only [isEff, hc, if_true, ev2, ht, hu, hargs]
          exact h

def runC (C : Ctx) (ops : Array Oper) : List Oper → Env → Store → (Env → Store → Option R) → Option R
  | [], e, S, K => K e S
  | o :: r, e, S, K => match o.guard with
    | none => (match evOp C o.op e S with
      | .val x => withV x fun v => runC C ops r (putD e o.dst v) S K
      | .out x => withN x S fun v S => runC C ops r (putD e o.dst v) S K
      | .eff x => withE x e fun v e S => runC C ops r (putD e o.dst v) S K)
    | some (j, want) => (match (ops[j]?).bind (·.dst) with
      | none => runC C ops r (putD e o.dst .skip) S K
      | some t => (match evOp C o.op e S with
        | .val x => withV (gval (get e t) want x) fun v => runC C ops r (putD e o.dst v) S K
        | .out x => withN (gout (get e t) want x) S fun v S => runC C ops r (putD e o.dst v) S K
        | .eff x => withE (geff (get e t) want S x) e fun v e S => runC C ops r (putD e o.dst v) S K))

/-- What the twin comes to, the interpreter comes to. -/
theorem runC_sound {C : Ctx} {ops : Array Oper} : ∀ (l : List Oper) {e : Env} {S : Store} {K : Env → Store → Option R} {z : R}, runC C ops l e S K = some z → ∃ e' S', runOps C ops l e S = some (e', S') ∧ K e' S' = some z
  | [], e, S, K, z, h => ⟨e, S, rfl, h⟩
  | o :: r, e, S, K, z, h => by
    have fin : ∀ {e1 : Env} {S1 : Store}, stepOp C ops o e S = some (e1, S1) → runC C ops r e1 S1 K = some z → ∃ e' S', runOps C ops (o :: r) e S = some (e', S') ∧ K e' S' = some z := fun hs hr => by
      obtain ⟨e', S', h1, h2⟩ := runC_sound r hr
      exact ⟨e', S', by simp only [runOps, hs, Option.bind_some, h1], h2⟩
    have yes : ∀ {e1 : Env} {S1 : Store}, wantedV ops e o = some true → (evOp C o.op e S).step o.dst e S = some (e1, S1) → stepOp C ops o e S = some (e1, S1) := fun hw hs => by
      simp only [stepOp, hw, Option.bind_some, if_true]
      exact evOp_spec hs
    have no : wantedV ops e o = some false → stepOp C ops o e S = some (putD e o.dst .skip, S) := fun hw => by
      simp only [stepOp, hw, Option.bind_some, Bool.false_eq_true, if_false]
    simp only [runC] at h
    cases hg : o.guard with
    | none =>
      rw [hg] at h
      simp only at h
      have hw : wantedV ops e o = some true := by simp only [wantedV, hg]
      cases hq : evOp C o.op e S with
      | val x =>
        rw [hq] at h
        obtain ⟨v, h1, h2⟩ := bind_some h
        exact fin (yes hw (by rw [hq]; simp only [OR.step, h1, Option.map_some])) h2
      | out x =>
        rw [hq] at h
        obtain ⟨v, h1, h2⟩ := bind_some h
        exact fin (yes hw (by rw [hq]; simp only [OR.step, h1, Option.map_some])) h2
      | eff x =>
        rw [hq] at h
        obtain ⟨v, h1, h2⟩ := bind_some h
        exact fin (yes hw (by rw [hq]; simp only [OR.step, h1, Option.map_some])) h2
    | some p =>
      obtain ⟨j, want⟩ := p
      rw [hg] at h
      simp only at h
      cases ht : (ops[j]?).bind (·.dst) with
      | none =>
        rw [ht] at h
        exact fin (no (by simp only [wantedV, hg, ht])) h
      | some t =>
        rw [ht] at h
        simp only at h
        have hw : wantedV ops e o = (match get e t with | .bool b => some (b == want) | .skip => some false | _ => none) := by
          simp only [wantedV, hg, ht]
          cases get e t <;> rfl
        cases hq : evOp C o.op e S with
        | val x =>
          rw [hq] at h
          obtain ⟨v, h1, h2⟩ := bind_some h
          cases hv : get e t <;> rw [hv] at h1 hw <;> simp only [gval, reduceCtorEq, Option.some.injEq] at h1
          case skip => subst h1; exact fin (no hw) h2
          case bool b =>
            split at h1
            · rename_i hb
              exact fin (yes (by rw [hw, hb]; simp) (by rw [hq]; simp only [OR.step, h1, Option.map_some])) h2
            · rename_i hb
              simp only [Option.some.injEq] at h1
              subst h1
              exact fin (no (by rw [hw]; simp [hb])) h2
        | out x =>
          rw [hq] at h
          obtain ⟨v, h1, h2⟩ := bind_some h
          cases hv : get e t <;> rw [hv] at h1 hw <;> simp only [gout, reduceCtorEq, Option.some.injEq] at h1
          case skip => subst h1; exact fin (no hw) h2
          case bool b =>
            split at h1
            · rename_i hb
              exact fin (yes (by rw [hw, hb]; simp) (by rw [hq]; simp only [OR.step, h1, Option.map_some])) h2
            · rename_i hb
              simp only [Option.some.injEq] at h1
              subst h1
              exact fin (no (by rw [hw]; simp [hb])) h2
        | eff x =>
          rw [hq] at h
          obtain ⟨v, h1, h2⟩ := bind_some h
          cases hv : get e t <;> rw [hv] at h1 hw <;> simp only [geff, reduceCtorEq, Option.some.injEq] at h1
          case skip => subst h1; exact fin (no hw) h2
          case bool b =>
            split at h1
            · rename_i hb
              exact fin (yes (by rw [hw, hb]; simp) (by rw [hq]; simp only [OR.step, h1, Option.map_some])) h2
            · rename_i hb
              simp only [Option.some.injEq] at h1
              subst h1
              exact fin (no (by rw [hw]; simp [hb])) h2
end
end Go.Vs
