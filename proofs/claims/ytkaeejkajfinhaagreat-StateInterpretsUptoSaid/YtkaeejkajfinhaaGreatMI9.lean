
import Derived.Test.YtkaeejkajfinhaaGreatMI8
section
set_option linter.unusedVariables false
set_option linter.unusedSimpArgs false
namespace Go.Vs
open Go
section
variable {R : Type}
def withV (x : Option PV) (K : PV → Option R) : Option R := x.bind K
def withN (x : Option Out) (S : Store) (K : PV → Store → Option R) : Option R := x.bind fun o => K o.v (place (freezeAll S o.fz) o.new)
def withE (x : Option Eff) (e : Env) (K : PV → Env → Store → Option R) : Option R := x.bind fun r => K r.v (killE r.kill e) r.S
def withS (x : Option Eff) (K : PV → Store → Option R) : Option R := x.bind fun r => K r.v r.S
def gval (g : PV) (want : Bool) (x : Option PV) : Option PV := match g with
  | .bool b => if b = want then x else some .skip
  | .skip => some .skip
  | _ => none
def gout (g : PV) (want : Bool) (x : Option Out) : Option Out := match g with
  | .bool b => if b = want then x else some { v := .skip }
  | .skip => some { v := .skip }
  | _ => none
def geff (g : PV) (want : Bool) (S : Store) (x : Option Eff) : Option Eff := match g with
  | .bool b => if b = want then x else some { v := .skip, S }
  | .skip => some { v := .skip, S }
  | _ => none
def evPure (P : Program) (o : Op) (e : Env) (S : Store) : Option (Option PV) := match o with
  | .load t a => some (evLoad (tyi P t) S (ev e a))
  | .binOp op t x y _ => some (evBinO op (tyi P t) y (ev e x) (ev e y))
  | .unOp op _ x => some (evUn op (ev e x))
  | .convert s d x => some (if (tyi P s).known then evConvert (tyi P s) (tyi P d) (isU8 (tyi P (elemTy (tyi P s)))) S (ev e x) else none)
  | .slice t x lo hi mx => some (if isSlice (tyi P t) = true ∧ (tyi P (elemTy (tyi P t))).known = false then none else evSlice (tyi P t) (tyi P (elemTy (tyi P t))).size S (ev e x) (lo.map (ev e)) (hi.map (ev e)) (mx.map (ev e)))
  | .fieldAddr t x f => some (evFieldAddr (tyi P t) f (ev e x))
  | .field t x f => some (evField (tyi P t) f (ev e x))
  | .indexAddr t x i => some (if isSlice (tyi P t) = true ∧ (tyi P (elemTy (tyi P t))).known = true then evIndexAddr (tyi P (elemTy (tyi P t))).size S (ev e x) (ev e i) else none)
  | _ => none
theorem evPure_spec {P : Program} {cp : CallP} {o : Oper} {e : Env} {S : Store} {nid : Nat} {x : Option PV} (h : evPure P o.op e S = some x) : ev1 P cp o e S nid = x.map (fun v => ({ v } : Out)) := by
  obtain ⟨dst, op, type, pos, after, guard⟩ := o
  cases op <;> simp only [evPure, Option.some.injEq, reduceCtorEq] at h <;> subst h <;> simp only [ev1]
  all_goals (try rfl)
  all_goals (split <;> rfl)
theorem evPure_eff {P : Program} {H : Hints} {o : Oper} {e : Env} {S : Store} {x : Option PV} (h : evPure P o.op e S = some x) : isEff H o e = false := by
  obtain ⟨dst, op, type, pos, after, guard⟩ := o
  cases op <;> simp only [evPure, Option.some.injEq, reduceCtorEq] at h <;> rfl
def pickO (c x y : PV) : Option PV := match c with
  | .bool t => if t = true then some x else some y
  | _ => none
def fillV (fs : List (Nat × Nat × Bool)) : List PV → List (Nat × PV) → Option (List PV)
  | cs, [] => some cs
  | cs, (i, x) :: r => match fs[i]? with
    | some (o, n, _) => if x.cells.length = n ∧ x.cells.all PV.cell ∧ o + n ≤ cs.length then fillV fs (cs.take o ++ x.cells ++ cs.drop (o + n)) r else none
    | none => none
theorem fillV_eq {fs : List (Nat × Nat × Bool)} {ρ : Operand → PV} : ∀ (ps : List (Nat × Operand)) (cs : List PV), fillAll fs ρ cs ps = fillV fs cs (ps.map fun p => (p.1, ρ p.2))
  | [], cs => rfl
  | (i, x) :: r, cs => by
    simp only [fillAll, fillV, List.map_cons]
    cases fs[i]? with
    | none => rfl
    | some q =>
      obtain ⟨o, n, g⟩ := q
      simp only [fillV_eq r]
def buildO (ti : TI) (ps : List (Nat × PV)) : Option PV := match ti.d with
  | .struct fs => ti.zero.bind fun z => if z.all PV.cell ∧ (fs.all fun x => decide (x.2.1 ≠ 0)) then (fillV fs z ps).map fun cs => .agg cs else none
  | _ => none
def lenO (ti : TI) (x : PV) : Option PV := evLen ti x
def extractO (x : PV) (i : Nat) : Option PV := match x with
  | .tup vs => vs[i]?
  | _ => none
def nilCheckO (x : PV) : Option PV := match x with
  | .mp a b c => some (.mp a b c)
  | .cp r => some (.cp r)
  | .fn f a b => some (.fn f a b)
  | _ => none
def indexO (P : Program) (t : TypeId) (x i : PV) : Option PV := match (tyi P t).d with
  | .array n el => if (tyi P el).known then evIndex { d := .array n el, size := (tyi P t).size, bytes := 0, zero := none } (tyi P el).size (tyi P el).isAgg x i else none
  | .str => evIndex { d := .str, size := 0, bytes := 0, zero := none } 0 false x i
  | _ => none
def maxO (xs : List PV) : Option PV := match xs with
  | [.int k a, .int _ b] => some (.int k (if b > a then b else a))
  | _ => none
def minO (xs : List PV) : Option PV := match xs with
  | [.int k a, .int _ b] => some (.int k (if b < a then b else a))
  | _ => none
def evVal (P : Program) (o : Op) (e : Env) (S : Store) : Option (Option PV) := match o with
  | .move x | .assign x => some (some (ev e x))
  | .pick c a b => some (pickO (ev e c) (ev e a) (ev e b))
  | .build t ps => some (buildO (tyi P t) (ps.toList.map fun p => (p.1, ev e p.2)))
  | .makeFunc (.func f) first caps => some (some (.fn f (first.toList.map (ev e)) (caps.toList.map (ev e))))
  | .extract x i => some (extractO (ev e x) i)
  | .nilCheck x => some (nilCheckO (ev e x))
  | .index t x i => some (indexO P t (ev e x) (ev e i))
  | .call c => (match c.callee with
    | .builtin .len => (match c.argTypes[0]?, c.args[0]? with | some t, some x => some (lenO (tyi P t) (ev e x)) | _, _ => none)
    | .builtin .max => some (maxO (c.args.toList.map (ev e)))
    | .builtin .min => some (minO (c.args.toList.map (ev e)))
    | _ => none)
  | o => evPure P o e S
theorem evVal_spec {P : Program} {H : Hints} {cp : CallP} {o : Oper} {e : Env} {S : Store} {nid : Nat} {x : Option PV} (h : evVal P o.op e S = some x) : ev1 P cp o e S nid = x.map (fun v => ({ v } : Out)) ∧ isEff H o e = false := by
  obtain ⟨dst, op, type, pos, after, guard⟩ := o
  cases op <;> try exact ⟨evPure_spec h, evPure_eff h⟩
  all_goals simp only [evVal, Option.some.injEq] at h
  all_goals try (simp only [evPure, reduceCtorEq] at h; done)
  all_goals try (exact ⟨evPure_spec (o := ⟨dst, _, type, pos, after, guard⟩) h, evPure_eff (o := ⟨dst, _, type, pos, after, guard⟩) h⟩)
  case move x => subst h; exact ⟨rfl, rfl⟩
  case assign x => subst h; exact ⟨rfl, rfl⟩
  case pick c a b =>
    subst h
    refine ⟨?_, rfl⟩
    simp only [ev1, pickO]
    generalize ev e c = v
    cases v <;> try rfl
    rename_i t
    cases t <;> rfl
  case build t ps =>
    subst h
    refine ⟨?_, rfl⟩
    simp only [ev1, buildO, fillV_eq]
    generalize (tyi P t).d = dd
    cases dd <;> try rfl
    cases (tyi P t).zero with
    | none => rfl
    | some z =>
      simp only [Option.bind_some]
      split
      · cases fillV _ z _ <;> rfl
      · rfl
  case makeFunc fn first caps =>
    cases fn <;> simp only [reduceCtorEq, Option.some.injEq, evPure] at h
    subst h
    exact ⟨rfl, rfl⟩
  case extract x i =>
    subst h
    refine ⟨?_, rfl⟩
    simp only [ev1, extractO]
    generalize ev e x = v
    cases v <;> rfl
  case nilCheck x =>
    subst h
    refine ⟨?_, rfl⟩
    simp only [ev1, nilCheckO]
    generalize ev e x = v
    cases v <;> rfl
  case index t x i =>
    subst h
    refine ⟨?_, rfl⟩
    simp only [ev1, indexO]
    generalize (tyi P t).d = dd
    cases dd <;> try rfl
    simp only
    split <;> rfl
  case call c =>
    cases hc : c.callee with
    | invoke r m => rw [hc] at h; cases h
    | value f => rw [hc] at h; cases h
    | builtin b =>
      rw [hc] at h
      cases b <;> simp only [reduceCtorEq, Option.some.injEq] at h
      case len =>
        refine ⟨?_, by simp [isEff, hc]⟩
        simp only [ev1, hc]
        split at h
        · rename_i t x ht hx
          simp only [Option.some.injEq] at h
          subst h
          simp only [ht, hx]
          rfl
        · cases h
      case max =>
        refine ⟨?_, by simp [isEff, hc]⟩
        subst h
        simp only [ev1, hc, maxO]
        split
        · rename_i hx; rw [hx]; rfl
        · rename_i hx
          split
          · rename_i hy; exact absurd hy (hx _ _ _ _)
          · rfl
      case min =>
        refine ⟨?_, by simp [isEff, hc]⟩
        subst h
        simp only [ev1, hc, minO]
        split
        · rename_i hx; rw [hx]; rfl
        · rename_i hx
          split
          · rename_i hy; exact absurd hy (hx _ _ _ _)
          · rfl
def allocO (ti : TI) (n : Nat) : Option Out := ti.zero.bind fun z => if z.all PV.cell then some { v := .mp n 0 0, new := some ([z], none) } else none
def buildSliceO (P : Program) (t : TypeId) (n len : Nat) (is : List Nat) (rows : List (List PV)) : Option Out := match (tyi P t).d with
  | .slice el => if is = List.range len ∧ rowsOK (tyi P el).size rows ∧ (rows.all fun r => r.all PV.cell) ∧ len * (tyi P el).size ≤ 16777216 ∧ 0 < (tyi P el).size ∧ (tyi P el).zero.isSome then
      some { v := .msl n 0 len true, new := some (rows, some (some (tyi P el).size)) } else none
  | _ => none
def makeSliceO (P : Program) (t : TypeId) (n : Nat) (l c : PV) : Option Out := match (tyi P t).d, l, c with
  | .slice el, .int _ a, .int _ m => (tyi P el).zero.bind fun z =>
    if 0 ≤ a ∧ a ≤ m ∧ (tyi P el).bytes * m ≤ 281474976710656 ∧ m ≤ 9223372036854775807 ∧ z.length = (tyi P el).size ∧ z.all PV.cell then
      some { v := .msl n 0 a.toNat (decide (a = m)), new := some (List.replicate a.toNat z, some (some (tyi P el).size)) } else none
  | _, _, _ => none
def callO (cp : CallP) (S : Store) (f : FuncId) (as : List PV) : Option Out :=
  if (reach S 8 (as.flatMap PV.refs)).all (fun i => decide (i < S.length)) then (mapO (fzPV S) as).bind fun args => (cp f args).map fun v => { v, fz := reach S 8 (as.flatMap PV.refs) } else none
noncomputable def callE (C : Ctx) (S : Store) (f : FuncId) (as : List PV) : Option Eff :=
  if C.H.refs f then (C.cr f as S).bind fun (v, S') => if S.length ≤ S'.length ∧ closedS S = true ∧ belowL S.length as = true ∧ Keep0 (C.H.reads f) S S' then some { v, S := S' } else none
  else (mapO (fzPV S) as).bind fun args => (C.cp f args).map fun v => { v, S := freezeAll S (reach S 8 (as.flatMap PV.refs)) }
noncomputable def callV (C : Ctx) (S : Store) (f : PV) (as : List PV) : Option Eff := match f with
  | .fn f first caps => callE C S f (first ++ as ++ caps)
  | _ => none
def appendN (P : Program) (t u : TypeId) (S : Store) (n : Nat) (x y : PV) : Option Out := match (tyi P t).d with
  | .slice el => if srcT (tyi P u).d = true ∧ zeroOK (tyi P el) = true then evAppendNew (tyi P el).bytes (tyi P el).size S n x y else none
  | _ => none
def appendE (P : Program) (base : Nat) (t u : TypeId) (S : Store) (x y : PV) : Option Eff :=
  if exact x = true then (appendN P t u S S.length x y).map fun o => { v := o.v, S := place S o.new }
  else match (tyi P t).d with
    | .slice el => if srcT (tyi P u).d = true ∧ zeroOK (tyi P el) = true then evAppend base (tyi P el).bytes (tyi P el).size S x y else none
    | _ => none
def copyE (P : Program) (t u : TypeId) (S : Store) (x y : PV) : Option Eff := match (tyi P t).d, (tyi P u).d with
  | .slice el, .slice _ => if (tyi P el).known then evCopy (tyi P el).size S x y else none
  | _, _ => none
def storeE (ti : TI) (S : Store) (a v : PV) : Option Eff := if ti.known then (evStore ti.size S a v).map fun S => { v := .skip, S } else none
inductive OR where
  | val (x : Option PV)
  | out (x : Option Out)
  | eff (x : Option Eff)
  | sto (x : Option Eff)
noncomputable def evOp (C : Ctx) (o : Op) (e : Env) (S : Store) : OR := match evVal C.P o e S with
  | some x => .val x
  | none => match o with
    | .alloc t => .out (allocO (tyi C.P t) S.length)
    | .box t x => .out (boxed S S.length (tyi C.P t).size (ev e x))
    | .buildSlice t len ps => .out (buildSliceO C.P t S.length len (ps.toList.map (·.1)) (ps.toList.map fun (_, x) => (ev e x).cells))
    | .makeSlice t l c => .out (makeSliceO C.P t S.length (ev e l) (ev e c))
    | .store t a x => .sto (storeE (tyi C.P t) S (ev e a) (ev e x))
    | .call c => (match c.callee with
      | .builtin .append => (match c.argTypes[0]?, c.argTypes[1]?, c.args.toList with
        | some t, some u, [x, y] => .eff (appendE C.P C.base t u S (ev e x) (ev e y))
        | _, _, _ => .out none)
      | .builtin .copy => (match c.argTypes[0]?, c.argTypes[1]?, c.args.toList with
        | some t, some u, [x, y] => .sto (copyE C.P t u S (ev e x) (ev e y))
        | _, _, _ => .out none)
      | .value (.func f) => if C.H.refs f then .sto (callE C S f ([] ++ c.args.toList.map (ev e) ++ [])) else .out (callO C.cp S f ([] ++ c.args.toList.map (ev e) ++ []))
      | .value f => .sto (callV C S (ev e f) (c.args.toList.map (ev e)))
      | _ => .out none)
    | _ => .out none
noncomputable def OR.step (q : OR) (d : Option Nat) (e : Env) (S : Store) : Option (Env × Store) := match q with
  | .val x => x.map fun v => (putD e d v, S)
  | .out x => x.map fun o => (putD e d o.v, place (freezeAll S o.fz) o.new)
  | .eff x => x.map fun r => (putD (killE r.kill e) d r.v, r.S)
  | .sto x => x.map fun r => (putD e d r.v, r.S)
theorem killE_nil (e : Env) : killE [] e = e := rfl
theorem sto_step {x : Option Eff} (hk : ∀ r, x = some r → r.kill = []) {d : Option Nat} {e : Env} {S : Store} {q : Env × Store} (h : (OR.sto x).step d e S = some q) : x.map (fun r => (putD (killE r.kill e) d r.v, r.S)) = some q := by
  cases x with
  | none => cases h
  | some r =>
    simp only [OR.step, Option.map_some] at h ⊢
    rw [hk r rfl, killE_nil]
    exact h
theorem storeE_kill {ti : TI} {S : Store} {a v : PV} : ∀ r, storeE ti S a v = some r → r.kill = [] := fun r h => by
  unfold storeE at h
  split at h
  · obtain ⟨_, _, rfl⟩ := map_some h; rfl
  · cases h
theorem copyE_kill {P : Program} {t u : TypeId} {S : Store} {x y : PV} : ∀ r, copyE P t u S x y = some r → r.kill = [] := fun r h => by
  unfold copyE at h
  split at h
  · split at h
    · unfold evCopy at h
      split at h
      · split at h
        · obtain ⟨_, _, h⟩ := bind_some h
          split at h
          · cases h; rfl
          · cases h
        · cases h
      · cases h
    · cases h
  · cases h
theorem callE_kill {C : Ctx} {S : Store} {f : FuncId} {l : List PV} : ∀ r, callE C S f l = some r → r.kill = [] := fun r h => by
  unfold callE at h
  split at h
  · obtain ⟨_, _, h⟩ := bind_some h
    dsimp only at h
    split at h
    · cases h; rfl
    · cases h
  · obtain ⟨_, _, h⟩ := bind_some h
    obtain ⟨_, _, rfl⟩ := map_some h
    rfl
theorem callV_kill {C : Ctx} {S : Store} {f : PV} {l : List PV} : ∀ r, callV C S f l = some r → r.kill = [] := fun r h => by
  unfold callV at h
  split at h
  · exact callE_kill r h
  · cases h
theorem evOp_spec {C : Ctx} {o : Oper} {e : Env} {S : Store} {e' : Env} {S' : Store} (h : (evOp C o.op e S).step o.dst e S = some (e', S')) :
    (if isEff C.H o e then (ev2 C o e S).map fun r => (putD (killE r.kill e) o.dst r.v, r.S)
     else (ev1 C.P C.cp o e S S.length).map fun r => (putD e o.dst r.v, place (freezeAll S r.fz) r.new)) = some (e', S') := by
  unfold evOp at h
  cases hv : evVal C.P o.op e S with
  | some x =>
    rw [hv] at h
    simp only [OR.step] at h
    obtain ⟨h1, h2⟩ := evVal_spec (H := C.H) (cp := C.cp) (nid := S.length) hv
    rw [h2, h1]
    simp only [Bool.false_eq_true, if_false, Option.map_map]
    exact h
  | none =>
    rw [hv] at h
    simp only at h
    obtain ⟨dst, op, type, pos, after, guard⟩ := o
    cases op
    case store t a x =>
      dsimp only at h
      have h := sto_step storeE_kill h
      rw [← h]
      simp only [isEff, if_true, ev2, storeE]
    case call c =>
      dsimp only at h
      cases hc : c.callee with
      | invoke r m => rw [hc] at h; cases h
      | value f =>
        rw [hc] at h
        cases f with
        | func f =>
          simp only at h
          by_cases hr : C.H.refs f = true
          · rw [if_pos hr] at h
            have h := sto_step callE_kill h
            simp only [callE, hr, if_true] at h
            simp only [isEff, hc, hr, if_true, ev2, ev]
            exact h
          · rw [if_neg hr] at h
            simp only [callO] at h
            simp only [isEff, hc, hr, if_false, Bool.false_eq_true, ev1, ev]
            exact h
        | _ =>
          have h := sto_step callV_kill h
          simp only [callV, callE] at h
          simp only [isEff, hc, if_true, ev2]
          rw [← h]
          rfl
      | builtin b =>
        rw [hc] at h
        cases b <;> try (simp only [OR.step, Option.map_none, reduceCtorEq] at h; done)
        case append =>
          cases ht : c.argTypes[0]? with
          | none => simp only [ht, OR.step, Option.map_none, reduceCtorEq] at h
          | some t =>
          cases hu : c.argTypes[1]? with
          | none => simp only [ht, hu, OR.step, Option.map_none, reduceCtorEq] at h
          | some u =>
          obtain ⟨x, y, hargs⟩ : ∃ x y, c.args.toList = [x, y] := by
            rcases hl : c.args.toList with _ | ⟨x, _ | ⟨y, _ | ⟨z, l⟩⟩⟩
            · simp only [ht, hu, hl, OR.step, Option.map_none, reduceCtorEq] at h
            · simp only [ht, hu, hl, OR.step, Option.map_none, reduceCtorEq] at h
            · exact ⟨x, y, rfl⟩
            · simp only [ht, hu, hl, OR.step, Option.map_none, reduceCtorEq] at h
          simp only [ht, hu, hargs, OR.step] at h
          have ha : c.args[0]? = some x := by rw [← Array.getElem?_toList, hargs]; rfl
          simp only [appendE] at h
          by_cases hx : exact (ev e x) = true
          · rw [if_pos hx] at h
            simp only [isEff, hc, ha, hx, Bool.not_true, Bool.false_eq_true, if_false, ev1, ht, hu, hargs]
            simp only [appendN, Option.map_map] at h
            rw [← h]
            generalize (tyi C.P t).d = d1
            cases d1 <;> try rfl
            rename_i el
            simp only
            split
            · cases hq : evAppendNew (tyi C.P el).bytes (tyi C.P el).size S S.length (ev e x) (ev e y) with
              | none => rfl
              | some o =>
                have hfz : o.fz = [] := by
                  unfold evAppendNew at hq
                  rw [if_pos hx] at hq
                  obtain ⟨_, _, hq⟩ := bind_some hq
                  obtain ⟨_, _, hq⟩ := bind_some hq
                  split at hq
                  · split at hq
                    · split at hq <;> (cases hq; rfl)
                    · cases hq; rfl
                  · cases hq
                simp only [Option.map_some, hfz, Function.comp, killE_nil]
                rfl
            · rfl
          · rw [if_neg hx] at h
            have hx' : exact (ev e x) = false := by simpa using hx
            simp only [isEff, hc, ha, hx', Bool.not_false, if_true, ev2, ht, hu, hargs]
            exact h
        case copy =>
          cases ht : c.argTypes[0]? with
          | none => simp only [ht, OR.step, Option.map_none, reduceCtorEq] at h
          | some t =>
          cases hu : c.argTypes[1]? with
          | none => simp only [ht, hu, OR.step, Option.map_none, reduceCtorEq] at h
          | some u =>
          obtain ⟨x, y, hargs⟩ : ∃ x y, c.args.toList = [x, y] := by
            rcases hl : c.args.toList with _ | ⟨x, _ | ⟨y, _ | ⟨z, l⟩⟩⟩
            · simp only [ht, hu, hl, OR.step, Option.map_none, reduceCtorEq] at h
            · simp only [ht, hu, hl, OR.step, Option.map_none, reduceCtorEq] at h
            · exact ⟨x, y, rfl⟩
            · simp only [ht, hu, hl, OR.step, Option.map_none, reduceCtorEq] at h
          simp only [ht, hu, hargs] at h
          have h := sto_step copyE_kill h
          simp only [isEff, hc, if_true, ev2, ht, hu, hargs]
          exact h
    all_goals simp only [OR.step, Option.map_none, reduceCtorEq] at h
    case alloc t => exact h
    case box t x => exact h
    case buildSlice t len ps =>
      rw [← h]
      simp only [isEff, Bool.false_eq_true, if_false, ev1, buildSliceO]
      generalize (tyi C.P t).d = dd
      cases dd <;> rfl
    case makeSlice t l c => exact h
noncomputable def runC (C : Ctx) (ops : Array Oper) : List Oper → Env → Store → (Env → Store → Option R) → Option R
  | [], e, S, K => K e S
  | o :: r, e, S, K => match o.guard with
    | none => (match evOp C o.op e S with
      | .val x => withV x fun v => runC C ops r (putD e o.dst v) S K
      | .out x => withN x S fun v S => runC C ops r (putD e o.dst v) S K
      | .eff x => withE x e fun v e S => runC C ops r (putD e o.dst v) S K
      | .sto x => withS x fun v S => runC C ops r (putD e o.dst v) S K)
    | some (j, want) => (match (ops[j]?).bind (·.dst) with
      | none => runC C ops r (putD e o.dst .skip) S K
      | some t => (match evOp C o.op e S with
        | .val x => withV (gval (get e t) want x) fun v => runC C ops r (putD e o.dst v) S K
        | .out x => withN (gout (get e t) want x) S fun v S => runC C ops r (putD e o.dst v) S K
        | .eff x => withE (geff (get e t) want S x) e fun v e S => runC C ops r (putD e o.dst v) S K
        | .sto x => withS (geff (get e t) want S x) fun v S => runC C ops r (putD e o.dst v) S K))
theorem runC_sound {C : Ctx} {ops : Array Oper} : ∀ (l : List Oper) {e : Env} {S : Store} {K : Env → Store → Option R} {z : R}, runC C ops l e S K = some z → ∃ e' S', runOps C ops l e S = some (e', S') ∧ K e' S' = some z
  | [], e, S, K, z, h => ⟨e, S, rfl, h⟩
  | o :: r, e, S, K, z, h => by
    have fin : ∀ {e1 : Env} {S1 : Store}, stepOp C ops o e S = some (e1, S1) → runC C ops r e1 S1 K = some z → ∃ e' S', runOps C ops (o :: r) e S = some (e', S') ∧ K e' S' = some z := fun hs hr => by
      obtain ⟨e', S', h1, h2⟩ := runC_sound r hr
      exact ⟨e', S', by simp only [runOps, hs, Option.bind_some, h1], h2⟩
    have yes : ∀ {e1 : Env} {S1 : Store}, wantedV ops e o = some true → (evOp C o.op e S).step o.dst e S = some (e1, S1) → stepOp C ops o e S = some (e1, S1) := fun hw hs => by
      simp only [stepOp, hw, Option.bind_some, if_true]
      exact evOp_spec hs
    have no : wantedV ops e o = some false → stepOp C ops o e S = some (putD e o.dst .skip, S) := fun hw => by
      simp only [stepOp, hw, Option.bind_some, Bool.false_eq_true, if_false]
    simp only [runC] at h
    cases hg : o.guard with
    | none =>
      rw [hg] at h
      simp only at h
      have hw : wantedV ops e o = some true := by simp only [wantedV, hg]
      cases hq : evOp C o.op e S with
      | val x =>
        rw [hq] at h
        obtain ⟨v, h1, h2⟩ := bind_some h
        exact fin (yes hw (by rw [hq]; simp only [OR.step, h1, Option.map_some])) h2
      | out x =>
        rw [hq] at h
        obtain ⟨v, h1, h2⟩ := bind_some h
        exact fin (yes hw (by rw [hq]; simp only [OR.step, h1, Option.map_some])) h2
      | eff x =>
        rw [hq] at h
        obtain ⟨v, h1, h2⟩ := bind_some h
        exact fin (yes hw (by rw [hq]; simp only [OR.step, h1, Option.map_some])) h2
      | sto x =>
        rw [hq] at h
        obtain ⟨v, h1, h2⟩ := bind_some h
        exact fin (yes hw (by rw [hq]; simp only [OR.step, h1, Option.map_some])) h2
    | some p =>
      obtain ⟨j, want⟩ := p
      rw [hg] at h
      simp only at h
      cases ht : (ops[j]?).bind (·.dst) with
      | none =>
        rw [ht] at h
        exact fin (no (by simp only [wantedV, hg, ht])) h
      | some t =>
        rw [ht] at h
        simp only at h
        have hw : wantedV ops e o = (match get e t with | .bool b => some (b == want) | .skip => some false | _ => none) := by
          simp only [wantedV, hg, ht]
          cases get e t <;> rfl
        cases hq : evOp C o.op e S with
        | val x =>
          rw [hq] at h
          obtain ⟨v, h1, h2⟩ := bind_some h
          cases hv : get e t <;> rw [hv] at h1 hw <;> simp only [gval, reduceCtorEq, Option.some.injEq] at h1
          case skip => subst h1; exact fin (no hw) h2
          case bool b =>
            split at h1
            · rename_i hb
              exact fin (yes (by rw [hw, hb]; simp) (by rw [hq]; simp only [OR.step, h1, Option.map_some])) h2
            · rename_i hb
              simp only [Option.some.injEq] at h1
              subst h1
              exact fin (no (by rw [hw]; simp [hb])) h2
        | out x =>
          rw [hq] at h
          obtain ⟨v, h1, h2⟩ := bind_some h
          cases hv : get e t <;> rw [hv] at h1 hw <;> simp only [gout, reduceCtorEq, Option.some.injEq] at h1
          case skip => subst h1; exact fin (no hw) h2
          case bool b =>
            split at h1
            · rename_i hb
              exact fin (yes (by rw [hw, hb]; simp) (by rw [hq]; simp only [OR.step, h1, Option.map_some])) h2
            · rename_i hb
              simp only [Option.some.injEq] at h1
              subst h1
              exact fin (no (by rw [hw]; simp [hb])) h2
        | eff x =>
          rw [hq] at h
          obtain ⟨v, h1, h2⟩ := bind_some h
          cases hv : get e t <;> rw [hv] at h1 hw <;> simp only [geff, reduceCtorEq, Option.some.injEq] at h1
          case skip => subst h1; exact fin (no hw) h2
          case bool b =>
            split at h1
            · rename_i hb
              exact fin (yes (by rw [hw, hb]; simp) (by rw [hq]; simp only [OR.step, h1, Option.map_some])) h2
            · rename_i hb
              simp only [Option.some.injEq] at h1
              subst h1
              exact fin (no (by rw [hw]; simp [hb])) h2
        | sto x =>
          rw [hq] at h
          obtain ⟨v, h1, h2⟩ := bind_some h
          cases hv : get e t <;> rw [hv] at h1 hw <;> simp only [geff, reduceCtorEq, Option.some.injEq] at h1
          case skip => subst h1; exact fin (no hw) h2
          case bool b =>
            split at h1
            · rename_i hb
              exact fin (yes (by rw [hw, hb]; simp) (by rw [hq]; simp only [OR.step, h1, Option.map_some])) h2
            · rename_i hb
              simp only [Option.some.injEq] at h1
              subst h1
              exact fin (no (by rw [hw]; simp [hb])) h2
end
end Go.Vs
end
section
set_option linter.unusedVariables false
set_option linter.unusedSimpArgs false
namespace Go.Vs
open Go
section
variable {R : Type}
def condC (v : PV) (x y : Option R) : Option R := match v with
  | .bool t => if t = true then x else y
  | _ => none
def loopC (body : (Vs.X → Env → Store → Option R) → Env → Store → Option R) (norm : Env → Store → Option (Env × Store)) (K : Vs.X → Env → Store → Option R) : Nat → Env → Store → Option R
  | 0, _, _ => none
  | n + 1, e, S => body (fun r e S => match r with
    | .normal => (norm e S).bind fun q => loopC body norm K n q.1 q.2
    | .exit i => K (.exit i) e S
    | .ret => K .ret e S) e S
def seqC (K' : Env → Store → Option R) (K : Vs.X → Env → Store → Option R) : Vs.X → Env → Store → Option R
  | .normal, e, S => K' e S
  | .exit i, e, S => K (.exit i) e S
  | .ret, e, S => K .ret e S
def blockC (id : Nat) (K : Vs.X → Env → Store → Option R) : Vs.X → Env → Store → Option R
  | .exit i, e, S => if i = id then K .normal e S else K (.exit i) e S
  | .normal, e, S => K .normal e S
  | .ret, e, S => K .ret e S
def afterC (b n : Nat) (after : List Nat) (K : Vs.X → Env → Store → Option R) : Vs.X → Env → Store → Option R
  | .exit i, e, S => if i = b then K (.exit i) (keepOnly after e) (gc n (keepOnly after e) S) else K (.exit i) e S
  | .normal, e, S => K .normal e S
  | .ret, e, S => K .ret e S
end
def endC (P : Program) (fn : Func) (x : Vs.X) (e : Env) (S : Store) : Option (PV × Store) := match x with
  | .exit _ => none
  | .normal => (evResults P fn e S).map fun v => (v, S)
  | .ret => (evResults P fn e S).map fun v => (v, S)
end Go.Vs
end
section
set_option linter.unusedVariables false
set_option linter.unusedSimpArgs false
namespace Go.Vs
open Go
section
variable {α β : Type}
def Evt (f : Nat → α) (z : α) : Prop := ∃ k0, ∀ k, k0 ≤ k → f k = z
theorem Evt.unique {f : Nat → α} {y z : α} (h : Evt f y) (g : Evt f z) : y = z := by
  obtain ⟨a, ha⟩ := h
  obtain ⟨b, hb⟩ := g
  rw [← ha (max a b) (by omega), hb (max a b) (by omega)]
theorem Evt.const (z : α) : Evt (fun _ => z) z := ⟨0, fun _ _ => rfl⟩
theorem Evt.map {f : Nat → α} {z : α} (h : Evt f z) (g : α → β) : Evt (fun k => g (f k)) (g z) := by
  obtain ⟨a, ha⟩ := h
  exact ⟨a, fun k hk => by simp only [ha k hk]⟩
theorem Evt.bind {f : Nat → Option α} {g : Nat → α → Option β} {y : α} {z : Option β} (h : Evt f (some y)) (k : Evt (fun n => g n y) z) : Evt (fun n => (f n).bind (g n)) z := by
  obtain ⟨a, ha⟩ := h
  obtain ⟨b, hb⟩ := k
  exact ⟨max a b, fun n hn => by simp only [ha n (by omega), Option.bind_some, hb n (by omega)]⟩
theorem Evt.succ {f : Nat → α} {z : α} (h : Evt (fun k => f (k + 1)) z) : Evt f z := by
  obtain ⟨a, ha⟩ := h
  refine ⟨a + 1, fun k hk => ?_⟩
  obtain ⟨m, rfl⟩ : ∃ m, k = m + 1 := ⟨k - 1, by omega⟩
  exact ha m (by omega)
open Classical in
noncomputable def lim (f : Nat → Option α) : Option α := if h : ∃ z, Evt f (some z) then some h.choose else none
theorem lim_of {f : Nat → Option α} {z : Option α} (h : Evt f z) : lim f = z := by
  unfold lim
  split
  · rename_i hq
    exact (hq.choose_spec).unique h
  · rename_i hq
    cases z with
    | none => rfl
    | some z => exact absurd ⟨z, h⟩ hq
theorem lim_some {f : Nat → Option α} {z : α} (h : lim f = some z) : Evt f (some z) := by
  unfold lim at h
  split at h
  · rename_i hq
    cases h
    exact hq.choose_spec
  · cases h
end
noncomputable def callRL (P : Program) (H : Hints) (f : FuncId) (args : List PV) (S : Store) : Option (PV × Store) := lim fun k => callF P H k f args S
noncomputable def callL (P : Program) (H : Hints) (f : FuncId) (args : List PV) : Option PV := (callRL P H f args []).bind fun r => fzPV r.2 r.1
theorem callL_evt {P : Program} {H : Hints} {f : FuncId} {args : List PV} {v : PV} (h : callL P H f args = some v) : Evt (fun k => callP P H k f args) (some v) := by
  obtain ⟨r, h1, h2⟩ := bind_some h
  rw [← h2]
  exact (lim_some h1).map fun x => x.bind fun r => fzPV r.2 r.1
theorem callP_of {P : Program} {H : Hints} {f : FuncId} {args : List PV} {v : PV} (h : callL P H f args = some v) : ∃ n, callP P H n f args = some v := by
  obtain ⟨k, hk⟩ := callL_evt h
  exact ⟨k, hk k (Nat.le_refl _)⟩
noncomputable def ctxL (P : Program) (H : Hints) (base : Nat) (h : Hint) : Ctx := { P, H, cp := callL P H, cr := callRL P H, base, h }
noncomputable def ctxK (P : Program) (H : Hints) (base : Nat) (h : Hint) (k : Nat) : Ctx := { P, H, cp := fun g as => (callF P H k g as []).bind fun (r, S) => fzPV S r, cr := callF P H k, base, h }
section
variable {R : Type}
noncomputable def loopL (body : (Vs.X → Env → Store → Option R) → Env → Store → Option R) (norm : Env → Store → Option (Env × Store)) (K : Vs.X → Env → Store → Option R) (e : Env) (S : Store) : Option R := lim fun n => loopC body norm K n e S
noncomputable def execL (C : Ctx) : Nat → Code → (Vs.X → Env → Store → Option R) → Env → Store → Option R
  | _, .skip, K, e, S => K .normal e S
  | _, .region id ops draw, K, e, S =>
    if draw = true then (if (drawOK ops (kindS C.H ops) || drawOK ops (fun j => (kindsOf C ops ops.toList e S).getD j 0)) = true then runC C ops ops.toList e S (fun e S => K .normal (trim (C.h.at id) e) S) else none)
    else runC C ops ops.toList e S (fun e S => K .normal (trim (C.h.at id) e) S)
  | b, .seq x y, K, e, S => execL C b x (seqC (fun e S => execL C b y K e S) K) e S
  | b, .cond c x y, K, e, S => condC (ev e c) (execL C b x K e S) (execL C b y K e S)
  | _, .block id body, K, e, S => execL C id body (blockC id K) e S
  | b, .loop body, K, e, S =>
    (C.h.loops.lookup b).bind fun h =>
    (fzSlots h.fz (ownAll h.own (keepOnly h.live e) S).1 (ownAll h.own (keepOnly h.live e) S).2).bind fun r =>
    loopL (fun K e S => execL C b body K e S) (normG h.live h.fz r.2.length) (afterC b r.2.length h.after K) r.1 r.2
  | _, .exit id, K, e, S => K (.exit id) e S
  | _, .ret, K, e, S => K .ret e S
  | _, _, _, _, _ => none
def LinR (F : (Env → Store → Option R) → Option R) : Prop := ∀ K z, F K = some z → ∃ e S, K e S = some z ∧ ∀ K', F K' = K' e S
def Lin (F : (Vs.X → Env → Store → Option R) → Option R) : Prop := ∀ K z, F K = some z → ∃ x e S, K x e S = some z ∧ ∀ K', F K' = K' x e S
theorem lin_runC (C : Ctx) (ops : Array Oper) : ∀ (l : List Oper) (e : Env) (S : Store), LinR (R := R) fun K => runC C ops l e S K
  | [], e, S, K, z, h => ⟨e, S, h, fun _ => rfl⟩
  | o :: r, e, S, K, z, h => by
    simp only [runC] at h ⊢
    split at h
    · split at h
      · obtain ⟨v, h1, h2⟩ := bind_some h
        subst h1
        exact lin_runC C ops r _ _ K z h2
      · obtain ⟨v, h1, h2⟩ := bind_some h
        subst h1
        exact lin_runC C ops r _ _ K z h2
      · obtain ⟨v, h1, h2⟩ := bind_some h
        subst h1
        exact lin_runC C ops r _ _ K z h2
      · obtain ⟨v, h1, h2⟩ := bind_some h
        subst h1
        exact lin_runC C ops r _ _ K z h2
    · split at h
      · rename_i ht
        exact lin_runC C ops r _ _ K z h
      · rename_i ht
        split at h
        · obtain ⟨v, h1, h2⟩ := bind_some h
          simp only [h1, withV, Option.bind_some]
          exact lin_runC C ops r _ _ K z h2
        · obtain ⟨v, h1, h2⟩ := bind_some h
          simp only [h1, withN, Option.bind_some]
          exact lin_runC C ops r _ _ K z h2
        · obtain ⟨v, h1, h2⟩ := bind_some h
          simp only [h1, withE, Option.bind_some]
          exact lin_runC C ops r _ _ K z h2
        · obtain ⟨v, h1, h2⟩ := bind_some h
          simp only [h1, withS, Option.bind_some]
          exact lin_runC C ops r _ _ K z h2
theorem lin_loopC {body : (Vs.X → Env → Store → Option R) → Env → Store → Option R} (hb : ∀ e S, Lin fun K => body K e S) {norm : Env → Store → Option (Env × Store)} : ∀ (n : Nat) (K : Vs.X → Env → Store → Option R) (e : Env) (S : Store) (z : R), loopC body norm K n e S = some z → ∃ x e' S', K x e' S' = some z ∧ ∀ K', loopL body norm K' e S = K' x e' S'
  | 0, K, e, S, z, h => by cases h
  | n + 1, K, e, S, z, h => by
    simp only [loopC] at h
    obtain ⟨x, e1, S1, h1, h2⟩ := hb e S _ _ h
    dsimp only at h2
    cases x with
    | normal =>
      simp only at h1
      obtain ⟨q, h3, h4⟩ := bind_some h1
      obtain ⟨x, e2, S2, h5, h6⟩ := lin_loopC hb n K _ _ z h4
      refine ⟨x, e2, S2, h5, fun K' => ?_⟩
      rw [← h6 K']
      unfold loopL
      cases hl : lim fun n => loopC body norm K' n q.1 q.2 with
      | some y =>
        refine lim_of (Evt.succ ?_)
        simp only [loopC, h2, h3, Option.bind_some]
        exact lim_some hl
      | none =>
        cases hl' : lim fun n => loopC body norm K' n e S with
        | none => rfl
        | some y =>
          have := lim_some hl'
          have h7 : Evt (fun n => loopC body norm K' n q.1 q.2) (some y) := by
            obtain ⟨k, hk⟩ := this
            refine ⟨k, fun m hm => ?_⟩
            have := hk (m + 1) (by omega)
            simp only [loopC, h2, h3, Option.bind_some] at this
            exact this
          rw [lim_of h7] at hl
          cases hl
    | exit i =>
      refine ⟨.exit i, e1, S1, h1, fun K' => lim_of (Evt.succ ?_)⟩
      simp only [loopC, h2]
      exact .const _
    | ret =>
      refine ⟨.ret, e1, S1, h1, fun K' => lim_of (Evt.succ ?_)⟩
      simp only [loopC, h2]
      exact .const _
theorem lin_loopL {body : (Vs.X → Env → Store → Option R) → Env → Store → Option R} (hb : ∀ e S, Lin fun K => body K e S) (norm : Env → Store → Option (Env × Store)) (e : Env) (S : Store) : Lin fun K => loopL body norm K e S := fun K z h => by
  obtain ⟨n, hn⟩ := lim_some h
  exact lin_loopC hb n K e S z (hn n (Nat.le_refl _))
theorem lin_execL (C : Ctx) : ∀ (c : Code) (b : Nat) (e : Env) (S : Store), Lin (R := R) fun K => execL C b c K e S := by
  intro c
  induction c with
  | skip => intro b e S K z h; exact ⟨_, _, _, h, fun _ => rfl⟩
  | region id ops draw =>
    intro b e S K z h
    simp only [execL] at h ⊢
    split at h
    · split at h
      · rename_i hd
        simp only [hd, if_true]
        obtain ⟨e', S', h1, h2⟩ := lin_runC C ops _ _ _ _ _ h
        exact ⟨_, _, _, h1, fun K' => by rw [if_pos (by assumption)]; exact h2 _⟩
      · cases h
    · rename_i hd
      obtain ⟨e', S', h1, h2⟩ := lin_runC C ops _ _ _ _ _ h
      exact ⟨_, _, _, h1, fun K' => by rw [if_neg hd]; exact h2 _⟩
  | seq p q ihp ihq =>
    intro b e S K z h
    simp only [execL] at h ⊢
    obtain ⟨x, e1, S1, h1, h2⟩ := ihp b e S _ _ h
    dsimp only at h2
    cases x with
    | normal =>
      obtain ⟨x, e2, S2, h3, h4⟩ := ihq b e1 S1 _ _ h1
      dsimp only at h4
      exact ⟨x, e2, S2, h3, fun K' => by rw [h2]; exact h4 K'⟩
    | exit i => exact ⟨_, _, _, h1, fun K' => by rw [h2]; rfl⟩
    | ret => exact ⟨_, _, _, h1, fun K' => by rw [h2]; rfl⟩
  | cond o p q ihp ihq =>
    intro b e S K z h
    simp only [execL] at h ⊢
    cases hv : ev e o <;> rw [hv] at h <;> simp only [condC, reduceCtorEq] at h
    rename_i t
    cases t with
    | true =>
      simp only [if_true] at h
      obtain ⟨x, e1, S1, h1, h2⟩ := ihp b e S _ _ h
      dsimp only at h2
      exact ⟨x, e1, S1, h1, fun K' => by simp only [condC, if_true]; exact h2 K'⟩
    | false =>
      simp only [Bool.false_eq_true, if_false] at h
      obtain ⟨x, e1, S1, h1, h2⟩ := ihq b e S _ _ h
      dsimp only at h2
      exact ⟨x, e1, S1, h1, fun K' => by simp only [condC, Bool.false_eq_true, if_false]; exact h2 K'⟩
  | block id body ih =>
    intro b e S K z h
    simp only [execL] at h ⊢
    obtain ⟨x, e1, S1, h1, h2⟩ := ih id e S _ _ h
    dsimp only at h2
    cases x with
    | normal => exact ⟨_, _, _, h1, fun K' => by rw [h2]; rfl⟩
    | ret => exact ⟨_, _, _, h1, fun K' => by rw [h2]; rfl⟩
    | exit i =>
      simp only [blockC] at h1
      by_cases hi : i = id
      · rw [if_pos hi] at h1
        exact ⟨_, _, _, h1, fun K' => by rw [h2]; simp only [blockC, if_pos hi]⟩
      · rw [if_neg hi] at h1
        exact ⟨_, _, _, h1, fun K' => by rw [h2]; simp only [blockC, if_neg hi]⟩
  | loop body ih =>
    intro b e S K z h
    simp only [execL] at h ⊢
    obtain ⟨hh, h1, h⟩ := bind_some h
    obtain ⟨r, h2, h⟩ := bind_some h
    simp only [h1, h2, Option.bind_some]
    obtain ⟨x, e1, S1, h3, h4⟩ := lin_loopL (fun e S => ih b e S) _ _ _ _ _ h
    dsimp only at h4
    cases x with
    | normal => exact ⟨_, _, _, h3, fun K' => by rw [h4]; rfl⟩
    | ret => exact ⟨_, _, _, h3, fun K' => by rw [h4]; rfl⟩
    | exit i =>
      simp only [afterC] at h3
      by_cases hi : i = b
      · rw [if_pos hi] at h3
        exact ⟨_, _, _, h3, fun K' => by rw [h4]; simp only [afterC, if_pos hi]⟩
      · rw [if_neg hi] at h3
        exact ⟨_, _, _, h3, fun K' => by rw [h4]; simp only [afterC, if_neg hi]⟩
  | exit id => intro b e S K z h; exact ⟨_, _, _, h, fun _ => rfl⟩
  | ret => intro b e S K z h; exact ⟨_, _, _, h, fun _ => rfl⟩
  | _ => intro b e S K z h; simp [execL] at h
def stepC (norm : Env → Store → Option (Env × Store)) (K : Vs.X → Env → Store → Option R) (again : Env → Store → Option R) : Vs.X → Env → Store → Option R
  | .normal, e, S => (norm e S).bind fun q => again q.1 q.2
  | .exit i, e, S => K (.exit i) e S
  | .ret, e, S => K .ret e S
theorem loopL_step {C : Ctx} {b : Nat} {c : Code} {norm : Env → Store → Option (Env × Store)} {K : Vs.X → Env → Store → Option R} {e : Env} {S : Store} {z : R}
    (h : execL C b c (stepC norm K (loopL (fun K e S => execL C b c K e S) norm K)) e S = some z) : loopL (fun K e S => execL C b c K e S) norm K e S = some z := by
  obtain ⟨x, e1, S1, h1, h2⟩ := lin_execL C c b e S _ _ h
  dsimp only at h2
  refine lim_of (Evt.succ ?_)
  simp only [loopC, h2]
  cases x with
  | normal =>
    simp only [stepC] at h1
    obtain ⟨q, h3, h4⟩ := bind_some h1
    simp only [h3, Option.bind_some]
    exact lim_some h4
  | exit i => exact ⟨0, fun _ _ => h1⟩
  | ret => exact ⟨0, fun _ _ => h1⟩
end
end Go.Vs
end
section
set_option linter.unusedVariables false
set_option linter.unusedSimpArgs false
namespace Go.Vs
open Go
section
variable {P : Program} {H : Hints} {base : Nat} {h : Hint}
theorem ev1_evt {o : Oper} {e : Env} {S : Store} {nid : Nat} {x : Out} (hx : ev1 P (callL P H) o e S nid = some x) : Evt (fun k => ev1 P (ctxK P H base h k).cp o e S nid) (some x) := by
  obtain ⟨dst, op, type, pos, after, guard⟩ := o
  cases op
  case call c =>
    cases hc : c.callee with
    | value f =>
      simp only [ev1, hc] at hx ⊢
      split at hx
      · split at hx
        · rename_i hr
          simp only [hr, if_true]
          obtain ⟨as, h1, h2⟩ := bind_some hx
          obtain ⟨v, h3, rfl⟩ := map_some h2
          simp only [h1, Option.bind_some]
          exact (callL_evt h3).map (Option.map _)
        · cases hx
      · cases hx
    | builtin b => simp only [ev1, hc] at hx ⊢; cases b <;> exact ⟨0, fun _ _ => hx⟩
    | invoke r m => simp only [ev1, hc] at hx; cases hx
  case makeFunc fn first caps => cases fn <;> exact ⟨0, fun _ _ => hx⟩
  all_goals exact ⟨0, fun _ _ => hx⟩
theorem ev2_evt {o : Oper} {e : Env} {S : Store} {x : Eff} (hx : ev2 (ctxL P H base h) o e S = some x) : Evt (fun k => ev2 (ctxK P H base h k) o e S) (some x) := by
  obtain ⟨dst, op, type, pos, after, guard⟩ := o
  cases op
  case call c =>
    cases hc : c.callee with
    | value f =>
      cases hf : ev e f <;> simp only [ev2, hc, hf, reduceCtorEq] at hx ⊢
      case fn f first caps =>
        by_cases hr : H.refs f = true
        · have hL : (ctxL P H base h).H.refs f = true := hr
          have hK : ∀ k, (ctxK P H base h k).H.refs f = true := fun _ => hr
          rw [if_pos hL] at hx
          simp only [hK, if_true]
          obtain ⟨r, h1, h2⟩ := bind_some hx
          rw [← h2]
          exact (lim_some h1).map fun x => x.bind fun r => if S.length ≤ r.2.length ∧ closedS S = true ∧ belowL S.length (first ++ List.map (ev e) c.args.toList ++ caps) = true ∧ Keep0 (H.reads f) S r.2 then some ({ v := r.1, S := r.2 } : Eff) else none
        · have hL : ¬ (ctxL P H base h).H.refs f = true := hr
          have hK : ∀ k, ¬ (ctxK P H base h k).H.refs f = true := fun _ => hr
          rw [if_neg hL] at hx
          simp only [hK, if_false, Bool.false_eq_true]
          obtain ⟨as, h1, h2⟩ := bind_some hx
          obtain ⟨v, h3, rfl⟩ := map_some h2
          simp only [h1, Option.bind_some]
          exact (callL_evt h3).map (Option.map _)
    | builtin b => simp only [ev2, hc] at hx ⊢; cases b <;> exact ⟨0, fun _ _ => hx⟩
    | invoke r m => simp only [ev2, hc] at hx; cases hx
  all_goals exact ⟨0, fun _ _ => hx⟩
theorem stepOp_evt {ops : Array Oper} {o : Oper} {e : Env} {S : Store} {x : Env × Store} (hx : stepOp (ctxL P H base h) ops o e S = some x) : Evt (fun k => stepOp (ctxK P H base h k) ops o e S) (some x) := by
  unfold stepOp at hx ⊢
  obtain ⟨w, h1, h2⟩ := bind_some hx
  simp only [h1, Option.bind_some]
  cases w with
  | false => exact ⟨0, fun _ _ => h2⟩
  | true =>
    simp only [if_true] at h2 ⊢
    by_cases hf : isEff H o e = true
    · have hL : isEff (ctxL P H base h).H o e = true := hf
      have hK : ∀ k, isEff (ctxK P H base h k).H o e = true := fun _ => hf
      rw [if_pos hL] at h2
      simp only [hK, if_true]
      obtain ⟨r, h3, rfl⟩ := map_some h2
      exact (ev2_evt h3).map (Option.map _)
    · have hL : ¬ isEff (ctxL P H base h).H o e = true := hf
      have hK : ∀ k, ¬ isEff (ctxK P H base h k).H o e = true := fun _ => hf
      rw [if_neg hL] at h2
      simp only [hK, if_false, Bool.false_eq_true]
      obtain ⟨r, h3, rfl⟩ := map_some h2
      exact (ev1_evt (base := base) (h := h) h3).map (Option.map _)
theorem runOps_evt {ops : Array Oper} : ∀ (l : List Oper) {e : Env} {S : Store} {x : Env × Store}, runOps (ctxL P H base h) ops l e S = some x → Evt (fun k => runOps (ctxK P H base h k) ops l e S) (some x)
  | [], e, S, x, hx => ⟨0, fun _ _ => hx⟩
  | o :: r, e, S, x, hx => by
    simp only [runOps] at hx ⊢
    obtain ⟨q, h1, h2⟩ := bind_some hx
    exact (stepOp_evt h1).bind (runOps_evt r h2)
theorem kindsOf_evt {ops : Array Oper} : ∀ (l : List Oper) {e : Env} {S : Store} {x : Env × Store}, runOps (ctxL P H base h) ops l e S = some x → Evt (fun k => kindsOf (ctxK P H base h k) ops l e S) (kindsOf (ctxL P H base h) ops l e S)
  | [], e, S, x, hx => .const _
  | o :: r, e, S, x, hx => by
    simp only [runOps] at hx
    obtain ⟨q, h1, h2⟩ := bind_some hx
    obtain ⟨a, ha⟩ := stepOp_evt h1
    obtain ⟨b, hb⟩ := kindsOf_evt r h2
    refine ⟨max a b, fun k hk => ?_⟩
    simp only [kindsOf, ha k (by omega), h1, hb k (by omega)]
    rfl
theorem runRegion_evt {ops : Array Oper} {draw : Bool} {e : Env} {S : Store} {x : Env × Store} (hx : runRegion (ctxL P H base h) ops draw e S = some x) : Evt (fun k => runRegion (ctxK P H base h k) ops draw e S) (some x) := by
  unfold runRegion at hx ⊢
  cases draw with
  | false => simp only [Bool.false_eq_true, if_false] at hx ⊢; exact runOps_evt _ hx
  | true =>
    simp only [if_true] at hx ⊢
    split at hx
    case isFalse => cases hx
    rename_i hd
    obtain ⟨a, ha⟩ := runOps_evt _ hx
    obtain ⟨b, hb⟩ := kindsOf_evt _ hx
    refine ⟨max a b, fun k hk => ?_⟩
    have hb := hb k (by omega)
    have ha := ha k (by omega)
    dsimp only at hb ha ⊢
    rw [hb, ha]
    exact if_pos hd
variable {R : Type}
theorem execL_sound : ∀ (c : Code) (b : Nat) {K : Vs.X → Env → Store → Option R} {e : Env} {S : Store} {z : R}, execL (ctxL P H base h) b c K e S = some z → ∃ x e' S', K x e' S' = some z ∧ Evt (fun k => exec (ctxK P H base h k) k b c e S) (some (x, e', S')) := by
  intro c
  induction c with
  | skip => intro b K e S z h; exact ⟨_, _, _, h, .const _⟩
  | region id ops draw =>
    intro b K e S z hz
    have fin : ∀ {K' : Env → Store → Option R}, runC (ctxL P H base h) ops ops.toList e S K' = some z → K' = (fun e S => K .normal (trim (h.at id) e) S) → (runRegion (ctxL P H base h) ops draw e S = runOps (ctxL P H base h) ops ops.toList e S) → ∃ x e' S', K x e' S' = some z ∧ Evt (fun k => exec (ctxK P H base h k) k b (.region id ops draw) e S) (some (x, e', S')) := fun hr hK hreg => by
      subst hK
      obtain ⟨e', S', h1, h2⟩ := runC_sound _ hr
      rw [h1] at hreg
      exact ⟨.normal, _, _, h2, (runRegion_evt hreg).map (Option.map fun (r : Env × Store) => (X.normal, trim (h.at id) r.1, r.2))⟩
    simp only [execL] at hz
    cases draw with
    | false => simp only [Bool.false_eq_true, if_false] at hz; exact fin hz rfl (by simp [runRegion])
    | true =>
      simp only [if_true] at hz
      split at hz
      · rename_i hd; exact fin hz rfl (by simp only [runRegion, if_true, hd])
      · cases hz
  | seq p q ihp ihq =>
    intro b K e S z hz
    simp only [execL] at hz
    obtain ⟨x, e1, S1, h1, h2⟩ := ihp b hz
    cases x with
    | normal =>
      obtain ⟨x, e2, S2, h3, h4⟩ := ihq b h1
      exact ⟨x, e2, S2, h3, h2.bind (g := fun k (w : X × Env × Store) => match w.1 with | .normal => exec (ctxK P H base h k) k b q w.2.1 w.2.2 | r => some (r, w.2.1, w.2.2)) h4⟩
    | exit i => exact ⟨_, _, _, h1, h2.bind (.const _)⟩
    | ret => exact ⟨_, _, _, h1, h2.bind (.const _)⟩
  | cond o p q ihp ihq =>
    intro b K e S z hz
    simp only [execL] at hz
    unfold condC at hz
    split at hz
    · rename_i t ht
      split at hz
      · rename_i hb
        obtain ⟨x, e1, S1, h1, h2⟩ := ihp b hz
        exact ⟨x, e1, S1, h1, by simpa only [exec, condV, ht, hb, if_true] using h2⟩
      · rename_i hb
        have hb' : t = false := by simpa using hb
        obtain ⟨x, e1, S1, h1, h2⟩ := ihq b hz
        exact ⟨x, e1, S1, h1, by simpa only [exec, condV, ht, hb', Bool.false_eq_true, if_false] using h2⟩
    · cases hz
  | block id body ih =>
    intro b K e S z hz
    simp only [execL] at hz
    obtain ⟨x, e1, S1, h1, h2⟩ := ih id hz
    refine ⟨if x = .exit id then .normal else x, e1, S1, ?_, h2.map (Option.map _)⟩
    cases x with
    | normal => exact h1
    | ret => exact h1
    | exit i =>
      simp only [blockC] at h1
      by_cases hi : i = id
      · subst hi; simpa using h1
      · rw [if_neg hi] at h1; simpa [hi] using h1
  | loop body ih =>
    intro b K e S z hz
    simp only [execL] at hz
    obtain ⟨hh, h1, hz⟩ := bind_some hz
    obtain ⟨r, h2, hz⟩ := bind_some hz
    obtain ⟨n, hn⟩ := lim_some hz
    have hn := hn n (Nat.le_refl _)
    have key : ∀ (n : Nat) {K : Vs.X → Env → Store → Option R} {e : Env} {S : Store}, loopC (fun K e S => execL (ctxL P H base h) b body K e S) (normG hh.live hh.fz r.2.length) K n e S = some z →
        ∃ x e' S', K x e' S' = some z ∧ ∃ k0, ∀ k, k0 ≤ k → ∀ m, k0 ≤ m → loopN (exec (ctxK P H base h k) k b body) (normG hh.live hh.fz r.2.length) m e S = some (x, e', S') := by
      intro n
      induction n with
      | zero => intro K e S h; cases h
      | succ n ihn =>
        intro K e S hz
        simp only [loopC] at hz
        obtain ⟨x, e1, S1, h4, k1, h3⟩ := ih b hz
        cases x with
        | normal =>
          obtain ⟨q, h5, h6⟩ := bind_some h4
          obtain ⟨x, e2, S2, h8, k2, h7⟩ := ihn h6
          refine ⟨x, e2, S2, h8, max k1 (k2 + 1), fun k hk m hm => ?_⟩
          obtain ⟨m, rfl⟩ : ∃ i, m = i + 1 := ⟨m - 1, by omega⟩
          simp only [loopN, h3 k (by omega), Option.bind_some, h5, h7 k (by omega) m (by omega)]
        | exit i => exact ⟨_, _, _, h4, max k1 1, fun k hk m hm => by
            obtain ⟨m, rfl⟩ : ∃ i, m = i + 1 := ⟨m - 1, by omega⟩
            simp only [loopN, h3 k (by omega), Option.bind_some]⟩
        | ret => exact ⟨_, _, _, h4, max k1 1, fun k hk m hm => by
            obtain ⟨m, rfl⟩ : ∃ i, m = i + 1 := ⟨m - 1, by omega⟩
            simp only [loopN, h3 k (by omega), Option.bind_some]⟩
    obtain ⟨x, e1, S1, h4, k0, h3⟩ := key n hn
    have base' : ∀ k, k0 ≤ k → exec (ctxK P H base h k) k b (.loop body) e S = some (afterG b r.2.length hh.after (x, e1, S1)) := fun k hk => by
      have h1' : (ctxK P H base h k).h.loops.lookup b = some hh := h1
      simp only [exec, h1', Option.bind_some, h2, h3 k hk k hk, Option.map_some]
    cases x with
    | normal => exact ⟨_, _, _, h4, k0, base'⟩
    | ret => exact ⟨_, _, _, h4, k0, base'⟩
    | exit i =>
      simp only [afterC] at h4
      by_cases hi : i = b
      · subst hi
        rw [if_pos rfl] at h4
        exact ⟨_, _, _, h4, k0, fun k hk => by simp only [base' k hk, afterG, if_true]⟩
      · rw [if_neg hi] at h4
        exact ⟨_, _, _, h4, k0, fun k hk => by simp only [base' k hk, afterG, Vs.X.exit.injEq, hi, if_false]⟩
  | exit id => intro b K e S z h; exact ⟨_, _, _, h, .const _⟩
  | ret => intro b K e S z h; exact ⟨_, _, _, h, .const _⟩
  | _ => intro b K e S z h; simp [execL] at h
end
theorem callRL_of {P : Program} {H : Hints} {f : FuncId} {fn : Func} {c : Code} (ho : H.orc f = none) (hf : P.funcs[f]? = some fn) (hb : fn.body = some c) (hn : fn.name ≠ "runtime.NumGoroutine") (hc : codeOK fn.ntmps c = true) {args : List PV} (ha : args.length ≤ fn.ntmps) {S : Store} {r : PV × Store}
    (h : execL (ctxL P H S.length (H.of f)) 0 c (endC P fn) ((List.range args.length).zip args) S = some r) : callRL P H f args S = some r := by
  obtain ⟨x, e', S', h1, h2⟩ := execL_sound c 0 h
  refine lim_of (Evt.succ ?_)
  obtain ⟨k0, h2⟩ := h2
  refine ⟨k0, fun k hk => ?_⟩
  have h2 := h2 k hk
  simp only [ctxK] at h2
  simp only [callF, ho, hf, hb]
  rw [if_pos ⟨ha, hn, hc⟩, h2]
  simp only [Option.bind_some]
  cases x <;> exact h1
end Go.Vs
end
