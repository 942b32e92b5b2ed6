/-
  AN EXECUTOR OVER AN ABSTRACT MEMORY, PART N: one operation.
-/
import Derived.Test.YtfamacgopcfhhaaGreatDoorAxMb
namespace Go.Proofs.YtfamacgopcfhhaaGreatDoor.Ax
open Go.RowKit

/-- Under this number, calls of a loop's yield are asked for: no function has it. -/
def yno : Nat := 1099511627776

/-- The package-level variables stand for themselves. -/
def GEnv (C : Cfg) (E : Env) : Prop := ∀ g, g < C.glob → E.dom g ∧ E.ρ g = g

theorem GEnv.mono {C : Cfg} {E E' : Env} (h : GEnv C E) (hl : E.le E') : GEnv C E' := fun g hg => ⟨hl.dom g (h g hg).1, by rw [hl.ρ g (h g hg).1]; exact (h g hg).2⟩

def FRel (E : Env) (fr : Fr) (tmps : Array Value) : Prop := ∀ t a, fr.get t = some a → ∃ v, tmps[t]? = some v ∧ VRel E a v

theorem FRel.mono {E E' : Env} {fr : Fr} {tmps : Array Value} (h : FRel E fr tmps) (hl : E.le E') : FRel E' fr tmps := by
  intro t a ht
  obtain ⟨v, h1, h2⟩ := h t a ht
  exact ⟨v, h1, h2.mono hl⟩

def evalO (C : Cfg) (fr : Fr) : Operand → Option AV
  | .tmp t => fr.get t
  | .const v => ofV v
  | .global g => bif Nat.blt g C.glob then some (.ptr g 0) else none
  | .func f => some (.fn (.func f) [] [])

theorem evalO_sound {C : Cfg} {E : Env} (hg : GEnv C E) {fr : Fr} {a : Act} (hf : FRel E fr a.tmps) {x : Operand} {r : AV} (h : evalO C fr x = some r) : VRel E r (a.eval x) := by
  cases x with
  | tmp t =>
    obtain ⟨v, h1, h2⟩ := hf t r h
    simp only [Act.eval, Array.getD_eq_getD_getElem?, h1, Option.getD_some]
    exact h2
  | const v => exact ofV_rel E v r h
  | global g =>
    simp only [evalO] at h
    cases hb : Nat.blt g C.glob with
    | false => simp only [hb, cond_false, reduceCtorEq] at h
    | true =>
      simp only [hb, cond_true, Option.some.injEq] at h
      subst h
      obtain ⟨h1, h2⟩ := hg g (Nat.blt_eq.mp hb)
      have := VRel.ptr (E := E) g 0 h1
      rw [h2] at this
      exact this
  | func f => simp only [evalO, Option.some.injEq] at h; subst h; exact .fn _ _ _ _ _ .nil .nil

def evalL (C : Cfg) (fr : Fr) : List Operand → Option (List AV)
  | [] => some []
  | x :: xs => match evalO C fr x with
    | none => none
    | some a => match evalL C fr xs with
      | none => none
      | some as => some (a :: as)

theorem evalL_sound {C : Cfg} {E : Env} (hg : GEnv C E) {fr : Fr} {a : Act} (hf : FRel E fr a.tmps) : ∀ (xs : List Operand) (as : List AV), evalL C fr xs = some as → VsRel E as (xs.map a.eval) := by
  intro xs
  induction xs with
  | nil => intro as h; simp only [evalL, Option.some.injEq] at h; subst h; exact .nil
  | cons x xs ih =>
    intro as h
    simp only [evalL] at h
    cases hx : evalO C fr x with
    | none => simp [hx] at h
    | some r =>
      cases hxs : evalL C fr xs with
      | none => simp [hx, hxs] at h
      | some l =>
        simp only [hx, hxs, Option.some.injEq] at h
        subst h
        exact .cons (evalO_sound hg hf hx) (ih l hxs)

def evalP (C : Cfg) (fr : Fr) : List (Nat × Operand) → Option (List (Nat × AV))
  | [] => some []
  | (i, x) :: xs => match evalO C fr x with
    | none => none
    | some a => match evalP C fr xs with
      | none => none
      | some as => some ((i, a) :: as)

theorem evalP_sound {C : Cfg} {E : Env} (hg : GEnv C E) {fr : Fr} {a : Act} (hf : FRel E fr a.tmps) : ∀ (xs : List (Nat × Operand)) (as : List (Nat × AV)), evalP C fr xs = some as → PsRel E as (xs.map fun p => (p.1, a.eval p.2)) := by
  intro xs
  induction xs with
  | nil => intro as h; simp only [evalP, Option.some.injEq] at h; subst h; exact .nil
  | cons p xs ih =>
    intro as h
    obtain ⟨i, x⟩ := p
    simp only [evalP] at h
    cases hx : evalO C fr x with
    | none => simp [hx] at h
    | some r =>
      cases hxs : evalP C fr xs with
      | none => simp [hx, hxs] at h
      | some l =>
        simp only [hx, hxs, Option.some.injEq] at h
        subst h
        exact .cons (evalO_sound hg hf hx) (ih l hxs)

/-- An operand that may lack: none, if it is there and can't be told. -/
def evalOpt (C : Cfg) (fr : Fr) : Option Operand → Option (Option AV)
  | none => some none
  | some x => match evalO C fr x with
    | none => none
    | some a => some (some a)

theorem evalOpt_sound {C : Cfg} {E : Env} (hg : GEnv C E) {fr : Fr} {a : Act} (hf : FRel E fr a.tmps) {x : Option Operand} {r : Option AV} (h : evalOpt C fr x = some r) : OptRel E r (x.map a.eval) := by
  cases x with
  | none => simp only [evalOpt, Option.some.injEq] at h; subst h; exact .none
  | some y =>
    simp only [evalOpt] at h
    cases hy : evalO C fr y with
    | none => simp [hy] at h
    | some v => simp only [hy, Option.some.injEq] at h; subst h; exact .some (evalO_sound hg hf hy)

inductive AR where
  | val (a : AV) (st : St)
  | skip (st : St)
  | enter (f : Nat) (args : List AV)

def AR.ofVal (st : St) : Option AV → Option AR
  | some a => some (.val a st)
  | none => none

def AR.ofPair : Option (AV × St) → Option AR
  | some (a, st) => some (.val a st)
  | none => none

def builtinA (C : Cfg) (b : Builtin) (tys : List Nat) (args : List AV) (st : St) : Option AR :=
  match b with
  | .append => AR.ofPair (appendA C tys args st)
  | .copy => AR.ofPair (copyA C tys args st)
  | .len => AR.ofVal st (lenA C tys args st)
  | .cap => AR.ofVal st (capA C tys args)
  | .min => (match args with | x :: l => AR.ofVal st (minA x l) | [] => none)
  | .max => (match args with | x :: l => AR.ofVal st (maxA x l) | [] => none)
  | .unsafeSliceData => AR.ofVal st (sliceDataA args)
  | .unsafeString => AR.ofPair (stringA C tys args st)
  | .clear => AR.ofPair (clearA C tys args st)
  | _ => none

def callA (C : Cfg) (f : AV) (args : List AV) (st : St) : Option AR :=
  match f with
  | .fn (.func k) first captured =>
    (match C.fn k with
    | some _ => some (.enter k ((first ++ args) ++ captured))
    | none => match C.ext k with
      | some e => AR.ofPair (extSt e ((first ++ args) ++ captured) st)
      | none => none)
  | _ => none

def storeA (C : Cfg) (t : Nat) (p x : AV) (st : St) : Option AR :=
  match p with
  | .ptr i off => (match stVar C st t i off x with | some st' => some (.skip st') | none => none)
  | _ => none

def loadA (C : Cfg) (t : Nat) (p : AV) (st : St) : Option AR :=
  match p with
  | .ptr i off => AR.ofVal st (ldVar C st t i off)
  | _ => none

def pickA (c : AV) (a b : Option AV) (st : St) : Option AR :=
  match c with
  | .bool true => AR.ofVal st a
  | .bool false => AR.ofVal st b
  | _ => none

def checkA (x : AV) (st : St) : Option AR :=
  match x with
  | .ptr _ _ => some (.val x st)
  | .fn (.func _) _ _ => some (.val x st)
  | .yld _ => some (.val x st)
  | _ => none

def skipOf : Option St → Option AR
  | some st => some (.skip st)
  | none => none

def mkMapA (C : Cfg) (t : Nat) (h : AV) (st : St) : Option AR :=
  match C.ty t, h with
  | some (_, .map _ _), .int _ _ => AR.ofPair (makeMapA st)
  | _, _ => none

def e1 {β : Type} (x : Option AV) (k : AV → Option β) : Option β := match x with | some a => k a | none => none

def aop (C : Cfg) (fr : Fr) (st : St) (o : Oper) : Option AR :=
  match o.op with
  | .move x => AR.ofVal st (evalO C fr x)
  | .assign x => AR.ofVal st (evalO C fr x)
  | .pick c a b => e1 (evalO C fr c) fun c => pickA c (evalO C fr a) (evalO C fr b) st
  | .alloc t => AR.ofPair (allocA C t st)
  | .box t x => e1 (evalO C fr x) fun x => AR.ofPair (boxA t x st)
  | .build t parts => (match evalP C fr parts.toList with | some ps => AR.ofVal st (buildA C t ps) | none => none)
  | .buildSlice t len parts => (match evalP C fr parts.toList with | some ps => AR.ofPair (buildSliceA C t len ps st) | none => none)
  | .load t x => e1 (evalO C fr x) fun x => loadA C t x st
  | .store t p x => e1 (evalO C fr p) fun p => e1 (evalO C fr x) fun x => storeA C t p x st
  | .nilCheck x => e1 (evalO C fr x) fun x => checkA x st
  | .binOp op t x y _ => e1 (evalO C fr x) fun a => e1 (evalO C fr y) fun b => AR.ofVal st (binA C op t (isConst x || isConst y) a b)
  | .unOp op _ x => e1 (evalO C fr x) fun x => AR.ofVal st (unaryA op x)
  | .convert s d x => e1 (evalO C fr x) fun x => AR.ofPair (convertA C s d x st)
  | .makeInterface t x => e1 (evalO C fr x) fun x => AR.ofVal st (ifaceA C t x)
  | .makeFunc f first captured => (match evalL C fr first.toList, evalL C fr captured.toList with | some a, some b => some (.val (.fn f a b) st) | _, _ => none)
  | .makeSlice t l c => e1 (evalO C fr l) fun l => e1 (evalO C fr c) fun c => AR.ofPair (makeA C t l c st)
  | .slice t x lo hi mx => e1 (evalO C fr x) fun x => (match evalOpt C fr lo, evalOpt C fr hi, evalOpt C fr mx with
    | some lo, some hi, some mx => AR.ofVal st (sliceA C t x lo hi mx)
    | _, _, _ => none)
  | .fieldAddr t x n => e1 (evalO C fr x) fun x => AR.ofVal st (fieldAtA C t x n)
  | .field t x n => e1 (evalO C fr x) fun x => AR.ofVal st (fieldA C t x n)
  | .indexAddr t x i => e1 (evalO C fr x) fun x => e1 (evalO C fr i) fun i => AR.ofVal st (indexAtA C t x i)
  | .index t x i => e1 (evalO C fr x) fun x => e1 (evalO C fr i) fun i => AR.ofVal st (indexA C t x i)
  | .range t x => e1 (evalO C fr x) fun x => AR.ofPair (rangeA C t x st)
  | .next it b => e1 (evalO C fr it) fun it => AR.ofPair (nextA it b st)
  | .extract t n => e1 (evalO C fr t) fun t => AR.ofVal st (extractA t n)
  | .makeMap _ none => AR.ofPair (makeMapA st)
  | .makeMap t (some x) => e1 (evalO C fr x) fun x => mkMapA C t x st
  | .lookup t x k ok => e1 (evalO C fr x) fun x => e1 (evalO C fr k) fun k => AR.ofVal st (lookupA C t x k ok st)
  | .mapUpdate t m k x => e1 (evalO C fr m) fun m => e1 (evalO C fr k) fun k => e1 (evalO C fr x) fun x => skipOf (updateA C t m k x st)
  | .insert t m k x => e1 (evalO C fr m) fun m => e1 (evalO C fr k) fun k => e1 (evalO C fr x) fun x => skipOf (updateA C t m k x st)
  | .call c => (match evalL C fr c.args.toList with
    | none => none
    | some args => match c.callee with
      | .builtin b => builtinA C b c.argTypes.toList args st
      | .value f => e1 (evalO C fr f) fun f => callA C f args st
      | .invoke _ _ => none)
  | _ => none

/-- What the run of an operation comes to. -/
def ARes (w0 : World) (E : Env) (st : St) (w : World) (r : AR) (res : Result Next) : Prop :=
  match r with
  | .val a st' => ∃ E' w' v, res = .ok (.value v) w' ∧ Post w0 E st w E' st' w' ∧ VRel E' a v
  | .skip st' => ∃ E' w', res = .ok .skip w' ∧ Post w0 E st w E' st' w'
  | .enter f args => ∃ vs, res = .ok (.enter f vs) w ∧ VsRel E args vs.toList

def AR.fresh (E : Env) (st : St) : AR → Prop
  | .val _ st' => Fresh E st st'
  | .skip st' => Fresh E st st'
  | .enter _ _ => True

theorem ares_val {C : Cfg} {w0 : World} {E : Env} {st st' : St} {w : World} {s : Sem Value} {a : AV} (h : Gives C w0 E st w s a st') : ARes w0 E st w (.val a st') ((do pure (.value (← s)) : Sem Next).run C.P w) := by
  obtain ⟨E', w', v, h1, h2, h3⟩ := h
  exact ⟨E', w', v, by simp [h1], h2, h3⟩

theorem ofVal_some {st : St} {x : Option AV} {r : AR} (h : AR.ofVal st x = some r) : ∃ a, x = some a ∧ r = .val a st := by
  cases x with
  | none => cases h
  | some a => cases h; exact ⟨a, rfl, rfl⟩

theorem ofPair_some {x : Option (AV × St)} {r : AR} (h : AR.ofPair x = some r) : ∃ a st, x = some (a, st) ∧ r = .val a st := by
  cases x with
  | none => cases h
  | some p => obtain ⟨a, st⟩ := p; cases h; exact ⟨a, st, rfl, rfl⟩

theorem e1_some {β : Type} {x : Option AV} {k : AV → Option β} {r : β} (h : e1 x k = some r) : ∃ a, x = some a ∧ k a = some r := by
  cases x with
  | none => cases h
  | some a => exact ⟨a, rfl, h⟩

theorem builtinA_sound {C : Cfg} (hC : C.Ok) {w0 : World} {E : Env} {st : St} {w : World} (h : Sim w0 E st w) {b : Builtin} {tys : Array TypeId} {ty : TypeId} {cs : Array Bool} {args : List AV} {vs : Array Value} {r : AR} (hs : builtinA C b tys.toList args st = some r) (hv : VsRel E args vs.toList) (hf : r.fresh E st) :
    ARes w0 E st w r ((builtin b tys ty cs vs).run C.P w) := by
  unfold builtinA at hs
  split at hs
  · obtain ⟨a, st', h1, rfl⟩ := ofPair_some hs
    exact ares_val (appendA_sound hC h h1 hv hf)
  · obtain ⟨a, st', h1, rfl⟩ := ofPair_some hs
    exact ares_val (copyA_sound hC h h1 hv)
  · obtain ⟨a, h1, rfl⟩ := ofVal_some hs
    exact ares_val (lenA_sound hC h h1 hv)
  · obtain ⟨a, h1, rfl⟩ := ofVal_some hs
    exact ares_val (capA_sound hC h h1 hv)
  · split at hs
    · rename_i x l
      obtain ⟨a, h1, rfl⟩ := ofVal_some hs
      obtain ⟨vl⟩ := vs
      cases hv with
      | cons hx hl =>
        obtain ⟨u, h2, h3⟩ := minA_sound (P := C.P) (w := w) l x a _ _ h1 hx hl
        exact ares_val (Gives.pure h (by simp only [Builtin.min_]; exact h2) h3)
    · cases hs
  · split at hs
    · rename_i x l
      obtain ⟨a, h1, rfl⟩ := ofVal_some hs
      obtain ⟨vl⟩ := vs
      cases hv with
      | cons hx hl =>
        obtain ⟨u, h2, h3⟩ := maxA_sound (P := C.P) (w := w) l x a _ _ h1 hx hl
        exact ares_val (Gives.pure h (by simp only [Builtin.max_]; exact h2) h3)
    · cases hs
  · obtain ⟨a, h1, rfl⟩ := ofVal_some hs
    exact ares_val (sliceDataA_sound h h1 hv)
  · obtain ⟨a, st', h1, rfl⟩ := ofPair_some hs
    exact ares_val (stringA_sound hC h h1 hv)
  · obtain ⟨a, st', h1, rfl⟩ := ofPair_some hs
    exact ares_val (clearA_sound hC h h1 hv)
  · cases hs

theorem callA_sound {C : Cfg} (hC : C.Ok) {w0 : World} {E : Env} {st : St} {w : World} (h : Sim w0 E st w) {f : AV} {fv : Value} {args : List AV} {vs : Array Value} {r : AR} (hs : callA C f args st = some r) (hfv : VRel E f fv) (hv : VsRel E args vs.toList) (hfr : r.fresh E st) :
    ARes w0 E st w r ((do let d ← Deferred.ofValue fv vs; invoke d.target d.args).run C.P w) := by
  unfold callA at hs
  split at hs
  · rename_i k first captured
    cases hfv with
    | fn _ _ _ us ws h1 h2 =>
    have hrel : VsRel E ((first ++ args) ++ captured) ((us ++ vs) ++ ws).toList := by
      simp only [Array.toList_append]
      exact (h1.append hv).append h2
    have hrun : (do let d ← Deferred.ofValue (.func (.func k) us ws) vs; invoke d.target d.args : Sem Next).run C.P w = (callFunc k ((us ++ vs) ++ ws)).run C.P w := by
      simp only [Deferred.ofValue, Sem.run_bind, Sem.run_pure, Result.andThen_ok, invoke]
    rw [hrun]
    split at hs
    · rename_i p hk
      cases hs
      obtain ⟨x, c⟩ := p
      obtain ⟨q1, q2, q3⟩ := hC.fn k x c hk
      exact ⟨_, run_callFunc q1 q2 q3 _, hrel⟩
    · split at hs
      · rename_i e he
        obtain ⟨a, st', h3, rfl⟩ := ofPair_some hs
        exact extSt_sound (w := w) hC h he h3 hrel hfr
      · cases hs
  · cases hs

theorem inv_bool {E : Env} {b : Bool} {v : Value} (h : VRel E (.bool b) v) : v = .bool b := by cases h; rfl
theorem inv_ptr {E : Env} {i off : Nat} {v : Value} (h : VRel E (.ptr i off) v) : v = .pointer (some ⟨E.ρ i, off, none⟩) := by cases h; rfl

theorem aop_sound {C : Cfg} (hC : C.Ok) {w0 : World} {E : Env} {st : St} {w : World} (h : Sim w0 E st w) (hg : GEnv C E) {fr : Fr} {a : Act} (hf : FRel E fr a.tmps) {o : Oper} {r : AR} (hs : aop C fr st o = some r) (hr : r.fresh E st) :
    ARes w0 E st w r ((execOp a.eval o).run C.P w) := by
  have ev : ∀ {x : Operand} {r : AV}, evalO C fr x = some r → VRel E r (a.eval x) := fun h => evalO_sound hg hf h
  unfold aop at hs
  unfold execOp
  split at hs
  · rename_i x hop
    simp only [hop]
    obtain ⟨v, h1, rfl⟩ := ofVal_some hs
    exact ⟨E, w, _, rfl, .refl h, ev h1⟩
  · rename_i x hop
    simp only [hop]
    obtain ⟨v, h1, rfl⟩ := ofVal_some hs
    exact ⟨E, w, _, rfl, .refl h, ev h1⟩
  · rename_i c x y hop
    simp only [hop]
    obtain ⟨b, h1, h2⟩ := e1_some hs
    have hc := ev h1
    unfold pickA at h2
    split at h2
    · obtain ⟨v, h3, rfl⟩ := ofVal_some h2
      rw [inv_bool hc]
      exact ⟨E, w, _, rfl, .refl h, ev h3⟩
    · obtain ⟨v, h3, rfl⟩ := ofVal_some h2
      rw [inv_bool hc]
      exact ⟨E, w, _, rfl, .refl h, ev h3⟩
    · cases h2
  · rename_i t hop
    simp only [hop]
    obtain ⟨v, st', h1, rfl⟩ := ofPair_some hs
    exact ares_val (allocA_sound hC h h1 hr)
  · rename_i t x hop
    simp only [hop]
    obtain ⟨x, h1, h2⟩ := e1_some hs
    obtain ⟨v, st', h3, rfl⟩ := ofPair_some h2
    exact ares_val (boxA_sound h (ev h1) h3 hr)
  · rename_i t parts hop
    simp only [hop]
    split at hs
    · rename_i ps hps
      obtain ⟨v, h3, rfl⟩ := ofVal_some hs
      refine ares_val (buildA_sound hC h ?_ h3)
      simpa using evalP_sound hg hf _ _ hps
    · cases hs
  · rename_i t len parts hop
    simp only [hop]
    split at hs
    · rename_i ps hps
      obtain ⟨v, st', h3, rfl⟩ := ofPair_some hs
      refine ares_val (buildSliceA_sound hC h ?_ h3 hr)
      simpa using evalP_sound hg hf _ _ hps
    · cases hs
  · rename_i t x hop
    simp only [hop]
    obtain ⟨x, h1, h2⟩ := e1_some hs
    unfold loadA at h2
    split at h2
    · obtain ⟨v, h3, rfl⟩ := ofVal_some h2
      obtain ⟨u, h4, h5⟩ := ldVar_sound hC h h3
      refine ares_val (Gives.pure h (v := u) ?_ h5)
      rw [inv_ptr (ev h1)]
      simp only [Instr.loadAt, Instr.sureAddr, Sem.run_bind, Sem.run_pure, Result.andThen_ok]
      exact h4
    · cases h2
  · rename_i t p x hop
    simp only [hop]
    obtain ⟨pa, h1, h2⟩ := e1_some hs
    obtain ⟨xa, h3, h4⟩ := e1_some h2
    unfold storeA at h4
    split at h4
    · split at h4
      · rename_i st' h5
        cases h4
        obtain ⟨w', h6, h7⟩ := stVar_sound hC h h5 (ev h3)
        refine ⟨E, w', ?_, h7⟩
        rw [inv_ptr (ev h1)]
        simp only [Instr.storeAt, Instr.sureAddr, Sem.run_bind, Sem.run_pure, Result.andThen_ok, h6]
      · cases h4
    · cases h4
  · rename_i x hop
    simp only [hop]
    obtain ⟨xa, h1, h2⟩ := e1_some hs
    have hx := ev h1
    unfold checkA at h2
    split at h2
    · cases h2
      generalize a.eval x = xv at hx
      cases hx with
      | ptr _ _ hd => exact ⟨E, w, _, rfl, .refl h, .ptr _ _ hd⟩
    · cases h2
      generalize a.eval x = xv at hx
      cases hx with
      | fn _ _ _ us ws h5 h6 => exact ⟨E, w, _, rfl, .refl h, .fn _ _ _ us ws h5 h6⟩
    · cases h2
      generalize a.eval x = xv at hx
      cases hx with
      | yld _ hd => exact ⟨E, w, _, rfl, .refl h, .yld _ hd⟩
    · cases h2
  · rename_i op t x y ty hop
    simp only [hop]
    obtain ⟨xa, h1, h2⟩ := e1_some hs
    obtain ⟨ya, h3, h4⟩ := e1_some h2
    obtain ⟨v, h5, rfl⟩ := ofVal_some h4
    exact ares_val (binA_sound hC h h5 (ev h1) (ev h3))
  · rename_i op t x hop
    simp only [hop]
    obtain ⟨xa, h1, h2⟩ := e1_some hs
    obtain ⟨v, h5, rfl⟩ := ofVal_some h2
    exact ares_val (unaryA_sound h h5 (ev h1))
  · rename_i s d x hop
    simp only [hop]
    obtain ⟨xa, h1, h2⟩ := e1_some hs
    obtain ⟨v, st', h5, rfl⟩ := ofPair_some h2
    exact ares_val (convertA_sound hC h h5 (ev h1) hr)
  · rename_i t x hop
    simp only [hop]
    obtain ⟨xa, h1, h2⟩ := e1_some hs
    obtain ⟨v, h5, rfl⟩ := ofVal_some h2
    exact ares_val (ifaceA_sound hC h h5 (ev h1))
  · rename_i f first captured hop
    simp only [hop]
    split at hs
    · rename_i l1 l2 h1 h2
      cases hs
      refine ares_val (Gives.pure h (v := .func f (first.map a.eval) (captured.map a.eval)) rfl (.fn _ _ _ _ _ ?_ ?_))
      · simpa using evalL_sound hg hf _ _ h1
      · simpa using evalL_sound hg hf _ _ h2
    · cases hs
  · rename_i t l c hop
    simp only [hop]
    obtain ⟨la, h1, h2⟩ := e1_some hs
    obtain ⟨ca, h3, h4⟩ := e1_some h2
    obtain ⟨v, st', h5, rfl⟩ := ofPair_some h4
    exact ares_val (makeA_sound hC h h5 (ev h1) (ev h3) hr)
  · rename_i t x lo hi mx hop
    simp only [hop]
    obtain ⟨xa, h1, h2⟩ := e1_some hs
    split at h2
    · rename_i l1 l2 l3 h3 h4 h5
      obtain ⟨v, h6, rfl⟩ := ofVal_some h2
      exact ares_val (sliceA_sound hC h h6 (ev h1) (evalOpt_sound hg hf h3) (evalOpt_sound hg hf h4) (evalOpt_sound hg hf h5))
    · cases h2
  · rename_i t x n hop
    simp only [hop]
    obtain ⟨xa, h1, h2⟩ := e1_some hs
    obtain ⟨v, h5, rfl⟩ := ofVal_some h2
    exact ares_val (fieldAtA_sound hC h h5 (ev h1))
  · rename_i t x n hop
    simp only [hop]
    obtain ⟨xa, h1, h2⟩ := e1_some hs
    obtain ⟨v, h5, rfl⟩ := ofVal_some h2
    exact ares_val (fieldA_sound hC h h5 (ev h1))
  · rename_i t x i hop
    simp only [hop]
    obtain ⟨xa, h1, h2⟩ := e1_some hs
    obtain ⟨ia, h3, h4⟩ := e1_some h2
    obtain ⟨v, h5, rfl⟩ := ofVal_some h4
    exact ares_val (indexAtA_sound hC h h5 (ev h1) (ev h3))
  · rename_i t x i hop
    simp only [hop]
    obtain ⟨xa, h1, h2⟩ := e1_some hs
    obtain ⟨ia, h3, h4⟩ := e1_some h2
    obtain ⟨v, h5, rfl⟩ := ofVal_some h4
    exact ares_val (indexA_sound hC h h5 (ev h1) (ev h3))
  · rename_i t x hop
    simp only [hop]
    obtain ⟨xa, h1, h2⟩ := e1_some hs
    obtain ⟨v, st', h5, rfl⟩ := ofPair_some h2
    exact ares_val (rangeA_sound hC h h5 (ev h1) hr)
  · rename_i it b hop
    simp only [hop]
    obtain ⟨xa, h1, h2⟩ := e1_some hs
    obtain ⟨v, st', h5, rfl⟩ := ofPair_some h2
    exact ares_val (nextA_sound h h5 (ev h1))
  · rename_i t n hop
    simp only [hop]
    obtain ⟨xa, h1, h2⟩ := e1_some hs
    obtain ⟨v, h5, rfl⟩ := ofVal_some h2
    exact ares_val (extractA_sound h h5 (ev h1))
  · rename_i t hop
    simp only [hop, Option.map_none]
    obtain ⟨v, st', h1, rfl⟩ := ofPair_some hs
    exact ares_val (makeMapA_sound h h1 hr)
  · rename_i t x hop
    simp only [hop, Option.map_some]
    obtain ⟨xa, h1, h2⟩ := e1_some hs
    unfold mkMapA at h2
    split at h2
    · rename_i ti kt et k n hty
      obtain ⟨v, st', h3, rfl⟩ := ofPair_some h2
      have hx := ev h1
      generalize a.eval x = xv at hx
      cases hx with
      | int _ _ =>
      obtain ⟨E', w', u, q1, q2, q3⟩ := makeMapA_sound (C := C) (t := t) h h3 hr
      refine ares_val ⟨E', w', u, ?_, q2, q3⟩
      simp only [Instr.makeMap, Sem.run_bind, (run_ty hC hty w).2.1, Result.andThen_ok, asInt, Sem.run_pure] at q1 ⊢
      exact q1
    · cases h2
  · rename_i t x k ok hop
    simp only [hop]
    obtain ⟨xa, h1, h2⟩ := e1_some hs
    obtain ⟨ka, h3, h4⟩ := e1_some h2
    obtain ⟨v, h5, rfl⟩ := ofVal_some h4
    obtain ⟨u, h6, h7⟩ := lookupA_sound hC h h5 (ev h1) (ev h3)
    exact ares_val (Gives.pure h h6 h7)
  · rename_i t m k x hop
    simp only [hop]
    obtain ⟨ma, h1, h2⟩ := e1_some hs
    obtain ⟨ka, h3, h4⟩ := e1_some h2
    obtain ⟨xa, h5, h6⟩ := e1_some h4
    cases hup : updateA C t ma ka xa st with
    | none => rw [hup] at h6; cases h6
    | some st' =>
      rw [hup] at h6
      cases h6
      obtain ⟨w', q1, q2⟩ := updateA_sound hC h hup (ev h1) (ev h3) (ev h5)
      refine ⟨E, w', ?_, q2⟩
      simp only [Sem.run_bind, q1, Result.andThen_ok, Sem.run_pure]
  · rename_i t m k x hop
    simp only [hop]
    obtain ⟨ma, h1, h2⟩ := e1_some hs
    obtain ⟨ka, h3, h4⟩ := e1_some h2
    obtain ⟨xa, h5, h6⟩ := e1_some h4
    cases hup : updateA C t ma ka xa st with
    | none => rw [hup] at h6; cases h6
    | some st' =>
      rw [hup] at h6
      cases h6
      obtain ⟨w', q1, q2⟩ := updateA_sound hC h hup (ev h1) (ev h3) (ev h5)
      refine ⟨E, w', ?_, q2⟩
      simp only [Sem.run_bind, q1, Result.andThen_ok, Sem.run_pure]
  · rename_i c hop
    simp only [hop]
    split at hs
    · cases hs
    · rename_i args hargs
      have hargs' : VsRel E args (c.args.map a.eval).toList := by simpa using evalL_sound hg hf _ _ hargs
      split at hs
      · rename_i b hcal
        have hrun : (do let d ← resolve a.eval c o.type; invoke d.target d.args : Sem Next).run C.P w = (builtin b c.argTypes o.type (c.args.map fun | .const _ => true | _ => false) (c.args.map a.eval)).run C.P w := by
          simp only [resolve, hcal, Sem.run_bind, Sem.run_pure, Result.andThen_ok, invoke]
          rfl
        rw [hrun]
        exact builtinA_sound hC h hs hargs' hr
      · rename_i f hcal
        obtain ⟨fa, h1, h2⟩ := e1_some hs
        have hrun : (do let d ← resolve a.eval c o.type; invoke d.target d.args : Sem Next).run C.P w = (do let d ← Deferred.ofValue (a.eval f) (c.args.map a.eval); invoke d.target d.args : Sem Next).run C.P w := by
          simp only [resolve, hcal]
        rw [hrun]
        exact callA_sound hC h h2 (ev h1) hargs' hr
      · cases hs
  · cases hs
end Go.Proofs.YtfamacgopcfhhaaGreatDoor.Ax
