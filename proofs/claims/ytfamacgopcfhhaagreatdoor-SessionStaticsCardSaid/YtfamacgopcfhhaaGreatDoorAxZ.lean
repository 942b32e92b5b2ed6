/-
  AN EXECUTOR OVER AN ABSTRACT MEMORY, PART Z: the quick form: one operation, regions, code, calls; that it is so.
-/
import Derived.Test.YtfamacgopcfhhaaGreatDoorAxY
namespace Go.Proofs.YtfamacgopcfhhaaGreatDoor.Ax
open Go.RowKit

noncomputable section
abbrev OpF := Cfg → CallF → Fr → St → Option (AV × St)

def aftA (ih : CallF) (st : St) (r : Option AR) : Option (AV × St) :=
  match r with
  | none => none
  | some (.val a st') => some (a, st')
  | some (.skip st') => some (.tup [], st')
  | some (.enter f args) => ih f args st

theorem aft_val (ih : CallF) (st : St) (x : Option AV) : aftA ih st (AR.ofVal st x) = optF none (fun a => some (a, st)) x := by cases x <;> rfl
theorem aft_pair (ih : CallF) (st : St) (x : Option (AV × St)) : aftA ih st (AR.ofPair x) = x := by
  cases x with
  | none => rfl
  | some p => rfl
theorem aft_e1 (ih : CallF) (st : St) (x : Option AV) (k : AV → Option AR) : aftA ih st (e1 x k) = optF none (fun a => aftA ih st (k a)) x := by cases x <;> rfl

/-- An operation as 'aop' has it. -/
def opSlow (op : Op) : OpF := fun C ih fr st => aftA ih st (aop C fr st ⟨none, op, 0, "", #[], none⟩)

def out (st : St) (x : Option AV) : Option (AV × St) := optF none (fun a => some (a, st)) x
def opMove (x : Operand) : OpF := fun C _ fr st => out st (evalF x C fr)
def opPick (c a b : Operand) : OpF := fun C _ fr st => optF none (boolD none fun v => @Bool.rec (fun _ => Option (AV × St)) (out st (evalF b C fr)) (out st (evalF a C fr)) v) (evalF c C fr)
def opAlloc (t : TypeId) : OpF := fun C _ _ st => allocA C t st
def opBox (t : TypeId) (x : Operand) : OpF := fun C _ fr st => optF none (fun a => newF st (.cells false t (nat_lit 0) false (ofLF (aggD [a] id a) (nat_lit 0) .leaf)) fun i st' => some (.ptr i (nat_lit 0), st')) (evalF x C fr)
def opLoad (t : TypeId) (x : Operand) : OpF := fun C _ fr st => optF none (ptrD none fun i off => out st (ldF C st t i off)) (evalF x C fr)
def opStore (t : TypeId) (p x : Operand) : OpF := fun C _ fr st => optF none (fun q => optF none (fun a => ptrD none (fun i off => optF none (fun st' => some (.tup [], st')) (stF C st t i off a)) q) (evalF x C fr)) (evalF p C fr)
def isConstF (x : Operand) : Bool := @Operand.rec (fun _ => Bool) (fun _ => false) (fun _ => true) (fun _ => false) (fun _ => false) x
def opBin (op : BinOp) (t : TypeId) (x y : Operand) (_ : TypeId) : OpF := fun C _ fr st => optF none (fun a => optF none (fun b => out st (binF C op t (ifF (isConstF x) true (isConstF y)) a b)) (evalF y C fr)) (evalF x C fr)
def unF (op : UnOp) (x : AV) : Option AV := boolD (unaryA op x) (fun b => @UnOp.rec (fun _ => Option AV) none none (some (.bool (notF b))) none op) x
def opUn (op : UnOp) (_ : TypeId) (x : Operand) : OpF := fun C _ fr st => optF none (fun a => out st (unF op a)) (evalF x C fr)
def opConvert (s d : TypeId) (x : Operand) : OpF := fun C _ fr st => optF none (fun a => convertA C s d a st) (evalF x C fr)
def opIface (t : TypeId) (x : Operand) : OpF := fun C _ fr st => optF none (fun a => out st (ifaceA C t a)) (evalF x C fr)
def opFunc (f : Fn) (first captured : Array Operand) : OpF := fun C _ fr st => optF none (fun a => optF none (fun b => some (.fn f a b, st)) (evalLF captured.toList C fr)) (evalLF first.toList C fr)
def opFieldAddr (t : TypeId) (x : Operand) (n : Nat) : OpF := fun C _ fr st => optF none (fun a => out st (fieldAtF C t a n)) (evalF x C fr)
def opField (t : TypeId) (x : Operand) (n : Nat) : OpF := fun C _ fr st => optF none (fun a => out st (fieldF C t a n)) (evalF x C fr)
def opIndexAddr (t : TypeId) (x i : Operand) : OpF := fun C _ fr st => optF none (fun a => optF none (fun b => out st (indexAtF C t a b)) (evalF i C fr)) (evalF x C fr)
def opIndex (t : TypeId) (x i : Operand) : OpF := fun C _ fr st => optF none (fun a => optF none (fun b => out st (indexF C t a b)) (evalF i C fr)) (evalF x C fr)
def opExtract (x : Operand) (n : Nat) : OpF := fun C _ fr st => optF none (tupD none fun l => out st (nthF l n)) (evalF x C fr)

def enterF (C : Cfg) (ih : CallF) (k : Nat) (args : List AV) (st : St) : Option (AV × St) := optF (optF none (fun e => extSt e args st) (C.ext k)) (fun _ => ih k args st) (C.fn k)
def calleeF (x : Callee) : List Nat → List AV → OpF :=
  @Callee.rec (fun _ => List Nat → List AV → OpF)
    (fun f _ args C ih fr st => optF none (fnD none fun g a b => @Fn.rec (fun _ => Option (AV × St)) (fun k => enterF C ih k (appLF (appLF a args) b) st) (fun _ => none) (fun _ _ => none) (fun _ _ _ _ => none) (fun _ => none) g) (evalF f C fr))
    (fun _ _ _ _ _ _ _ _ => none)
    (fun b tys args C ih fr st => @Builtin.rec (fun _ => OpF)
      (fun C _ _ st => appendA C tys args st) (fun C _ _ st => out st (capA C tys args)) (fun C _ _ st => clearA C tys args st) (fun _ _ _ _ => none) (fun _ _ _ _ => none) (fun C _ _ st => copyA C tys args st) (fun _ _ _ _ => none) (fun _ _ _ _ => none) (fun C _ _ st => out st (lenF C tys args st)) (fun _ _ _ _ => none) (fun _ ih _ st => aftA ih st (builtinA C .max tys args st)) (fun _ ih _ st => aftA ih st (builtinA C .min tys args st))
      (fun _ _ _ _ => none) (fun _ _ _ _ => none) (fun _ _ _ _ => none) (fun _ _ _ _ => none) (fun _ _ _ _ => none) (fun _ _ _ _ => none) (fun _ _ _ _ => none) (fun _ _ _ _ => none) (fun _ _ _ st => out st (sliceDataA args)) (fun C _ _ st => stringA C tys args st) (fun _ _ _ _ => none) (fun _ _ _ _ => none) (fun _ _ _ _ => none) (fun _ _ _ _ => none) b C ih fr st) x
def opCall (c : Call) : OpF := fun C ih fr st => optF none (fun args => calleeF c.callee c.argTypes.toList args C ih fr st) (evalLF c.args.toList C fr)

structure OB where
  f : OpF
def opB : Op → OB :=
  @Op.rec (fun _ => OB) (fun a => ⟨opMove a⟩) (fun a => ⟨opMove a⟩) (fun a b c => ⟨opPick a b c⟩) (fun a => ⟨opAlloc a⟩) (fun a b => ⟨opBox a b⟩) (fun t p => ⟨opSlow (.build t p)⟩) (fun t l p => ⟨opSlow (.buildSlice t l p)⟩) (fun a b c d => ⟨opSlow (.insert a b c d)⟩) (fun a b => ⟨opLoad a b⟩) (fun a b c => ⟨opStore a b c⟩) (fun g => ⟨opSlow (.ready g)⟩) (fun g => ⟨opSlow (.waits g)⟩) (fun x => ⟨opSlow (.nilCheck x)⟩) (fun a b c d e => ⟨opBin a b c d e⟩) (fun a b c => ⟨opUn a b c⟩) (fun a b c => ⟨opConvert a b c⟩) (fun a b => ⟨opSlow (.sliceToArrayPointer a b)⟩) (fun a b => ⟨opIface a b⟩) (fun a b c => ⟨opFunc a b c⟩) (fun a b => ⟨opSlow (.makeMap a b)⟩) (fun a b => ⟨opSlow (.makeChan a b)⟩) (fun a b c => ⟨opSlow (.makeSlice a b c)⟩) (fun a b c d e => ⟨opSlow (.slice a b c d e)⟩) (fun a b c => ⟨opFieldAddr a b c⟩) (fun a b c => ⟨opField a b c⟩) (fun a b c => ⟨opIndexAddr a b c⟩) (fun a b c => ⟨opIndex a b c⟩) (fun a b c d => ⟨opSlow (.lookup a b c d)⟩) (fun a b c d => ⟨opSlow (.mapUpdate a b c d)⟩) (fun a b c => ⟨opSlow (.mapEntry a b c)⟩) (fun a b c d => ⟨opSlow (.entryStore a b c d)⟩) (fun a b => ⟨opSlow (.range a b)⟩) (fun a b => ⟨opSlow (.next a b)⟩) (fun a => ⟨opSlow (.entry a)⟩) (fun a b c d => ⟨opSlow (.typeAssert a b c d)⟩) (fun a b => ⟨opExtract a b⟩) (fun a => ⟨opCall a⟩) (fun c => ⟨opSlow (.go c)⟩) (fun c => ⟨opSlow (.defer c)⟩) (fun c => ⟨opSlow (.panic c)⟩) (fun a b => ⟨opSlow (.send a b)⟩) (fun a b c => ⟨opSlow (.recv a b c)⟩) (fun a b => ⟨opSlow (.select a b)⟩)

theorem isConstF_eq (x : Operand) : isConstF x = isConst x := by cases x <;> rfl
theorem unF_eq (op : UnOp) (x : AV) : unF op x = unaryA op x := by
  cases x with
  | bool b =>
    cases op with
    | not => show some (AV.bool (notF b)) = _; rw [notF_eq]; rfl
    | _ => rfl
  | _ => rfl

theorem enterF_eq (C : Cfg) (ih : CallF) (k : Nat) (a args b : List AV) (st : St) : enterF C ih k ((a ++ args) ++ b) st = aftA ih st (callA C (.fn (.func k) a b) args st) := by
  unfold enterF callA
  dsimp only
  cases C.fn k with
  | some p => rfl
  | none =>
    cases C.ext k with
    | none => rfl
    | some e =>
      show extSt e _ st = aftA ih st (AR.ofPair _)
      rw [aft_pair]

theorem calleeF_eq (c : Callee) (tys : List Nat) (args : List AV) (C : Cfg) (ih : CallF) (fr : Fr) (st : St) :
    calleeF c tys args C ih fr st = aftA ih st (match c with
      | .builtin b => builtinA C b tys args st
      | .value f => e1 (evalO C fr f) fun f => callA C f args st
      | .invoke _ _ => none) := by
  cases c with
  | value f =>
    show optF none _ (evalF f C fr) = _
    rw [evalF_eq]
    dsimp only
    rw [aft_e1]
    cases evalO C fr f with
    | none => rfl
    | some v =>
      cases v with
      | fn g a b =>
        cases g with
        | func k => show enterF C ih k (appLF (appLF a args) b) st = _; rw [appLF_eq, appLF_eq]; exact enterF_eq C ih k a args b st
        | _ => rfl
      | _ => rfl
  | invoke _ _ => rfl
  | builtin b =>
    cases b
    case append => show appendA C tys args st = aftA ih st (AR.ofPair _); rw [aft_pair]
    case clear => show clearA C tys args st = aftA ih st (AR.ofPair _); rw [aft_pair]
    case copy => show copyA C tys args st = aftA ih st (AR.ofPair _); rw [aft_pair]
    case cap => show out st _ = aftA ih st (AR.ofVal st _); rw [aft_val]; rfl
    case len => show out st (lenF C tys args st) = aftA ih st (AR.ofVal st _); rw [aft_val, lenF_eq]; rfl
    case unsafeSliceData => show out st _ = aftA ih st (AR.ofVal st _); rw [aft_val]; rfl
    case unsafeString => show stringA C tys args st = aftA ih st (AR.ofPair _); rw [aft_pair]
    all_goals rfl

theorem opTab_eq (C : Cfg) (ih : CallF) (fr : Fr) (st : St) (o : Oper) : (opB o.op).f C ih fr st = aftA ih st (aop C fr st o) := by
  obtain ⟨dst, op, ty, pos, after, guard⟩ := o
  cases op
  case move x => show out st (evalF x C fr) = aftA ih st (AR.ofVal st _); rw [aft_val, evalF_eq]; rfl
  case assign x => show out st (evalF x C fr) = aftA ih st (AR.ofVal st _); rw [aft_val, evalF_eq]; rfl
  case pick c a b =>
    show optF none (boolD none fun v => @Bool.rec (fun _ => Option (AV × St)) (out st (evalF b C fr)) (out st (evalF a C fr)) v) (evalF c C fr) = aftA ih st (e1 _ _)
    rw [aft_e1, evalF_eq, evalF_eq, evalF_eq]
    cases evalO C fr c with
    | none => rfl
    | some v =>
      cases v with
      | bool v =>
        cases v with
        | true => show out st _ = aftA ih st (AR.ofVal st _); rw [aft_val]; rfl
        | false => show out st _ = aftA ih st (AR.ofVal st _); rw [aft_val]; rfl
      | _ => rfl
  case alloc t => show allocA C t st = aftA ih st (AR.ofPair _); rw [aft_pair]
  case box t x =>
    show optF none _ (evalF x C fr) = aftA ih st (e1 _ _)
    rw [aft_e1, evalF_eq]
    cases evalO C fr x with
    | none => rfl
    | some a =>
      show newF st (.cells false t 0 false (ofLF (aggD [a] id a) 0 .leaf)) (fun i st' => some (.ptr i 0, st')) = aftA ih st (AR.ofPair (boxA t a st))
      rw [aft_pair, newF_eq, ofLF_eq, aggD_cells]
      rfl
  case load t x =>
    show optF none _ (evalF x C fr) = aftA ih st (e1 _ _)
    rw [aft_e1, evalF_eq]
    cases evalO C fr x with
    | none => rfl
    | some a =>
      cases a with
      | ptr i off => show out st (ldF C st t i off) = aftA ih st (AR.ofVal st _); rw [aft_val, ldF_eq]; rfl
      | _ => rfl
  case store t p x =>
    show optF none (fun q => optF none (fun a => ptrD none (fun i off => optF none (fun st' => some (.tup [], st')) (stF C st t i off a)) q) (evalF x C fr)) (evalF p C fr) = aftA ih st (e1 _ _)
    rw [aft_e1, evalF_eq, evalF_eq]
    cases evalO C fr p with
    | none => rfl
    | some q =>
      show optF none _ _ = aftA ih st (e1 _ _)
      rw [aft_e1]
      cases evalO C fr x with
      | none => rfl
      | some a =>
        cases q with
        | ptr i off =>
          show optF none _ (stF C st t i off a) = aftA ih st (match stVar C st t i off a with | some st' => some (.skip st') | none => none)
          rw [stF_eq]
          cases stVar C st t i off a <;> rfl
        | _ => rfl
  case binOp op t x y yt =>
    show optF none (fun a => optF none (fun b => out st (binF C op t (ifF (isConstF x) true (isConstF y)) a b)) (evalF y C fr)) (evalF x C fr) = aftA ih st (e1 _ _)
    rw [aft_e1, evalF_eq, evalF_eq]
    cases evalO C fr x with
    | none => rfl
    | some a =>
      show optF none _ _ = aftA ih st (e1 _ _)
      rw [aft_e1]
      cases evalO C fr y with
      | none => rfl
      | some b =>
        show out st (binF C op t (ifF (isConstF x) true (isConstF y)) a b) = aftA ih st (AR.ofVal st (binA C op t (isConst x || isConst y) a b))
        rw [aft_val, binF_eq, isConstF_eq, isConstF_eq, ifF_eq]
        have : (bif isConst x then true else isConst y) = (isConst x || isConst y) := by cases isConst x <;> rfl
        rw [this]; rfl
  case unOp op t x =>
    show optF none (fun a => out st (unF op a)) (evalF x C fr) = aftA ih st (e1 _ _)
    rw [aft_e1, evalF_eq]
    cases evalO C fr x with
    | none => rfl
    | some a => show out st (unF op a) = aftA ih st (AR.ofVal st _); rw [aft_val, unF_eq]; rfl
  case convert s d x =>
    show optF none (fun a => convertA C s d a st) (evalF x C fr) = aftA ih st (e1 _ _)
    rw [aft_e1, evalF_eq]
    cases evalO C fr x with
    | none => rfl
    | some a => show convertA C s d a st = aftA ih st (AR.ofPair _); rw [aft_pair]
  case makeInterface t x =>
    show optF none (fun a => out st (ifaceA C t a)) (evalF x C fr) = aftA ih st (e1 _ _)
    rw [aft_e1, evalF_eq]
    cases evalO C fr x with
    | none => rfl
    | some a => show out st _ = aftA ih st (AR.ofVal st _); rw [aft_val]; rfl
  case makeFunc f first captured =>
    show optF none (fun a => optF none (fun b => some (AV.fn f a b, st)) (evalLF captured.toList C fr)) (evalLF first.toList C fr) = aftA ih st (match evalL C fr first.toList, evalL C fr captured.toList with | some a, some b => some (.val (.fn f a b) st) | _, _ => none)
    rw [evalLF_eq, evalLF_eq]
    cases evalL C fr first.toList with
    | none => rfl
    | some a => cases evalL C fr captured.toList <;> rfl
  case fieldAddr t x n =>
    show optF none (fun a => out st (fieldAtF C t a n)) (evalF x C fr) = aftA ih st (e1 _ _)
    rw [aft_e1, evalF_eq]
    cases evalO C fr x with
    | none => rfl
    | some a => show out st (fieldAtF C t a n) = aftA ih st (AR.ofVal st _); rw [aft_val, fieldAtF_eq]; rfl
  case field t x n =>
    show optF none (fun a => out st (fieldF C t a n)) (evalF x C fr) = aftA ih st (e1 _ _)
    rw [aft_e1, evalF_eq]
    cases evalO C fr x with
    | none => rfl
    | some a => show out st (fieldF C t a n) = aftA ih st (AR.ofVal st _); rw [aft_val, fieldF_eq]; rfl
  case indexAddr t x i =>
    show optF none (fun a => optF none (fun b => out st (indexAtF C t a b)) (evalF i C fr)) (evalF x C fr) = aftA ih st (e1 _ _)
    rw [aft_e1, evalF_eq, evalF_eq]
    cases evalO C fr x with
    | none => rfl
    | some a =>
      show optF none _ _ = aftA ih st (e1 _ _)
      rw [aft_e1]
      cases evalO C fr i with
      | none => rfl
      | some b => show out st (indexAtF C t a b) = aftA ih st (AR.ofVal st _); rw [aft_val, indexAtF_eq]; rfl
  case index t x i =>
    show optF none (fun a => optF none (fun b => out st (indexF C t a b)) (evalF i C fr)) (evalF x C fr) = aftA ih st (e1 _ _)
    rw [aft_e1, evalF_eq, evalF_eq]
    cases evalO C fr x with
    | none => rfl
    | some a =>
      show optF none _ _ = aftA ih st (e1 _ _)
      rw [aft_e1]
      cases evalO C fr i with
      | none => rfl
      | some b => show out st (indexF C t a b) = aftA ih st (AR.ofVal st _); rw [aft_val, indexF_eq]; rfl
  case extract x n =>
    show optF none (tupD none fun l => out st (nthF l n)) (evalF x C fr) = aftA ih st (e1 _ _)
    rw [aft_e1, evalF_eq]
    cases evalO C fr x with
    | none => rfl
    | some a =>
      cases a with
      | tup l => show out st (nthF l n) = aftA ih st (AR.ofVal st _); rw [aft_val, nthF_eq]; rfl
      | _ => rfl
  case call c =>
    show optF none (fun args => calleeF c.callee c.argTypes.toList args C ih fr st) (evalLF c.args.toList C fr) = aftA ih st (match evalL C fr c.args.toList with
      | none => none
      | some args => match c.callee with
        | .builtin b => builtinA C b c.argTypes.toList args st
        | .value f => e1 (evalO C fr f) fun f => callA C f args st
        | .invoke _ _ => none)
    rw [evalLF_eq]
    cases evalL C fr c.args.toList with
    | none => rfl
    | some args => exact calleeF_eq c.callee c.argTypes.toList args C ih fr st
  all_goals rfl
end
end Go.Proofs.YtfamacgopcfhhaaGreatDoor.Ax
