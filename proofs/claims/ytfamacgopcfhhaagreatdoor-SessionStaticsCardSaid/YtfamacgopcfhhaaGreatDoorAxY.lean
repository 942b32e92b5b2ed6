/-
  AN EXECUTOR OVER AN ABSTRACT MEMORY, PART Y: the quick form of one operation.
-/
import Derived.Test.YtfamacgopcfhhaaGreatDoorAxX
namespace Go.Proofs.YtfamacgopcfhhaaGreatDoor.Ax
open Go.RowKit

noncomputable section
section
variable {α β γ : Type}
def ifF (b : Bool) (x y : β) : β := @Bool.rec (fun _ => β) y x b
theorem ifF_eq (b : Bool) (x y : β) : ifF b x y = bif b then x else y := by cases b <;> rfl
def prF (f : α → β → γ) (p : α × β) : γ := @Prod.rec α β (fun _ => γ) f p
def nthF (l : List α) : Nat → Option α := @List.rec α (fun _ => Nat → Option α) (fun _ => none) (fun a _ ih n => @Nat.rec (fun _ => Option α) (some a) (fun m _ => ih m) n) l
theorem nthF_eq : ∀ (l : List α) (n : Nat), nthF l n = nth l n
  | [], _ => rfl
  | _ :: _, 0 => rfl
  | _ :: l, n + 1 => nthF_eq l n
def dropF (l : List α) : Nat → List α := @List.rec α (fun _ => Nat → List α) (fun _ => []) (fun a l ih n => @Nat.rec (fun _ => List α) (a :: l) (fun m _ => ih m) n) l
theorem dropF_eq : ∀ (l : List α) (n : Nat), dropF l n = l.drop n
  | [], n => by cases n <;> rfl
  | _ :: _, 0 => rfl
  | _ :: l, n + 1 => dropF_eq l n
def takeF (l : List α) : Nat → List α := @List.rec α (fun _ => Nat → List α) (fun _ => []) (fun a _ ih n => @Nat.rec (fun _ => List α) [] (fun m _ => a :: ih m) n) l
theorem takeF_eq : ∀ (l : List α) (n : Nat), takeF l n = l.take n
  | [], n => by cases n <;> rfl
  | _ :: _, 0 => rfl
  | a :: l, n + 1 => congrArg (a :: ·) (takeF_eq l n)
def lenLF (l : List α) : Nat := @List.rec α (fun _ => Nat) (nat_lit 0) (fun _ _ n => Nat.succ n) l
theorem lenLF_eq : ∀ (l : List α), lenLF l = l.length
  | [] => rfl
  | _ :: l => congrArg (· + 1) (lenLF_eq l)
def appLF (l r : List α) : List α := @List.rec α (fun _ => List α) r (fun a _ ih => a :: ih) l
theorem appLF_eq : ∀ (l r : List α), appLF l r = l ++ r
  | [], _ => rfl
  | a :: l, r => congrArg (a :: ·) (appLF_eq l r)
def allLF (f : α → Bool) (l : List α) : Bool := @List.rec α (fun _ => Bool) true (fun a _ ih => @Bool.rec (fun _ => Bool) false ih (f a)) l
theorem allLF_eq (f : α → Bool) : ∀ (l : List α), allLF f l = l.all f
  | [] => rfl
  | a :: l => by
    show @Bool.rec (fun _ => Bool) false (allLF f l) (f a) = _
    rw [allLF_eq f l, List.all_cons]
    cases f a <;> rfl
def mapLF (f : α → β) (l : List α) : List β := @List.rec α (fun _ => List β) [] (fun a _ ih => f a :: ih) l
theorem mapLF_eq (f : α → β) : ∀ (l : List α), mapLF f l = l.map f
  | [] => rfl
  | a :: l => congrArg (f a :: ·) (mapLF_eq f l)
def ofLF (l : List α) : Nat → Tr α → Tr α := @List.rec α (fun _ => Nat → Tr α → Tr α) (fun _ t => t) (fun a _ ih k t => ih (Nat.succ k) (setF t k a)) l
theorem ofLF_eq : ∀ (l : List α) (k : Nat) (t : Tr α), ofLF l k t = Tr.ofList l k t
  | [], _, _ => rfl
  | a :: l, k, t => by
    show ofLF l (k + 1) (setF t k a) = Tr.ofList l (k + 1) (t.set k a)
    rw [ofLF_eq l, setF_eq]
def rowF (t : Tr α) (n : Nat) : Nat → Option (List α) := @Nat.rec (fun _ => Nat → Option (List α)) (fun _ => some []) (fun _ ih k => optF none (fun v => optF none (fun vs => some (v :: vs)) (ih (Nat.succ k))) (getF t k)) n
theorem rowF_eq (t : Tr α) : ∀ (n k : Nat), rowF t n k = t.row n k
  | 0, _ => rfl
  | n + 1, k => by
    show optF none (fun v => optF none (fun vs => some (v :: vs)) (rowF t n (k + 1))) (getF t k) = _
    rw [rowF_eq t n (k + 1), getF_eq]
    simp only [Tr.row]
    cases t.get k with
    | none => rfl
    | some v => cases t.row n (k + 1) <;> rfl
end

def tdD {β : Type} (d s : β) (i : IntKind → β) (sl : Nat → β) (ar : Nat → Nat → β) (st : Array Field → β) (x : TypeDesc) : β :=
  @TypeDesc.rec (fun _ => β) d d i (fun _ => d) (fun _ => d) s d (fun _ => d) sl ar (fun _ _ => d) (fun _ _ => d) st (fun _ _ _ => d) (fun _ => d) (fun _ => d) (fun _ _ => d) x

def isAggF (d : TypeDesc) : Bool := tdD false false (fun _ => false) (fun _ => false) (fun _ _ => true) (fun _ => true) d
theorem isAggF_eq (d : TypeDesc) : isAggF d = isAggD d := by cases d <;> rfl

def visF (st : St) (i : Nat) : Option Blk := @List.rec (Nat × Nat) (fun _ => Option Blk) (getF st.heap i) (fun _ _ _ => ifF (hidden st.hid i) none (getF st.heap i)) st.hid
theorem visF_eq (st : St) (i : Nat) : visF st i = st.vis i := by
  obtain ⟨h, n, l, hid⟩ := st
  cases hid with
  | nil => exact getF_eq h i
  | cons p l => show ifF _ none (getF h i) = _; rw [ifF_eq, getF_eq]; rfl

def cellsD {β : Type} (d : β) (f : Bool → TypeId → Nat → Bool → Tr AV → β) (b : Blk) : β := @Blk.rec (fun _ => β) f (fun _ _ => d) (fun _ _ => d) (fun _ _ _ _ _ _ _ => d) b

def cellsOfF (st : St) (i : Nat) : Option (Tr AV) := optF none (cellsD none (fun _ _ _ _ cs => some cs)) (visF st i)
theorem cellsOfF_eq (st : St) (i : Nat) : cellsOfF st i = st.cellsOf i := by
  unfold cellsOfF St.cellsOf
  rw [visF_eq]
  cases st.vis i with
  | none => rfl
  | some b => cases b <;> rfl

def ldF (C : Cfg) (st : St) (t i off : Nat) : Option AV :=
  optF none (prF fun ti d => optF none (fun cs => ifF (isAggF d) (optF none (fun l => some (.agg l)) (rowF cs ti.size off)) (getF cs off)) (cellsOfF st i)) (C.ty t)
theorem ldF_eq (C : Cfg) (st : St) (t i off : Nat) : ldF C st t i off = ldVar C st t i off := by
  unfold ldF ldVar
  cases C.ty t with
  | none => rfl
  | some p =>
    obtain ⟨ti, d⟩ := p
    show optF none _ (cellsOfF st i) = _
    rw [cellsOfF_eq]
    cases st.cellsOf i with
    | none => rfl
    | some cs =>
      show ifF (isAggF d) _ _ = bif isAggD d then _ else _
      rw [ifF_eq, isAggF_eq, rowF_eq, getF_eq]
      cases cs.row ti.size off <;> rfl

def isCellF (x : AV) : Bool :=
  @AV.rec (fun _ => Bool) (fun _ => PUnit) (fun _ => true) (fun _ _ => true) (fun _ => true) true (fun _ _ => true) true (fun _ _ _ _ => true) (fun _ _ _ _ _ => true) true (fun _ => true) (fun _ _ _ _ _ => true) true (fun _ _ _ => true) true (fun _ _ => false) (fun _ _ => false) (fun _ => true) ⟨⟩ (fun _ _ _ _ => ⟨⟩) x
theorem isCellF_eq (x : AV) : isCellF x = x.isCell := by cases x <;> rfl
def putStF (st : St) (i : Nat) (b : Blk) : St := ⟨setF st.heap i b, st.next, ifF (Nat.ble (Nat.succ i) st.low) i st.low, st.hid⟩
theorem putStF_eq (st : St) (i : Nat) (b : Blk) : putStF st i b = st.put i b := by
  unfold putStF St.put
  rw [setF_eq, ifF_eq]
  rfl
def wrF (st : St) (i off : Nat) (as : List AV) : Option St :=
  optF none (cellsD none fun ro e fr sh cs => ifF ro none (ifF (Nat.ble fr off) (ifF (allLF isCellF as) (optF none (fun _ => some (putStF st i (.cells false e fr sh (ofLF as off cs)))) (rowF cs (lenLF as) off)) none) none)) (visF st i)
theorem wrF_eq (st : St) (i off : Nat) (as : List AV) : wrF st i off as = wrCells st i off as := by
  unfold wrF wrCells
  rw [visF_eq]
  cases st.vis i with
  | none => rfl
  | some b =>
    cases b with
    | cells ro e fr sh cs =>
      show ifF ro none _ = _
      cases ro with
      | true => rfl
      | false =>
        show ifF (Nat.ble fr off) (ifF (allLF isCellF as) _ none) none = bif Nat.ble fr off && as.all AV.isCell then (match cs.row as.length off with | none => none | some _ => some (st.put i (.cells false e fr sh (Tr.ofList as off cs)))) else none
        rw [ifF_eq, ifF_eq, allLF_eq, lenLF_eq, rowF_eq, putStF_eq, ofLF_eq, show isCellF = AV.isCell from funext isCellF_eq]
        cases Nat.ble fr off with
        | false => rfl
        | true =>
          cases as.all AV.isCell with
          | false => rfl
          | true => cases cs.row as.length off <;> rfl
    | mapb _ _ => rfl
    | iter _ _ => rfl
    | loop _ _ _ _ _ _ _ => rfl
def stF (C : Cfg) (st : St) (t i off : Nat) (a : AV) : Option St :=
  optF none (prF fun ti _ => ifF (Nat.beq (lenLF (aggD [a] id a)) ti.size) (wrF st i off (aggD [a] id a)) none) (C.ty t)
theorem aggD_cells (a : AV) : aggD [a] id a = a.cells := by cases a <;> rfl
theorem stF_eq (C : Cfg) (st : St) (t i off : Nat) (a : AV) : stF C st t i off a = stVar C st t i off a := by
  unfold stF stVar
  rw [aggD_cells]
  cases C.ty t with
  | none => rfl
  | some p =>
    obtain ⟨ti, d⟩ := p
    show ifF _ _ none = _
    rw [ifF_eq, wrF_eq, lenLF_eq]

def newF (st : St) (b : Blk) (k : Nat → St → Option (AV × St)) : Option (AV × St) := ifF (hidden st.hid st.next) none (k st.next ⟨setF st.heap st.next b, Nat.succ st.next, st.low, st.hid⟩)
theorem newF_eq (st : St) (b : Blk) (k : Nat → St → Option (AV × St)) : newF st b k = match newBlk st b with | none => none | some (i, st') => k i st' := by
  unfold newF newBlk
  rw [ifF_eq, setF_eq]
  cases hidden st.hid st.next <;> rfl

/-! Operands. -/
structure EB where
  f : Cfg → Fr → Option AV
def tmpB (g : GB) : EB := @GB.rec (fun _ => EB) (fun f => ⟨fun _ x => f x⟩) g
def evalB (x : Operand) : EB :=
  @Operand.rec (fun _ => EB) (fun t => tmpB (gB t)) (fun v => ⟨fun _ _ => ofV v⟩) (fun g => ⟨fun C _ => ifF (Nat.ble (Nat.succ g) C.glob) (some (.ptr g (nat_lit 0))) none⟩) (fun f => ⟨fun _ _ => some (.fn (.func f) [] [])⟩) x
def evalF (x : Operand) : Cfg → Fr → Option AV := (evalB x).f
theorem evalF_eq (x : Operand) (C : Cfg) (fr : Fr) : evalF x C fr = evalO C fr x := by
  cases x with
  | tmp t => exact gB_eq t fr
  | const v => rfl
  | global g => show ifF _ _ _ = _; rw [ifF_eq]; rfl
  | func f => rfl

def evalLF (l : List Operand) : Cfg → Fr → Option (List AV) :=
  @List.rec Operand (fun _ => Cfg → Fr → Option (List AV)) (fun _ _ => some []) (fun x _ ih C fr => optF none (fun a => optF none (fun as => some (a :: as)) (ih C fr)) (evalF x C fr)) l
theorem evalLF_eq (C : Cfg) (fr : Fr) : ∀ (l : List Operand), evalLF l C fr = evalL C fr l
  | [] => rfl
  | x :: l => by
    show optF none (fun a => optF none (fun as => some (a :: as)) (evalLF l C fr)) (evalF x C fr) = _
    rw [evalLF_eq C fr l, evalF_eq]
    simp only [evalL]
    cases evalO C fr x with
    | none => rfl
    | some a => cases evalL C fr l <;> rfl

/-! Fields and elements. -/
def partF (C : Cfg) (t : Nat) (cs : List AV) (off : Nat) : Option AV :=
  optF none (prF fun ti d => ifF (isAggF d) (some (.agg (takeF (dropF cs off) ti.size))) (nthF cs off)) (C.ty t)
theorem partF_eq (C : Cfg) (t : Nat) (cs : List AV) (off : Nat) : partF C t cs off = partA C t cs off := by
  unfold partF partA
  cases C.ty t with
  | none => rfl
  | some p =>
    obtain ⟨ti, d⟩ := p
    show ifF _ _ _ = _
    rw [ifF_eq, isAggF_eq, takeF_eq, dropF_eq, nthF_eq]

def fieldF (C : Cfg) (t : Nat) (x : AV) (n : Nat) : Option AV :=
  optF none (prF fun _ d => tdD none none (fun _ => none) (fun _ => none) (fun _ _ => none) (fun fields => optF none (fun f => aggD none (fun cs => partF C f.type cs f.offset) x) (nthF fields.toList n)) d) (C.ty t)
theorem fieldF_eq (C : Cfg) (t : Nat) (x : AV) (n : Nat) : fieldF C t x n = fieldA C t x n := by
  unfold fieldF fieldA
  cases C.ty t with
  | none => rfl
  | some p =>
    obtain ⟨ti, d⟩ := p
    cases d with
    | struct fields =>
      show optF none _ (nthF fields.toList n) = _
      rw [nthF_eq]
      dsimp only
      cases nth fields.toList n with
      | none => rfl
      | some f =>
        cases x with
        | agg cs => exact partF_eq C f.type cs f.offset
        | _ => rfl
    | _ => rfl

def fieldAtF (C : Cfg) (t : Nat) (x : AV) (n : Nat) : Option AV :=
  optF none (prF fun _ d => tdD none none (fun _ => none) (fun _ => none) (fun _ _ => none) (fun fields => optF none (fun f => ptrD none (fun i off => optF none (prF fun ti _ => ifF (Nat.beq ti.size (nat_lit 0)) none (some (.ptr i (Nat.add off f.offset)))) (C.ty f.type)) x) (nthF fields.toList n)) d) (C.ty t)
theorem fieldAtF_eq (C : Cfg) (t : Nat) (x : AV) (n : Nat) : fieldAtF C t x n = fieldAtA C t x n := by
  unfold fieldAtF fieldAtA
  cases C.ty t with
  | none => rfl
  | some p =>
    obtain ⟨ti, d⟩ := p
    cases d with
    | struct fields =>
      show optF none _ (nthF fields.toList n) = _
      rw [nthF_eq]
      dsimp only
      cases nth fields.toList n with
      | none => rfl
      | some f =>
        cases x with
        | ptr i off =>
          show optF none _ (C.ty f.type) = _
          cases hq : C.ty f.type with
          | none => simp [optF, hq]
          | some q =>
            obtain ⟨ti, _⟩ := q
            simp only [hq]
            show ifF _ none _ = _
            rw [ifF_eq]; rfl
        | _ => rfl
    | _ => rfl

def indexAtF (C : Cfg) (t : Nat) (x i : AV) : Option AV :=
  intD none (fun _ z => @Int.rec (fun _ => Option AV) (fun n =>
    optF none (prF fun _ d => tdD none none (fun _ => none)
      (fun elem => optF none (prF fun ei _ => slD none (fun b off len _ => ifF (Nat.ble (Nat.succ n) len) (some (.ptr b (Nat.add off (Nat.mul n ei.size)))) none) (fun b off len _ => ifF (Nat.ble (Nat.succ n) len) (some (.ptr b (Nat.add off (Nat.mul n ei.size)))) none) x) (C.ty elem))
      (fun len elem => optF none (prF fun ei _ => ptrD none (fun b off => ifF (Nat.ble (Nat.succ n) len) (some (.ptr b (Nat.add off (Nat.mul n ei.size)))) none) x) (C.ty elem)) (fun _ => none) d) (C.ty t)) (fun _ => none) z) i
theorem indexAtF_eq (C : Cfg) (t : Nat) (x i : AV) : indexAtF C t x i = indexAtA C t x i := by
  unfold indexAtA
  cases i with
  | int k z =>
    cases z with
    | ofNat n =>
      show optF none _ (C.ty t) = _
      simp only [natOf]
      cases C.ty t with
      | none => rfl
      | some p =>
        obtain ⟨ti, d⟩ := p
        cases d with
        | slice elem =>
          show optF none _ (C.ty elem) = _
          simp only
          cases C.ty elem with
          | none => rfl
          | some q =>
            obtain ⟨ei, _⟩ := q
            cases x with
            | sl b off len cap => show ifF _ _ _ = _; rw [ifF_eq]; rfl
            | slu b off len cap lb => show ifF _ _ _ = _; rw [ifF_eq]; rfl
            | _ => rfl
        | array len elem =>
          show optF none _ (C.ty elem) = _
          simp only
          cases C.ty elem with
          | none => rfl
          | some q =>
            obtain ⟨ei, _⟩ := q
            cases x with
            | ptr b off => show ifF _ _ _ = _; rw [ifF_eq]; rfl
            | _ => rfl
        | _ => rfl
    | negSucc n => rfl
  | _ => rfl

def byteF (b : UInt8) : AV := .int .u8 (Int.ofNat b.toNat)
def indexF (C : Cfg) (t : Nat) (x i : AV) : Option AV :=
  strD (indexA C t x i) (fun s => intD (indexA C t x i) (fun _ z => @Int.rec (fun _ => Option AV) (fun n =>
    optF none (prF fun _ d => tdD none (optF none (fun b => some (byteF b)) (nthF s.data.toList n)) (fun _ => none) (fun _ => none) (fun _ _ => none) (fun _ => none) d) (C.ty t)) (fun _ => none) z) i) x
theorem indexF_eq (C : Cfg) (t : Nat) (x i : AV) : indexF C t x i = indexA C t x i := by
  cases x with
  | str s =>
    cases i with
    | int k z =>
      cases z with
      | ofNat n =>
        unfold indexA
        show optF none _ (C.ty t) = _
        simp only [natOf]
        cases C.ty t with
        | none => rfl
        | some p =>
          obtain ⟨ti, d⟩ := p
          cases d with
          | string =>
            show optF none _ (nthF s.data.toList n) = _
            rw [nthF_eq]
            dsimp only
            cases nth s.data.toList n <;> rfl
          | _ => rfl
      | negSucc n => rfl
    | _ => rfl
  | _ => rfl

/-! Calls. -/
def lenF (C : Cfg) (tys : List Nat) (args : List AV) (st : St) : Option AV :=
  @List.rec Nat (fun _ => Option AV) none (fun t0 _ _ => @List.rec AV (fun _ => Option AV) none (fun x l _ => @List.rec AV (fun _ => Option AV)
    (strD (slD (lenA C tys args st) (fun _ _ n _ => optF none (prF fun _ d => tdD (lenA C tys args st) none (fun _ => none) (fun _ => some (.int .i64 (.ofNat n))) (fun _ _ => lenA C tys args st) (fun _ => none) d) (C.ty t0))
        (fun _ _ n _ => optF none (prF fun _ d => tdD (lenA C tys args st) none (fun _ => none) (fun _ => some (.int .i64 (.ofNat n))) (fun _ _ => lenA C tys args st) (fun _ => none) d) (C.ty t0)) x)
      (fun s => optF none (prF fun _ d => tdD (lenA C tys args st) (some (.int .i64 (.ofNat (lenLF s.data.toList)))) (fun _ => none) (fun _ => none) (fun _ _ => lenA C tys args st) (fun _ => none) d) (C.ty t0)) x)
    (fun _ _ _ => none) l) args) tys
theorem lenF_eq (C : Cfg) (tys : List Nat) (args : List AV) (st : St) : lenF C tys args st = lenA C tys args st := by
  cases tys with
  | nil => rfl
  | cons t0 ts =>
    cases args with
    | nil => rfl
    | cons x l =>
      cases l with
      | cons y l => rfl
      | nil =>
        cases x with
        | str s =>
          have e : lenLF s.data.toList = s.data.toList.length := lenLF_eq _
          show optF none _ (C.ty t0) = _
          cases hty : C.ty t0 with
          | none => simp only [lenA, hty]; rfl
          | some p =>
            obtain ⟨ti, d⟩ := p
            rw [e]
            cases d <;> simp only [lenA, hty] <;> rfl
        | sl i off n cap =>
          show optF none _ (C.ty t0) = _
          cases hty : C.ty t0 with
          | none => simp only [lenA, hty]; rfl
          | some p =>
            obtain ⟨ti, d⟩ := p
            cases d <;> simp only [lenA, hty] <;> rfl
        | slu i off n cap lb =>
          show optF none _ (C.ty t0) = _
          cases hty : C.ty t0 with
          | none => simp only [lenA, hty]; rfl
          | some p =>
            obtain ⟨ti, d⟩ := p
            cases d <;> simp only [lenA, hty] <;> rfl
        | _ => rfl
end
end Go.Proofs.YtfamacgopcfhhaaGreatDoor.Ax
