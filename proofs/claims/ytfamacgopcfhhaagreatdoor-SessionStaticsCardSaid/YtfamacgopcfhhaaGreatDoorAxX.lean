/-
  AN EXECUTOR OVER AN ABSTRACT MEMORY, PART X: the same, quicker in the kernel: each step a small closed term, the recursors named; tries, values, one operation.
-/
import Derived.Test.YtfamacgopcfhhaaGreatDoorAxR
namespace Go.Proofs.YtfamacgopcfhhaaGreatDoor.Ax
open Go.RowKit

inductive Pos where
  | h
  | o (p : Pos)
  | i (p : Pos)

noncomputable section

def posF : Nat → Nat → Pos :=
  @Nat.rec (fun _ => Nat → Pos) (fun _ => .h) (fun _ ih k => @Bool.rec (fun _ => Pos) (@Bool.rec (fun _ => Pos) (.i (ih (Nat.sub (Nat.div k (nat_lit 2)) (nat_lit 1)))) (.o (ih (Nat.div k (nat_lit 2)))) (Nat.beq (Nat.mod k (nat_lit 2)) (nat_lit 1))) .h (Nat.beq k (nat_lit 0)))

section
variable {α : Type}
def getP (t : Tr α) : Pos → Option α :=
  @Tr.rec α (fun _ => Pos → Option α) (fun _ => none) (fun v _ _ gl gr p => @Pos.rec (fun _ => Option α) v (fun q _ => gl q) (fun q _ => gr q) p) t

def oneP (a : α) : Pos → Tr α :=
  @Pos.rec (fun _ => Tr α) (.node (some a) .leaf .leaf) (fun _ ih => .node none ih .leaf) (fun _ ih => .node none .leaf ih)

def setP (t : Tr α) : Pos → α → Tr α :=
  @Tr.rec α (fun _ => Pos → α → Tr α) (fun p a => oneP a p) (fun v l r sl sr p a => @Pos.rec (fun _ => Tr α) (.node (some a) l r) (fun q _ => .node v (sl q a) r) (fun q _ => .node v l (sr q a)) p) t

def getF (t : Tr α) (k : Nat) : Option α := getP t (posF k k)
def setF (t : Tr α) (k : Nat) (a : α) : Tr α := setP t (posF k k) a
def optF {β : Type} (d : β) (f : α → β) (x : Option α) : β := @Option.rec α (fun _ => β) d f x
end

theorem posF_succ (f k : Nat) : posF (f + 1) k = bif Nat.beq k 0 then .h else bif Nat.beq (k % 2) 1 then .o (posF f (k / 2)) else .i (posF f (k / 2 - 1)) := by
  show @Bool.rec (fun _ => Pos) (@Bool.rec (fun _ => Pos) (.i (posF f (k / 2 - 1))) (.o (posF f (k / 2))) (Nat.beq (k % 2) 1)) .h (Nat.beq k 0) = _
  cases Nat.beq k 0 <;> cases Nat.beq (k % 2) 1 <;> rfl

theorem getP_eq {α : Type} : ∀ (t : Tr α) (f k : Nat), k ≤ f → getP t (posF f k) = t.get k
  | .leaf, f, k, _ => rfl
  | .node v l r, 0, k, h => by
    have : k = 0 := by omega
    subst this
    rfl
  | .node v l r, f + 1, k, h => by
    rw [posF_succ]
    unfold Tr.get
    cases h0 : Nat.beq k 0 with
    | true => rfl
    | false =>
      have hk : k ≠ 0 := fun h' => by rw [h'] at h0; cases h0
      cases h1 : Nat.beq (k % 2) 1 with
      | true => exact getP_eq l f (k / 2) (by omega)
      | false => exact getP_eq r f (k / 2 - 1) (by omega)

theorem oneP_eq {α : Type} (a : α) : ∀ (f g k : Nat), k ≤ f → k ≤ g → oneP a (posF f k) = Tr.one g k a
  | 0, 0, k, h, _ => by have : k = 0 := by omega
                        subst this; rfl
  | 0, g + 1, k, h, _ => by have : k = 0 := by omega
                            subst this; rfl
  | f + 1, 0, k, _, h => by have : k = 0 := by omega
                            subst this; rfl
  | f + 1, g + 1, k, h, h' => by
    rw [posF_succ]
    unfold Tr.one
    cases h0 : Nat.beq k 0 with
    | true => rfl
    | false =>
      have hk : k ≠ 0 := fun h' => by rw [h'] at h0; cases h0
      cases h1 : Nat.beq (k % 2) 1 with
      | true => rw [cond_false, cond_true, cond_false, cond_true, ← oneP_eq a f g (k / 2) (by omega) (by omega)]; rfl
      | false => rw [cond_false, cond_false, cond_false, cond_false, ← oneP_eq a f g (k / 2 - 1) (by omega) (by omega)]; rfl

theorem setP_eq {α : Type} (a : α) : ∀ (t : Tr α) (f k : Nat), k ≤ f → setP t (posF f k) a = t.set k a
  | .leaf, f, k, h => oneP_eq a f k k h (Nat.le_refl k)
  | .node v l r, 0, k, h => by
    have : k = 0 := by omega
    subst this
    rfl
  | .node v l r, f + 1, k, h => by
    rw [posF_succ]
    unfold Tr.set
    cases h0 : Nat.beq k 0 with
    | true => rfl
    | false =>
      have hk : k ≠ 0 := fun h' => by rw [h'] at h0; cases h0
      cases h1 : Nat.beq (k % 2) 1 with
      | true => rw [cond_false, cond_true, cond_false, cond_true, ← setP_eq a l f (k / 2) (by omega)]; rfl
      | false => rw [cond_false, cond_false, cond_false, cond_false, ← setP_eq a r f (k / 2 - 1) (by omega)]; rfl

theorem getF_eq {α : Type} (t : Tr α) (k : Nat) : getF t k = t.get k := getP_eq t k k (Nat.le_refl k)
theorem setF_eq {α : Type} (t : Tr α) (k : Nat) (a : α) : setF t k a = t.set k a := setP_eq a t k k (Nat.le_refl k)
theorem optF_eq {α β : Type} (d : β) (f : α → β) (x : Option α) : optF d f x = match x with | none => d | some a => f a := by cases x <;> rfl

/-! Values. -/
section
variable {β : Type}
def intD (d : β) (f : IntKind → Int → β) (x : AV) : β :=
  @AV.rec (fun _ => β) (fun _ => PUnit) (fun _ => d) f (fun _ => d) d (fun _ _ => d) d (fun _ _ _ _ => d) (fun _ _ _ _ _ => d) d (fun _ => d) (fun _ _ _ _ _ => d) d (fun _ _ _ => d) d (fun _ _ => d) (fun _ _ => d) (fun _ => d) ⟨⟩ (fun _ _ _ _ => ⟨⟩) x
def boolD (d : β) (f : Bool → β) (x : AV) : β :=
  @AV.rec (fun _ => β) (fun _ => PUnit) f (fun _ _ => d) (fun _ => d) d (fun _ _ => d) d (fun _ _ _ _ => d) (fun _ _ _ _ _ => d) d (fun _ => d) (fun _ _ _ _ _ => d) d (fun _ _ _ => d) d (fun _ _ => d) (fun _ _ => d) (fun _ => d) ⟨⟩ (fun _ _ _ _ => ⟨⟩) x
def strD (d : β) (f : ByteArray → β) (x : AV) : β :=
  @AV.rec (fun _ => β) (fun _ => PUnit) (fun _ => d) (fun _ _ => d) f d (fun _ _ => d) d (fun _ _ _ _ => d) (fun _ _ _ _ _ => d) d (fun _ => d) (fun _ _ _ _ _ => d) d (fun _ _ _ => d) d (fun _ _ => d) (fun _ _ => d) (fun _ => d) ⟨⟩ (fun _ _ _ _ => ⟨⟩) x
def ptrD (d : β) (f : Nat → Nat → β) (x : AV) : β :=
  @AV.rec (fun _ => β) (fun _ => PUnit) (fun _ => d) (fun _ _ => d) (fun _ => d) d f d (fun _ _ _ _ => d) (fun _ _ _ _ _ => d) d (fun _ => d) (fun _ _ _ _ _ => d) d (fun _ _ _ => d) d (fun _ _ => d) (fun _ _ => d) (fun _ => d) ⟨⟩ (fun _ _ _ _ => ⟨⟩) x
def slD (d : β) (f g : Nat → Nat → Nat → Nat → β) (x : AV) : β :=
  @AV.rec (fun _ => β) (fun _ => PUnit) (fun _ => d) (fun _ _ => d) (fun _ => d) d (fun _ _ => d) d f (fun i off len sz _ => g i off len sz) d (fun _ => d) (fun _ _ _ _ _ => d) d (fun _ _ _ => d) d (fun _ _ => d) (fun _ _ => d) (fun _ => d) ⟨⟩ (fun _ _ _ _ => ⟨⟩) x
def fnD (d : β) (f : Fn → List AV → List AV → β) (x : AV) : β :=
  @AV.rec (fun _ => β) (fun _ => PUnit) (fun _ => d) (fun _ _ => d) (fun _ => d) d (fun _ _ => d) d (fun _ _ _ _ => d) (fun _ _ _ _ _ => d) d (fun _ => d) (fun g a b _ _ => f g a b) d (fun _ _ _ => d) d (fun _ _ => d) (fun _ _ => d) (fun _ => d) ⟨⟩ (fun _ _ _ _ => ⟨⟩) x
def aggD (d : β) (f : List AV → β) (x : AV) : β :=
  @AV.rec (fun _ => β) (fun _ => PUnit) (fun _ => d) (fun _ _ => d) (fun _ => d) d (fun _ _ => d) d (fun _ _ _ _ => d) (fun _ _ _ _ _ => d) d (fun _ => d) (fun _ _ _ _ _ => d) d (fun _ _ _ => d) d (fun l _ => f l) (fun _ _ => d) (fun _ => d) ⟨⟩ (fun _ _ _ _ => ⟨⟩) x
def tupD (d : β) (f : List AV → β) (x : AV) : β :=
  @AV.rec (fun _ => β) (fun _ => PUnit) (fun _ => d) (fun _ _ => d) (fun _ => d) d (fun _ _ => d) d (fun _ _ _ _ => d) (fun _ _ _ _ _ => d) d (fun _ => d) (fun _ _ _ _ _ => d) d (fun _ _ _ => d) d (fun _ _ => d) (fun l _ => f l) (fun _ => d) ⟨⟩ (fun _ _ _ _ => ⟨⟩) x
end

def scalarF (x : AV) : Bool :=
  @AV.rec (fun _ => Bool) (fun _ => Bool) (fun _ => true) (fun _ _ => true) (fun _ => true) true (fun _ _ => false) true (fun _ _ _ _ => false) (fun _ _ _ _ _ => false) true (fun _ => false) (fun _ _ _ a b => @Bool.rec (fun _ => Bool) false b a) true (fun _ _ v => v) true (fun _ c => c) (fun _ c => c) (fun _ => false) true (fun _ _ a b => @Bool.rec (fun _ => Bool) false b a) x
def scalarsF (l : List AV) : Bool := @List.rec AV (fun _ => Bool) true (fun a _ ih => @Bool.rec (fun _ => Bool) false ih (scalarF a)) l

mutual
theorem scalarF_eq : ∀ a, scalarF a = scalar a
  | .bool _ | .int _ _ | .str _ | .nilp | .ptr _ _ | .nils | .sl _ _ _ _ | .slu _ _ _ _ _ | .nilm | .mp _ | .nilf | .nili | .yld _ => by simp [scalar]; rfl
  | .fn f a b => by
    simp only [scalar, ← scalarsF_eq a, ← scalarsF_eq b]
    have e : ∀ l, @AV.rec_1 (fun _ => Bool) (fun _ => Bool) (fun _ => true) (fun _ _ => true) (fun _ => true) true (fun _ _ => false) true (fun _ _ _ _ => false) (fun _ _ _ _ _ => false) true (fun _ => false) (fun _ _ _ a b => @Bool.rec (fun _ => Bool) false b a) true (fun _ _ v => v) true (fun _ c => c) (fun _ c => c) (fun _ => false) true (fun _ _ a b => @Bool.rec (fun _ => Bool) false b a) l = scalarsF l := by
      intro l
      induction l with
      | nil => rfl
      | cons x l ih => exact congrArg (fun z => @Bool.rec (fun _ => Bool) false z (scalarF x)) ih
    show @Bool.rec (fun _ => Bool) false (AV.rec_1 _ _ _ _ _ _ _ _ _ _ _ _ _ _ _ _ _ _ _ b) (AV.rec_1 _ _ _ _ _ _ _ _ _ _ _ _ _ _ _ _ _ _ _ a) = _
    rw [e, e]
    cases scalarsF a <;> rfl
  | .iface _ v => by simp only [scalar, ← scalarF_eq v]; rfl
  | .agg l => by
    simp only [scalar, ← scalarsF_eq l]
    have e : ∀ l, @AV.rec_1 (fun _ => Bool) (fun _ => Bool) (fun _ => true) (fun _ _ => true) (fun _ => true) true (fun _ _ => false) true (fun _ _ _ _ => false) (fun _ _ _ _ _ => false) true (fun _ => false) (fun _ _ _ a b => @Bool.rec (fun _ => Bool) false b a) true (fun _ _ v => v) true (fun _ c => c) (fun _ c => c) (fun _ => false) true (fun _ _ a b => @Bool.rec (fun _ => Bool) false b a) l = scalarsF l := by
      intro l
      induction l with
      | nil => rfl
      | cons x l ih => exact congrArg (fun z => @Bool.rec (fun _ => Bool) false z (scalarF x)) ih
    exact e l
  | .tup l => by
    simp only [scalar, ← scalarsF_eq l]
    have e : ∀ l, @AV.rec_1 (fun _ => Bool) (fun _ => Bool) (fun _ => true) (fun _ _ => true) (fun _ => true) true (fun _ _ => false) true (fun _ _ _ _ => false) (fun _ _ _ _ _ => false) true (fun _ => false) (fun _ _ _ a b => @Bool.rec (fun _ => Bool) false b a) true (fun _ _ v => v) true (fun _ c => c) (fun _ c => c) (fun _ => false) true (fun _ _ a b => @Bool.rec (fun _ => Bool) false b a) l = scalarsF l := by
      intro l
      induction l with
      | nil => rfl
      | cons x l ih => exact congrArg (fun z => @Bool.rec (fun _ => Bool) false z (scalarF x)) ih
    exact e l
theorem scalarsF_eq : ∀ l, scalarsF l = scalars l
  | [] => by simp [scalars]; rfl
  | a :: l => by
    simp only [scalars, ← scalarF_eq a, ← scalarsF_eq l]
    show @Bool.rec (fun _ => Bool) false (scalarsF l) (scalarF a) = _
    cases scalarF a <;> rfl
end

/-! Whole numbers. -/
def kidF : IntKind → Nat := @IntKind.rec (fun _ => Nat) (nat_lit 0) (nat_lit 1) (nat_lit 2) (nat_lit 3) (nat_lit 4) (nat_lit 5) (nat_lit 6) (nat_lit 7)
def kbeqF (k k' : IntKind) : Bool := Nat.beq (kidF k) (kidF k')
theorem kbeqF_eq (k k' : IntKind) : kbeqF k k' = decide (k = k') := by cases k <;> cases k' <;> rfl

def fS (b : Nat) (n : Int) : Bool := @Int.rec (fun _ => Bool) (fun m => Nat.ble m b) (fun m => Nat.ble m b) n
def fU (b : Nat) (n : Int) : Bool := @Int.rec (fun _ => Bool) (fun m => Nat.ble m b) (fun _ => false) n
def fitsF : IntKind → Int → Bool := @IntKind.rec (fun _ => Int → Bool) (fS (nat_lit 127)) (fS (nat_lit 32767)) (fS (nat_lit 2147483647)) (fS (nat_lit 9223372036854775807)) (fU (nat_lit 255)) (fU (nat_lit 65535)) (fU (nat_lit 4294967295)) (fU (nat_lit 18446744073709551615))
theorem fitsF_eq (k : IntKind) (n : Int) : fitsF k n = fits k n := by cases k <;> cases n <;> rfl
def wrapF (k : IntKind) (n : Int) : Int := @Bool.rec (fun _ => Int) (k.wrap n) n (fitsF k n)
theorem wrapF_eq (k : IntKind) (n : Int) : wrapF k n = wrapQ k n := by
  unfold wrapF wrapQ
  rw [fitsF_eq]
  cases fits k n <;> rfl

def ieqF (a b : Int) : Bool := @Int.rec (fun _ => Bool) (fun m => @Int.rec (fun _ => Bool) (fun n => Nat.beq m n) (fun _ => false) b) (fun m => @Int.rec (fun _ => Bool) (fun _ => false) (fun n => Nat.beq m n) b) a
theorem ieqF_eq (a b : Int) : ieqF a b = ieq a b := by cases a <;> cases b <;> rfl
def iltF (a b : Int) : Bool := @Int.rec (fun _ => Bool) (fun m => @Int.rec (fun _ => Bool) (fun n => Nat.ble (Nat.succ m) n) (fun _ => false) b) (fun m => @Int.rec (fun _ => Bool) (fun _ => true) (fun n => Nat.ble (Nat.succ n) m) b) a
theorem iltF_eq (a b : Int) : iltF a b = ilt a b := by cases a <;> cases b <;> rfl
def notF (b : Bool) : Bool := @Bool.rec (fun _ => Bool) true false b
theorem notF_eq (b : Bool) : notF b = !b := by cases b <;> rfl

def subNatF (m n : Nat) : Int := @Nat.rec (fun _ => Int) (.ofNat (Nat.sub m n)) (fun k _ => .negSucc k) (Nat.sub n m)
def addF (a b : Int) : Int := @Int.rec (fun _ => Int) (fun m => @Int.rec (fun _ => Int) (fun n => .ofNat (Nat.add m n)) (fun n => subNatF m (Nat.succ n)) b) (fun m => @Int.rec (fun _ => Int) (fun n => subNatF n (Nat.succ m)) (fun n => .negSucc (Nat.succ (Nat.add m n))) b) a
theorem subNatF_eq (m n : Nat) : subNatF m n = Int.subNatNat m n := by
  unfold subNatF Int.subNatNat
  show @Nat.rec (fun _ => Int) (.ofNat (m - n)) (fun k _ => .negSucc k) (n - m) = _
  cases n - m <;> rfl
theorem addF_eq (a b : Int) : addF a b = a + b := by
  cases a with
  | ofNat m => cases b with
    | ofNat n => rfl
    | negSucc n => exact subNatF_eq m (n + 1)
  | negSucc m => cases b with
    | ofNat n => exact subNatF_eq n (m + 1)
    | negSucc n => rfl
def negF (a : Int) : Int := @Int.rec (fun _ => Int) (fun m => @Nat.rec (fun _ => Int) (.ofNat (nat_lit 0)) (fun k _ => .negSucc k) m) (fun m => .ofNat (Nat.succ m)) a
theorem negF_eq (a : Int) : negF a = -a := by
  cases a with
  | ofNat m => cases m <;> rfl
  | negSucc m => rfl
theorem subF_eq (a b : Int) : addF a (negF b) = a - b := by rw [addF_eq, negF_eq]; rfl

def withK (k k' : IntKind) (r : Option AV) : Option AV := @Bool.rec (fun _ => Option AV) none r (kbeqF k k')
theorem withK_eq (k k' : IntKind) (r : Option AV) : withK k k' r = bif decide (k = k') then r else none := by
  unfold withK; rw [kbeqF_eq]; cases decide (k = k') <;> rfl

abbrev IntT := IntKind → Int → IntKind → Int → Option AV
def iAdd : IntT := fun k a k' b => withK k k' (some (.int k (wrapF k (addF a b))))
def iSub : IntT := fun k a k' b => withK k k' (some (.int k (wrapF k (addF a (negF b)))))
def iEql : IntT := fun k a k' b => withK k k' (some (.bool (ieqF a b)))
def iNeq : IntT := fun k a k' b => withK k k' (some (.bool (notF (ieqF a b))))
def iLss : IntT := fun k a k' b => withK k k' (some (.bool (iltF a b)))
def iLeq : IntT := fun k a k' b => withK k k' (some (.bool (notF (iltF b a))))
def iGtr : IntT := fun k a k' b => withK k k' (some (.bool (iltF b a)))
def iGeq : IntT := fun k a k' b => withK k k' (some (.bool (notF (iltF a b))))
def iSlow (op : BinOp) : IntT := fun k a k' b => withK k k' (intBin op k a b)
def iShl : IntT := fun k a _ b => shiftA .shl k a b
def iShr : IntT := fun k a _ b => shiftA .shr k a b
def iMul : IntT := iSlow .mul
def iQuo : IntT := iSlow .quo
def iRem : IntT := iSlow .rem
def iAnd : IntT := iSlow .and
def iOr : IntT := iSlow .or
def iXor : IntT := iSlow .xor
def iAndNot : IntT := iSlow .andNot
def intTab : BinOp → IntT := @BinOp.rec (fun _ => IntT) iAdd iSub iMul iQuo iRem iAnd iOr iXor iShl iShr iAndNot iEql iNeq iLss iLeq iGtr iGeq

theorem intTab_eq (C : Cfg) (op : BinOp) (t : Nat) (cst : Bool) (k k' : IntKind) (a b : Int) : intTab op k a k' b = binA C op t cst (.int k a) (.int k' b) := by
  cases op
  case add => show iAdd k a k' b = _; unfold iAdd; rw [withK_eq, wrapF_eq, addF_eq]; rfl
  case sub => show iSub k a k' b = _; unfold iSub; rw [withK_eq, wrapF_eq, subF_eq]; rfl
  case eql => show iEql k a k' b = _; unfold iEql; rw [withK_eq, ieqF_eq]; rfl
  case neq => show iNeq k a k' b = _; unfold iNeq; rw [withK_eq, notF_eq, ieqF_eq]; rfl
  case lss => show iLss k a k' b = _; unfold iLss; rw [withK_eq, iltF_eq]; rfl
  case leq => show iLeq k a k' b = _; unfold iLeq; rw [withK_eq, notF_eq, iltF_eq]; rfl
  case gtr => show iGtr k a k' b = _; unfold iGtr; rw [withK_eq, iltF_eq]; rfl
  case geq => show iGeq k a k' b = _; unfold iGeq; rw [withK_eq, notF_eq, iltF_eq]; rfl
  case shl => rfl
  case shr => rfl
  all_goals (show iSlow _ k a k' b = _; unfold iSlow; rw [withK_eq]; rfl)

def beqLF (x : List UInt8) : List UInt8 → Bool :=
  @List.rec UInt8 (fun _ => List UInt8 → Bool) (fun y => @List.rec UInt8 (fun _ => Bool) true (fun _ _ _ => false) y)
    (fun a _ ih y => @List.rec UInt8 (fun _ => Bool) false (fun b ys _ => @Bool.rec (fun _ => Bool) false (ih ys) (Nat.beq a.toNat b.toNat)) y) x
theorem beqLF_eq : ∀ x y, beqLF x y = strBin.beqL x y
  | [], [] => by simp [strBin.beqL]; rfl
  | [], _ :: _ => by simp [strBin.beqL]; rfl
  | _ :: _, [] => by simp [strBin.beqL]; rfl
  | a :: x, b :: y => by
    show @Bool.rec (fun _ => Bool) false (beqLF x y) (Nat.beq a.toNat b.toNat) = _
    simp only [strBin.beqL]
    rw [beqLF_eq x y]
    cases Nat.beq a.toNat b.toNat <;> rfl
abbrev StrT := ByteArray → ByteArray → Option AV
def sEql : StrT := fun a b => some (.bool (beqLF a.data.toList b.data.toList))
def sNeq : StrT := fun a b => some (.bool (notF (beqLF a.data.toList b.data.toList)))
def sOp (op : BinOp) : StrT := strBin op
def strTab : BinOp → StrT := @BinOp.rec (fun _ => StrT) (sOp .add) (sOp .sub) (sOp .mul) (sOp .quo) (sOp .rem) (sOp .and) (sOp .or) (sOp .xor) (sOp .shl) (sOp .shr) (sOp .andNot) sEql sNeq (sOp .lss) (sOp .leq) (sOp .gtr) (sOp .geq)
theorem strTab_eq (C : Cfg) (op : BinOp) (t : Nat) (cst : Bool) (a b : ByteArray) : strTab op a b = binA C op t cst (.str a) (.str b) := by
  cases op
  case eql => show sEql a b = _; unfold sEql; rw [beqLF_eq]; rfl
  case neq => show sNeq a b = _; unfold sNeq; rw [beqLF_eq, notF_eq]; rfl
  all_goals rfl

def binF (C : Cfg) (op : BinOp) (t : Nat) (cst : Bool) (x y : AV) : Option AV :=
  intD (strD (binA C op t cst x y) (fun a => strD (binA C op t cst x y) (strTab op a) y) x) (fun k a => intD (binA C op t cst x y) (intTab op k a) y) x
theorem binF_eq (C : Cfg) (op : BinOp) (t : Nat) (cst : Bool) (x y : AV) : binF C op t cst x y = binA C op t cst x y := by
  cases x
  case int k a => cases y <;> first | rfl | exact intTab_eq C op t cst _ _ _ _
  case str a => cases y <;> first | rfl | exact strTab_eq C op t cst _ _
  all_goals rfl
end
end Go.Proofs.YtfamacgopcfhhaaGreatDoor.Ax
