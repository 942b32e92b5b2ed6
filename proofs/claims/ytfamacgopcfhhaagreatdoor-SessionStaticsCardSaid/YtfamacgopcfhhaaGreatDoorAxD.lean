/-
  AN EXECUTOR OVER AN ABSTRACT MEMORY, PART D: operations on numbers, strings and bools; equality.
-/
import Derived.Test.YtfamacgopcfhhaaGreatDoorAxC
import Derived.Lib.Strings
namespace Go.Proofs.YtfamacgopcfhhaaGreatDoor.Ax
open Go.RowKit

/-- The kind holds the number. -/
def fits : IntKind → Int → Bool
  | .i8, .ofNat m | .i8, .negSucc m => Nat.ble m 127
  | .i16, .ofNat m | .i16, .negSucc m => Nat.ble m 32767
  | .i32, .ofNat m | .i32, .negSucc m => Nat.ble m 2147483647
  | .i64, .ofNat m | .i64, .negSucc m => Nat.ble m 9223372036854775807
  | .u8, .ofNat m => Nat.ble m 255
  | .u16, .ofNat m => Nat.ble m 65535
  | .u32, .ofNat m => Nat.ble m 4294967295
  | .u64, .ofNat m => Nat.ble m 18446744073709551615
  | _, .negSucc _ => false

def wrapQ (k : IntKind) (n : Int) : Int := bif fits k n then n else k.wrap n

theorem wrapQ_eq (k : IntKind) (n : Int) : wrapQ k n = k.wrap n := by
  unfold wrapQ
  cases h : fits k n with
  | false => rfl
  | true =>
    rw [cond_true]
    symm
    cases n with
    | ofNat m =>
      have e : Int.ofNat m = (m : Int) := rfl
      rw [e]
      cases k <;> have hm := Nat.le_of_ble_eq_true h
      · exact IntWalk.i8_in _ (by omega)
      · exact IntWalk.i16_in _ (by omega)
      · exact IntWalk.i32_in _ (by omega)
      · exact IntWalk.i64_in _ (by omega)
      · exact IntWalk.u8_in _ (by omega)
      · exact IntWalk.u16_in _ (by omega)
      · exact IntWalk.u32_in _ (by omega)
      · exact IntWalk.u64_in _ (by omega)
    | negSucc m =>
      rw [Int.negSucc_eq]
      cases k
      · have hm := Nat.le_of_ble_eq_true h; exact IntWalk.i8_in _ (by omega)
      · have hm := Nat.le_of_ble_eq_true h; exact IntWalk.i16_in _ (by omega)
      · have hm := Nat.le_of_ble_eq_true h; exact IntWalk.i32_in _ (by omega)
      · have hm := Nat.le_of_ble_eq_true h; exact IntWalk.i64_in _ (by omega)
      · cases (show false = true from h)
      · cases (show false = true from h)
      · cases (show false = true from h)
      · cases (show false = true from h)

def ieq : Int → Int → Bool
  | .ofNat a, .ofNat b => Nat.beq a b
  | .negSucc a, .negSucc b => Nat.beq a b
  | _, _ => false

theorem nbeq (a b : Nat) : Nat.beq a b = decide (a = b) := by
  by_cases h : a = b
  · subst h; simp
  · have : Nat.beq a b = false := by
      cases hb : Nat.beq a b
      · rfl
      · exact absurd (Nat.eq_of_beq_eq_true hb) h
    simp [h, this]

theorem ieq_eq (a b : Int) : ieq a b = decide (a = b) := by
  cases a <;> cases b <;> simp only [ieq, nbeq]
  · exact decide_eq_decide.2 ⟨fun h => h ▸ rfl, fun h => Int.ofNat.inj h⟩
  · rfl
  · rfl
  · exact decide_eq_decide.2 ⟨fun h => h ▸ rfl, fun h => Int.negSucc.inj h⟩

def ilt : Int → Int → Bool
  | .ofNat a, .ofNat b => Nat.blt a b
  | .negSucc a, .negSucc b => Nat.blt b a
  | .negSucc _, .ofNat _ => true
  | .ofNat _, .negSucc _ => false

theorem ilt_eq (a b : Int) : ilt a b = decide (a < b) := by
  cases a <;> cases b <;> simp only [ilt, nblt] <;> (try simp) <;> (try omega)

def bitsA (op : BinOp) (k : IntKind) (x y : Int) : Option Int :=
  let a := BitVec.ofInt k.bits x
  let b := BitVec.ofInt k.bits y
  match op with
  | .and => some (wrapQ k (a &&& b).toNat)
  | .or => some (wrapQ k (a ||| b).toNat)
  | .xor => some (wrapQ k (a ^^^ b).toNat)
  | .andNot => some (wrapQ k (a &&& ~~~b).toNat)
  | _ => none

def intBin (op : BinOp) (k : IntKind) (a b : Int) : Option AV :=
  match op with
  | .add => some (.int k (wrapQ k (a + b)))
  | .sub => some (.int k (wrapQ k (a - b)))
  | .mul => some (.int k (wrapQ k (a * b)))
  | .quo => bif ieq b 0 then none else some (.int k (wrapQ k (a.tdiv b)))
  | .rem => bif ieq b 0 then none else some (.int k (a.tmod b))
  | .eql => some (.bool (ieq a b))
  | .neq => some (.bool (!ieq a b))
  | .lss => some (.bool (ilt a b))
  | .leq => some (.bool (!ilt b a))
  | .gtr => some (.bool (ilt b a))
  | .geq => some (.bool (!ilt a b))
  | .shl | .shr => none
  | op => match bitsA op k a b with | some n => some (.int k n) | none => none

/-- A bound that no string of a run comes near. -/
def maxStr : Nat := 1099511627776
theorem maxStr_eq : maxStr = 1099511627776 := rfl

def strBin (op : BinOp) (x y : ByteArray) : Option AV :=
  match op with
  | .add => bif Nat.ble (x.data.toList.length + y.data.toList.length) maxStr then some (.str ⟨⟨x.data.toList ++ y.data.toList⟩⟩) else none
  | .eql => some (.bool (beqL x.data.toList y.data.toList))
  | .neq => some (.bool (!beqL x.data.toList y.data.toList))
  | .lss => some (.bool (ltL x.data.toList y.data.toList))
  | .leq => some (.bool (ltL x.data.toList y.data.toList || beqL x.data.toList y.data.toList))
  | .gtr => some (.bool (!(ltL x.data.toList y.data.toList || beqL x.data.toList y.data.toList)))
  | .geq => some (.bool (!ltL x.data.toList y.data.toList))
  | _ => none
where
  beqL : List UInt8 → List UInt8 → Bool
    | [], [] => true
    | a :: x, b :: y => bif Nat.beq a.toNat b.toNat then beqL x y else false
    | _, _ => false
  ltL : List UInt8 → List UInt8 → Bool
    | _, [] => false
    | [], _ :: _ => true
    | a :: x, b :: y => bif Nat.blt a.toNat b.toNat then true else bif Nat.beq a.toNat b.toNat then ltL x y else false

theorem beqL_eq : ∀ (x y : List UInt8), strBin.beqL x y = (x == y)
  | [], [] => rfl
  | [], _ :: _ => rfl
  | _ :: _, [] => rfl
  | a :: x, b :: y => by
    simp only [strBin.beqL, Tr.cbeq, beqL_eq x y]
    by_cases h : a = b
    · subst h; simp
    · have : ¬ a.toNat = b.toNat := fun h' => h (UInt8.toNat_inj.1 h')
      simp [this, h]

theorem ltL_eq : ∀ (x y : List UInt8), strBin.ltL x y = Op.bytesLess x y
  | [], [] => rfl
  | [], _ :: _ => rfl
  | _ :: _, [] => rfl
  | a :: x, b :: y => by
    simp only [strBin.ltL, Tr.cbeq, ltL_eq x y, Op.bytesLess, nblt, UInt8.lt_iff_toNat_lt]
    by_cases h : a = b
    · subst h; simp
    · have h' : ¬ a.toNat = b.toNat := fun h' => h (UInt8.toNat_inj.1 h')
      by_cases h2 : a.toNat < b.toNat <;> simp [h, h', h2]

theorem VRel.ofBool {E : Env} {x y : Bool} (h : x = y) : VRel E (.bool x) (.bool y) := h ▸ .bool x
theorem VRel.ofInt {E : Env} {k : IntKind} {x y : Int} (h : x = y) : VRel E (.int k x) (.int k y) := h ▸ .int k x

section
variable {P : Program} {w : World}

theorem intBin_sound (op : BinOp) (k : IntKind) (a b : Int) (r : AV) (t : TypeId) (h : intBin op k a b = some r) : ∃ v, (binOp op t (.int k a) (.int k b)).run P w = .ok v w ∧ ∀ E, VRel E r v := by
  cases op <;> simp only [intBin, bitsA, reduceCtorEq, Option.some.injEq] at h
  case quo =>
    rw [ieq_eq] at h
    by_cases hb : b = 0
    · simp [hb] at h
    · simp only [hb, decide_false, cond_false, Option.some.injEq] at h
      subst h
      exact ⟨.int k (k.wrap (a.tdiv b)), by simp [binOp, Op.intDiv, hb], fun E => .ofInt (wrapQ_eq _ _)⟩
  case rem =>
    rw [ieq_eq] at h
    by_cases hb : b = 0
    · simp [hb] at h
    · simp only [hb, decide_false, cond_false, Option.some.injEq] at h
      subst h
      exact ⟨.int k (a.tmod b), by simp [binOp, Op.intDiv, hb], fun E => .int _ _⟩
  case add => subst h; exact ⟨_, by simp only [binOp, ne_eq, not_true_eq_false, if_false, Op.intArith]; rfl, fun E => .ofInt (wrapQ_eq _ _)⟩
  case sub => subst h; exact ⟨_, by simp only [binOp, ne_eq, not_true_eq_false, if_false, Op.intArith]; rfl, fun E => .ofInt (wrapQ_eq _ _)⟩
  case mul => subst h; exact ⟨_, by simp only [binOp, ne_eq, not_true_eq_false, if_false, Op.intArith]; rfl, fun E => .ofInt (wrapQ_eq _ _)⟩
  case and => subst h; exact ⟨_, by simp only [binOp, ne_eq, not_true_eq_false, if_false, Op.intBits]; rfl, fun E => .ofInt (wrapQ_eq _ _)⟩
  case or => subst h; exact ⟨_, by simp only [binOp, ne_eq, not_true_eq_false, if_false, Op.intBits]; rfl, fun E => .ofInt (wrapQ_eq _ _)⟩
  case xor => subst h; exact ⟨_, by simp only [binOp, ne_eq, not_true_eq_false, if_false, Op.intBits]; rfl, fun E => .ofInt (wrapQ_eq _ _)⟩
  case andNot => subst h; exact ⟨_, by simp only [binOp, ne_eq, not_true_eq_false, if_false, Op.intBits]; rfl, fun E => .ofInt (wrapQ_eq _ _)⟩
  case eql => subst h; exact ⟨.bool (a == b), by simp [binOp, Op.intCmp], fun E => .ofBool (by rw [ieq_eq]; rfl)⟩
  case neq => subst h; exact ⟨.bool (a != b), by simp [binOp, Op.intCmp], fun E => .ofBool (by rw [ieq_eq]; rfl)⟩
  case lss => subst h; exact ⟨.bool (decide (a < b)), by simp [binOp, Op.intCmp], fun E => .ofBool (by rw [ilt_eq])⟩
  case leq => subst h; exact ⟨.bool (decide (a ≤ b)), by simp [binOp, Op.intCmp], fun E => .ofBool (by rw [ilt_eq, ← decide_not]; exact decide_eq_decide.2 (by omega))⟩
  case gtr => subst h; exact ⟨.bool (decide (b < a)), by simp [binOp, Op.intCmp], fun E => .ofBool (by rw [ilt_eq])⟩
  case geq => subst h; exact ⟨.bool (decide (b ≤ a)), by simp [binOp, Op.intCmp], fun E => .ofBool (by rw [ilt_eq, ← decide_not]; exact decide_eq_decide.2 (by omega))⟩

theorem strBin_sound (op : BinOp) (x y : ByteArray) (r : AV) (t : TypeId) (h : strBin op x y = some r) : ∃ v, (binOp op t (.string x) (.string y)).run P w = .ok v w ∧ ∀ E, VRel E r v := by
  have hx := Lib.toList_data x
  have hy := Lib.toList_data y
  cases op <;> simp only [strBin, reduceCtorEq, Option.some.injEq] at h
  case add =>
    cases hb : Nat.ble (x.data.toList.length + y.data.toList.length) maxStr with
    | false => simp only [hb, cond_false, reduceCtorEq] at h
    | true =>
      simp only [hb, cond_true, Option.some.injEq] at h
      subst h
      have hb' := Nat.le_of_ble_eq_true hb
      rw [maxStr_eq] at hb'
      have hm : IntKind.i64.max = 9223372036854775807 := rfl
      refine ⟨.string (x ++ y), ?_, fun E => ?_⟩
      · have : ¬ (((x.size + y.size : Nat) : Int) > IntKind.i64.max) := by
          rw [hm]
          have e1 : x.size = x.data.toList.length := rfl
          have e2 : y.size = y.data.toList.length := rfl
          rw [e1, e2]
          omega
        simp only [binOp, Op.stringOp]
        rw [if_neg this]
        rfl
      · have : (⟨⟨x.data.toList ++ y.data.toList⟩⟩ : ByteArray) = x ++ y := by
          apply ByteArray.ext
          apply Array.ext'
          simp
        rw [this]
        exact .str _
  case eql => subst h; exact ⟨.bool (x.toList == y.toList), rfl, fun E => .ofBool (by rw [beqL_eq, hx, hy])⟩
  case neq => subst h; exact ⟨.bool (!(x.toList == y.toList)), rfl, fun E => .ofBool (by rw [beqL_eq, hx, hy])⟩
  case lss => subst h; exact ⟨.bool (Op.bytesLess x.toList y.toList), rfl, fun E => .ofBool (by rw [ltL_eq, hx, hy])⟩
  case leq => subst h; exact ⟨.bool (Op.bytesLess x.toList y.toList || x.toList == y.toList), rfl, fun E => .ofBool (by rw [ltL_eq, beqL_eq, hx, hy])⟩
  case gtr => subst h; exact ⟨.bool (!(Op.bytesLess x.toList y.toList || x.toList == y.toList)), rfl, fun E => .ofBool (by rw [ltL_eq, beqL_eq, hx, hy])⟩
  case geq => subst h; exact ⟨.bool (!Op.bytesLess x.toList y.toList), rfl, fun E => .ofBool (by rw [ltL_eq, hx, hy])⟩

/-- Shifts. -/
def shiftA (op : BinOp) (k : IntKind) (x y : Int) : Option AV :=
  match y with
  | .negSucc _ => none
  | .ofNat n =>
    let m := Nat.pow 2 (bif Nat.ble n k.bits then n else k.bits)
    match op with
    | .shl => some (.int k (wrapQ k (x * Int.ofNat m)))
    | .shr => some (.int k (x.fdiv (Int.ofNat m)))
    | _ => none

theorem shiftA_sound (op : BinOp) (k yk : IntKind) (x y : Int) (r : AV) (t : TypeId) (h : shiftA op k x y = some r) : ∃ v, (binOp op t (.int k x) (.int yk y)).run P w = .ok v w ∧ ∀ E, VRel E r v := by
  cases y with
  | negSucc n => simp [shiftA] at h
  | ofNat n =>
    have hm : (bif Nat.ble n k.bits then n else k.bits) = min n k.bits := by
      cases hb : Nat.ble n k.bits with
      | true => have := Nat.le_of_ble_eq_true hb; simp; omega
      | false =>
        have : ¬ n ≤ k.bits := fun h' => by rw [Nat.ble_eq_true_of_le h'] at hb; cases hb
        simp; omega
    have hp : (Int.ofNat (Nat.pow 2 (min n k.bits))) = (2 : Int) ^ (min n k.bits) := by
      show ((2 ^ (min n k.bits) : Nat) : Int) = _
      simp
    have hnn : ¬ (Int.ofNat n < 0) := by simp
    cases op <;> simp only [shiftA, reduceCtorEq, Option.some.injEq] at h
    case shl =>
      subst h
      refine ⟨.int k (k.wrap (x * 2 ^ (min n k.bits))), ?_, fun E => .ofInt (by rw [wrapQ_eq, hm, hp])⟩
      simp only [binOp, Op.shift]
      rw [if_neg hnn]
      rfl
    case shr =>
      subst h
      refine ⟨.int k (x.fdiv (2 ^ (min n k.bits))), ?_, fun E => .ofInt (by rw [hm, hp])⟩
      simp only [binOp, Op.shift]
      rw [if_neg hnn]
      rfl
end
end Go.Proofs.YtfamacgopcfhhaaGreatDoor.Ax
