/-
  AN EXECUTOR OVER AN ABSTRACT MEMORY, PART I: binary operations, append, copy, len.
-/
import Derived.Test.YtfamacgopcfhhaaGreatDoorAxH
namespace Go.Proofs.YtfamacgopcfhhaaGreatDoor.Ax
open Go.RowKit

def isConst : Operand → Bool
  | .const _ => true
  | _ => false

def eqqA (C : Cfg) (t : Nat) (cst : Bool) (x y : AV) : Option Bool :=
  match x, y with
  | .nili, .nili => bif cst then eqA C 64 t .nili .nili else none
  | .agg xs, .agg ys => bif C.eqOk t then eqA C 64 t (.agg xs) (.agg ys) else none
  | x, y => eqA C 64 t x y

def binA (C : Cfg) (op : BinOp) (t : Nat) (cst : Bool) (x y : AV) : Option AV :=
  match op, x, y with
  | .shl, .int k a, .int _ b => shiftA .shl k a b
  | .shr, .int k a, .int _ b => shiftA .shr k a b
  | op, .int k a, .int k' b => bif decide (k = k') then intBin op k a b else none
  | op, .str a, .str b => strBin op a b
  | .eql, x, y => (match eqqA C t cst x y with | some b => some (.bool b) | none => none)
  | .neq, x, y => (match eqqA C t cst x y with | some b => some (.bool (!b)) | none => none)
  | _, _, _ => none

theorem guardOff (P : Program) (w : World) (op : BinOp) (t : Nat) (ox oy : Operand) (v u : Value) (hg : (match v, u with | .nilIface, .nilIface => false | .agg _, .agg _ => false | _, _ => true) = true) : (eqGuard op t ox oy v u).run P w = .ok () w := by
  cases op <;> first
    | rfl
    | (cases v <;> first
        | rfl
        | (cases u <;> first | rfl | cases (show false = true from hg)))

theorem eqqA_sound {C : Cfg} (hC : C.Ok) {E : Env} {w : World} {t : Nat} {ox oy : Operand} {x y : AV} {v u : Value} {b : Bool} (op : BinOp) (h : eqqA C t (isConst ox || isConst oy) x y = some b) (hv : VRel E x v) (hu : VRel E y u) :
    (eqGuard op t ox oy v u).run C.P w = .ok () w ∧ (Op.equal t v u).run C.P w = .ok b w := by
  have key : ∀ x y, eqA C 64 t x y = some b → VRel E x v → VRel E y u → (Op.equal t v u).run C.P w = .ok b w :=
    fun x y h hv hu => (eqA_sound hC w 64).1 10000 t x y v u b (by decide) h hv hu
  unfold eqqA at h
  split at h
  · cases hv; cases hu
    cases hc : (isConst ox || isConst oy) with
    | false => simp [hc] at h
    | true =>
      simp only [hc, cond_true] at h
      refine ⟨?_, key _ _ h .nili .nili⟩
      cases op <;> cases ox <;> cases oy <;> first | rfl | cases (show false = true from hc)
  · rename_i xs ys
    cases hk : C.eqOk t with
    | false => simp [hk] at h
    | true =>
      simp only [hk, cond_true] at h
      refine ⟨?_, key _ _ h hv hu⟩
      cases hv; cases hu
      exact run_eqGuard_agg w op t ox oy _ _ (hC.eqOk t hk).2
  · rename_i hn1 hn2
    refine ⟨?_, key _ _ h hv hu⟩
    refine guardOff _ _ _ _ _ _ _ _ ?_
    cases hv <;> first
      | rfl
      | (cases hu <;> first
          | rfl
          | exact absurd rfl (hn1 rfl)
          | exact absurd rfl (hn2 _ _ rfl))

theorem binA_sound {C : Cfg} (hC : C.Ok) {w0 : World} {E : Env} {st : St} {w : World} (h : Sim w0 E st w) {op : BinOp} {t : Nat} {ox oy : Operand} {x y a : AV} {v u : Value} (hs : binA C op t (isConst ox || isConst oy) x y = some a) (hv : VRel E x v) (hu : VRel E y u) :
    Gives C w0 E st w (do eqGuard op t ox oy v u; binOp op t v u) a st := by
  have gII : ∀ k a k' b, (eqGuard op t ox oy (.int k a) (.int k' b)).run C.P w = .ok () w := fun k a k' b => guardOff C.P w op t ox oy (.int k a) (.int k' b) rfl
  have gSS : ∀ a b, (eqGuard op t ox oy (.string a) (.string b)).run C.P w = .ok () w := fun a b => guardOff C.P w op t ox oy (.string a) (.string b) rfl
  unfold binA at hs
  split at hs
  · cases hv; cases hu
    obtain ⟨r, h1, h2⟩ := shiftA_sound (P := C.P) (w := w) .shl _ _ _ _ a t hs
    exact Gives.pure h (by simp only [Sem.run_bind, gII, Result.andThen_ok]; exact h1) (h2 E)
  · cases hv; cases hu
    obtain ⟨r, h1, h2⟩ := shiftA_sound (P := C.P) (w := w) .shr _ _ _ _ a t hs
    exact Gives.pure h (by simp only [Sem.run_bind, gII, Result.andThen_ok]; exact h1) (h2 E)
  · rename_i k a1 k' b1 _ _
    by_cases hk : k = k'
    · subst hk
      simp only [decide_true, cond_true] at hs
      cases hv; cases hu
      obtain ⟨r, h1, h2⟩ := intBin_sound (P := C.P) (w := w) op k a1 b1 a t hs
      exact Gives.pure h (by simp only [Sem.run_bind, gII, Result.andThen_ok]; exact h1) (h2 E)
    · simp [hk] at hs
  · cases hv; cases hu
    obtain ⟨r, h1, h2⟩ := strBin_sound (P := C.P) (w := w) op _ _ a t hs
    exact Gives.pure h (by simp only [Sem.run_bind, gSS, Result.andThen_ok]; exact h1) (h2 E)
  · rename_i n1 n2 
    cases he : eqqA C t (isConst ox || isConst oy) x y with
    | none => simp [he] at hs
    | some b =>
      simp only [he, Option.some.injEq] at hs
      subst hs
      obtain ⟨h1, h2⟩ := eqqA_sound (w := w) hC .eql he hv hu
      refine Gives.pure h (v := .bool b) ?_ (.bool _)
      have hb : (binOp .eql t v u).run C.P w = ((Op.equal t v u).run C.P w).andThen fun b w' => .ok (.bool b) w' := by
        cases hv <;> cases hu <;> first
          | (simp only [binOp, Sem.run_bind, Sem.run_pure]; done)
          | exact absurd rfl (n1 _ _ _ _ rfl)
          | exact absurd rfl (n2 _ _ rfl)
      simp only [Sem.run_bind, h1, Result.andThen_ok, hb, h2]
  · rename_i n1 n2
    cases he : eqqA C t (isConst ox || isConst oy) x y with
    | none => simp [he] at hs
    | some b =>
      simp only [he, Option.some.injEq] at hs
      subst hs
      obtain ⟨h1, h2⟩ := eqqA_sound (w := w) hC .neq he hv hu
      refine Gives.pure h (v := .bool (!b)) ?_ (.bool _)
      have hb : (binOp .neq t v u).run C.P w = ((Op.equal t v u).run C.P w).andThen fun b w' => .ok (.bool (!b)) w' := by
        cases hv <;> cases hu <;> first
          | (simp only [binOp, Sem.run_bind, Sem.run_pure]; done)
          | exact absurd rfl (n1 _ _ _ _ rfl)
          | exact absurd rfl (n2 _ _ rfl)
      simp only [Sem.run_bind, h1, Result.andThen_ok, hb, h2]
  · cases hs
end Go.Proofs.YtfamacgopcfhhaaGreatDoor.Ax
