/-
  The two functions Match, as answers under a guard.
-/
import Derived.Test.YtcabllflafejoaaGreatDoorMatch
namespace Go.Proofs.YtcabllflafejoaaGreatDoor
open Go Go.Proofs.YtcabllflafejoaaGreatDoor.Ax Go.RowKit

noncomputable def gMat : List AV → Option (Bool × AV)
  | [.agg [.int .i64 _, .str nx, .int .i64 r, .str fx], .agg [.int .i64 _, .str ny, .int .i64 q, .str fy]] => some (okS nx && okS ny, .bool (matchB nx r fx ny q fy))
  | _ => none
noncomputable def YN : GAns := fun f args => bif Nat.beq f 26 then gMat args else bif Nat.beq f 27 then gMat args else none
theorem gMat_ok {f : Nat} (hf : ∀ a nx r fx b ny q fy, okS nx = true → okS ny = true → Says C G f [.agg [.int .i64 a, .str nx, .int .i64 r, .str fx], .agg [.int .i64 b, .str ny, .int .i64 q, .str fy]] (.bool (matchB nx r fx ny q fy))) {args : List AV} {v : AV} (h : gMat args = some (true, v)) : Says C G f args v := by
  unfold gMat at h
  split at h
  · simp only [Option.some.injEq, Prod.mk.injEq, Bool.and_eq_true] at h
    obtain ⟨⟨h1, h2⟩, rfl⟩ := h
    exact hf _ _ _ _ _ _ _ _ h1 h2
  · cases h
theorem YN_ok : ∀ f args a, YN f args = some (true, a) → Says C G f args a := by
  intro f args a h
  unfold YN at h
  cases h1 : Nat.beq f 26 with
  | true =>
    rw [h1, cond_true] at h
    have := Nat.eq_of_beq_eq_true h1
    subst this
    exact gMat_ok (fun a nx r fx b ny q fy k1 k2 => match26_says lowS a nx r fx b ny q fy rfl k1 k2) h
  | false =>
    rw [h1, cond_false] at h
    cases h2 : Nat.beq f 27 with
    | true =>
      rw [h2, cond_true] at h
      have := Nat.eq_of_beq_eq_true h2
      subst this
      exact gMat_ok (fun a nx r fx b ny q fy k1 k2 => match27_says lowS a nx r fx b ny q fy rfl k1 k2) h
    | false => rw [h2, cond_false] at h; cases h
theorem matchB_self (nx : ByteArray) (r : Int) (fx : ByteArray) : matchB nx r fx nx r fx = true := by
  unfold matchB
  rw [beqLF_self, beqLF_self, ieqF_eq, ieq_eq]
  simp
end Go.Proofs.YtcabllflafejoaaGreatDoor
