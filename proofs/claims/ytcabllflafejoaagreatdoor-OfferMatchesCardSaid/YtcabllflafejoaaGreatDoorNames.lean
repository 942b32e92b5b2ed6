/-
  Contracts of the two functions that turn letters small, as answers under a guard.
-/
import Derived.Test.YtcabllflafejoaaGreatDoorAwake
import Derived.Test.YtcabllflafejoaaGreatDoorLower
import Derived.Test.YtcabllflafejoaaGreatDoorAxZf
namespace Go.Proofs.YtcabllflafejoaaGreatDoor
open Go Go.Proofs.YtcabllflafejoaaGreatDoor.Ax Go.RowKit

def okS (s : ByteArray) : Bool := Nat.ble s.size 9223372036854775807
theorem lower_says {f : Nat} (hf : ∀ (s : ByteArray) (w : World), s.size ≤ 9223372036854775807 → Calls Tryz.prog f #[.string s] w fun e w' => e = .returned (.string (lowS s)) ∧ Below w.heap.size w w') (s : ByteArray) (h : okS s = true) : Says C G f [.str s] (.str (lowS s)) := by
  intro W hG E vs hv
  have hvs : vs = #[.string s] := by
    obtain ⟨l⟩ := vs
    cases hv with
    | cons hv hs =>
      cases hv
      cases hs
      rfl
  subst hvs
  refine (hf s W (Nat.le_of_ble_eq_true h)).mono ?_
  rintro e w' ⟨rfl, hb⟩
  exact ⟨_, rfl, fun _ => .str _, hb⟩
def gLow (L : ByteArray → ByteArray) : List AV → Option (Bool × AV)
  | [.str s] => some (okS s, .str (L s))
  | _ => none
def YL (L : ByteArray → ByteArray) : GAns := fun f args => bif Nat.beq f 66 then gLow L args else bif Nat.beq f 67 then gLow L args else none
abbrev YM : GAns := YL lowS
theorem gLow_ok {f : Nat} (hf : ∀ (s : ByteArray) (w : World), s.size ≤ 9223372036854775807 → Calls Tryz.prog f #[.string s] w fun e w' => e = .returned (.string (lowS s)) ∧ Below w.heap.size w w') {args : List AV} {a : AV} (h : gLow lowS args = some (true, a)) : Says C G f args a := by
  unfold gLow at h
  split at h
  · rename_i s
    simp only [Option.some.injEq, Prod.mk.injEq] at h
    obtain ⟨h1, rfl⟩ := h
    exact lower_says hf s h1
  · cases h
theorem YM_ok : ∀ f args a, YM f args = some (true, a) → Says C G f args a := by
  intro f args a h
  unfold YM YL at h
  cases h1 : Nat.beq f 66 with
  | true =>
    rw [h1, cond_true] at h
    have := Nat.eq_of_beq_eq_true h1
    subst this
    exact gLow_ok lower66 h
  | false =>
    rw [h1, cond_false] at h
    cases h2 : Nat.beq f 67 with
    | true =>
      rw [h2, cond_true] at h
      have := Nat.eq_of_beq_eq_true h2
      subst this
      exact gLow_ok lower67 h
    | false => rw [h2, cond_false] at h; cases h
theorem isV_yes : isV (.bool true) (.bool true) = true := isV_of rfl
theorem beqLF_self (l : List UInt8) : beqLF l l = true := by
  rw [beqLF_eq]
  induction l with
  | nil => rfl
  | cons a l ih => simp [strBin.beqL, ih]
end Go.Proofs.YtcabllflafejoaaGreatDoor
