/-
  The program as the executor takes it; the listed variables.
-/
import Derived.Test.YtfamacgopcfhhaaGreatDoorAxZc
import Derived.Test.YtfamacgopcfhhaaGreatDoorRows
import Derived.KernelRfl
namespace Go.Proofs.YtfamacgopcfhhaaGreatDoor
open Go Go.Proofs.YtfamacgopcfhhaaGreatDoor.Ax Go.RowKit

noncomputable def C : Cfg where
  P := Tryz.prog
  ty := fun t => match Tryz.prog.info? t, Tryz.prog.underlying t with
    | some i, some d => some (i, d)
    | _, _ => none
  fn := fun f => match Tryz.prog.funcs[f]? with
    | some x => (match x.name == "runtime.NumGoroutine", x.body with | false, some c => some (x, c) | _, _ => none)
    | none => none
  ext := fun f => bif Nat.beq f 138 then some (.indexByte) else bif Nat.beq f 168 then some (.count) else bif Nat.beq f 158 then some (.noEscape) else bif Nat.beq f 176 then some (.noZero 5) else none
  eqOk := fun t => !(Tryz.prog.stoodInHeld t) && !(Tryz.prog.eqGuardType Tryz.prog.depth t)
  glob := 8

theorem C_ok : C.Ok where
  ty := by
    intro t i d h
    simp only [C] at h ⊢
    split at h
    · rename_i a b h1 h2
      cases h
      exact ⟨h1, h2⟩
    · cases h
  fn := by
    intro f x c h
    simp only [C] at h ⊢
    split at h
    · rename_i y hy
      split at h
      · rename_i h1 h2
        cases h
        exact ⟨hy, h1, h2⟩
      · cases h
    · cases h
  mixed := by kernel_rfl
  yno := by kernel_rfl
  eqOk := by
    intro t h
    simp only [C, Bool.and_eq_true, Bool.not_eq_true'] at h
    exact h
  extByte := by
    intro f h
    simp only [C, Tr.cbeq] at h
    have hf : f = 138 := by
      revert h
      split
      · intro _; assumption
      split
      · intro h; cases h
      split
      · intro h; cases h
      split
      · intro h; cases h
      · intro h; cases h
    subst hf
    exact ⟨_, Tryz.func138, by kernel_rfl, by kernel_rfl, by kernel_rfl, by kernel_rfl⟩
  extCount := by
    intro f h
    simp only [C, Tr.cbeq] at h
    have hf : f = 168 := by
      revert h
      split
      · intro h; cases h
      split
      · intro _; assumption
      split
      · intro h; cases h
      split
      · intro h; cases h
      · intro h; cases h
    subst hf
    exact ⟨_, Tryz.func168, by kernel_rfl, by kernel_rfl, by kernel_rfl, by kernel_rfl⟩
  extSame := by
    intro f h
    simp only [C, Tr.cbeq] at h
    have hf : f = 158 := by
      revert h
      split
      · intro h; cases h
      split
      · intro h; cases h
      split
      · intro _; assumption
      split
      · intro h; cases h
      · intro h; cases h
    subst hf
    exact ⟨_, Tryz.func158, by kernel_rfl, by kernel_rfl, by kernel_rfl, by kernel_rfl⟩
  extZero := by
    intro f t h
    simp only [C, Tr.cbeq] at h
    have hf : f = 176 ∧ t = 5 := by
      revert h
      split
      · intro h; cases h
      split
      · intro h; cases h
      split
      · intro h; cases h
      split
      · intro h; cases h; exact ⟨by assumption, rfl⟩
      · intro h; cases h
    obtain ⟨rfl, rfl⟩ := hf
    exact ⟨_, (Tryz.f176).params, ((Tryz.f176).resultTypes)[0]!, Tryz.func176, by kernel_rfl, by kernel_rfl, by kernel_rfl, by kernel_rfl, by kernel_rfl⟩

noncomputable def laid : List (String × DataW Unit) := [("math/bits.deBruijn32tab", Rows.laid_math_bits_deBruijn32tab), ("math/bits.deBruijn64tab", Rows.laid_math_bits_deBruijn64tab), ("internal/strconv.uint64pow10", Rows.laid_internal_strconv_uint64pow10), ("unicode/utf8.acceptRanges", Rows.laid_unicode_utf8_acceptRanges), ("dialtone/session.directions", Rows.laid_dialtone_session_directions), ("dialtone/session.meanings", Rows.laid_dialtone_session_meanings), ("unicode/utf8.first", Rows.laid_unicode_utf8_first)]
noncomputable def tab : Tab := tabOf Tryz.prog laid
theorem tab_of {W : World} (h : laidMetH Tryz.prog laid W) : TabOk W tab := by
  have hp : (laid.filter fun x => x.2.handleName?.isSome) = [] := by kernel_rfl
  unfold laidMetH at h
  rw [hp] at h
  exact tabOf_ok h
theorem tab_lt : ∀ g l, (g, l) ∈ tab → g < 8 := tabLt_spec (by kernel_rfl)
end Go.Proofs.YtfamacgopcfhhaaGreatDoor
