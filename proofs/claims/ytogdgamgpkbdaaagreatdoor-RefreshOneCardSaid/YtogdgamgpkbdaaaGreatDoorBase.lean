/-
  The program as the executor takes it; the listed variables; the examples that every law of the chapter looks at ('works') come to true, in whatever world whose listed variables read as the rows say.
-/
import Derived.Test.YtogdgamgpkbdaaaGreatDoorAxZb
import Derived.Test.YtogdgamgpkbdaaaGreatDoorRows
import Derived.KernelRfl
namespace Go.Proofs.YtogdgamgpkbdaaaGreatDoor
open Go Go.Proofs.YtogdgamgpkbdaaaGreatDoor.Ax Go.RowKit

noncomputable def C : Cfg where
  P := Tryz.prog
  ty := fun t => match Tryz.prog.info? t, Tryz.prog.underlying t with
    | some i, some d => some (i, d)
    | _, _ => none
  fn := fun f => match Tryz.prog.funcs[f]? with
    | some x => (match x.name == "runtime.NumGoroutine", x.body with | false, some c => some (x, c) | _, _ => none)
    | none => none
  ext := fun f => bif Nat.beq f 132 then some .indexByte else bif Nat.beq f 142 then some .noEscape else bif Nat.beq f 155 then some .count else none
  eqOk := fun t => !(Tryz.prog.stoodInHeld t) && !(Tryz.prog.eqGuardType Tryz.prog.depth t)
  glob := 8

theorem C_ok : C.Ok where
  ty := by
    intro t i d h
    simp only [C] at h ⊢
    split at h
    · rename_i a b h1 h2
      cases h
      exact ⟨h1, h2⟩
    · cases h
  fn := by
    intro f x c h
    simp only [C] at h ⊢
    split at h
    · rename_i y hy
      split at h
      · rename_i h1 h2
        cases h
        exact ⟨hy, h1, h2⟩
      · cases h
    · cases h
  mixed := by kernel_rfl
  eqOk := by
    intro t h
    simp only [C, Bool.and_eq_true, Bool.not_eq_true'] at h
    exact h
  extByte := by
    intro f h
    have hf : f = 132 := by
      simp only [C, Tr.cbeq] at h
      split at h
      · assumption
      · split at h
        · cases h
        · split at h <;> cases h
    subst hf
    exact ⟨_, Tryz.func132, by kernel_rfl, by kernel_rfl, by kernel_rfl, by kernel_rfl⟩
  extCount := by
    intro f h
    have hf : f = 155 := by
      simp only [C, Tr.cbeq] at h
      split at h
      · cases h
      · split at h
        · cases h
        · split at h
          · assumption
          · cases h
    subst hf
    exact ⟨_, Tryz.func155, by kernel_rfl, by kernel_rfl, by kernel_rfl, by kernel_rfl⟩
  extSame := by
    intro f h
    have hf : f = 142 := by
      simp only [C, Tr.cbeq] at h
      split at h
      · cases h
      · split at h
        · assumption
        · split at h <;> cases h
    subst hf
    exact ⟨_, Tryz.func142, by kernel_rfl, by kernel_rfl, by kernel_rfl, by kernel_rfl⟩

  extZero := by
    intro f t h
    simp only [C, Tr.cbeq] at h
    repeat (split at h; · cases h)
    cases h

noncomputable def cells0 : List (Nat × AV) := (layA Tryz.prog 8 115 Rows.laid_dialtone_header_shorts 0).getD []
noncomputable def cells1 : List (Nat × AV) := (layA Tryz.prog 8 117 Rows.laid_dialtone_header_specials 0).getD []
noncomputable def tab : Tab := [(0, cells0), (1, cells1)]

theorem tab_of {W : World} {laid : List (String × DataW Unit)} (h : laidMetH Tryz.prog laid W) (hp : (laid.filter fun x => x.2.handleName?.isSome) = []) (h0 : ("dialtone/header.shorts", Rows.laid_dialtone_header_shorts) ∈ laid) (h1 : ("dialtone/header.specials", Rows.laid_dialtone_header_specials) ∈ laid) : TabOk W tab := by
  have h' : laidMet Tryz.prog laid W := by
    unfold laidMetH at h
    rw [hp] at h
    exact h
  intro g l hm
  rcases List.mem_cons.1 hm with e | hm
  · cases e
    exact tabAt_of_laid h' h0 (g := 0) (t := 115) (by kernel_rfl) (by kernel_rfl) (by kernel_rfl)
  rcases List.mem_cons.1 hm with e | hm
  · cases e
    exact tabAt_of_laid h' h1 (g := 1) (t := 117) (by kernel_rfl) (by kernel_rfl) (by kernel_rfl)
  · cases hm

theorem tab_lt : ∀ g l, (g, l) ∈ tab → g < 8 := by
  intro g l hm
  rcases List.mem_cons.1 hm with e | hm
  · cases e; decide
  rcases List.mem_cons.1 hm with e | hm
  · cases e; decide
  · cases hm
end Go.Proofs.YtogdgamgpkbdaaaGreatDoor
