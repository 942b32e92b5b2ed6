/-
  RefreshKnown returns true, in whatever world whose listed variables read as the row says.
-/
import Derived.Test.YtogdgamgpkbdaaaGreatDoorWorks
namespace Go.Proofs.YtogdgamgpkbdaaaGreatDoor
open Go Go.Proofs.YtogdgamgpkbdaaaGreatDoor.Ax Go.RowKit

noncomputable def X18 : CallF := constX 18 true noneX
theorem X18_snd {W : World} (hT : TabOk W tab) : SndF C W X18 := constX_snd (noneX_snd C W) hT fun _ h => works h
theorem X18_grw : GrwF X18 := constX_grw noneX_grw

theorem known_run : (fun el fr => saysF (runF C X18 60 6 [] (startT el fr tab 8))) = fun _ _ => true := by kernel_rfl

theorem known {W : World} (hT : TabOk W tab) : Calls Tryz.prog 6 #[] W fun e W' => e = .returned (.bool true) ∧ Below W.heap.size W W' :=
  closed_true C_ok (X18_snd hT) X18_grw hT tab_lt (Nat.le_refl 8) (k := 60) (fun el fr => congrFun (congrFun known_run el) fr) (fun _ => .nil)
end Go.Proofs.YtogdgamgpkbdaaaGreatDoor
