/-
  'works', the chapter's examples: true, in whatever world whose listed variables read as the rows say.
-/
import Derived.Test.YtogdgamgpkbdaaaGreatDoorBase
namespace Go.Proofs.YtogdgamgpkbdaaaGreatDoor
open Go Go.Proofs.YtogdgamgpkbdaaaGreatDoor.Ax Go.RowKit

theorem works_run : (fun el fr => saysF (runF C noneX 60 18 [] (startT el fr tab 8))) = fun _ _ => true := by kernel_rfl

theorem works {W : World} (hT : TabOk W tab) : Calls Tryz.prog 18 #[] W fun e W' => e = .returned (.bool true) ∧ Below W.heap.size W W' :=
  closed_true C_ok (noneX_snd C W) noneX_grw hT tab_lt (Nat.le_refl 8) (k := 60) (fun el fr => congrFun (congrFun works_run el) fr) (fun _ => .nil)
end Go.Proofs.YtogdgamgpkbdaaaGreatDoor
