/-
  SessionKnown returns true, in whatever world whose listed variables read as the row says.
-/
import Derived.Test.YtfamacgopcfhhaaGreatDoorAwake
namespace Go.Proofs.YtfamacgopcfhhaaGreatDoor
open Go Go.Proofs.YtfamacgopcfhhaaGreatDoor.Ax Go.RowKit

theorem sessionKnown_run : (fun el fr => saysF (runF C XA 400 6 [] (startT el fr tab 8))) = fun _ _ => true := by kernel_rfl

theorem sessionKnown_true {W : World} (hT : G W) : Calls Tryz.prog 6 #[] W fun e W' => e = .returned (.bool true) ∧ Below W.heap.size W W' :=
  closed_true C_ok (XA_snd W hT) XA_grw (G_ok.tab W hT) tab_lt (Nat.le_refl 8) (k := 400) (fun el fr => congrFun (congrFun sessionKnown_run el) fr) (fun _ => .nil)
end Go.Proofs.YtfamacgopcfhhaaGreatDoor
