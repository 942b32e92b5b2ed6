/-
  AddressKnown returns true, in whatever world whose listed variables read as the row says.
-/
import Derived.Test.YtiinmnjfnmaoeaaGreatDoorAwake
namespace Go.Proofs.YtiinmnjfnmaoeaaGreatDoor
open Go Go.Proofs.YtiinmnjfnmaoeaaGreatDoor.Ax Go.RowKit

theorem addressKnown_run : (fun el fr => saysF (runF C XA 400 11 [] (startT el fr tab 7))) = fun _ _ => true := by kernel_rfl

theorem addressKnown_true {W : World} (hT : G W) : Calls Tryz.prog 11 #[] W fun e W' => e = .returned (.bool true) ∧ Below W.heap.size W W' :=
  closed_true C_ok (XA_snd W hT) XA_grw (G_ok.tab W hT) tab_lt (Nat.le_refl 7) (k := 400) (fun el fr => congrFun (congrFun addressKnown_run el) fr) (fun _ => .nil)
end Go.Proofs.YtiinmnjfnmaoeaaGreatDoor
