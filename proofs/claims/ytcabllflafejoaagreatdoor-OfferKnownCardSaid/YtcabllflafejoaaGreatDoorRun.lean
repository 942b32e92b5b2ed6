/-
  OfferKnown returns true, in whatever world whose listed variables read as the row says.
-/
import Derived.Test.YtcabllflafejoaaGreatDoorAwake
namespace Go.Proofs.YtcabllflafejoaaGreatDoor
open Go Go.Proofs.YtcabllflafejoaaGreatDoor.Ax Go.RowKit

theorem law_run : (fun el fr => saysF (runF C XA 400 10 [] (startT el fr tab 12))) = fun _ _ => true := by kernel_rfl

theorem law {W : World} (hT : G W) : Calls Tryz.prog 10 #[] W fun e W' => e = .returned (.bool true) ∧ Below W.heap.size W W' :=
  closed_true C_ok (XA_snd W hT) XA_grw (G_ok.tab W hT) tab_lt (Nat.le_refl 12) (k := 400) (fun el fr => congrFun (congrFun law_run el) fr) (fun _ => .nil)
end Go.Proofs.YtcabllflafejoaaGreatDoor
