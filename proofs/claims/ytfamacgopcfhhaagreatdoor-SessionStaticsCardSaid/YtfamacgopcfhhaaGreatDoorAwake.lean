/-
  awake() returns true, in whatever world whose listed variables read as the row says; its calls answered.
-/
import Derived.Test.YtfamacgopcfhhaaGreatDoorLib
namespace Go.Proofs.YtfamacgopcfhhaaGreatDoor
open Go Go.Proofs.YtfamacgopcfhhaaGreatDoor.Ax Go.RowKit

theorem awake_run : (fun el fr => saysF (runF C XI 400 11 [] (startT el fr tab 8))) = fun _ _ => true := by kernel_rfl

theorem awake {W : World} (hT : G W) : Calls Tryz.prog 11 #[] W fun e W' => e = .returned (.bool true) ∧ Below W.heap.size W W' :=
  closed_true C_ok (XI_snd W hT) XI_grw (G_ok.tab W hT) tab_lt (Nat.le_refl 8) (k := 400) (fun el fr => congrFun (congrFun awake_run el) fr) (fun _ => .nil)

noncomputable def awakeG : List AV → Option AV
  | [] => some (.bool true)
  | _ => none
theorem awake_says (args : List AV) (a : AV) (h : awakeG args = some a) : Says C G 11 args a := by
  unfold awakeG at h
  split at h
  · cases h
    exact says_true fun W hT => awake hT
  · cases h
noncomputable def XA : CallF := scalX 11 awakeG XI
theorem XA_snd : ∀ W, G W → SndF C W XA := scalX_snd G_ok XI_snd awake_says
theorem XA_grw : GrwF XA := scalX_grw XI_grw
end Go.Proofs.YtfamacgopcfhhaaGreatDoor
