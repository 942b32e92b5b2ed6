/-
  SessionStatics returns true, for every type.
-/
import Derived.Test.YtfamacgopcfhhaaGreatDoorAwake
set_option linter.unusedSimpArgs false
set_option linter.unusedVariables false
namespace Go.Proofs.YtfamacgopcfhhaaGreatDoor
open Go Go.Proofs.YtfamacgopcfhhaaGreatDoor.Ax Go.RowKit

theorem statics_tree : (fun (k : Int) (el fr : Nat → Nat) (kk : AV → Bool) => runK C XA 400 3 [.int .i64 k] (startT el fr tab 8) (fun a _ => kk a)) = fun k _ _ kk =>
  let v1 : Bool := (andF (ieq k (Int.ofNat 0)) false)
  let v2 : Bool := (andF (ieq k (Int.ofNat 13)) true)
  let v3 : Bool := (andF (ieq k (Int.ofNat 8)) false)
  let v4 : Bool := (andF (ieq k (Int.ofNat 13)) false)
  let v5 : Bool := (andF (ieq k (Int.ofNat 8)) true)
  let v6 : Bool := (andF (ieq k (Int.ofNat 0)) true)
  ifF (ieqF k (Int.ofNat 0))
   (ifF (ieqF k (Int.ofNat 0))
    (ifF v6
     (kk (.bool true))
     (kk (.bool false)))
    (ifF (ieqF k (Int.ofNat 8))
     (ifF v3
      (kk (.bool true))
      (kk (.bool false)))
     (ifF (ieqF k (Int.ofNat 13))
      (ifF v4
       (kk (.bool true))
       (kk (.bool false)))
      (ifF v1
       (kk (.bool false))
       (kk (.bool false))))))
   (ifF (ieqF k (Int.ofNat 8))
    (ifF (ieqF k (Int.ofNat 0))
     (ifF v1
      (kk (.bool true))
      (kk (.bool false)))
     (ifF (ieqF k (Int.ofNat 8))
      (ifF v5
       (kk (.bool true))
       (kk (.bool false)))
      (ifF (ieqF k (Int.ofNat 13))
       (ifF v4
        (kk (.bool true))
        (kk (.bool false)))
       (ifF v1
        (kk (.bool false))
        (kk (.bool false))))))
    (ifF (ieqF k (Int.ofNat 13))
     (ifF (ieqF k (Int.ofNat 0))
      (ifF v1
       (kk (.bool true))
       (kk (.bool false)))
      (ifF (ieqF k (Int.ofNat 8))
       (ifF v3
        (kk (.bool true))
        (kk (.bool false)))
       (ifF (ieqF k (Int.ofNat 13))
        (ifF v2
         (kk (.bool true))
         (kk (.bool false)))
        (ifF v1
         (kk (.bool false))
         (kk (.bool false))))))
     (ifF (ieqF k (Int.ofNat 0))
      (kk (.bool false))
      (ifF (ieqF k (Int.ofNat 8))
       (kk (.bool false))
       (ifF (ieqF k (Int.ofNat 13))
        (kk (.bool false))
        (kk (.bool true))))))) := by kernel_rfl

theorem statics_says (k : Int) : Says C G 3 [.int .i64 k] (.bool true) := by
  refine says_of C_ok G_ok XA_snd XA_grw tab_lt (Nat.le_refl 8) (k := 400) (isV (.bool true)) (fun _ => isV_true) rfl rfl fun el fr => ?_
  refine (congrFun (congrFun (congrFun (congrFun (statics_tree) k) el) fr) _).trans ?_
  by_cases h0 : k = 0
  · subst h0; exact isV_of rfl
  by_cases h8 : k = 8
  · subst h8; exact isV_of rfl
  by_cases h13 : k = 13
  · subst h13; exact isV_of rfl
  have e0 : ieqF k 0 = false := by rw [ieqF_eq, ieq_eq]; simp [h0]
  have e8 : ieqF k 8 = false := by rw [ieqF_eq, ieq_eq]; simp [h8]
  have e13 : ieqF k 13 = false := by rw [ieqF_eq, ieq_eq]; simp [h13]
  have e0' : ieqF k (Int.ofNat 0) = false := e0
  have e8' : ieqF k (Int.ofNat 8) = false := e8
  have e13' : ieqF k (Int.ofNat 13) = false := e13
  simp only [e0', e8', e13']
  exact isV_of rfl

end Go.Proofs.YtfamacgopcfhhaaGreatDoor
