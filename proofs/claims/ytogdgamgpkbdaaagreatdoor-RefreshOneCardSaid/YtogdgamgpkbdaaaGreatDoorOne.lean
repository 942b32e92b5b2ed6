/-
  RefreshOne returns true, for open numbers.
-/
import Derived.Test.YtogdgamgpkbdaaaGreatDoorSteps
set_option linter.unusedSimpArgs false
set_option linter.unusedVariables false
namespace Go.Proofs.YtogdgamgpkbdaaaGreatDoor
open Go Go.Proofs.YtogdgamgpkbdaaaGreatDoor.Ax Go.RowKit


theorem w64 {n : Int} (h : -9223372036854775808 ≤ n ∧ n ≤ 9223372036854775807) : IntKind.i64.wrap n = n := by
  simp only [IntKind.wrap_i64]; omega

structure OneF (S now A B : Int) : Prop where
  f0 : wrapF .i64 S = S
  f1 : wrapQ .i64 now = now
  f2 : stR (Int.ofNat 0) S now = 0
  f3 : ∀ k side, stO (Int.ofNat 0) S k side now = (k == side)
  f4 : stS (Int.ofNat 0) S now = S
  f5 : stT (Int.ofNat 0) S now = now
  g1 : nexB S true now false false = true
  g2 : nexB S false now false false = true
  g3 : nexB S true now true false = true
  n1 : nexN S true now false false = A
  n2 : nexN S false now false false = B
  n3 : nexN S true now true false = B
  l1 : iltF A B = true
  l2 : iltF B A = false
  a1 : fiA S true now false false A = 1
  a2 : fiR S true now false false A = 0
  a3 : fiS S true now false false A = S
  a4 : fiO S true now false false A = true
  a5 : fiT S true now false false A = now
  a6 : fiP S true now false false A = true
  a7 : fiE S true now false false A = false
  b1 : fiA S true now true false B = 2
  b2 : fiA S false now false false B = 2
  b3 : fiR S true now true false B = 0
  b4 : fiR S false now false false B = 0
  b5 : fiE S true now true false B = true
  b6 : fiE S false now false false B = true
  z : iltF (wrapF .i64 (addF now (wrapQ .i64 (Int.ofNat 1000 * S)))) B = false

theorem oneF (q now : Int) (hq : 0 ≤ q ∧ q ≤ 65535) (hn : 0 ≤ now ∧ now ≤ 65535) : OneF (90 + q) now (now + 500 * (90 + q)) (limN (90 + q) now) := by
  have hS : 90 ≤ 90 + q ∧ 90 + q ≤ 65625 := by omega
  generalize 90 + q = S at hS
  have hB : limN S now = now + 1000 * S - 1000 * (if S / 3 < 32 then S / 3 else 32) := rfl
  have hB1 : now + 1000 * S - 32000 ≤ limN S now ∧ limN S now ≤ now + 1000 * S - 30000 := by
    rw [hB]; split <;> omega
  generalize limN S now = B at hB hB1
  have t1 : timB now = true := by simp only [timB, decide_eq_true_eq]; omega
  have t2 : timB (now + 500 * S) = true := by simp only [timB, decide_eq_true_eq]; omega
  have t3 : timB B = true := by simp only [timB, decide_eq_true_eq]; omega
  have s1 : secB S = true := by simp only [secB, decide_eq_true_eq]; omega
  have s2 : decide (S ≠ 0) = true := by simp only [decide_eq_true_eq]; omega
  have hlim : limN S now = B := by rw [hB]; rfl
  have m1 : mayB S true now false false = true := by simp [mayB, s1, t1]; omega
  have m2 : mayB S false now false false = true := by simp [mayB, s1, t1]
  have m3 : mayB S true now true false = true := by simp [mayB, s1, t1]; omega
  have st : staB 0 S now = true := by simp [staB, s1, t1]
  have g1 : nexB S true now false false = true := by simp [nexB, m1]; omega
  have g2 : nexB S false now false false = true := by simp [nexB, m2]; omega
  have g3 : nexB S true now true false = true := by simp [nexB, m3]; omega
  have n1 : nexN S true now false false = now + 500 * S := by simp [nexN, g1]
  have n2 : nexN S false now false false = B := by simp [nexN, g2, hlim]
  have n3 : nexN S true now true false = B := by simp [nexN, g3, hlim]
  have k1 : firK S true now false false (now + 500 * S) = 3 := by
    simp only [firK, m1, t2, g1, n1, hlim]
    rw [if_neg (by simp), if_neg (by simp), if_neg (by omega)]
  have k2 : firK S true now true false B = 2 := by
    simp only [firK, m3, t3, g3, n3, hlim]
    rw [if_neg (by simp), if_neg (by simp), if_pos (by omega)]
  have k3 : firK S false now false false B = 2 := by
    simp only [firK, m2, t3, g2, n2, hlim]
    rw [if_neg (by simp), if_neg (by simp), if_pos (by omega)]
  constructor
  case f0 => rw [wrapF_eq, wrapQ_eq, w64 (by omega)]
  case f1 => rw [wrapQ_eq, w64 (by omega)]
  case f2 => show stR 0 S now = 0; simp [stR, st]
  case f3 => intro k side; show stO 0 S k side now = _; simp only [stO, st, s2, Bool.true_and]
  case f4 => show stS 0 S now = S; simp only [stS, st, s2, Bool.and_self, if_true]
  case f5 => show stT 0 S now = now; simp only [stT, st, s2, Bool.and_self, if_true]
  case g1 => exact g1
  case g2 => exact g2
  case g3 => exact g3
  case n1 => exact n1
  case n2 => exact n2
  case n3 => exact n3
  case l1 => rw [iltF_eq, ilt_eq]; simp only [decide_eq_true_eq]; omega
  case l2 => rw [iltF_eq, ilt_eq]; simp only [decide_eq_false_iff_not]; omega
  case a1 => simp [fiA, k1]
  case a2 => simp [fiR, k1]
  case a3 => simp [fiS, k1]
  case a4 => simp [fiO, k1]
  case a5 => simp [fiT, k1]
  case a6 => simp [fiP, k1]
  case a7 => simp [fiE, k1]
  case b1 => simp [fiA, k2]
  case b2 => simp [fiA, k3]
  case b3 => simp [fiR, k2]
  case b4 => simp [fiR, k3]
  case b5 => simp [fiE, k2]
  case b6 => simp [fiE, k3]
  case z =>
    rw [iltF_eq, ilt_eq, wrapF_eq, wrapQ_eq, wrapQ_eq, addF_eq]
    simp only [decide_eq_false_iff_not]
    have : IntKind.i64.wrap (Int.ofNat 1000 * S) = 1000 * S := w64 (by show _ ≤ (1000 : Int) * S ∧ (1000 : Int) * S ≤ _; omega)
    rw [this, w64 (by omega)]
    omega

theorem one_tree : (fun (q : Int) (k : Bool) (now : Int) (el fr : Nat → Nat) (kk : AV → Bool) => runK C XL 20 4 [.int .u16 q, .bool k, .int .u16 now] (startT el fr tab 8) (fun a _ => kk a)) = fun q k now _ _ kk =>
  let v1 : Int := (addF (Int.ofNat 90) (wrapQ .i64 q))
  let v2 : Int := (stR (Int.ofNat 0) (wrapF .i64 v1) (wrapQ .i64 now))
  let v3 : Bool := (notF (ieqF v2 (Int.ofNat 0)))
  let v4 : Bool := (stO (Int.ofNat 0) (wrapF .i64 v1) k true (wrapQ .i64 now))
  let v5 : Bool := (stO (Int.ofNat 0) (wrapF .i64 v1) k false (wrapQ .i64 now))
  let v6 : Bool := (ifF false true (bif v4 then v5 else (not v5)))
  let v7 : Bool := (not (bif v4 then k else (not k)))
  let v8 : Int := (stS (Int.ofNat 0) (wrapF .i64 v1) (wrapQ .i64 now))
  let v9 : Bool := (ieqF v8 (wrapF .i64 v1))
  let v10 : Bool := (ifF false true (notF v9))
  let v11 : Int := (stT (Int.ofNat 0) (wrapF .i64 v1) (wrapQ .i64 now))
  let v12 : Bool := (ieqF v11 (wrapQ .i64 now))
  let v13 : Bool := (ifF false true (notF v12))
  let v14 : Bool := (nexB v8 v4 v11 false false)
  let v15 : Bool := (nexB v8 v5 v11 false false)
  let v16 : Bool := (ifF false true (notF v15))
  let v17 : Int := (nexN v8 v4 v11 false false)
  let v18 : Int := (nexN v8 v5 v11 false false)
  let v19 : Bool := (ifF false true (notF (iltF v17 v18)))
  let v20 : Int := (fiA v8 v4 v11 false false v17)
  let v21 : Bool := (ieqF v20 (Int.ofNat 1))
  let v22 : Bool := (ifF false true (notF v21))
  let v23 : Int := (fiR v8 v4 v11 false false v17)
  let v24 : Bool := (ieqF v23 (Int.ofNat 0))
  let v25 : Bool := (ifF false true (notF v24))
  let v26 : Int := (fiS v8 v4 v11 false false v17)
  let v27 : Bool := (fiO v8 v4 v11 false false v17)
  let v28 : Int := (fiT v8 v4 v11 false false v17)
  let v29 : Bool := (fiP v8 v4 v11 false false v17)
  let v30 : Bool := (fiE v8 v4 v11 false false v17)
  let v31 : Bool := (nexB v26 v27 v28 v29 v30)
  let v32 : Bool := (ifF false true (notF v31))
  let v33 : Int := (nexN v26 v27 v28 v29 v30)
  let v34 : Bool := (ifF false true (notF (ieqF v33 v18)))
  let v35 : Int := (fiA v26 v27 v28 v29 v30 v18)
  let v36 : Bool := (ieqF v35 (Int.ofNat 2))
  let v37 : Int := (fiA v8 v5 v11 false false v18)
  let v38 : Bool := (ieqF v37 (Int.ofNat 2))
  let v39 : Int := (fiR v26 v27 v28 v29 v30 v18)
  let v40 : Bool := (ieqF v39 (Int.ofNat 0))
  let v41 : Int := (fiR v8 v5 v11 false false v18)
  let v42 : Bool := (ieqF v41 (Int.ofNat 0))
  let v43 : Bool := (fiE v26 v27 v28 v29 v30 v18)
  let v44 : Bool := (fiE v8 v5 v11 false false v18)
  let v45 : Int := (wrapQ .i64 ((Int.ofNat 1000) * (wrapF .i64 v1)))
  let v46 : Int := (addF (wrapQ .i64 now) v45)
  let v47 : Bool := (iltF (wrapF .i64 v46) v18)
  let v48 : Bool := (ifF true (notF v47) false)
  let v49 : Bool := (ifF false true (notF v14))
  let v50 : Bool := (ifF false true (notF (iltF v18 v17)))
  let v51 : Bool := (ieqF v37 (Int.ofNat 1))
  let v52 : Bool := (ifF false true (notF v51))
  let v53 : Bool := (ifF false true (notF v42))
  let v54 : Int := (fiS v8 v5 v11 false false v18)
  let v55 : Bool := (fiO v8 v5 v11 false false v18)
  let v56 : Int := (fiT v8 v5 v11 false false v18)
  let v57 : Bool := (fiP v8 v5 v11 false false v18)
  let v58 : Bool := (nexB v54 v55 v56 v57 v44)
  let v59 : Bool := (ifF false true (notF v58))
  let v60 : Int := (nexN v54 v55 v56 v57 v44)
  let v61 : Bool := (ifF false true (notF (ieqF v60 v17)))
  let v62 : Int := (fiA v54 v55 v56 v57 v44 v17)
  let v63 : Bool := (ieqF v62 (Int.ofNat 2))
  let v64 : Bool := (ieqF v20 (Int.ofNat 2))
  let v65 : Int := (fiR v54 v55 v56 v57 v44 v17)
  let v66 : Bool := (ieqF v65 (Int.ofNat 0))
  let v67 : Bool := (fiE v54 v55 v56 v57 v44 v17)
  let v68 : Bool := (iltF (wrapF .i64 v46) v17)
  let v69 : Bool := (ifF true (notF v68) false)
  ifF v3
   (kk (.bool false))
   (ifF (ifF false true v3)
    (kk (.bool false))
    (ifF v6
     (kk (.bool false))
     (ifF (ifF false true v7)
      (kk (.bool false))
      (ifF v10
       (kk (.bool false))
       (ifF v13
        (kk (.bool false))
        (ifF v5
         (ifF (notF v15)
          (kk (.bool false))
          (ifF v49
           (kk (.bool false))
           (ifF v50
            (kk (.bool false))
            (ifF v52
             (kk (.bool false))
             (ifF v53
              (kk (.bool false))
              (ifF v59
               (kk (.bool false))
               (ifF v61
                (kk (.bool false))
                (ifF v63
                 (ifF (ifF true v64 false)
                  (ifF (ifF true v66 false)
                   (ifF (ifF true v24 false)
                    (ifF (ifF true v67 false)
                     (ifF (ifF true v30 false)
                      (ifF v69
                       (kk (.bool true))
                       (kk (.bool false)))
                      (kk (.bool false)))
                     (kk (.bool false)))
                    (kk (.bool false)))
                   (kk (.bool false)))
                  (kk (.bool false)))
                 (kk (.bool false))))))))))
         (ifF (notF v14)
          (kk (.bool false))
          (ifF v16
           (kk (.bool false))
           (ifF v19
            (kk (.bool false))
            (ifF v22
             (kk (.bool false))
             (ifF v25
              (kk (.bool false))
              (ifF v32
               (kk (.bool false))
               (ifF v34
                (kk (.bool false))
                (ifF v36
                 (ifF (ifF true v38 false)
                  (ifF (ifF true v40 false)
                   (ifF (ifF true v42 false)
                    (ifF (ifF true v43 false)
                     (ifF (ifF true v44 false)
                      (ifF v48
                       (kk (.bool true))
                       (kk (.bool false)))
                      (kk (.bool false)))
                     (kk (.bool false)))
                    (kk (.bool false)))
                   (kk (.bool false)))
                  (kk (.bool false)))
                 (kk (.bool false)))))))))))))))) := by kernel_rfl

theorem one_says (q : Int) (k : Bool) (now : Int) (hq1 : IntKind.u16.min ≤ q) (hq2 : q ≤ IntKind.u16.max) (hn1 : IntKind.u16.min ≤ now) (hn2 : now ≤ IntKind.u16.max) : Says C G 4 [.int .u16 q, .bool k, .int .u16 now] (.bool true) := by
  refine says_of C_ok G_ok (fun W h => XL_snd W h) XL_grw tab_lt (Nat.le_refl 8) (k := 20) (isV (.bool true)) (fun _ => isV_true) rfl rfl fun el fr => ?_
  refine (congrFun (congrFun (congrFun (congrFun (congrFun (congrFun (one_tree) q) k) now) el) fr) _).trans ?_
  have hq : 0 ≤ q ∧ q ≤ 65535 := ⟨hq1, hq2⟩
  have hn : 0 ≤ now ∧ now ≤ 65535 := ⟨hn1, hn2⟩
  have h0 : addF (Int.ofNat 90) (wrapQ .i64 q) = 90 + q := by rw [wrapQ_eq, w64 (by omega), addF_eq]; rfl
  obtain ⟨f0, f1, f2, f3, f4, f5, g1, g2, g3, n1, n2, n3, l1, l2, a1, a2, a3, a4, a5, a6, a7, b1, b2, b3, b4, b5, b6, z⟩ := oneF q now hq hn
  rw [h0]
  generalize 90 + q = S at *
  generalize limN S now = B at *
  generalize now + 500 * S = A at *
  have f2' : stR 0 S now = 0 := f2
  have f3' : ∀ k side, stO 0 S k side now = (k == side) := f3
  have f4' : stS 0 S now = S := f4
  have f5' : stT 0 S now = now := f5
  have z' : iltF (wrapF .i64 (addF now (wrapQ .i64 (1000 * S)))) B = false := z
  cases k <;> simp [f2', f3', f4', f5', z', f0, f1, f2, f3, f4, f5, g1, g2, g3, n1, n2, n3, l1, l2, a1, a2, a3, a4, a5, a6, a7, b1, b2, b3, b4, b5, b6, z, ieq_eq, ieqF_eq, ifF_eq, notF_eq, isV_yes]

end Go.Proofs.YtogdgamgpkbdaaaGreatDoor
