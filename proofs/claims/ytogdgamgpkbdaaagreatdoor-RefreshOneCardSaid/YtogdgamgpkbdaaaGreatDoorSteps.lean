/-
  RefreshSteps returns true, for open numbers.
-/
import Derived.Test.YtogdgamgpkbdaaaGreatDoorTimer
set_option linter.unusedSimpArgs false
set_option linter.unusedVariables false
namespace Go.Proofs.YtogdgamgpkbdaaaGreatDoor
open Go Go.Proofs.YtogdgamgpkbdaaaGreatDoor.Ax Go.RowKit

theorem andF_eq (a b : Bool) : andF a b = (a && b) := by cases a <;> cases b <;> rfl
theorem same_b (b : Bool) : (bif b then b else !b) = true := by cases b <;> rfl
theorem isV_yes : isV (.bool true) (.bool true) = true := isV_of rfl
def gStart : List AV → Option AV
  | [.agg [.int .i64 c, .int .i64 _, .int .i64 s, .bool k], .bool side, .int .i64 now] => some (staA c s k side now)
  | _ => none
def gDone : List AV → Option AV
  | [.agg [.int .i64 s, .bool o, .int .i64 t, .bool p, .bool e], .bool ok, .int .i64 now] => some (donA s o t p e ok now)
  | _ => none
def gFire : List AV → Option AV
  | [.agg [.int .i64 s, .bool o, .int .i64 t, .bool p, .bool e], .int .i64 now] => some (firA s o t p e now)
  | _ => none
def gWorks : List AV → Option AV
  | [] => some (.bool true)
  | _ => none
theorem gStart_ok (f : Nat) (h : ∀ c m s k side now, Says C G f [agrA c m s k, .bool side, .int .i64 now] (staA c s k side now)) : ∀ args a, gStart args = some a → Says C G f args a := by
  intro args a hg
  unfold gStart at hg
  split at hg
  · cases hg; exact h _ _ _ _ _ _
  · cases hg
theorem gDone_ok (f : Nat) (h : ∀ s o t p e ok now, Says C G f [refA s o t p e, .bool ok, .int .i64 now] (donA s o t p e ok now)) : ∀ args a, gDone args = some a → Says C G f args a := by
  intro args a hg
  unfold gDone at hg
  split at hg
  · cases hg; exact h _ _ _ _ _ _ _
  · cases hg
theorem gFire_ok (f : Nat) (h : ∀ s o t p e now, Says C G f [refA s o t p e, .int .i64 now] (firA s o t p e now)) : ∀ args a, gFire args = some a → Says C G f args a := by
  intro args a hg
  unfold gFire at hg
  split at hg
  · cases hg; exact h _ _ _ _ _ _
  · cases hg
theorem gWorks_ok : ∀ args a, gWorks args = some a → Says C G 18 args a := by
  intro args a hg
  unfold gWorks at hg
  split at hg
  · cases hg; exact says_true fun W h => works h
  · cases hg
noncomputable def XL : CallF := scalX 8 gStart (scalX 9 gStart (scalX 10 gDone (scalX 11 gDone (scalX 16 gFire (scalX 17 gFire (scalX 18 gWorks XN))))))
theorem XL_snd (W : World) (h : G W) : SndF C W XL :=
  scalX_snd G_ok (scalX_snd G_ok (scalX_snd G_ok (scalX_snd G_ok (scalX_snd G_ok (scalX_snd G_ok (scalX_snd G_ok XN_snd gWorks_ok) (gFire_ok 17 fireR_says)) (gFire_ok 16 fire_says)) (gDone_ok 11 doneR_says)) (gDone_ok 10 done_says)) (gStart_ok 9 startR_says)) (gStart_ok 8 start_says) W h
theorem XL_grw : GrwF XL := scalX_grw (scalX_grw (scalX_grw (scalX_grw (scalX_grw (scalX_grw (scalX_grw XN_grw))))))

theorem steps_tree : (fun (s : Int) (o : Bool) (t : Int) (p : Bool) (e : Bool) (c : Int) (m : Int) (d : Int) (k : Bool) (now : Int) (el fr : Nat → Nat) (kk : AV → Bool) => runK C XL 20 3 [refA s o t p e, agrA c m d k, .int .i64 now] (startT el fr tab 8) (fun a _ => kk a)) = fun s o t p e c m d k now _ _ kk =>
  let v1 : Bool := (ieq (stS c d now) (stS c d now))
  let v2 : Bool := (not (stO c d k false now))
  let v3 : Bool := (ieq (stT c d now) (stT c d now))
  let v4 : Bool := (andF (bif (stO c d k false now) then (stO c d k false now) else v2) (andF v3 true))
  let v5 : Bool := (ieqF (stR c d now) (stR c d now))
  let v6 : Bool := (ifF false true (notF v5))
  let v7 : Int := (doS s o t p e false now)
  let v8 : Bool := (doO s o t p e false now)
  let v9 : Int := (doT s o t p e false now)
  let v10 : Bool := (doE s o t p e false now)
  let v11 : Bool := (andF (bif v10 then v10 else (not v10)) true)
  let v12 : Bool := (andF (ieq v9 v9) (andF true v11))
  let v13 : Bool := (andF (bif v8 then v8 else (not v8)) v12)
  let v14 : Bool := (notF (andF (ieq v7 v7) v13))
  let v15 : Int := (doA s o t p e false now)
  let v16 : Bool := (ifF false true (notF (ieqF v15 v15)))
  let v17 : Int := (doR s o t p e false now)
  let v18 : Bool := (ifF false true (notF (ieqF v17 v17)))
  let v19 : Bool := (not (stO c d k true now))
  let v20 : Bool := (andF (bif (stO c d k true now) then (stO c d k true now) else v19) (andF v3 true))
  let v21 : Int := (doS s o t p e true now)
  let v22 : Bool := (doO s o t p e true now)
  let v23 : Int := (doT s o t p e true now)
  let v24 : Bool := (doE s o t p e true now)
  let v25 : Bool := (andF (bif v24 then v24 else (not v24)) true)
  let v26 : Bool := (andF (ieq v23 v23) (andF true v25))
  let v27 : Bool := (andF (bif v22 then v22 else (not v22)) v26)
  let v28 : Bool := (andF (ieq v21 v21) v27)
  let v29 : Int := (doA s o t p e true now)
  let v30 : Bool := (ifF false true (notF (ieqF v29 v29)))
  let v31 : Int := (doR s o t p e true now)
  let v32 : Bool := (ifF false true (notF (ieqF v31 v31)))
  let v33 : Bool := (not (bif (mayB s o t p e) then (mayB s o t p e) else (not (mayB s o t p e))))
  let v34 : Bool := (ieqF (nexN s o t p e) (nexN s o t p e))
  let v35 : Bool := (ifF v33 true (notF v34))
  let v36 : Bool := (not (bif (nexB s o t p e) then (nexB s o t p e) else (not (nexB s o t p e))))
  let v37 : Bool := (ieq (fiS s o t p e now) (fiS s o t p e now))
  let v38 : Bool := (not (fiO s o t p e now))
  let v39 : Bool := (ieq (fiT s o t p e now) (fiT s o t p e now))
  let v40 : Bool := (not (fiP s o t p e now))
  let v41 : Bool := (not (fiE s o t p e now))
  let v42 : Bool := (andF (bif (fiE s o t p e now) then (fiE s o t p e now) else v41) true)
  let v43 : Bool := (andF (bif (fiP s o t p e now) then (fiP s o t p e now) else v40) v42)
  let v44 : Bool := (andF (bif (fiO s o t p e now) then (fiO s o t p e now) else v38) (andF v39 v43))
  let v45 : Bool := (ieqF (fiA s o t p e now) (fiA s o t p e now))
  let v46 : Bool := (ifF false true (notF v45))
  let v47 : Bool := (ieqF (fiR s o t p e now) (fiR s o t p e now))
  let v48 : Bool := (ifF false true (notF v47))
  let v49 : Int := (fiS s o t p e (nexN s o t p e))
  let v50 : Bool := (fiO s o t p e (nexN s o t p e))
  let v51 : Int := (fiT s o t p e (nexN s o t p e))
  let v52 : Bool := (fiP s o t p e (nexN s o t p e))
  let v53 : Bool := (fiE s o t p e (nexN s o t p e))
  let v54 : Bool := (andF (bif v53 then v53 else (not v53)) true)
  let v55 : Bool := (andF (bif v52 then v52 else (not v52)) v54)
  let v56 : Bool := (andF (ieq v51 v51) v55)
  let v57 : Bool := (andF (bif v50 then v50 else (not v50)) v56)
  let v58 : Bool := (andF (ieq v49 v49) v57)
  let v59 : Int := (fiA s o t p e (nexN s o t p e))
  let v60 : Bool := (ifF false true (notF (ieqF v59 v59)))
  let v61 : Int := (fiR s o t p e (nexN s o t p e))
  let v62 : Bool := (ifF false true (notF (ieqF v61 v61)))
  let v63 : Int := (addF (nexN s o t p e) (Int.negSucc 0))
  let v64 : Int := (fiS s o t p e (wrapF .i64 v63))
  let v65 : Bool := (fiO s o t p e (wrapF .i64 v63))
  let v66 : Int := (fiT s o t p e (wrapF .i64 v63))
  let v67 : Bool := (fiP s o t p e (wrapF .i64 v63))
  let v68 : Bool := (fiE s o t p e (wrapF .i64 v63))
  let v69 : Bool := (andF (bif v68 then v68 else (not v68)) true)
  let v70 : Bool := (andF (bif v67 then v67 else (not v67)) v69)
  let v71 : Bool := (andF (ieq v66 v66) v70)
  let v72 : Bool := (andF (bif v65 then v65 else (not v65)) v71)
  let v73 : Bool := (andF (ieq v64 v64) v72)
  let v74 : Int := (fiA s o t p e (wrapF .i64 v63))
  let v75 : Bool := (ifF false true (notF (ieqF v74 v74)))
  let v76 : Int := (fiR s o t p e (wrapF .i64 v63))
  let v77 : Bool := (ifF false true (notF (ieqF v76 v76)))
  let v78 : Int := (addF (nexN s o t p e) (Int.ofNat 1))
  let v79 : Int := (fiS s o t p e (wrapF .i64 v78))
  let v80 : Bool := (fiO s o t p e (wrapF .i64 v78))
  let v81 : Int := (fiT s o t p e (wrapF .i64 v78))
  let v82 : Bool := (fiP s o t p e (wrapF .i64 v78))
  let v83 : Bool := (fiE s o t p e (wrapF .i64 v78))
  let v84 : Bool := (andF (bif v83 then v83 else (not v83)) true)
  let v85 : Bool := (andF (bif v82 then v82 else (not v82)) v84)
  let v86 : Bool := (andF (ieq v81 v81) v85)
  let v87 : Bool := (andF (bif v80 then v80 else (not v80)) v86)
  let v88 : Bool := (andF (ieq v79 v79) v87)
  let v89 : Int := (fiA s o t p e (wrapF .i64 v78))
  let v90 : Bool := (ifF false true (notF (ieqF v89 v89)))
  let v91 : Int := (fiR s o t p e (wrapF .i64 v78))
  let v92 : Bool := (ifF false true (notF (ieqF v91 v91)))
  ifF (notF (andF v1 v4))
   (kk (.bool false))
   (ifF v6
    (kk (.bool false))
    (ifF v14
     (kk (.bool false))
     (ifF v16
      (kk (.bool false))
      (ifF v18
       (kk (.bool false))
       (ifF (notF (andF v1 v20))
        (kk (.bool false))
        (ifF v6
         (kk (.bool false))
         (ifF (notF v28)
          (kk (.bool false))
          (ifF v30
           (kk (.bool false))
           (ifF v32
            (kk (.bool false))
            (ifF (ifF v33 false true)
             (ifF (ifF v33 false true)
              (ifF (ifF v33 false true)
               (ifF (ifF v35 false true)
                (ifF (ifF v35 false true)
                 (ifF v35
                  (kk (.bool false))
                  (ifF (ifF false true v36)
                   (kk (.bool false))
                   (ifF (notF (andF v37 v44))
                    (kk (.bool false))
                    (ifF v46
                     (kk (.bool false))
                     (ifF v48
                      (kk (.bool false))
                      (ifF (notF v58)
                       (kk (.bool false))
                       (ifF v60
                        (kk (.bool false))
                        (ifF v62
                         (kk (.bool false))
                         (ifF (notF v73)
                          (kk (.bool false))
                          (ifF v75
                           (kk (.bool false))
                           (ifF v77
                            (kk (.bool false))
                            (ifF (notF v88)
                             (kk (.bool false))
                             (ifF v90
                              (kk (.bool false))
                              (ifF v92
                               (kk (.bool false))
                               (kk (.bool true))))))))))))))))
                 (ifF v35
                  (kk (.bool false))
                  (false)))
                (ifF (ifF v35 false true)
                 (ifF v35
                  (kk (.bool false))
                  (false))
                 (ifF v35
                  (kk (.bool false))
                  (false))))
               (ifF v33
                (kk (.bool false))
                (false)))
              (ifF (ifF v33 false true)
               (false)
               (ifF v33
                (kk (.bool false))
                (false))))
             (ifF (ifF v33 false true)
              (ifF (ifF v33 false true)
               (false)
               (ifF v33
                (kk (.bool false))
                (false)))
              (ifF (ifF v33 false true)
               (false)
               (ifF v33
                (kk (.bool false))
                (false)))))))))))))) := by kernel_rfl

theorem steps_says (s : Int) (o : Bool) (t : Int) (p : Bool) (e : Bool) (c : Int) (m : Int) (d : Int) (k : Bool) (now : Int) : Says C G 3 [refA s o t p e, agrA c m d k, .int .i64 now] (.bool true) := by
  refine says_of C_ok G_ok (fun W h => XL_snd W h) XL_grw tab_lt (Nat.le_refl 8) (k := 20) (isV (.bool true)) (fun _ => isV_true) rfl rfl fun el fr => ?_
  refine (congrFun (congrFun (congrFun (congrFun (congrFun (congrFun (congrFun (congrFun (congrFun (congrFun (congrFun (congrFun (congrFun (steps_tree) s) o) t) p) e) c) m) d) k) now) el) fr) _).trans ?_
  simp [ieq_eq, ieqF_eq, ifF_eq, notF_eq, andF_eq, same_b, isV_yes]

end Go.Proofs.YtogdgamgpkbdaaaGreatDoor
