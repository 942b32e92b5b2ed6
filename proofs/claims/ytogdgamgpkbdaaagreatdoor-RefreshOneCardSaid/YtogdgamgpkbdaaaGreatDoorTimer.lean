/-
  The contracts of the session timer's functions.
-/
import Derived.Test.YtogdgamgpkbdaaaGreatDoorSpec
set_option linter.unusedSimpArgs false
set_option linter.unusedVariables false
namespace Go.Proofs.YtogdgamgpkbdaaaGreatDoor
open Go Go.Proofs.YtogdgamgpkbdaaaGreatDoor.Ax Go.RowKit

theorem ifF_of {b x y : Bool} (h1 : b = true → x = true) (h2 : b = false → y = true) : ifF b x y = true := by
  cases b with
  | true => exact h1 rfl
  | false => exact h2 rfl
def gMay : List AV → Option AV
  | [.agg [.int .i64 s, .bool o, .int .i64 t, .bool p, .bool e]] => some (.bool (mayB s o t p e))
  | _ => none
def gLim : List AV → Option AV
  | [.agg [.int .i64 s, .bool _, .int .i64 t, .bool _, .bool _]] => some (.int .i64 (limW s t))
  | _ => none
def gNext : List AV → Option AV
  | [.agg [.int .i64 s, .bool o, .int .i64 t, .bool p, .bool e]] => some (.tup [.int .i64 (nexN s o t p e), .bool (nexB s o t p e)])
  | _ => none

theorem may_tree : (fun (s : Int) (o : Bool) (t : Int) (p : Bool) (e : Bool) (el fr : Nat → Nat) (kk : AV → Bool) => runK C noneX 20 14 [refA s o t p e] (startT el fr tab 8) (fun a _ => kk a)) = fun s o t p e _ _ kk =>
  ifF (ieqF s (Int.ofNat 0))
   (ifF (notF (iltF t (Int.ofNat 0)))
    (ifF (ifF false true (notF (ifF true (notF (iltF (Int.ofNat 1099511627776) t)) false)))
     (kk (.bool false))
     (ifF (ieqF s (Int.ofNat 0))
      (ifF (notF o)
       (ifF (ifF true (notF p) false)
        (kk (.bool (ifF true (notF e) false)))
        (kk (.bool false)))
       (kk (.bool false)))
      (ifF (notF p)
       (kk (.bool true))
       (ifF o
        (kk (.bool (ifF false true (ifF true (notF e) false))))
        (kk (.bool false))))))
    (kk (.bool false)))
   (ifF (notF (iltF s (Int.ofNat 90)))
    (ifF (notF (ifF false true (ifF true (notF (iltF (Int.ofNat 86400) s)) false)))
     (kk (.bool false))
     (ifF (notF (iltF t (Int.ofNat 0)))
      (ifF (ifF false true (notF (ifF true (notF (iltF (Int.ofNat 1099511627776) t)) false)))
       (kk (.bool false))
       (ifF (ieqF s (Int.ofNat 0))
        (ifF (notF o)
         (ifF (ifF true (notF p) false)
          (kk (.bool (ifF true (notF e) false)))
          (kk (.bool false)))
         (kk (.bool false)))
        (ifF (notF p)
         (kk (.bool true))
         (ifF o
          (kk (.bool (ifF false true (ifF true (notF e) false))))
          (kk (.bool false))))))
      (kk (.bool false))))
    (kk (.bool false))) := by kernel_rfl

theorem may_says (s : Int) (o : Bool) (t : Int) (p : Bool) (e : Bool) : Says C G 14 [refA s o t p e] (.bool (mayB s o t p e)) := by
  refine says_of C_ok G_ok (fun W _ => noneX_snd C W) noneX_grw tab_lt (Nat.le_refl 8) (k := 20) (isV (.bool (mayB s o t p e))) (fun _ => isV_true) rfl rfl fun el fr => ?_
  refine (congrFun (congrFun (congrFun (congrFun (congrFun (congrFun (congrFun (congrFun (may_tree) s) o) t) p) e) el) fr) _).trans ?_
  repeat' (first | refine isV_of ?_ | refine ifF_of (fun h => ?_) (fun h => ?_))
  all_goals (simp only [ifF_eq, iltF_eq, ilt_eq, ieqF_eq, ieq_eq, notF_eq, addF_eq, negF_eq, wrapF_eq, wrapQ_eq, IntKind.wrap_i64, cond_true, cond_false, Bool.not_eq_true', Bool.not_eq_false', decide_eq_true_eq, decide_eq_false_iff_not, Int.ofNat_eq_natCast, Bool.not_true, Bool.not_false, Bool.cond_not, Bool.cond_decide, Int.cast_ofNat_Int] at *)
  all_goals (congr 1; simp only [mayB, secB, timB]; grind)

theorem mayR_tree : (fun (s : Int) (o : Bool) (t : Int) (p : Bool) (e : Bool) (el fr : Nat → Nat) (kk : AV → Bool) => runK C noneX 20 15 [refA s o t p e] (startT el fr tab 8) (fun a _ => kk a)) = fun s o t p e _ _ kk =>
  ifF (ieqF s (Int.ofNat 0))
   (ifF (notF (iltF t (Int.ofNat 0)))
    (ifF (ifF false true (notF (ifF true (notF (iltF (Int.ofNat 1099511627776) t)) false)))
     (kk (.bool false))
     (ifF (ieqF s (Int.ofNat 0))
      (ifF o
       (kk (.bool false))
       (ifF (ifF false true p)
        (kk (.bool false))
        (ifF (ifF false true (ifF true (ifF false true e) false))
         (kk (.bool false))
         (ifF (notF p)
          (kk (.bool true))
          (ifF o
           (kk (.bool (ifF false true (ifF true (notF e) false))))
           (kk (.bool false)))))))
      (ifF (notF p)
       (kk (.bool true))
       (ifF o
        (kk (.bool (ifF false true (ifF true (notF e) false))))
        (kk (.bool false))))))
    (kk (.bool false)))
   (ifF (notF (iltF s (Int.ofNat 90)))
    (ifF (notF (ifF false true (ifF true (notF (iltF (Int.ofNat 86400) s)) false)))
     (kk (.bool false))
     (ifF (notF (iltF t (Int.ofNat 0)))
      (ifF (ifF false true (notF (ifF true (notF (iltF (Int.ofNat 1099511627776) t)) false)))
       (kk (.bool false))
       (ifF (ieqF s (Int.ofNat 0))
        (ifF o
         (kk (.bool false))
         (ifF (ifF false true p)
          (kk (.bool false))
          (ifF (ifF false true (ifF true (ifF false true e) false))
           (kk (.bool false))
           (ifF (notF p)
            (kk (.bool true))
            (ifF o
             (kk (.bool (ifF false true (ifF true (notF e) false))))
             (kk (.bool false)))))))
        (ifF (notF p)
         (kk (.bool true))
         (ifF o
          (kk (.bool (ifF false true (ifF true (notF e) false))))
          (kk (.bool false))))))
      (kk (.bool false))))
    (kk (.bool false))) := by kernel_rfl

theorem mayR_says (s : Int) (o : Bool) (t : Int) (p : Bool) (e : Bool) : Says C G 15 [refA s o t p e] (.bool (mayB s o t p e)) := by
  refine says_of C_ok G_ok (fun W _ => noneX_snd C W) noneX_grw tab_lt (Nat.le_refl 8) (k := 20) (isV (.bool (mayB s o t p e))) (fun _ => isV_true) rfl rfl fun el fr => ?_
  refine (congrFun (congrFun (congrFun (congrFun (congrFun (congrFun (congrFun (congrFun (mayR_tree) s) o) t) p) e) el) fr) _).trans ?_
  repeat' (first | refine isV_of ?_ | refine ifF_of (fun h => ?_) (fun h => ?_))
  all_goals (simp only [ifF_eq, iltF_eq, ilt_eq, ieqF_eq, ieq_eq, notF_eq, addF_eq, negF_eq, wrapF_eq, wrapQ_eq, IntKind.wrap_i64, cond_true, cond_false, Bool.not_eq_true', Bool.not_eq_false', decide_eq_true_eq, decide_eq_false_iff_not, Int.ofNat_eq_natCast, Bool.not_true, Bool.not_false, Bool.cond_not, Bool.cond_decide, Int.cast_ofNat_Int] at *)
  all_goals (congr 1; simp only [mayB, secB, timB]; grind)

theorem limit_tree : (fun (s : Int) (o : Bool) (t : Int) (p : Bool) (e : Bool) (el fr : Nat → Nat) (kk : AV → Bool) => runK C noneX 20 30 [refA s o t p e] (startT el fr tab 8) (fun a _ => kk a)) = fun s o t p e _ _ kk =>
  ifF (iltF (wrapQ .i64 (Int.tdiv s (Int.ofNat 3))) (Int.ofNat 32))
   (kk (.int .i64 (wrapF .i64 (addF t (wrapQ .i64 ((Int.ofNat 1000) * (wrapF .i64 (addF s (negF (wrapQ .i64 (Int.tdiv s (Int.ofNat 3))))))))))))
   (kk (.int .i64 (wrapF .i64 (addF t (wrapQ .i64 ((Int.ofNat 1000) * (wrapF .i64 (addF s (Int.negSucc 31))))))))) := by kernel_rfl

theorem limit_says (s : Int) (o : Bool) (t : Int) (p : Bool) (e : Bool) : Says C G 30 [refA s o t p e] (.int .i64 (limW s t)) := by
  refine says_of C_ok G_ok (fun W _ => noneX_snd C W) noneX_grw tab_lt (Nat.le_refl 8) (k := 20) (isV (.int .i64 (limW s t))) (fun _ => isV_true) rfl rfl fun el fr => ?_
  refine (congrFun (congrFun (congrFun (congrFun (congrFun (congrFun (congrFun (congrFun (limit_tree) s) o) t) p) e) el) fr) _).trans ?_
  repeat' (first | refine isV_of ?_ | refine ifF_of (fun h => ?_) (fun h => ?_))
  all_goals (simp only [ifF_eq, iltF_eq, ilt_eq, ieqF_eq, ieq_eq, notF_eq, addF_eq, negF_eq, wrapF_eq, wrapQ_eq, IntKind.wrap_i64, cond_true, cond_false, Bool.not_eq_true', Bool.not_eq_false', decide_eq_true_eq, decide_eq_false_iff_not, Int.ofNat_eq_natCast, Bool.not_true, Bool.not_false, Bool.cond_not, Bool.cond_decide, Int.cast_ofNat_Int] at *)
  all_goals (congr 1; simp only [limW, IntKind.wrap_i64]; split <;> omega)

theorem limitR_tree : (fun (s : Int) (o : Bool) (t : Int) (p : Bool) (e : Bool) (el fr : Nat → Nat) (kk : AV → Bool) => runK C noneX 20 31 [refA s o t p e] (startT el fr tab 8) (fun a _ => kk a)) = fun s o t p e _ _ kk =>
  kk (.int .i64 (wrapF .i64 (addF (wrapF .i64 (addF t (wrapQ .i64 ((Int.ofNat 1000) * s)))) (negF (wrapQ .i64 ((Int.ofNat 1000) * (bif (ilt (wrapQ .i64 (Int.tdiv s (Int.ofNat 3))) (Int.ofNat 32)) then (wrapQ .i64 (Int.tdiv s (Int.ofNat 3))) else (Int.ofNat 32)))))))) := by kernel_rfl

theorem limitR_says (s : Int) (o : Bool) (t : Int) (p : Bool) (e : Bool) : Says C G 31 [refA s o t p e] (.int .i64 (limW s t)) := by
  refine says_of C_ok G_ok (fun W _ => noneX_snd C W) noneX_grw tab_lt (Nat.le_refl 8) (k := 20) (isV (.int .i64 (limW s t))) (fun _ => isV_true) rfl rfl fun el fr => ?_
  refine (congrFun (congrFun (congrFun (congrFun (congrFun (congrFun (congrFun (congrFun (limitR_tree) s) o) t) p) e) el) fr) _).trans ?_
  repeat' (first | refine isV_of ?_ | refine ifF_of (fun h => ?_) (fun h => ?_))
  all_goals (simp only [ifF_eq, iltF_eq, ilt_eq, ieqF_eq, ieq_eq, notF_eq, addF_eq, negF_eq, wrapF_eq, wrapQ_eq, IntKind.wrap_i64, cond_true, cond_false, Bool.not_eq_true', Bool.not_eq_false', decide_eq_true_eq, decide_eq_false_iff_not, Int.ofNat_eq_natCast, Bool.not_true, Bool.not_false, Bool.cond_not, Bool.cond_decide, Int.cast_ofNat_Int] at *)
  all_goals (congr 1; simp only [limW, IntKind.wrap_i64]; split <;> omega)

theorem gLim_ok (f : Nat) (h : ∀ s o t p e, Says C G f [refA s o t p e] (.int .i64 (limW s t))) : ∀ args a, gLim args = some a → Says C G f args a := by
  intro args a hg
  unfold gLim at hg
  split at hg
  · cases hg; exact h _ _ _ _ _
  · cases hg
theorem gMay_ok (f : Nat) (h : ∀ s o t p e, Says C G f [refA s o t p e] (.bool (mayB s o t p e))) : ∀ args a, gMay args = some a → Says C G f args a := by
  intro args a hg
  unfold gMay at hg
  split at hg
  · cases hg; exact h _ _ _ _ _
  · cases hg
noncomputable def XM : CallF := scalX 14 gMay (scalX 15 gMay (scalX 30 gLim (scalX 31 gLim noneX)))
theorem XM_snd (W : World) (h : G W) : SndF C W XM := scalX_snd G_ok (scalX_snd G_ok (scalX_snd G_ok (scalX_snd G_ok (fun W _ => noneX_snd C W) (gLim_ok 31 limitR_says)) (gLim_ok 30 limit_says)) (gMay_ok 15 mayR_says)) (gMay_ok 14 may_says) W h
theorem XM_grw : GrwF XM := scalX_grw (scalX_grw (scalX_grw (scalX_grw noneX_grw)))

theorem next_tree : (fun (s : Int) (o : Bool) (t : Int) (p : Bool) (e : Bool) (el fr : Nat → Nat) (kk : AV → Bool) => runK C XM 20 12 [refA s o t p e] (startT el fr tab 8) (fun a _ => kk a)) = fun s o t p e _ _ kk =>
  ifF (notF (mayB s o t p e))
   (kk (.tup [(.int .i64 (Int.ofNat 0)), (.bool false)]))
   (ifF (ifF false true (ieqF s (Int.ofNat 0)))
    (kk (.tup [(.int .i64 (Int.ofNat 0)), (.bool false)]))
    (ifF (ifF false true e)
     (kk (.tup [(.int .i64 (Int.ofNat 0)), (.bool false)]))
     (ifF o
      (ifF (ifF true (notF p) false)
       (kk (.tup [(.int .i64 (wrapF .i64 (addF t (wrapQ .i64 (Int.tdiv (wrapQ .i64 ((Int.ofNat 1000) * s)) (Int.ofNat 2)))))), (.bool true)]))
       (kk (.tup [(.int .i64 (limW s t)), (.bool true)])))
      (kk (.tup [(.int .i64 (limW s t)), (.bool true)]))))) := by kernel_rfl

theorem next_says (s : Int) (o : Bool) (t : Int) (p : Bool) (e : Bool) : Says C G 12 [refA s o t p e] (.tup [.int .i64 (nexN s o t p e), .bool (nexB s o t p e)]) := by
  refine says_of C_ok G_ok (fun W h => XM_snd W h) XM_grw tab_lt (Nat.le_refl 8) (k := 20) (isV (.tup [.int .i64 (nexN s o t p e), .bool (nexB s o t p e)])) (fun _ => isV_true) rfl rfl fun el fr => ?_
  refine (congrFun (congrFun (congrFun (congrFun (congrFun (congrFun (congrFun (congrFun (next_tree) s) o) t) p) e) el) fr) _).trans ?_
  have hl := @mayB_lim s o t p e
  have hb := @mayB_bounds s o t p e
  repeat' (first | refine isV_of ?_ | refine ifF_of (fun h => ?_) (fun h => ?_))
  all_goals (simp only [ifF_eq, iltF_eq, ilt_eq, ieqF_eq, ieq_eq, notF_eq, addF_eq, negF_eq, wrapF_eq, wrapQ_eq, IntKind.wrap_i64, cond_true, cond_false, Bool.not_eq_true', Bool.not_eq_false', decide_eq_true_eq, decide_eq_false_iff_not, Int.ofNat_eq_natCast, Bool.not_true, Bool.not_false, Bool.cond_not, Bool.cond_decide, Int.cast_ofNat_Int] at *)
  all_goals (simp only [nexN, nexB, AV.tup.injEq, AV.agg.injEq, List.cons.injEq, AV.int.injEq, AV.bool.injEq, true_and, and_true] at *; grind [Int.tdiv_eq_ediv_of_nonneg])

theorem nextR_tree : (fun (s : Int) (o : Bool) (t : Int) (p : Bool) (e : Bool) (el fr : Nat → Nat) (kk : AV → Bool) => runK C XM 20 13 [refA s o t p e] (startT el fr tab 8) (fun a _ => kk a)) = fun s o t p e _ _ kk =>
  ifF (notF (mayB s o t p e))
   (kk (.tup [(.int .i64 (Int.ofNat 0)), (.bool false)]))
   (ifF (ifF false true (ieqF s (Int.ofNat 0)))
    (kk (.tup [(.int .i64 (Int.ofNat 0)), (.bool false)]))
    (ifF (ifF false true e)
     (kk (.tup [(.int .i64 (Int.ofNat 0)), (.bool false)]))
     (ifF o
      (ifF (ifF true (notF p) false)
       (kk (.tup [(.int .i64 (wrapF .i64 (addF t (wrapQ .i64 ((Int.ofNat 500) * s))))), (.bool true)]))
       (kk (.tup [(.int .i64 (limW s t)), (.bool true)])))
      (kk (.tup [(.int .i64 (limW s t)), (.bool true)]))))) := by kernel_rfl

theorem nextR_says (s : Int) (o : Bool) (t : Int) (p : Bool) (e : Bool) : Says C G 13 [refA s o t p e] (.tup [.int .i64 (nexN s o t p e), .bool (nexB s o t p e)]) := by
  refine says_of C_ok G_ok (fun W h => XM_snd W h) XM_grw tab_lt (Nat.le_refl 8) (k := 20) (isV (.tup [.int .i64 (nexN s o t p e), .bool (nexB s o t p e)])) (fun _ => isV_true) rfl rfl fun el fr => ?_
  refine (congrFun (congrFun (congrFun (congrFun (congrFun (congrFun (congrFun (congrFun (nextR_tree) s) o) t) p) e) el) fr) _).trans ?_
  have hl := @mayB_lim s o t p e
  have hb := @mayB_bounds s o t p e
  repeat' (first | refine isV_of ?_ | refine ifF_of (fun h => ?_) (fun h => ?_))
  all_goals (simp only [ifF_eq, iltF_eq, ilt_eq, ieqF_eq, ieq_eq, notF_eq, addF_eq, negF_eq, wrapF_eq, wrapQ_eq, IntKind.wrap_i64, cond_true, cond_false, Bool.not_eq_true', Bool.not_eq_false', decide_eq_true_eq, decide_eq_false_iff_not, Int.ofNat_eq_natCast, Bool.not_true, Bool.not_false, Bool.cond_not, Bool.cond_decide, Int.cast_ofNat_Int] at *)
  all_goals (simp only [nexN, nexB, AV.tup.injEq, AV.agg.injEq, List.cons.injEq, AV.int.injEq, AV.bool.injEq, true_and, and_true] at *; grind [Int.tdiv_eq_ediv_of_nonneg])

theorem gNext_ok (f : Nat) (h : ∀ s o t p e, Says C G f [refA s o t p e] (.tup [.int .i64 (nexN s o t p e), .bool (nexB s o t p e)])) : ∀ args a, gNext args = some a → Says C G f args a := by
  intro args a hg
  unfold gNext at hg
  split at hg
  · cases hg; exact h _ _ _ _ _
  · cases hg
noncomputable def XN : CallF := scalX 12 gNext (scalX 13 gNext XM)
theorem XN_snd (W : World) (h : G W) : SndF C W XN := scalX_snd G_ok (scalX_snd G_ok XM_snd (gNext_ok 13 nextR_says)) (gNext_ok 12 next_says) W h
theorem XN_grw : GrwF XN := scalX_grw (scalX_grw XM_grw)

theorem start_tree : (fun (c : Int) (m : Int) (s : Int) (k : Bool) (side : Bool) (now : Int) (el fr : Nat → Nat) (kk : AV → Bool) => runK C XM 20 8 [agrA c m s k, .bool side, .int .i64 now] (startT el fr tab 8) (fun a _ => kk a)) = fun c m s k side now _ _ kk =>
  ifF (notF (ieqF c (Int.ofNat 0)))
   (kk (.tup [(.agg [(.int .i64 (Int.ofNat 0)), (.bool false), (.int .i64 (Int.ofNat 0)), (.bool false), (.bool false)]), (.int .u8 (Int.ofNat 2))]))
   (ifF (ieqF s (Int.ofNat 0))
    (ifF (notF (iltF now (Int.ofNat 0)))
     (ifF (ifF false true (notF (ifF true (notF (iltF (Int.ofNat 1099511627776) now)) false)))
      (kk (.tup [(.agg [(.int .i64 (Int.ofNat 0)), (.bool false), (.int .i64 (Int.ofNat 0)), (.bool false), (.bool false)]), (.int .u8 (Int.ofNat 2))]))
      (ifF (ieqF s (Int.ofNat 0))
       (kk (.tup [(.agg [(.int .i64 (Int.ofNat 0)), (.bool false), (.int .i64 (Int.ofNat 0)), (.bool false), (.bool false)]), (.int .u8 (Int.ofNat 0))]))
       (kk (.tup [(.agg [(.int .i64 s), (.bool (bif k then side else (not side))), (.int .i64 now), (.bool false), (.bool false)]), (.int .u8 (Int.ofNat 0))]))))
     (kk (.tup [(.agg [(.int .i64 (Int.ofNat 0)), (.bool false), (.int .i64 (Int.ofNat 0)), (.bool false), (.bool false)]), (.int .u8 (Int.ofNat 2))])))
    (ifF (notF (iltF s (Int.ofNat 90)))
     (ifF (ifF false true (notF (ifF false true (ifF true (notF (iltF (Int.ofNat 86400) s)) false))))
      (kk (.tup [(.agg [(.int .i64 (Int.ofNat 0)), (.bool false), (.int .i64 (Int.ofNat 0)), (.bool false), (.bool false)]), (.int .u8 (Int.ofNat 2))]))
      (ifF (notF (iltF now (Int.ofNat 0)))
       (ifF (ifF false true (notF (ifF true (notF (iltF (Int.ofNat 1099511627776) now)) false)))
        (kk (.tup [(.agg [(.int .i64 (Int.ofNat 0)), (.bool false), (.int .i64 (Int.ofNat 0)), (.bool false), (.bool false)]), (.int .u8 (Int.ofNat 2))]))
        (ifF (ieqF s (Int.ofNat 0))
         (kk (.tup [(.agg [(.int .i64 (Int.ofNat 0)), (.bool false), (.int .i64 (Int.ofNat 0)), (.bool false), (.bool false)]), (.int .u8 (Int.ofNat 0))]))
         (kk (.tup [(.agg [(.int .i64 s), (.bool (bif k then side else (not side))), (.int .i64 now), (.bool false), (.bool false)]), (.int .u8 (Int.ofNat 0))]))))
       (kk (.tup [(.agg [(.int .i64 (Int.ofNat 0)), (.bool false), (.int .i64 (Int.ofNat 0)), (.bool false), (.bool false)]), (.int .u8 (Int.ofNat 2))]))))
     (kk (.tup [(.agg [(.int .i64 (Int.ofNat 0)), (.bool false), (.int .i64 (Int.ofNat 0)), (.bool false), (.bool false)]), (.int .u8 (Int.ofNat 2))])))) := by kernel_rfl

theorem start_says (c : Int) (m : Int) (s : Int) (k : Bool) (side : Bool) (now : Int) : Says C G 8 [agrA c m s k, .bool side, .int .i64 now] (staA c s k side now) := by
  refine says_of C_ok G_ok (fun W h => XM_snd W h) XM_grw tab_lt (Nat.le_refl 8) (k := 20) (isV (staA c s k side now)) (fun _ => isV_true) rfl rfl fun el fr => ?_
  refine (congrFun (congrFun (congrFun (congrFun (congrFun (congrFun (congrFun (congrFun (congrFun (start_tree) c) m) s) k) side) now) el) fr) _).trans ?_
  repeat' (first | refine isV_of ?_ | refine ifF_of (fun h => ?_) (fun h => ?_))
  all_goals (simp only [ifF_eq, iltF_eq, ilt_eq, ieqF_eq, ieq_eq, notF_eq, addF_eq, negF_eq, wrapF_eq, wrapQ_eq, IntKind.wrap_i64, cond_true, cond_false, Bool.not_eq_true', Bool.not_eq_false', decide_eq_true_eq, decide_eq_false_iff_not, Int.ofNat_eq_natCast, Bool.not_true, Bool.not_false, Bool.cond_not, Bool.cond_decide, Int.cast_ofNat_Int] at *)
  all_goals (simp only [staA, refA, stS, stO, stT, stR, staB, secB, timB, AV.tup.injEq, AV.agg.injEq, List.cons.injEq, AV.int.injEq, AV.bool.injEq, true_and, and_true] at *; grind [Int.tdiv_eq_ediv_of_nonneg])

theorem startR_tree : (fun (c : Int) (m : Int) (s : Int) (k : Bool) (side : Bool) (now : Int) (el fr : Nat → Nat) (kk : AV → Bool) => runK C XM 20 9 [agrA c m s k, .bool side, .int .i64 now] (startT el fr tab 8) (fun a _ => kk a)) = fun c m s k side now _ _ kk =>
  ifF (notF (ieqF c (Int.ofNat 0)))
   (kk (.tup [(.agg [(.int .i64 (Int.ofNat 0)), (.bool false), (.int .i64 (Int.ofNat 0)), (.bool false), (.bool false)]), (.int .u8 (Int.ofNat 2))]))
   (ifF (ieqF s (Int.ofNat 0))
    (ifF (notF (iltF now (Int.ofNat 0)))
     (ifF (ifF false true (notF (ifF true (notF (iltF (Int.ofNat 1099511627776) now)) false)))
      (kk (.tup [(.agg [(.int .i64 (Int.ofNat 0)), (.bool false), (.int .i64 (Int.ofNat 0)), (.bool false), (.bool false)]), (.int .u8 (Int.ofNat 2))]))
      (ifF (ieqF s (Int.ofNat 0))
       (kk (.tup [(.agg [(.int .i64 (Int.ofNat 0)), (.bool false), (.int .i64 (Int.ofNat 0)), (.bool false), (.bool false)]), (.int .u8 (Int.ofNat 0))]))
       (kk (.tup [(.agg [(.int .i64 s), (.bool (bif k then side else (not side))), (.int .i64 now), (.bool false), (.bool false)]), (.int .u8 (Int.ofNat 0))]))))
     (kk (.tup [(.agg [(.int .i64 (Int.ofNat 0)), (.bool false), (.int .i64 (Int.ofNat 0)), (.bool false), (.bool false)]), (.int .u8 (Int.ofNat 2))])))
    (ifF (notF (iltF s (Int.ofNat 90)))
     (ifF (ifF false true (notF (ifF false true (ifF true (notF (iltF (Int.ofNat 86400) s)) false))))
      (kk (.tup [(.agg [(.int .i64 (Int.ofNat 0)), (.bool false), (.int .i64 (Int.ofNat 0)), (.bool false), (.bool false)]), (.int .u8 (Int.ofNat 2))]))
      (ifF (notF (iltF now (Int.ofNat 0)))
       (ifF (ifF false true (notF (ifF true (notF (iltF (Int.ofNat 1099511627776) now)) false)))
        (kk (.tup [(.agg [(.int .i64 (Int.ofNat 0)), (.bool false), (.int .i64 (Int.ofNat 0)), (.bool false), (.bool false)]), (.int .u8 (Int.ofNat 2))]))
        (ifF (ieqF s (Int.ofNat 0))
         (kk (.tup [(.agg [(.int .i64 (Int.ofNat 0)), (.bool false), (.int .i64 (Int.ofNat 0)), (.bool false), (.bool false)]), (.int .u8 (Int.ofNat 0))]))
         (kk (.tup [(.agg [(.int .i64 s), (.bool (bif k then side else (not side))), (.int .i64 now), (.bool false), (.bool false)]), (.int .u8 (Int.ofNat 0))]))))
       (kk (.tup [(.agg [(.int .i64 (Int.ofNat 0)), (.bool false), (.int .i64 (Int.ofNat 0)), (.bool false), (.bool false)]), (.int .u8 (Int.ofNat 2))]))))
     (kk (.tup [(.agg [(.int .i64 (Int.ofNat 0)), (.bool false), (.int .i64 (Int.ofNat 0)), (.bool false), (.bool false)]), (.int .u8 (Int.ofNat 2))])))) := by kernel_rfl

theorem startR_says (c : Int) (m : Int) (s : Int) (k : Bool) (side : Bool) (now : Int) : Says C G 9 [agrA c m s k, .bool side, .int .i64 now] (staA c s k side now) := by
  refine says_of C_ok G_ok (fun W h => XM_snd W h) XM_grw tab_lt (Nat.le_refl 8) (k := 20) (isV (staA c s k side now)) (fun _ => isV_true) rfl rfl fun el fr => ?_
  refine (congrFun (congrFun (congrFun (congrFun (congrFun (congrFun (congrFun (congrFun (congrFun (startR_tree) c) m) s) k) side) now) el) fr) _).trans ?_
  repeat' (first | refine isV_of ?_ | refine ifF_of (fun h => ?_) (fun h => ?_))
  all_goals (simp only [ifF_eq, iltF_eq, ilt_eq, ieqF_eq, ieq_eq, notF_eq, addF_eq, negF_eq, wrapF_eq, wrapQ_eq, IntKind.wrap_i64, cond_true, cond_false, Bool.not_eq_true', Bool.not_eq_false', decide_eq_true_eq, decide_eq_false_iff_not, Int.ofNat_eq_natCast, Bool.not_true, Bool.not_false, Bool.cond_not, Bool.cond_decide, Int.cast_ofNat_Int] at *)
  all_goals (simp only [staA, refA, stS, stO, stT, stR, staB, secB, timB, AV.tup.injEq, AV.agg.injEq, List.cons.injEq, AV.int.injEq, AV.bool.injEq, true_and, and_true] at *; grind [Int.tdiv_eq_ediv_of_nonneg])

theorem done_tree : (fun (s : Int) (o : Bool) (t : Int) (p : Bool) (e : Bool) (ok : Bool) (now : Int) (el fr : Nat → Nat) (kk : AV → Bool) => runK C XM 20 10 [refA s o t p e, .bool ok, .int .i64 now] (startT el fr tab 8) (fun a _ => kk a)) = fun s o t p e ok now _ _ kk =>
  ifF (notF (mayB s o t p e))
   (kk (.tup [(.agg [(.int .i64 (Int.ofNat 0)), (.bool false), (.int .i64 (Int.ofNat 0)), (.bool false), (.bool false)]), (.int .u8 (Int.ofNat 0)), (.int .u8 (Int.ofNat 2))]))
   (ifF (notF (iltF now (Int.ofNat 0)))
    (ifF (ifF false true (notF (ifF true (notF (iltF (Int.ofNat 1099511627776) now)) false)))
     (kk (.tup [(.agg [(.int .i64 (Int.ofNat 0)), (.bool false), (.int .i64 (Int.ofNat 0)), (.bool false), (.bool false)]), (.int .u8 (Int.ofNat 0)), (.int .u8 (Int.ofNat 2))]))
     (ifF (ieqF s (Int.ofNat 0))
      (kk (.tup [(.agg [(.int .i64 (Int.ofNat 0)), (.bool false), (.int .i64 (Int.ofNat 0)), (.bool false), (.bool false)]), (.int .u8 (Int.ofNat 0)), (.int .u8 (Int.ofNat 9))]))
      (ifF (ifF false true e)
       (kk (.tup [(.agg [(.int .i64 (Int.ofNat 0)), (.bool false), (.int .i64 (Int.ofNat 0)), (.bool false), (.bool false)]), (.int .u8 (Int.ofNat 0)), (.int .u8 (Int.ofNat 9))]))
       (ifF (notF ok)
        (ifF (ifF false true (ifF true (notF p) false))
         (kk (.tup [(.agg [(.int .i64 (Int.ofNat 0)), (.bool false), (.int .i64 (Int.ofNat 0)), (.bool false), (.bool false)]), (.int .u8 (Int.ofNat 0)), (.int .u8 (Int.ofNat 9))]))
         (ifF (notF ok)
          (kk (.tup [(.agg [(.int .i64 s), (.bool o), (.int .i64 t), (.bool false), (.bool true)]), (.int .u8 (Int.ofNat 2)), (.int .u8 (Int.ofNat 0))]))
          (kk (.tup [(.agg [(.int .i64 s), (.bool o), (.int .i64 now), (.bool false), (.bool e)]), (.int .u8 (Int.ofNat 0)), (.int .u8 (Int.ofNat 0))]))))
        (ifF (notF ok)
         (kk (.tup [(.agg [(.int .i64 s), (.bool o), (.int .i64 t), (.bool false), (.bool true)]), (.int .u8 (Int.ofNat 2)), (.int .u8 (Int.ofNat 0))]))
         (kk (.tup [(.agg [(.int .i64 s), (.bool o), (.int .i64 now), (.bool false), (.bool e)]), (.int .u8 (Int.ofNat 0)), (.int .u8 (Int.ofNat 0))])))))))
    (kk (.tup [(.agg [(.int .i64 (Int.ofNat 0)), (.bool false), (.int .i64 (Int.ofNat 0)), (.bool false), (.bool false)]), (.int .u8 (Int.ofNat 0)), (.int .u8 (Int.ofNat 2))]))) := by kernel_rfl

theorem done_says (s : Int) (o : Bool) (t : Int) (p : Bool) (e : Bool) (ok : Bool) (now : Int) : Says C G 10 [refA s o t p e, .bool ok, .int .i64 now] (donA s o t p e ok now) := by
  refine says_of C_ok G_ok (fun W h => XM_snd W h) XM_grw tab_lt (Nat.le_refl 8) (k := 20) (isV (donA s o t p e ok now)) (fun _ => isV_true) rfl rfl fun el fr => ?_
  refine (congrFun (congrFun (congrFun (congrFun (congrFun (congrFun (congrFun (congrFun (congrFun (congrFun (done_tree) s) o) t) p) e) ok) now) el) fr) _).trans ?_
  repeat' (first | refine isV_of ?_ | refine ifF_of (fun h => ?_) (fun h => ?_))
  all_goals (simp only [ifF_eq, iltF_eq, ilt_eq, ieqF_eq, ieq_eq, notF_eq, addF_eq, negF_eq, wrapF_eq, wrapQ_eq, IntKind.wrap_i64, cond_true, cond_false, Bool.not_eq_true', Bool.not_eq_false', decide_eq_true_eq, decide_eq_false_iff_not, Int.ofNat_eq_natCast, Bool.not_true, Bool.not_false, Bool.cond_not, Bool.cond_decide, Int.cast_ofNat_Int] at *)
  all_goals (simp only [donA, refA, doS, doO, doT, doE, doA, doR, donK, timB, mayB, AV.tup.injEq, AV.agg.injEq, List.cons.injEq, AV.int.injEq, AV.bool.injEq, true_and, and_true] at *; grind [Int.tdiv_eq_ediv_of_nonneg])

theorem doneR_tree : (fun (s : Int) (o : Bool) (t : Int) (p : Bool) (e : Bool) (ok : Bool) (now : Int) (el fr : Nat → Nat) (kk : AV → Bool) => runK C XM 20 11 [refA s o t p e, .bool ok, .int .i64 now] (startT el fr tab 8) (fun a _ => kk a)) = fun s o t p e ok now _ _ kk =>
  ifF (notF (mayB s o t p e))
   (kk (.tup [(.agg [(.int .i64 (Int.ofNat 0)), (.bool false), (.int .i64 (Int.ofNat 0)), (.bool false), (.bool false)]), (.int .u8 (Int.ofNat 0)), (.int .u8 (Int.ofNat 2))]))
   (ifF (notF (iltF now (Int.ofNat 0)))
    (ifF (ifF false true (notF (ifF true (notF (iltF (Int.ofNat 1099511627776) now)) false)))
     (kk (.tup [(.agg [(.int .i64 (Int.ofNat 0)), (.bool false), (.int .i64 (Int.ofNat 0)), (.bool false), (.bool false)]), (.int .u8 (Int.ofNat 0)), (.int .u8 (Int.ofNat 2))]))
     (ifF (ieqF s (Int.ofNat 0))
      (kk (.tup [(.agg [(.int .i64 (Int.ofNat 0)), (.bool false), (.int .i64 (Int.ofNat 0)), (.bool false), (.bool false)]), (.int .u8 (Int.ofNat 0)), (.int .u8 (Int.ofNat 9))]))
      (ifF (ifF false true e)
       (kk (.tup [(.agg [(.int .i64 (Int.ofNat 0)), (.bool false), (.int .i64 (Int.ofNat 0)), (.bool false), (.bool false)]), (.int .u8 (Int.ofNat 0)), (.int .u8 (Int.ofNat 9))]))
       (ifF (notF ok)
        (ifF (ifF false true (ifF true (notF p) false))
         (kk (.tup [(.agg [(.int .i64 (Int.ofNat 0)), (.bool false), (.int .i64 (Int.ofNat 0)), (.bool false), (.bool false)]), (.int .u8 (Int.ofNat 0)), (.int .u8 (Int.ofNat 9))]))
         (ifF ok
          (kk (.tup [(.agg [(.int .i64 s), (.bool o), (.int .i64 now), (.bool false), (.bool e)]), (.int .u8 (Int.ofNat 0)), (.int .u8 (Int.ofNat 0))]))
          (kk (.tup [(.agg [(.int .i64 s), (.bool o), (.int .i64 t), (.bool false), (.bool true)]), (.int .u8 (Int.ofNat 2)), (.int .u8 (Int.ofNat 0))]))))
        (ifF ok
         (kk (.tup [(.agg [(.int .i64 s), (.bool o), (.int .i64 now), (.bool false), (.bool e)]), (.int .u8 (Int.ofNat 0)), (.int .u8 (Int.ofNat 0))]))
         (kk (.tup [(.agg [(.int .i64 s), (.bool o), (.int .i64 t), (.bool false), (.bool true)]), (.int .u8 (Int.ofNat 2)), (.int .u8 (Int.ofNat 0))])))))))
    (kk (.tup [(.agg [(.int .i64 (Int.ofNat 0)), (.bool false), (.int .i64 (Int.ofNat 0)), (.bool false), (.bool false)]), (.int .u8 (Int.ofNat 0)), (.int .u8 (Int.ofNat 2))]))) := by kernel_rfl

theorem doneR_says (s : Int) (o : Bool) (t : Int) (p : Bool) (e : Bool) (ok : Bool) (now : Int) : Says C G 11 [refA s o t p e, .bool ok, .int .i64 now] (donA s o t p e ok now) := by
  refine says_of C_ok G_ok (fun W h => XM_snd W h) XM_grw tab_lt (Nat.le_refl 8) (k := 20) (isV (donA s o t p e ok now)) (fun _ => isV_true) rfl rfl fun el fr => ?_
  refine (congrFun (congrFun (congrFun (congrFun (congrFun (congrFun (congrFun (congrFun (congrFun (congrFun (doneR_tree) s) o) t) p) e) ok) now) el) fr) _).trans ?_
  repeat' (first | refine isV_of ?_ | refine ifF_of (fun h => ?_) (fun h => ?_))
  all_goals (simp only [ifF_eq, iltF_eq, ilt_eq, ieqF_eq, ieq_eq, notF_eq, addF_eq, negF_eq, wrapF_eq, wrapQ_eq, IntKind.wrap_i64, cond_true, cond_false, Bool.not_eq_true', Bool.not_eq_false', decide_eq_true_eq, decide_eq_false_iff_not, Int.ofNat_eq_natCast, Bool.not_true, Bool.not_false, Bool.cond_not, Bool.cond_decide, Int.cast_ofNat_Int] at *)
  all_goals (simp only [donA, refA, doS, doO, doT, doE, doA, doR, donK, timB, mayB, AV.tup.injEq, AV.agg.injEq, List.cons.injEq, AV.int.injEq, AV.bool.injEq, true_and, and_true] at *; grind [Int.tdiv_eq_ediv_of_nonneg])

theorem fire_tree : (fun (s : Int) (o : Bool) (t : Int) (p : Bool) (e : Bool) (now : Int) (el fr : Nat → Nat) (kk : AV → Bool) => runK C XN 20 16 [refA s o t p e, .int .i64 now] (startT el fr tab 8) (fun a _ => kk a)) = fun s o t p e now _ _ kk =>
  ifF (notF (mayB s o t p e))
   (kk (.tup [(.agg [(.int .i64 (Int.ofNat 0)), (.bool false), (.int .i64 (Int.ofNat 0)), (.bool false), (.bool false)]), (.int .u8 (Int.ofNat 0)), (.int .u8 (Int.ofNat 2))]))
   (ifF (notF (iltF now (Int.ofNat 0)))
    (ifF (ifF false true (notF (ifF true (notF (iltF (Int.ofNat 1099511627776) now)) false)))
     (kk (.tup [(.agg [(.int .i64 (Int.ofNat 0)), (.bool false), (.int .i64 (Int.ofNat 0)), (.bool false), (.bool false)]), (.int .u8 (Int.ofNat 0)), (.int .u8 (Int.ofNat 2))]))
     (ifF (notF (nexB s o t p e))
      (kk (.tup [(.agg [(.int .i64 s), (.bool o), (.int .i64 t), (.bool p), (.bool e)]), (.int .u8 (Int.ofNat 0)), (.int .u8 (Int.ofNat 0))]))
      (ifF (ifF false true (iltF now (nexN s o t p e)))
       (kk (.tup [(.agg [(.int .i64 s), (.bool o), (.int .i64 t), (.bool p), (.bool e)]), (.int .u8 (Int.ofNat 0)), (.int .u8 (Int.ofNat 0))]))
       (ifF (notF (iltF now (limW s t)))
        (kk (.tup [(.agg [(.int .i64 s), (.bool o), (.int .i64 t), (.bool false), (.bool true)]), (.int .u8 (Int.ofNat 2)), (.int .u8 (Int.ofNat 0))]))
        (kk (.tup [(.agg [(.int .i64 s), (.bool o), (.int .i64 t), (.bool true), (.bool e)]), (.int .u8 (Int.ofNat 1)), (.int .u8 (Int.ofNat 0))]))))))
    (kk (.tup [(.agg [(.int .i64 (Int.ofNat 0)), (.bool false), (.int .i64 (Int.ofNat 0)), (.bool false), (.bool false)]), (.int .u8 (Int.ofNat 0)), (.int .u8 (Int.ofNat 2))]))) := by kernel_rfl

theorem fire_says (s : Int) (o : Bool) (t : Int) (p : Bool) (e : Bool) (now : Int) : Says C G 16 [refA s o t p e, .int .i64 now] (firA s o t p e now) := by
  refine says_of C_ok G_ok (fun W h => XN_snd W h) XN_grw tab_lt (Nat.le_refl 8) (k := 20) (isV (firA s o t p e now)) (fun _ => isV_true) rfl rfl fun el fr => ?_
  refine (congrFun (congrFun (congrFun (congrFun (congrFun (congrFun (congrFun (congrFun (congrFun (fire_tree) s) o) t) p) e) now) el) fr) _).trans ?_
  have hl := @mayB_lim s o t p e
  have hb := @mayB_bounds s o t p e
  repeat' (first | refine isV_of ?_ | refine ifF_of (fun h => ?_) (fun h => ?_))
  all_goals (simp only [ifF_eq, iltF_eq, ilt_eq, ieqF_eq, ieq_eq, notF_eq, addF_eq, negF_eq, wrapF_eq, wrapQ_eq, IntKind.wrap_i64, cond_true, cond_false, Bool.not_eq_true', Bool.not_eq_false', decide_eq_true_eq, decide_eq_false_iff_not, Int.ofNat_eq_natCast, Bool.not_true, Bool.not_false, Bool.cond_not, Bool.cond_decide, Int.cast_ofNat_Int] at *)
  all_goals (simp only [firA, refA, fiS, fiO, fiT, fiP, fiE, fiA, fiR, firK, timB, AV.tup.injEq, AV.agg.injEq, List.cons.injEq, AV.int.injEq, AV.bool.injEq, true_and, and_true] at *; grind [Int.tdiv_eq_ediv_of_nonneg])

theorem fireR_tree : (fun (s : Int) (o : Bool) (t : Int) (p : Bool) (e : Bool) (now : Int) (el fr : Nat → Nat) (kk : AV → Bool) => runK C XN 20 17 [refA s o t p e, .int .i64 now] (startT el fr tab 8) (fun a _ => kk a)) = fun s o t p e now _ _ kk =>
  ifF (notF (mayB s o t p e))
   (kk (.tup [(.agg [(.int .i64 (Int.ofNat 0)), (.bool false), (.int .i64 (Int.ofNat 0)), (.bool false), (.bool false)]), (.int .u8 (Int.ofNat 0)), (.int .u8 (Int.ofNat 2))]))
   (ifF (notF (iltF now (Int.ofNat 0)))
    (ifF (ifF false true (notF (ifF true (notF (iltF (Int.ofNat 1099511627776) now)) false)))
     (kk (.tup [(.agg [(.int .i64 (Int.ofNat 0)), (.bool false), (.int .i64 (Int.ofNat 0)), (.bool false), (.bool false)]), (.int .u8 (Int.ofNat 0)), (.int .u8 (Int.ofNat 2))]))
     (ifF (notF (nexB s o t p e))
      (kk (.tup [(.agg [(.int .i64 s), (.bool o), (.int .i64 t), (.bool p), (.bool e)]), (.int .u8 (Int.ofNat 0)), (.int .u8 (Int.ofNat 0))]))
      (ifF (ifF false true (iltF now (nexN s o t p e)))
       (kk (.tup [(.agg [(.int .i64 s), (.bool o), (.int .i64 t), (.bool p), (.bool e)]), (.int .u8 (Int.ofNat 0)), (.int .u8 (Int.ofNat 0))]))
       (ifF (notF (iltF now (limW s t)))
        (kk (.tup [(.agg [(.int .i64 s), (.bool o), (.int .i64 t), (.bool false), (.bool true)]), (.int .u8 (Int.ofNat 2)), (.int .u8 (Int.ofNat 0))]))
        (kk (.tup [(.agg [(.int .i64 s), (.bool o), (.int .i64 t), (.bool true), (.bool e)]), (.int .u8 (Int.ofNat 1)), (.int .u8 (Int.ofNat 0))]))))))
    (kk (.tup [(.agg [(.int .i64 (Int.ofNat 0)), (.bool false), (.int .i64 (Int.ofNat 0)), (.bool false), (.bool false)]), (.int .u8 (Int.ofNat 0)), (.int .u8 (Int.ofNat 2))]))) := by kernel_rfl

theorem fireR_says (s : Int) (o : Bool) (t : Int) (p : Bool) (e : Bool) (now : Int) : Says C G 17 [refA s o t p e, .int .i64 now] (firA s o t p e now) := by
  refine says_of C_ok G_ok (fun W h => XN_snd W h) XN_grw tab_lt (Nat.le_refl 8) (k := 20) (isV (firA s o t p e now)) (fun _ => isV_true) rfl rfl fun el fr => ?_
  refine (congrFun (congrFun (congrFun (congrFun (congrFun (congrFun (congrFun (congrFun (congrFun (fireR_tree) s) o) t) p) e) now) el) fr) _).trans ?_
  have hl := @mayB_lim s o t p e
  have hb := @mayB_bounds s o t p e
  repeat' (first | refine isV_of ?_ | refine ifF_of (fun h => ?_) (fun h => ?_))
  all_goals (simp only [ifF_eq, iltF_eq, ilt_eq, ieqF_eq, ieq_eq, notF_eq, addF_eq, negF_eq, wrapF_eq, wrapQ_eq, IntKind.wrap_i64, cond_true, cond_false, Bool.not_eq_true', Bool.not_eq_false', decide_eq_true_eq, decide_eq_false_iff_not, Int.ofNat_eq_natCast, Bool.not_true, Bool.not_false, Bool.cond_not, Bool.cond_decide, Int.cast_ofNat_Int] at *)
  all_goals (simp only [firA, refA, fiS, fiO, fiT, fiP, fiE, fiA, fiR, firK, timB, AV.tup.injEq, AV.agg.injEq, List.cons.injEq, AV.int.injEq, AV.bool.injEq, true_and, and_true] at *; grind [Int.tdiv_eq_ediv_of_nonneg])

end Go.Proofs.YtogdgamgpkbdaaaGreatDoor
