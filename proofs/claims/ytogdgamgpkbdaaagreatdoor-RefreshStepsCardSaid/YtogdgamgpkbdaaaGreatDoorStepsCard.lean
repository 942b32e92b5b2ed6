/-
  RefreshSteps returns true for all session timers, agreements and times: the row, and the tied card. The listed variables read as the row says when the call begins; the card ties them to the program's text.
-/
import Derived.Test.YtogdgamgpkbdaaaGreatDoorSteps
import Derived.Test.YtogdgamgpkbdaaaGreatDoorAxZe
import Derived.Test.YtogdgamgpkbdaaaGreatDoorTie
import Derived.Test.YtogdgamgpkbdaaaGreatDoorCards
import Derived.ProofKit
import Derived.OpenShut
import Derived.Lay
import Derived.SevenTiedAt
import Derived.Stop.Joined
namespace Go.Proofs.YtogdgamgpkbdaaaGreatDoor
open Go Go.Proofs.YtogdgamgpkbdaaaGreatDoor.Ax Go.RowKit Go.ChangeShapes Go.WideShapes Go.ChangeAt

theorem own : ownKnob Tryz.prog.godebug = none := by kernel_rfl
def laid : List (String × DataW Unit) := [("unicode/utf8.acceptRanges", Rows.laid_unicode_utf8_acceptRanges), ("dialtone/header.shorts", Rows.laid_dialtone_header_shorts), ("dialtone/header.specials", Rows.laid_dialtone_header_specials), ("unicode/utf8.first", Rows.laid_unicode_utf8_first)]

set_option maxRecDepth 100000 in
theorem law_lifted (os : Os) (started : os.Started) (H : Type) (enc : TypeId × Value → H) :
    ReturnsInHanded {} Tryz.checked os 3 .any (fun w args => (Rows.refreshStepsSpec.pre enc Tryz.prog Tryz.f3 [] false w args ∧ laidMetH Tryz.prog laid w) ∧ sizedMet enc Tryz.prog Tryz.f3 (OpenSpec.ofChange Rows.refreshStepsSpec) false w args)
      (Rows.refreshStepsSpec.post enc Tryz.prog Tryz.f3 false true false false) := by
  refine returnsInHanded_of_change_and (C := Tryz.checked) (X := fun w _ => laidMetH Tryz.prog laid w) (fun _ _ _ hh h => h.of_heap hh) own started (by kernel_rfl) Tryz.func3
    (ChangeSpec.witness_shaped (enc := enc) (C := Tryz.checked) (os := os) (X := fun w _ => laidMetH Tryz.prog laid w) false (World.laidAll Tryz.prog os laid) #[.agg #[.int .i64 0, .bool false, .int .i64 0, .bool false, .bool false], .agg #[.int .i64 0, .int .i64 0, .int .i64 0, .bool false], .int .i64 0] 8 (World.laidAll_os _ _ _)
      (World.shaped_of_ZipB (by kernel_rfl) (by kernel_rfl)) (by kernel_rfl) (by kernel_rfl) (by kernel_rfl)
      (by rw [MakeChecks.laidMetH_plain _ _ _ (by kernel_rfl)]; exact laidMet_laidAll _ (by kernel_rfl) (by kernel_rfl))) ?_
  intro W base args ds gs before hok hW _ _ hL _
  have hA : DataW.TrodAll enc Tryz.prog W 0 (fun _ => true) true Tryz.f3.params.toList args.toList ds _ := hW.choose_spec.choose_spec.1
  have hlen := trodAll_len hA
  obtain ⟨l⟩ := args
  obtain ⟨a0, a1, a2, rfl⟩ := list3 (l := l) (by rw [Tryz.params3] at hlen; exact hlen.1)
  obtain ⟨d0, d1, d2, rfl⟩ := list3 (l := ds) (by rw [Tryz.params3] at hlen; exact hlen.2)
  have k0 := hok 0 23 a0 (by rw [Tryz.params3]; rfl) rfl
  obtain ⟨l0, rfl, hl0, hc0⟩ := val_struct (ts := [3, 4, 3, 4, 4]) Tryz.underlying23 (by kernel_rfl) (by kernel_rfl) k0
  obtain ⟨y0_0, y0_1, y0_2, y0_3, y0_4, rfl⟩ := list5 hl0
  obtain ⟨_, e0_0, k0_0⟩ := hc0 0 3 rfl
  cases e0_0
  obtain ⟨x0, rfl, x0_l, x0_u⟩ := cell_int Tryz.underlying3 k0_0
  obtain ⟨_, e0_1, k0_1⟩ := hc0 1 4 rfl
  cases e0_1
  obtain ⟨x1, rfl⟩ := cell_bool Tryz.underlying4 k0_1
  obtain ⟨_, e0_2, k0_2⟩ := hc0 2 3 rfl
  cases e0_2
  obtain ⟨x2, rfl, x2_l, x2_u⟩ := cell_int Tryz.underlying3 k0_2
  obtain ⟨_, e0_3, k0_3⟩ := hc0 3 4 rfl
  cases e0_3
  obtain ⟨x3, rfl⟩ := cell_bool Tryz.underlying4 k0_3
  obtain ⟨_, e0_4, k0_4⟩ := hc0 4 4 rfl
  cases e0_4
  obtain ⟨x4, rfl⟩ := cell_bool Tryz.underlying4 k0_4
  have k1 := hok 1 25 a1 (by rw [Tryz.params3]; rfl) rfl
  obtain ⟨l1, rfl, hl1, hc1⟩ := val_struct (ts := [3, 3, 3, 4]) Tryz.underlying25 (by kernel_rfl) (by kernel_rfl) k1
  obtain ⟨y1_0, y1_1, y1_2, y1_3, rfl⟩ := list4 hl1
  obtain ⟨_, e1_0, k1_0⟩ := hc1 0 3 rfl
  cases e1_0
  obtain ⟨x5, rfl, x5_l, x5_u⟩ := cell_int Tryz.underlying3 k1_0
  obtain ⟨_, e1_1, k1_1⟩ := hc1 1 3 rfl
  cases e1_1
  obtain ⟨x6, rfl, x6_l, x6_u⟩ := cell_int Tryz.underlying3 k1_1
  obtain ⟨_, e1_2, k1_2⟩ := hc1 2 3 rfl
  cases e1_2
  obtain ⟨x7, rfl, x7_l, x7_u⟩ := cell_int Tryz.underlying3 k1_2
  obtain ⟨_, e1_3, k1_3⟩ := hc1 3 4 rfl
  cases e1_3
  obtain ⟨x8, rfl⟩ := cell_bool Tryz.underlying4 k1_3
  have k2 := hok 2 3 a2 (by rw [Tryz.params3]; rfl) rfl
  obtain ⟨x9, rfl, x9_l, x9_u⟩ := val_int Tryz.underlying3 k2
  refine (steps_says x0 x1 x2 x3 x4 x5 x6 x7 x8 x9 W (tab_of hL (by kernel_rfl) (.tail _ (.head _)) (.tail _ (.tail _ (.head _)))) env0 _ (.cons (.agg _ _ (.cons (.int _ _) (.cons (.bool _) (.cons (.int _ _) (.cons (.bool _) (.cons (.bool _) (.nil))))))) (.cons (.agg _ _ (.cons (.int _ _) (.cons (.int _ _) (.cons (.int _ _) (.cons (.bool _) (.nil)))))) (.cons (.int _ _) (.nil))))).mono fun e W' ⟨v, he, hv, hb⟩ => ?_
  subst he
  cases hv env0
  exact ⟨_, rfl, law_post (by kernel_rfl) (by kernel_rfl) (by kernel_rfl) (by rw [Tryz.params3]; exact fun t ht => of_decide_eq_true (List.all_eq_true.1 (show ([23, 25, 3] : List Nat).all (fun t => decide (t < Tryz.prog.types.size)) = true by kernel_rfl) t ht)) rfl Tryz.underlying4 rfl rfl hW hb⟩

theorem law_row : Rows.RefreshStepsSaid :=
  OpenClaim.holds_of_wide 3 Tryz.f3 rfl rfl rfl rfl rfl rfl rfl ⟨rfl, rfl, rfl, rfl, rfl⟩ rfl rfl rfl rfl rfl (by kernel_rfl) Tryz.func3 (by kernel_rfl)
    (of_decide_eq_true (by kernel_rfl)) (by unfold Func.isWrapper; first | (rw [if_pos (by decide +kernel)]; kernel_rfl) | (rw [if_neg (by decide +kernel)]; exact ⟨rfl, rfl⟩))
    (fun os started H enc _ => law_lifted os started H enc)

theorem law_card : Rows.RefreshStepsCardSaid :=
  Claim7.holds_tied_plain_at .later [] [.data, .data, .data, .pinned] true (true, "cfcef821db5e32325e9fb28026423bf272ada4c5cc709183d45cd02844920ce7") false
    law_row (fun _ h => by cases h) (by kernel_rfl) (fun _ h => by cases h) refreshSteps_row_tie rfl ⟨rfl, rfl⟩ (by kernel_rfl) rfl
    (fun f fn hf hfn => by
      obtain rfl : f = 3 := Option.some.inj ((show Tryz.prog.funcNamed "dialtone/dialtonelaw19.RefreshSteps" = some 3 by kernel_rfl).symm.trans hf) |>.symm
      obtain rfl : fn = Tryz.f3 := (Option.some.inj (Tryz.func3.symm.trans hfn)).symm
      exact ⟨by kernel_rfl, fun j t ht => by
        rw [Tryz.params3] at ht
        match j, ht with
        | 0, ht => cases ht; show Program.wantsStandIn Tryz.prog 23 = false; kernel_rfl
        | 1, ht => cases ht; show Program.wantsStandIn Tryz.prog 25 = false; kernel_rfl
        | 2, ht => cases ht; show Program.wantsStandIn Tryz.prog 3 = false; kernel_rfl
        | _ + 3, ht => simp at ht⟩)
    (by kernel_rfl)
#print axioms law_card
end Go.Proofs.YtogdgamgpkbdaaaGreatDoor
