/-
  OfferMatches returns true: the row, and the tied card. The listed variables read as the row says when the call begins; the card ties them to the program's text.
-/
import Derived.Test.YtcabllflafejoaaGreatDoorMats
import Derived.Test.YtcabllflafejoaaGreatDoorAxZe
import Derived.Test.YtcabllflafejoaaGreatDoorTie
import Derived.Test.YtcabllflafejoaaGreatDoorCards
import Derived.ProofKit
import Derived.OpenShut
import Derived.Lay
import Derived.SevenTiedAt
import Derived.Stop.Joined
namespace Go.Proofs.YtcabllflafejoaaGreatDoor
open Go Go.Proofs.YtcabllflafejoaaGreatDoor.Ax Go.RowKit Go.ChangeShapes Go.WideShapes Go.ChangeAt

theorem own : ownKnob Tryz.prog.godebug = none := by kernel_rfl

set_option maxRecDepth 100000 in
theorem law_lifted (os : Os) (started : os.Started) (H : Type) (enc : TypeId × Value → H) :
    ReturnsInHanded {} Tryz.checked os 5 .any (fun w args => (Rows.offerMatchesSpec.pre enc Tryz.prog Tryz.f5 [] false w args ∧ laidMetH Tryz.prog laid w) ∧ sizedMet enc Tryz.prog Tryz.f5 (OpenSpec.ofChange Rows.offerMatchesSpec) false w args)
      (Rows.offerMatchesSpec.post enc Tryz.prog Tryz.f5 false true false false) := by
  refine returnsInHanded_of_change_and (C := Tryz.checked) (X := fun w _ => laidMetH Tryz.prog laid w) (fun _ _ _ hh h => h.of_heap hh) own started (by kernel_rfl) Tryz.func5
    (ChangeSpec.witness_shaped (enc := enc) (C := Tryz.checked) (os := os) (X := fun w _ => laidMetH Tryz.prog laid w) false (World.laidAll Tryz.prog os laid) #[.int .u8 0, .agg #[.int .i64 0, .string ⟨#[]⟩, .int .i64 0, .string ⟨#[]⟩], .agg #[.int .i64 0, .string ⟨#[]⟩, .int .i64 0, .string ⟨#[]⟩]] 8 (World.laidAll_os _ _ _)
      (World.shaped_of_ZipB (by kernel_rfl) (by kernel_rfl)) (by kernel_rfl) (by kernel_rfl) (by kernel_rfl)
      (by rw [MakeChecks.laidMetH_plain _ _ _ (by kernel_rfl)]; exact laidMet_laidAll _ (by kernel_rfl) (by kernel_rfl))) ?_
  intro W base args ds gs before hok hW _ _ hL _
  have hA : DataW.TrodAll enc Tryz.prog W 0 (fun _ => true) true Tryz.f5.params.toList args.toList ds _ := hW.choose_spec.choose_spec.1
  have hlen := trodAll_len hA
  obtain ⟨l⟩ := args
  obtain ⟨a0, a1, a2, rfl⟩ := list3 (l := l) (by rw [Tryz.params5] at hlen; exact hlen.1)
  obtain ⟨d0, d1, d2, rfl⟩ := list3 (l := ds) (by rw [Tryz.params5] at hlen; exact hlen.2)
  have k0 := hok 0 38 a0 (by rw [Tryz.params5]; rfl) rfl
  obtain ⟨x0, rfl, x0_l, x0_u⟩ := val_int Tryz.underlying38 k0
  have k1 := hok 1 44 a1 (by rw [Tryz.params5]; rfl) rfl
  obtain ⟨l1, rfl, hl1, hc1⟩ := val_struct (ts := [3, 9, 3, 9]) Tryz.underlying44 (by kernel_rfl) (by kernel_rfl) k1
  obtain ⟨y1_0, y1_1, y1_2, y1_3, rfl⟩ := list4 hl1
  obtain ⟨_, e1_0, k1_0⟩ := hc1 0 3 rfl
  cases e1_0
  obtain ⟨x1, rfl, x1_l, x1_u⟩ := cell_int Tryz.underlying3 k1_0
  obtain ⟨_, e1_1, k1_1⟩ := hc1 1 9 rfl
  cases e1_1
  obtain ⟨x2, rfl, x2_h⟩ := cell_str Tryz.underlying9 k1_1
  obtain ⟨_, e1_2, k1_2⟩ := hc1 2 3 rfl
  cases e1_2
  obtain ⟨x3, rfl, x3_l, x3_u⟩ := cell_int Tryz.underlying3 k1_2
  obtain ⟨_, e1_3, k1_3⟩ := hc1 3 9 rfl
  cases e1_3
  obtain ⟨x4, rfl, x4_h⟩ := cell_str Tryz.underlying9 k1_3
  have k2 := hok 2 44 a2 (by rw [Tryz.params5]; rfl) rfl
  obtain ⟨l2, rfl, hl2, hc2⟩ := val_struct (ts := [3, 9, 3, 9]) Tryz.underlying44 (by kernel_rfl) (by kernel_rfl) k2
  obtain ⟨y2_0, y2_1, y2_2, y2_3, rfl⟩ := list4 hl2
  obtain ⟨_, e2_0, k2_0⟩ := hc2 0 3 rfl
  cases e2_0
  obtain ⟨x5, rfl, x5_l, x5_u⟩ := cell_int Tryz.underlying3 k2_0
  obtain ⟨_, e2_1, k2_1⟩ := hc2 1 9 rfl
  cases e2_1
  obtain ⟨x6, rfl, x6_h⟩ := cell_str Tryz.underlying9 k2_1
  obtain ⟨_, e2_2, k2_2⟩ := hc2 2 3 rfl
  cases e2_2
  obtain ⟨x7, rfl, x7_l, x7_u⟩ := cell_int Tryz.underlying3 k2_2
  obtain ⟨_, e2_3, k2_3⟩ := hc2 3 9 rfl
  cases e2_3
  obtain ⟨x8, rfl, x8_h⟩ := cell_str Tryz.underlying9 k2_3
  refine (matches_says x0 x1 x2 x3 x4 x5 x6 x7 x8 x0_l x0_u x2_h x6_h W (G_of hL) env0 _ (.cons (.int _ _) (.cons (.agg _ _ (.cons (.int _ _) (.cons (.str _) (.cons (.int _ _) (.cons (.str _) (.nil)))))) (.cons (.agg _ _ (.cons (.int _ _) (.cons (.str _) (.cons (.int _ _) (.cons (.str _) (.nil)))))) (.nil))))).mono fun e W' ⟨v, he, hv, hb⟩ => ?_
  subst he
  cases hv env0
  exact ⟨_, rfl, law_post (by kernel_rfl) (by kernel_rfl) (by kernel_rfl) (by rw [Tryz.params5]; exact fun t ht => of_decide_eq_true (List.all_eq_true.1 (show ([38, 44, 44] : List Nat).all (fun t => decide (t < Tryz.prog.types.size)) = true by kernel_rfl) t ht)) rfl Tryz.underlying4 rfl rfl hW hb⟩

theorem law_row : Rows.OfferMatchesSaid :=
  OpenClaim.holds_of_wide 5 Tryz.f5 rfl rfl rfl rfl rfl rfl rfl ⟨rfl, rfl, rfl, rfl, rfl⟩ rfl rfl rfl rfl rfl (by kernel_rfl) Tryz.func5 (by kernel_rfl)
    (of_decide_eq_true (by kernel_rfl)) (by unfold Func.isWrapper; first | (rw [if_pos (by decide +kernel)]; kernel_rfl) | (rw [if_neg (by decide +kernel)]; exact ⟨rfl, rfl⟩))
    (fun os started H enc _ => law_lifted os started H enc)

theorem law_card : Rows.OfferMatchesCardSaid :=
  Claim7.holds_tied_plain_at .later [] [.data, .data, .data, .data, .widerDeep, .widerDeep, .data, .data, .data, .pinned] true (true, "1d3d4fa8c3e404e1fdca5d236e28e14cb53de2f0b54ad44ae79d76893cfb7e3e") false
    law_row (fun _ h => by cases h) (by kernel_rfl) (fun _ h => by cases h) offerMatches_row_tie rfl ⟨rfl, rfl⟩ (by kernel_rfl) rfl
    (fun f fn hf hfn => by
      obtain rfl : f = 5 := Option.some.inj ((show Tryz.prog.funcNamed "dialtone/dialtonelaw09.OfferMatches" = some 5 by kernel_rfl).symm.trans hf) |>.symm
      obtain rfl : fn = Tryz.f5 := (Option.some.inj (Tryz.func5.symm.trans hfn)).symm
      exact ⟨by kernel_rfl, fun j t ht => by
        rw [Tryz.params5] at ht
        match j, ht with
        | 0, ht => cases ht; show Program.wantsStandIn Tryz.prog 38 = false; kernel_rfl
        | 1, ht => cases ht; show Program.wantsStandIn Tryz.prog 44 = false; kernel_rfl
        | 2, ht => cases ht; show Program.wantsStandIn Tryz.prog 44 = false; kernel_rfl
        | _ + 3, ht => simp at ht⟩)
    (by kernel_rfl)
#print axioms law_card
end Go.Proofs.YtcabllflafejoaaGreatDoor
