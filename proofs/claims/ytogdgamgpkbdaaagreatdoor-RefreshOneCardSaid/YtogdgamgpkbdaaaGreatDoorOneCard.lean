/-
  RefreshOne returns true: the row, and the tied card. The listed variables read as the row says when the call begins; the card ties them to the program's text.
-/
import Derived.Test.YtogdgamgpkbdaaaGreatDoorOne
import Derived.Test.YtogdgamgpkbdaaaGreatDoorAxZe
import Derived.Test.YtogdgamgpkbdaaaGreatDoorTie
import Derived.Test.YtogdgamgpkbdaaaGreatDoorCards
import Derived.ProofKit
import Derived.OpenShut
import Derived.Lay
import Derived.SevenTiedAt
import Derived.Stop.Joined
namespace Go.Proofs.YtogdgamgpkbdaaaGreatDoor
open Go Go.Proofs.YtogdgamgpkbdaaaGreatDoor.Ax Go.RowKit Go.ChangeShapes Go.WideShapes Go.ChangeAt

theorem own : ownKnob Tryz.prog.godebug = none := by kernel_rfl
def laid : List (String × DataW Unit) := [("unicode/utf8.acceptRanges", Rows.laid_unicode_utf8_acceptRanges), ("dialtone/header.shorts", Rows.laid_dialtone_header_shorts), ("dialtone/header.specials", Rows.laid_dialtone_header_specials), ("unicode/utf8.first", Rows.laid_unicode_utf8_first)]

set_option maxRecDepth 100000 in
theorem law_lifted (os : Os) (started : os.Started) (H : Type) (enc : TypeId × Value → H) :
    ReturnsInHanded {} Tryz.checked os 4 .any (fun w args => (Rows.refreshOneSpec.pre enc Tryz.prog Tryz.f4 [] false w args ∧ laidMetH Tryz.prog laid w) ∧ sizedMet enc Tryz.prog Tryz.f4 (OpenSpec.ofChange Rows.refreshOneSpec) false w args)
      (Rows.refreshOneSpec.post enc Tryz.prog Tryz.f4 false true false false) := by
  refine returnsInHanded_of_change_and (C := Tryz.checked) (X := fun w _ => laidMetH Tryz.prog laid w) (fun _ _ _ hh h => h.of_heap hh) own started (by kernel_rfl) Tryz.func4
    (ChangeSpec.witness_shaped (enc := enc) (C := Tryz.checked) (os := os) (X := fun w _ => laidMetH Tryz.prog laid w) false (World.laidAll Tryz.prog os laid) #[.int .u16 0, .bool false, .int .u16 0] 8 (World.laidAll_os _ _ _)
      (World.shaped_of_ZipB (by kernel_rfl) (by kernel_rfl)) (by kernel_rfl) (by kernel_rfl) (by kernel_rfl)
      (by rw [MakeChecks.laidMetH_plain _ _ _ (by kernel_rfl)]; exact laidMet_laidAll _ (by kernel_rfl) (by kernel_rfl))) ?_
  intro W base args ds gs before hok hW _ _ hL _
  have hA : DataW.TrodAll enc Tryz.prog W 0 (fun _ => true) true Tryz.f4.params.toList args.toList ds _ := hW.choose_spec.choose_spec.1
  have hlen := trodAll_len hA
  obtain ⟨l⟩ := args
  obtain ⟨a0, a1, a2, rfl⟩ := list3 (l := l) (by rw [Tryz.params4] at hlen; exact hlen.1)
  obtain ⟨d0, d1, d2, rfl⟩ := list3 (l := ds) (by rw [Tryz.params4] at hlen; exact hlen.2)
  have k0 := hok 0 40 a0 (by rw [Tryz.params4]; rfl) rfl
  obtain ⟨x0, rfl, x0_l, x0_u⟩ := val_int Tryz.underlying40 k0
  have k1 := hok 1 4 a1 (by rw [Tryz.params4]; rfl) rfl
  obtain ⟨x1, rfl⟩ := val_bool Tryz.underlying4 k1
  have k2 := hok 2 40 a2 (by rw [Tryz.params4]; rfl) rfl
  obtain ⟨x2, rfl, x2_l, x2_u⟩ := val_int Tryz.underlying40 k2
  refine (one_says x0 x1 x2 x0_l x0_u x2_l x2_u W (tab_of hL (by kernel_rfl) (.tail _ (.head _)) (.tail _ (.tail _ (.head _)))) env0 _ (.cons (.int _ _) (.cons (.bool _) (.cons (.int _ _) (.nil))))).mono fun e W' ⟨v, he, hv, hb⟩ => ?_
  subst he
  cases hv env0
  exact ⟨_, rfl, law_post (by kernel_rfl) (by kernel_rfl) (by kernel_rfl) (by rw [Tryz.params4]; exact fun t ht => of_decide_eq_true (List.all_eq_true.1 (show ([40, 4, 40] : List Nat).all (fun t => decide (t < Tryz.prog.types.size)) = true by kernel_rfl) t ht)) rfl Tryz.underlying4 rfl rfl hW hb⟩

theorem law_row : Rows.RefreshOneSaid :=
  OpenClaim.holds_of_wide 4 Tryz.f4 rfl rfl rfl rfl rfl rfl rfl ⟨rfl, rfl, rfl, rfl, rfl⟩ rfl rfl rfl rfl rfl (by kernel_rfl) Tryz.func4 (by kernel_rfl)
    (of_decide_eq_true (by kernel_rfl)) (by unfold Func.isWrapper; first | (rw [if_pos (by decide +kernel)]; kernel_rfl) | (rw [if_neg (by decide +kernel)]; exact ⟨rfl, rfl⟩))
    (fun os started H enc _ => law_lifted os started H enc)

theorem law_card : Rows.RefreshOneCardSaid :=
  Claim7.holds_tied_plain_at .later [] [.data, .data, .data, .pinned] true (true, "cfcef821db5e32325e9fb28026423bf272ada4c5cc709183d45cd02844920ce7") false
    law_row (fun _ h => by cases h) (by kernel_rfl) (fun _ h => by cases h) refreshOne_row_tie rfl ⟨rfl, rfl⟩ (by kernel_rfl) rfl
    (fun f fn hf hfn => by
      obtain rfl : f = 4 := Option.some.inj ((show Tryz.prog.funcNamed "dialtone/dialtonelaw19.RefreshOne" = some 4 by kernel_rfl).symm.trans hf) |>.symm
      obtain rfl : fn = Tryz.f4 := (Option.some.inj (Tryz.func4.symm.trans hfn)).symm
      exact ⟨by kernel_rfl, fun j t ht => by
        rw [Tryz.params4] at ht
        match j, ht with
        | 0, ht => cases ht; show Program.wantsStandIn Tryz.prog 40 = false; kernel_rfl
        | 1, ht => cases ht; show Program.wantsStandIn Tryz.prog 4 = false; kernel_rfl
        | 2, ht => cases ht; show Program.wantsStandIn Tryz.prog 40 = false; kernel_rfl
        | _ + 3, ht => simp at ht⟩)
    (by kernel_rfl)
#print axioms law_card
end Go.Proofs.YtogdgamgpkbdaaaGreatDoor
