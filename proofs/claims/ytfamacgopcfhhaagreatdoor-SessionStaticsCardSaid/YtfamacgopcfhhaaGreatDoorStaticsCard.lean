/-
  SessionStatics returns true: the row, and the tied card. The listed variables read as the row says when the call begins; the card ties them to the program's text.
-/
import Derived.Test.YtfamacgopcfhhaaGreatDoorStatics
import Derived.Test.YtfamacgopcfhhaaGreatDoorAxZe
import Derived.Test.YtfamacgopcfhhaaGreatDoorAxZg
import Derived.Test.YtfamacgopcfhhaaGreatDoorTie
import Derived.Test.YtfamacgopcfhhaaGreatDoorCards
import Derived.ProofKit
import Derived.OpenShut
import Derived.Lay
import Derived.SevenTiedAt
import Derived.Stop.Joined
namespace Go.Proofs.YtfamacgopcfhhaaGreatDoor
open Go Go.Proofs.YtfamacgopcfhhaaGreatDoor.Ax Go.RowKit Go.ChangeShapes Go.WideShapes Go.ChangeAt

theorem own : ownKnob Tryz.prog.godebug = none := by kernel_rfl

set_option maxRecDepth 100000 in
theorem law_lifted (os : Os) (started : os.Started) (H : Type) (enc : TypeId × Value → H) :
    ReturnsInHanded {} Tryz.checked os 3 .any (fun w args => (Rows.sessionStaticsSpec.pre enc Tryz.prog Tryz.f3 [] false w args ∧ laidMetH Tryz.prog laid w) ∧ sizedMet enc Tryz.prog Tryz.f3 (OpenSpec.ofChange Rows.sessionStaticsSpec) false w args)
      (Rows.sessionStaticsSpec.post enc Tryz.prog Tryz.f3 false true false false) := by
  refine Go.Proofs.YtfamacgopcfhhaaGreatDoor.Ax.handed_both (C := Tryz.checked) (X := fun w _ => laidMetH Tryz.prog laid w) (fun _ _ _ hh h => h.of_heap hh) own started (by kernel_rfl) Tryz.func3
    (ChangeSpec.witness_shaped (enc := enc) (C := Tryz.checked) (os := os) (X := fun w _ => laidMetH Tryz.prog laid w) false (World.laidAll Tryz.prog os laid) #[.int .i64 0] 8 (World.laidAll_os _ _ _)
      (World.shaped_of_ZipB (by kernel_rfl) (by kernel_rfl)) (by kernel_rfl) (by kernel_rfl) (by kernel_rfl)
      (by rw [MakeChecks.laidMetH_plain _ _ _ (by kernel_rfl)]; exact laidMet_laidAll _ (by kernel_rfl) (by kernel_rfl))) ?_
  intro W base args ds gs before hok hW _ _ hL hSh _
  have hA : DataW.TrodAll enc Tryz.prog W 0 (fun _ => true) true Tryz.f3.params.toList args.toList ds _ := hW.choose_spec.choose_spec.1
  have hlen := trodAll_len hA
  obtain ⟨l⟩ := args
  obtain ⟨a0, rfl⟩ := list1 (l := l) (by rw [Tryz.params3] at hlen; exact hlen.1)
  obtain ⟨d0, rfl⟩ := list1 (l := ds) (by rw [Tryz.params3] at hlen; exact hlen.2)
  have k0 := hok 0 3 a0 (by rw [Tryz.params3]; rfl) rfl
  obtain ⟨x0, rfl, x0_l, x0_u⟩ := val_int Tryz.underlying3 k0
  refine (statics_says x0 W (G_of hL hSh) env0 _ (.cons (.int _ _) (.nil))).mono fun e W' ⟨v, he, hv, hb⟩ => ?_
  subst he
  cases hv env0
  exact ⟨_, rfl, law_post (by kernel_rfl) (by kernel_rfl) (by kernel_rfl) (by rw [Tryz.params3]; exact fun t ht => of_decide_eq_true (List.all_eq_true.1 (show ([3] : List Nat).all (fun t => decide (t < Tryz.prog.types.size)) = true by kernel_rfl) t ht)) rfl Tryz.underlying4 rfl rfl hW hb⟩

theorem law_row : Rows.SessionStaticsSaid :=
  OpenClaim.holds_of_wide 3 Tryz.f3 rfl rfl rfl rfl rfl rfl rfl ⟨rfl, rfl, rfl, rfl, rfl⟩ rfl rfl rfl rfl rfl (by kernel_rfl) Tryz.func3 (by kernel_rfl)
    (of_decide_eq_true (by kernel_rfl)) (by unfold Func.isWrapper; first | (rw [if_pos (by decide +kernel)]; kernel_rfl) | (rw [if_neg (by decide +kernel)]; exact ⟨rfl, rfl⟩))
    (fun os started H enc _ => law_lifted os started H enc)

theorem law_card : Rows.SessionStaticsCardSaid :=
  Claim7.holds_tied_plain_at .later [] [.data, .data, .data, .data, .widerDeep, .widerDeep, .pinned] true (true, "d7d4efd0f39f12ce90dd00de451c44c9024f156b5bf608b0eddc81f66d66e122") false
    law_row (fun _ h => by cases h) (by kernel_rfl) (fun _ h => by cases h) sessionStatics_row_tie rfl ⟨rfl, rfl⟩ (by kernel_rfl) rfl
    (fun f fn hf hfn => by
      obtain rfl : f = 3 := Option.some.inj ((show Tryz.prog.funcNamed "dialtone/dialtonelaw08.SessionStatics" = some 3 by kernel_rfl).symm.trans hf) |>.symm
      obtain rfl : fn = Tryz.f3 := (Option.some.inj (Tryz.func3.symm.trans hfn)).symm
      exact ⟨by kernel_rfl, fun j t ht => by
        rw [Tryz.params3] at ht
        match j, ht with
        | 0, ht => cases ht; show Program.wantsStandIn Tryz.prog 3 = false; kernel_rfl
        | _ + 1, ht => simp at ht⟩)
    (by kernel_rfl)
#print axioms law_card
end Go.Proofs.YtfamacgopcfhhaaGreatDoor
