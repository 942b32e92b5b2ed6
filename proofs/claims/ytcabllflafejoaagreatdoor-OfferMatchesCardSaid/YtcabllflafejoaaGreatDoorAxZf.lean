/-
  AN EXECUTOR OVER AN ABSTRACT MEMORY, PART Zf: calls answered under a guard: (guard, answer); the run takes the guard for a test.
-/
import Derived.Test.YtcabllflafejoaaGreatDoorAxZd
namespace Go.Proofs.YtcabllflafejoaaGreatDoor.Ax
open Go.RowKit

abbrev GAns := Nat → List AV → Option (Bool × AV)

noncomputable section
/-- Calls answered under a guard; the others by X. -/
def yX (Y : GAns) (X : CallF) : CallF := fun f args st => match Y f args with
  | some (b, a) => bif b then some (a, st) else none
  | none => X f args st

def callKY (C : Cfg) (X : CallF) (Y : GAns) (ih : CallK) : CallK := fun f args st k => optF (callKK C X ih f args st k) (prF fun b a => ifF b (k a st) false) (Y f args)

theorem callKY_true {C : Cfg} {X : CallF} {Y : GAns} {ihK : CallK} {ih : CallF} (hK : SndK ihK ih) : SndK (callKY C X Y ihK) (callFF C (yX Y X) ih) := by
  intro f args st k h
  unfold callKY at h
  cases hy : Y f args with
  | some p =>
    obtain ⟨b, a⟩ := p
    rw [hy] at h
    obtain ⟨h1, h2⟩ := ifF_true (show ifF b (k a st) false = true from h)
    refine ⟨a, st, ?_, h2⟩
    unfold callFF
    have : yX Y X f args st = some (a, st) := by unfold yX; rw [hy, h1]; rfl
    rw [this]
    rfl
  | none =>
    rw [hy] at h
    obtain ⟨r, st', h1, h2⟩ := callKK_true (C := C) (X := X) hK f args st k h
    refine ⟨r, st', ?_, h2⟩
    have : yX Y X f args st = X f args st := by unfold yX; rw [hy]
    unfold callFF at h1 ⊢
    rw [this]
    exact h1

def runKY (C : Cfg) (X : CallF) (Y : GAns) : Nat → CallK := @Nat.rec (fun _ => CallK) (fun _ _ _ _ => false) (fun _ ih => callKY C X Y ih)
theorem runKY_true (C : Cfg) (X : CallF) (Y : GAns) : ∀ n, SndK (runKY C X Y n) (runF C (yX Y X) n)
  | 0 => fun _ _ _ _ h => by cases h
  | n + 1 => callKY_true (runKY_true C X Y n)

theorem yX_grw {Y : GAns} {X : CallF} (h : GrwF X) : GrwF (yX Y X) := by
  intro f args st r st' hr
  unfold yX at hr
  split at hr
  · rename_i b a _
    cases b with
    | false => cases hr
    | true => cases hr; exact .refl _
  · exact h _ _ _ _ _ hr

theorem yX_snd {C : Cfg} {G : World → Prop} {T : Tab} (hGo : GOk G T) {Y : GAns} {X : CallF} (h : ∀ W, G W → SndF C W X) (hf : ∀ f args a, Y f args = some (true, a) → Says C G f args a) : ∀ W, G W → SndF C W (yX Y X) := by
  intro w0 hT f args st r st' hr E w vs hS hG hv hfr
  unfold yX at hr
  split at hr
  · rename_i b a hy
    cases b with
    | false => cases hr
    | true =>
      cases hr
      refine (hf f args _ hy w (hGo.below w0 w hT hS.below) E vs hv).mono ?_
      rintro e w' ⟨v, rfl, hva, hbw⟩
      exact ⟨E, v, rfl, Post.still hS hbw, hva E⟩
  · exact h w0 hT _ _ _ _ _ hr E w vs hS hG hv hfr

/-- The run with open numbers and guarded answers. -/
theorem says_ofY {C : Cfg} (hC : C.Ok) {G : World → Prop} {T : Tab} (hG : GOk G T) {X : CallF} {Y : GAns} (hX : ∀ W, G W → SndF C W X) (hY : ∀ f args a, Y f args = some (true, a) → Says C G f args a) (hg : GrwF X) {n : Nat} (hn : ∀ g l, (g, l) ∈ T → g < n) (hglob : C.glob ≤ n) {k f : Nat} {args : List AV} {r : AV} (kk : AV → Bool) (hkk : ∀ a, kk a = true → a = r) (hargs : scalars args = true) (hr : scalar r = true)
    (hrun : ∀ el fr, runKY C X Y k f args (startT el fr T n) (fun a _ => kk a) = true) : Says C G f args r := by
  intro W hT E vs hv
  refine (closed_call hC (yX_snd hG hX hY W hT) (yX_grw hg) (hG.tab W hT) hn hglob (k := k) (f := f) (args := args) (vs := vs) (r := r) (fun el fr => ?_) (fun E' => VsRel.indep hargs hv)).mono ?_
  · obtain ⟨a, st', h1, h2⟩ := runKY_true C X Y k f args _ _ (hrun el fr)
    have := hkk a h2
    subst this
    exact ⟨st', h1⟩
  · rintro e W' ⟨E', v, rfl, h2, h3⟩
    exact ⟨v, rfl, fun _ => VRel.indep hr h2, h3⟩
end
end Go.Proofs.YtcabllflafejoaaGreatDoor.Ax
