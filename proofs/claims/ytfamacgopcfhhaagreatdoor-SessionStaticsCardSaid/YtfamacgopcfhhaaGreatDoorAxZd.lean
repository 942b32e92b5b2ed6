/-
  AN EXECUTOR OVER AN ABSTRACT MEMORY, PART Zd: calls whose arguments and answers lead to no block: what the executor says of them for open numbers; such calls answered from a table of functions.
-/
import Derived.Test.YtfamacgopcfhhaaGreatDoorAxZc
namespace Go.Proofs.YtfamacgopcfhhaaGreatDoor.Ax
open Go.RowKit

mutual
/-- What leads to no block stands for the same whatever blocks stand for. -/
theorem VRel.indepA {E E' : Env} : ∀ {a : AV} {v : Value}, VRel E a v → scalar a = true → VRel E' a v
  | _, _, .bool b, _ => .bool b
  | _, _, .int k n, _ => .int k n
  | _, _, .str s, _ => .str s
  | _, _, .nilp, _ => .nilp
  | _, _, .ptr _ _ _, h => by simp [scalar] at h
  | _, _, .nils, _ => .nils
  | _, _, .sl _ _ _ _ _, h => by simp [scalar] at h
  | _, _, .slu _ _ _ _ _ _ _ _ _ _ _ _, h => by simp [scalar] at h
  | _, _, .nilm, _ => .nilm
  | _, _, .mp _ _, h => by simp [scalar] at h
  | _, _, .fn f first captured vs us h1 h2, h => by
    simp only [scalar, Bool.and_eq_true] at h
    exact .fn f first captured vs us (VsRel.indepA h1 h.1) (VsRel.indepA h2 h.2)
  | _, _, .nilf, _ => .nilf
  | _, _, .iface t a v hv, h => .iface t a v (VRel.indepA hv (by simpa only [scalar] using h))
  | _, _, .nili, _ => .nili
  | _, _, .agg cs vs hs, h => .agg cs vs (VsRel.indepA hs (by simpa only [scalar] using h))
  | _, _, .tup cs vs hs, h => .tup cs vs (VsRel.indepA hs (by simpa only [scalar] using h))
theorem VsRel.indepA {E E' : Env} : ∀ {as : List AV} {vs : List Value}, VsRel E as vs → scalars as = true → VsRel E' as vs
  | _, _, .nil, _ => .nil
  | _, _, .cons hv hs, h => by
    simp only [scalars, Bool.and_eq_true] at h
    exact .cons (VRel.indepA hv h.1) (VsRel.indepA hs h.2)
end
theorem VRel.indep {E E' : Env} {a : AV} {v : Value} (h : scalar a = true) (hv : VRel E a v) : VRel E' a v := hv.indepA h
theorem VsRel.indep {E E' : Env} {as : List AV} {vs : List Value} (h : scalars as = true) (hv : VsRel E as vs) : VsRel E' as vs := hv.indepA h

/-- What is known of the world: the listed variables, and perhaps more; new blocks leave it as it is. -/
structure GOk (G : World → Prop) (T : Tab) : Prop where
  tab : ∀ W, G W → TabOk W T
  below : ∀ W w, G W → Below W.heap.size W w → G w

/-- The call f with such arguments answers such a value, and what was there stays as it was. -/
def Says (C : Cfg) (G : World → Prop) (f : Nat) (args : List AV) (r : AV) : Prop :=
  ∀ W, G W → ∀ E vs, VsRel E args vs.toList → Calls C.P f vs W fun e W' => ∃ v, e = .returned v ∧ (∀ E, VRel E r v) ∧ Below W.heap.size W W'

noncomputable section
/-- The run with open numbers: 'kk' says what it takes for an answer. -/
theorem says_of {C : Cfg} (hC : C.Ok) {G : World → Prop} {T : Tab} (hG : GOk G T) {X : CallF} (hX : ∀ W, G W → SndF C W X) (hg : GrwF X) {n : Nat} (hn : ∀ g l, (g, l) ∈ T → g < n) (hglob : C.glob ≤ n) {k f : Nat} {args : List AV} {r : AV} (kk : AV → Bool) (hkk : ∀ a, kk a = true → a = r) (hargs : scalars args = true) (hr : scalar r = true)
    (hrun : ∀ el fr, runK C X k f args (startT el fr T n) (fun a _ => kk a) = true) (hy : f ≠ yno := by decide) : Says C G f args r := by
  intro W hT E vs hv
  refine (closed_call hC (hX W hT) hg (hG.tab W hT) hn hglob (k := k) (f := f) (args := args) (vs := vs) (r := r) (fun el fr => ?_) (fun E' => VsRel.indep hargs hv) hy).mono ?_
  · obtain ⟨a, st', h1, h2⟩ := runK_true C X k f args _ _ (hrun el fr)
    have := hkk a h2
    subst this
    exact ⟨st', h1⟩
  · rintro e W' ⟨E', v, rfl, h2, h3⟩
    exact ⟨v, rfl, fun _ => VRel.indep hr h2, h3⟩

/-- Calls answered from a table of functions. -/
def scalX (f0 : Nat) (g : List AV → Option AV) (X : CallF) : CallF := fun f args st => ifF (Nat.beq f f0) (optF none (fun a => some (a, st)) (g args)) (X f args st)

theorem scalX_grw {f0 : Nat} {g : List AV → Option AV} {X : CallF} (h : GrwF X) : GrwF (scalX f0 g X) := by
  intro f args st r st' hr
  unfold scalX at hr
  rw [ifF_eq] at hr
  cases hf : Nat.beq f f0 with
  | false => rw [hf] at hr; exact h _ _ _ _ _ hr
  | true =>
    rw [hf] at hr
    obtain ⟨a, h1, h2⟩ := optN (show optF none (fun a => some (a, st)) (g args) = some (r, st') from hr)
    cases h2
    exact .refl _

theorem scalX_snd {C : Cfg} {G : World → Prop} {T : Tab} (hGo : GOk G T) {f0 : Nat} {g : List AV → Option AV} {X : CallF} (h : ∀ W, G W → SndF C W X) (hf : ∀ args a, g args = some a → Says C G f0 args a) : ∀ W, G W → SndF C W (scalX f0 g X) := by
  intro w0 hT f args st r st' hr hy E w vs hS hG hv hfr
  unfold scalX at hr
  rw [ifF_eq] at hr
  cases hb : Nat.beq f f0 with
  | false => rw [hb] at hr; exact h w0 hT _ _ _ _ _ hr hy E w vs hS hG hv hfr
  | true =>
    rw [hb] at hr
    have := Nat.eq_of_beq_eq_true hb
    subst this
    obtain ⟨a, h1, h2⟩ := optN (show optF none (fun a => some (a, st)) (g args) = some (r, st') from hr)
    cases h2
    refine (hf args _ h1 w (hGo.below w0 w hT hS.below) E vs hv).mono ?_
    rintro e w' ⟨v, rfl, hva, hbw⟩
    exact ⟨E, v, rfl, Post.still hS hbw, hva E⟩

/-- A call without arguments that comes to true. -/
theorem says_true {C : Cfg} {G : World → Prop} {f0 : Nat} {b : Bool} (hf : ∀ W, G W → Calls C.P f0 #[] W fun e W' => e = .returned (.bool b) ∧ Below W.heap.size W W') : Says C G f0 [] (.bool b) := by
  intro W hT E vs hv
  have hvs : vs = #[] := by
    obtain ⟨l⟩ := vs
    cases hv
    rfl
  subst hvs
  refine (hf W hT).mono ?_
  rintro e w' ⟨rfl, hbw⟩
  exact ⟨_, rfl, fun _ => .bool b, hbw⟩

def isB (b : Bool) (a : AV) : Bool := boolD false (fun c => @Bool.rec (fun _ => Bool) (notF c) c b) a
theorem isB_true {b : Bool} {a : AV} (h : isB b a = true) : a = .bool b := by
  cases a with
  | bool c => cases b <;> cases c <;> first | rfl | cases h
  | _ => cases h
end

/-- The answer is this one. -/
noncomputable def isV (r a : AV) : Bool := @decide (a = r) (Classical.propDecidable _)
theorem isV_true {r a : AV} (h : isV r a = true) : a = r := @of_decide_eq_true _ (Classical.propDecidable _) h
theorem isV_of {r a : AV} (h : a = r) : isV r a = true := @decide_eq_true _ (Classical.propDecidable _) h
end Go.Proofs.YtfamacgopcfhhaaGreatDoor.Ax
