/-
  AN EXECUTOR OVER AN ABSTRACT MEMORY, PART R: code, calls; and that what it computes is what the call does.
-/
import Derived.Test.YtcabllflafejoaaGreatDoorAxW
import Derived.LoopN
import Derived.Scope
namespace Go.Proofs.YtcabllflafejoaaGreatDoor.Ax
open Go.RowKit

def loopA (body : Fr → St → Option (Ex × Fr × St)) : Nat → Fr → St → Option (Ex × Fr × St)
  | 0, _, _ => none
  | n + 1, fr, st => match body fr st with
    | some (.normal, fr', st') => loopA body n fr' st'
    | r => r

/-- How many rounds a loop may have here. -/
def maxRounds : Nat := 1000000

def codeA (C : Cfg) (ihC : CodeF) (ihF : CallF) : CodeF := fun nt c fr st =>
  match c with
  | .skip => some (.normal, fr, st)
  | .label _ => some (.normal, fr, st)
  | .region _ ops false => (match opsA C ihF nt ops.toList ops.toList fr st with
    | none => none
    | some (fr', st') => some (.normal, fr', st'))
  | .region _ ops true => (match drawA C ihF nt ops fr st with
    | none => none
    | some (fr', st') => some (.normal, fr', st'))
  | .seq a b => (match ihC nt a fr st with
    | some (.normal, fr', st') => ihC nt b fr' st'
    | r => r)
  | .cond x a b => (match evalO C fr x with
    | some (.bool true) => ihC nt a fr st
    | some (.bool false) => ihC nt b fr st
    | _ => none)
  | .block id b => (match ihC nt b fr st with
    | some (.exit k, fr', st') => bif Nat.beq k id then some (.normal, fr', st') else some (.exit k, fr', st')
    | r => r)
  | .loop b => loopA (ihC nt b) maxRounds fr st
  | .scope b => ihC nt b fr st
  | .exit id => some (.exit id, fr, st)
  | .ret => some (.ret, fr, st)
  | _ => none

def resA (C : Cfg) (fr : Fr) (st : St) : List ResultVar → Option (List AV)
  | [] => some []
  | .tmp t :: rs => (match fr.get t with
    | none => none
    | some a => match resA C fr st rs with
      | none => none
      | some as => some (a :: as))
  | .cell p t :: rs => (match fr.get p with
    | some (.ptr i off) => (match ldVar C st t i off with
      | none => none
      | some a => match resA C fr st rs with
        | none => none
        | some as => some (a :: as))
    | _ => none)

mutual
/-- The value leads to no block. -/
def scalar : AV → Bool
  | .ptr _ _ | .sl _ _ _ _ | .slu _ _ _ _ _ | .mp _ => false
  | .fn _ a b => scalars a && scalars b
  | .iface _ v => scalar v
  | .agg l | .tup l => scalars l
  | _ => true
def scalars : List AV → Bool
  | [] => true
  | a :: l => scalar a && scalars l
end

def oneA : List AV → AV
  | [a] => a
  | l => .tup l

def callFA (C : Cfg) (X : CallF) (ihC : CodeF) : CallF := fun f args st =>
  match C.fn f with
  | none => X f args st
  | some (x, c) =>
    bif Nat.ble args.length x.ntmps then
      match ihC x.ntmps c (Fr.ofList args 0 .empty) { st with low := st.next } with
      | some (ex, fr', st') => (match ex with
        | .exit _ => none
        | _ => match resA C fr' st' x.results.toList with
          | none => none
          | some l =>
            bif scalars l && Nat.ble st.next st'.low then some (oneA l, { st with next := st'.next })
            else some (oneA l, { st' with low := bif Nat.ble st.low st'.low then st.low else st'.low }))
      | none => none
    else none

def run (C : Cfg) (X : CallF) : Nat → CodeF × CallF
  | 0 => (fun _ _ _ _ => none, X)
  | n + 1 => (codeA C (run C X n).1 (run C X n).2, callFA C X (run C X n).1)

/-! What it computes is so. -/
def SndC (C : Cfg) (w0 : World) (F : CodeF) : Prop := ∀ nt c fr st ex fr' st', F nt c fr st = some (ex, fr', st') → ∀ E w a, Sim w0 E st w → GEnv C E → FRel E fr a.tmps → a.tmps.size = nt → Fresh E st st' →
  c.wp C.P (fun e a' w' => e = ex.of ∧ Done C w0 E st w nt a.defers fr' st' a' w') a w

def GrwC (F : CodeF) : Prop := ∀ nt c fr st ex fr' st', F nt c fr st = some (ex, fr', st') → Grow st st'

theorem headA_grow {C : Cfg} {ih : CallF} (hg : GrwF ih) {nt : Nat} {all : List Oper} {lt : Nat} {Rs : List (Nat × Nat)} : ∀ (os : List Oper) (ms : List Nat) (i : Nat) (rs : List (Nat × Nat × Nat)) (fr : Fr) (st : St) (fr1 : Fr) (st1 : St), headA C ih nt all lt Rs os ms i rs fr st = some (fr1, st1) → Grow st st1 := by
  intro os
  induction os with
  | nil => intro ms i rs fr st fr1 st1 h; simp only [headA, Option.some.injEq, Prod.mk.injEq] at h; rw [h.2]; exact .refl _
  | cons o os ihos =>
    intro ms i rs fr st fr1 st1 h
    cases ms with
    | nil => simp [headA] at h
    | cons m ms =>
      simp only [headA] at h
      cases hs : stepA C ih all (restr fr (looksA all o)) { st with hid := exH lt i Rs (hidA m rs st.hid), low := st.next } o with
      | none => simp only [hs, reduceCtorEq] at h
      | some q =>
        obtain ⟨x, stx⟩ := q
        simp only [hs] at h
        have g := stepA_grow hg hs
        cases hb : Nat.ble st.next stx.low with
        | false => simp only [hb, cond_false, reduceCtorEq] at h
        | true =>
          simp only [hb, cond_true] at h
          cases hp : putA nt fr o.dst x with
          | none => simp only [hp, reduceCtorEq] at h
          | some fr' =>
            simp only [hp] at h
            have hle := Nat.le_of_ble_eq_true hb
            refine Grow.trans ?_ (ihos _ _ _ _ _ _ _ h)
            exact ⟨g.next, Nat.le_refl _, fun k hk _ => g.keep k hk (by omega), rfl, fun hb => g.bnd hb⟩

theorem drawA_grow {C : Cfg} {ih : CallF} (hg : GrwF ih) {nt : Nat} {ops : Array Oper} {fr fr' : Fr} {st st' : St} (h : drawA C ih nt ops fr st = some (fr', st')) : Grow st st' := by
  unfold drawA at h
  generalize (planA ops.toList).1 = N at h
  generalize (planA ops.toList).2.1 = fl at h
  generalize (planA ops.toList).2.2 = lt at h
  simp only at h
  cases hRs : lateBs fr lt ops.toList with
  | none => simp only [hRs, reduceCtorEq] at h
  | some Rs =>
  simp only [hRs] at h
  have hone := lateBs_one hRs
  cases hb : (shapeOkA ops N fl && (Nat.ble N ops.size && (hidOkA st.next st.hid && hidOkA st.next Rs))) with
  | false => simp only [hb, cond_false, reduceCtorEq] at h
  | true =>
    simp only [hb, cond_true] at h
    cases hh : headA C ih nt ops.toList lt Rs (ops.toList.take N) (masks ops.toList []) 0 [] fr st with
    | none => simp only [hh, reduceCtorEq] at h
    | some q =>
      obtain ⟨fr1, st1⟩ := q
      simp only [hh] at h
      cases hto : opsA C ih nt ops.toList (ops.toList.drop N) fr1 { st1 with hid := Rs ++ st1.hid } with
      | none => simp only [hto, reduceCtorEq] at h
      | some q2 =>
      obtain ⟨fr2, st2⟩ := q2
      simp only [hto] at h
      cases hbk : backR st1.heap Rs st2.heap with
      | none => simp only [hbk, reduceCtorEq] at h
      | some hp =>
      simp only [hbk, Option.some.injEq, Prod.mk.injEq] at h
      obtain ⟨rfl, rfl⟩ := h
      have g := opsA_grow hg _ _ _ _ _ hto
      have hbk := backR_spec hbk
      have hyes : ∀ k, hidden Rs k = true → hp.get k = st1.heap.get k := fun k hk => (hbk k).1 ((hidden_one hone k).1 hk)
      have hno : ∀ k, hidden Rs k = false → hp.get k = st2.heap.get k := fun k hk => (hbk k).2 fun hn => by rw [(hidden_one hone k).2 hn] at hk; cases hk
      refine (headA_grow hg _ _ _ _ _ _ _ _ hh).trans ⟨g.next, g.low, fun k hk hl => ?_, rfl, fun hb k b hk => ?_⟩
      · show hp.get k = st1.heap.get k
        cases hr : hidden Rs k with
        | true => exact hyes k hr
        | false => rw [hno k hr]; exact g.keep k hk hl
      · have hk : hp.get k = some b := hk
        cases hr : hidden Rs k with
        | true => exact Nat.lt_of_lt_of_le (hb k b (by rw [← hyes k hr]; exact hk)) g.next
        | false => exact g.bnd hb k b (by rw [← hno k hr]; exact hk)

theorem loopA_grow {F : CodeF} (hg : GrwC F) {nt : Nat} {b : Code} : ∀ (n : Nat) (fr : Fr) (st : St) (ex : Ex) (fr' : Fr) (st' : St), loopA (F nt b) n fr st = some (ex, fr', st') → Grow st st' := by
  intro n
  induction n with
  | zero => intro fr st ex fr' st' h; simp [loopA] at h
  | succ n ih =>
    intro fr st ex fr' st' h
    simp only [loopA] at h
    cases hb : F nt b fr st with
    | none => simp only [hb, reduceCtorEq] at h
    | some q =>
      obtain ⟨e1, fr1, st1⟩ := q
      have g := hg _ _ _ _ _ _ _ hb
      simp only [hb] at h
      cases e1 with
      | normal => exact g.trans (ih _ _ _ _ _ h)
      | exit id => simp only [Option.some.injEq, Prod.mk.injEq] at h; obtain ⟨rfl, rfl, rfl⟩ := h; exact g
      | ret => simp only [Option.some.injEq, Prod.mk.injEq] at h; obtain ⟨rfl, rfl, rfl⟩ := h; exact g

theorem codeA_grow {C : Cfg} {ihC : CodeF} {ihF : CallF} (h1 : GrwC ihC) (h2 : GrwF ihF) : GrwC (codeA C ihC ihF) := by
  intro nt c fr st ex fr' st' h
  unfold codeA at h
  split at h
  · cases h; exact .refl _
  · cases h; exact .refl _
  · rename_i id ops
    cases ho : opsA C ihF nt ops.toList ops.toList fr st with
    | none => simp only [ho, reduceCtorEq] at h
    | some q =>
      obtain ⟨fr1, st1⟩ := q
      simp only [ho, Option.some.injEq, Prod.mk.injEq] at h
      obtain ⟨rfl, rfl, rfl⟩ := h
      exact opsA_grow h2 _ _ _ _ _ ho
  · rename_i id ops
    cases ho : drawA C ihF nt ops fr st with
    | none => simp only [ho, reduceCtorEq] at h
    | some q =>
      obtain ⟨fr1, st1⟩ := q
      simp only [ho, Option.some.injEq, Prod.mk.injEq] at h
      obtain ⟨rfl, rfl, rfl⟩ := h
      exact drawA_grow h2 ho
  · rename_i x y
    cases hx : ihC nt x fr st with
    | none => simp only [hx, reduceCtorEq] at h
    | some q =>
      obtain ⟨e1, fr1, st1⟩ := q
      have g := h1 _ _ _ _ _ _ _ hx
      simp only [hx] at h
      cases e1 with
      | normal => exact g.trans (h1 _ _ _ _ _ _ _ h)
      | exit id => simp only [Option.some.injEq, Prod.mk.injEq] at h; obtain ⟨rfl, rfl, rfl⟩ := h; exact g
      | ret => simp only [Option.some.injEq, Prod.mk.injEq] at h; obtain ⟨rfl, rfl, rfl⟩ := h; exact g
  · rename_i x y z
    split at h
    · exact h1 _ _ _ _ _ _ _ h
    · exact h1 _ _ _ _ _ _ _ h
    · cases h
  · rename_i id b
    cases hb : ihC nt b fr st with
    | none => simp only [hb, reduceCtorEq] at h
    | some q =>
      obtain ⟨e1, fr1, st1⟩ := q
      have g := h1 _ _ _ _ _ _ _ hb
      simp only [hb] at h
      cases e1 with
      | normal => simp only [Option.some.injEq, Prod.mk.injEq] at h; obtain ⟨rfl, rfl, rfl⟩ := h; exact g
      | exit k =>
        simp only [Tr.cbeq] at h
        by_cases hk : k = id
        · rw [if_pos hk] at h; simp only [Option.some.injEq, Prod.mk.injEq] at h; obtain ⟨rfl, rfl, rfl⟩ := h; exact g
        · rw [if_neg hk] at h; simp only [Option.some.injEq, Prod.mk.injEq] at h; obtain ⟨rfl, rfl, rfl⟩ := h; exact g
      | ret => simp only [Option.some.injEq, Prod.mk.injEq] at h; obtain ⟨rfl, rfl, rfl⟩ := h; exact g
  · exact loopA_grow h1 _ _ _ _ _ _ h
  · exact h1 _ _ _ _ _ _ _ h
  · cases h; exact .refl _
  · cases h; exact .refl _
  · cases h

theorem callFA_grow {C : Cfg} {X : CallF} {ihC : CodeF} (hX : GrwF X) (h1 : GrwC ihC) : GrwF (callFA C X ihC) := by
  intro f args st r st' h
  unfold callFA at h
  cases hfn : C.fn f with
  | none => simp only [hfn] at h; exact hX _ _ _ _ _ h
  | some p =>
    obtain ⟨x, c⟩ := p
    simp only [hfn] at h
    cases hb : Nat.ble args.length x.ntmps with
    | false => simp only [hb, cond_false, reduceCtorEq] at h
    | true =>
      simp only [hb, cond_true] at h
      cases hc : ihC x.ntmps c (Fr.ofList args 0 .empty) { st with low := st.next } with
      | none => simp only [hc, reduceCtorEq] at h
      | some q =>
        obtain ⟨ex, fr1, st1⟩ := q
        have g := h1 _ _ _ _ _ _ _ hc
        simp only [hc] at h
        have hres : ∀ l, (bif scalars l && Nat.ble st.next st1.low then some (oneA l, { st with next := st1.next }) else some (oneA l, { st1 with low := bif Nat.ble st.low st1.low then st.low else st1.low })) = some (r, st') → Grow st st' := by
          intro l hh
          have gn := g.next
          simp only at gn
          cases hk : (scalars l && Nat.ble st.next st1.low) with
          | true =>
            simp only [hk, cond_true, Option.some.injEq, Prod.mk.injEq] at hh
            obtain ⟨rfl, rfl⟩ := hh
            exact ⟨gn, Nat.le_refl _, fun _ _ _ => rfl, rfl, fun hb i b hi => Nat.lt_of_lt_of_le (hb i b hi) gn⟩
          | false =>
            simp only [hk, cond_false, Option.some.injEq, Prod.mk.injEq] at hh
            obtain ⟨rfl, rfl⟩ := hh
            have hlo : (bif Nat.ble st.low st1.low then st.low else st1.low) ≤ st.low ∧ (bif Nat.ble st.low st1.low then st.low else st1.low) ≤ st1.low := by
              cases hq : Nat.ble st.low st1.low with
              | true => have := Nat.le_of_ble_eq_true hq; simp; omega
              | false =>
                have : ¬ st.low ≤ st1.low := fun h' => by rw [Nat.ble_eq_true_of_le h'] at hq; cases hq
                simp; omega
            exact ⟨gn, hlo.1, fun i h1 h2 => g.keep i h1 (by simp only at h2; omega), g.hid, fun hb => g.bnd hb⟩
        cases ex with
        | exit k => simp only [reduceCtorEq] at h
        | normal =>
          simp only at h
          cases hl : resA C fr1 st1 x.results.toList with
          | none => simp only [hl, reduceCtorEq] at h
          | some l => simp only [hl] at h; exact hres l h
        | ret =>
          simp only at h
          cases hl : resA C fr1 st1 x.results.toList with
          | none => simp only [hl, reduceCtorEq] at h
          | some l => simp only [hl] at h; exact hres l h

theorem loopA_sound {C : Cfg} {w0 : World} {F : CodeF} (hF : SndC C w0 F) (hg : GrwC F) (nt : Nat) (b : Code) : ∀ (n : Nat) (fr : Fr) (st : St) (ex : Ex) (fr' : Fr) (st' : St), loopA (F nt b) n fr st = some (ex, fr', st') →
    ∀ E w a, Sim w0 E st w → GEnv C E → FRel E fr a.tmps → a.tmps.size = nt → Fresh E st st' → Code.rounds C.P b (fun e a' w' => e = ex.of ∧ Done C w0 E st w nt a.defers fr' st' a' w') n a w := by
  intro n
  induction n with
  | zero => intro fr st ex fr' st' h; simp [loopA] at h
  | succ n ih =>
    intro fr st ex fr' st' h E w a hS hG hf hn hfr
    simp only [loopA] at h
    rw [rounds_succ]
    cases hb : F nt b fr st with
    | none => simp only [hb, reduceCtorEq] at h
    | some q =>
      obtain ⟨e1, fr1, st1⟩ := q
      simp only [hb] at h
      have hfr1 : Fresh E st st1 := by
        cases e1 with
        | normal => exact hfr.left (loopA_grow hg n fr1 st1 ex fr' st' h).next
        | exit id => simp only [Option.some.injEq, Prod.mk.injEq] at h; obtain ⟨rfl, rfl, rfl⟩ := h; exact hfr
        | ret => simp only [Option.some.injEq, Prod.mk.injEq] at h; obtain ⟨rfl, rfl, rfl⟩ := h; exact hfr
      have hbody := hF nt b fr st e1 fr1 st1 hb E w a hS hG hf hn hfr1
      refine wp_mono hbody ?_
      rintro e a1 w1 ⟨rfl, E1, h1, h2, h3, h4, h5⟩
      cases e1 with
      | normal =>
        simp only at h
        show Code.rounds C.P b _ n a1 w1
        have := ih fr1 st1 ex fr' st' h E1 w1 a1 h1.sim h2 h3 h4 (hfr.right h1)
        rw [h5] at this
        have mono : ∀ (m : Nat) (Q Q' : Exit → Act → World → Prop), (∀ e a w, Q e a w → Q' e a w) → ∀ a w, Code.rounds C.P b Q m a w → Code.rounds C.P b Q' m a w := by
          intro m Q Q' hq
          induction m with
          | zero => intro a w h; exact h
          | succ m ihm =>
            intro a w h
            rw [rounds_succ] at h ⊢
            refine wp_mono h ?_
            intro e a w h'
            cases e with
            | normal => exact ihm a w h'
            | _ => exact hq _ _ _ h'
        refine mono n _ _ ?_ a1 w1 this
        rintro e a' w' ⟨he, hd⟩
        exact ⟨he, hd.pre h1⟩
      | exit id =>
        simp only [Option.some.injEq, Prod.mk.injEq] at h
        obtain ⟨rfl, rfl, rfl⟩ := h
        exact ⟨rfl, E1, h1, h2, h3, h4, h5⟩
      | ret =>
        simp only [Option.some.injEq, Prod.mk.injEq] at h
        obtain ⟨rfl, rfl, rfl⟩ := h
        exact ⟨rfl, E1, h1, h2, h3, h4, h5⟩

theorem codeA_sound {C : Cfg} (hC : C.Ok) {w0 : World} {ihC : CodeF} {ihF : CallF} (h1 : SndC C w0 ihC) (h2 : SndF C w0 ihF) (g1 : GrwC ihC) (g2 : GrwF ihF) : SndC C w0 (codeA C ihC ihF) := by
  intro nt c fr st ex fr' st' h E w a hS hG hf hn hfr
  unfold codeA at h
  split at h
  · cases h; exact wp_skip ⟨rfl, E, .refl hS, hG, hf, hn, rfl⟩
  · cases h; exact wp_label ⟨rfl, E, .refl hS, hG, hf, hn, rfl⟩
  · rename_i id ops
    cases ho : opsA C ihF nt ops.toList ops.toList fr st with
    | none => simp only [ho, reduceCtorEq] at h
    | some q =>
      obtain ⟨fr1, st1⟩ := q
      simp only [ho, Option.some.injEq, Prod.mk.injEq] at h
      obtain ⟨rfl, rfl, rfl⟩ := h
      exact wp_region_list (opsA_sound hC h2 g2 nt ops _ ops.toList fr st fr1 st1 ho E w a hS hG hf hn hfr fun a' w' hd => ⟨rfl, hd⟩)
  · rename_i id ops
    cases ho : drawA C ihF nt ops fr st with
    | none => simp only [ho, reduceCtorEq] at h
    | some q =>
      obtain ⟨fr1, st1⟩ := q
      simp only [ho, Option.some.injEq, Prod.mk.injEq] at h
      obtain ⟨rfl, rfl, rfl⟩ := h
      exact drawA_sound hC h2 g2 nt id ops _ ho hS hG hf hn hfr (fun a' w' hd => ⟨rfl, hd⟩) (fun c a w h => by have h1 := h.1; cases h1)
  · rename_i x y
    refine wp_seq ?_
    cases hx : ihC nt x fr st with
    | none => simp only [hx, reduceCtorEq] at h
    | some q =>
      obtain ⟨e1, fr1, st1⟩ := q
      simp only [hx] at h
      have hfr1 : Fresh E st st1 := by
        cases e1 with
        | normal => exact hfr.left (g1 _ _ _ _ _ _ _ h).next
        | exit id => simp only [Option.some.injEq, Prod.mk.injEq] at h; obtain ⟨rfl, rfl, rfl⟩ := h; exact hfr
        | ret => simp only [Option.some.injEq, Prod.mk.injEq] at h; obtain ⟨rfl, rfl, rfl⟩ := h; exact hfr
      have hbody := h1 nt x fr st e1 fr1 st1 hx E w a hS hG hf hn hfr1
      refine wp_mono hbody ?_
      rintro e a1 w1 ⟨rfl, E1, p1, p2, p3, p4, p5⟩
      cases e1 with
      | normal =>
        simp only at h
        have := h1 nt y fr1 st1 ex fr' st' h E1 w1 a1 p1.sim p2 p3 p4 (hfr.right p1)
        refine wp_mono this ?_
        rintro e a' w' ⟨he, hd⟩
        rw [p5] at hd
        exact ⟨he, hd.pre p1⟩
      | exit id =>
        simp only [Option.some.injEq, Prod.mk.injEq] at h
        obtain ⟨rfl, rfl, rfl⟩ := h
        exact ⟨rfl, E1, p1, p2, p3, p4, p5⟩
      | ret =>
        simp only [Option.some.injEq, Prod.mk.injEq] at h
        obtain ⟨rfl, rfl, rfl⟩ := h
        exact ⟨rfl, E1, p1, p2, p3, p4, p5⟩
  · rename_i x y z
    split at h
    · rename_i hx
      have := inv_bool (evalO_sound hG hf hx)
      exact wp_cond_true this (h1 nt y fr st ex fr' st' h E w a hS hG hf hn hfr)
    · rename_i hx
      have := inv_bool (evalO_sound hG hf hx)
      exact wp_cond_false this (h1 nt z fr st ex fr' st' h E w a hS hG hf hn hfr)
    · cases h
  · rename_i id b
    refine wp_block ?_
    cases hb : ihC nt b fr st with
    | none => simp only [hb, reduceCtorEq] at h
    | some q =>
      obtain ⟨e1, fr1, st1⟩ := q
      simp only [hb] at h
      have hst : st1 = st' := by
        cases e1 with
        | normal => simp only [Option.some.injEq, Prod.mk.injEq] at h; exact h.2.2
        | exit k =>
          simp only [Tr.cbeq] at h
          by_cases hk : k = id
          · rw [if_pos hk] at h; simp only [Option.some.injEq, Prod.mk.injEq] at h; exact h.2.2
          · rw [if_neg hk] at h; simp only [Option.some.injEq, Prod.mk.injEq] at h; exact h.2.2
        | ret => simp only [Option.some.injEq, Prod.mk.injEq] at h; exact h.2.2
      have hbody := h1 nt b fr st e1 fr1 st1 hb E w a hS hG hf hn (hst ▸ hfr)
      refine wp_mono hbody ?_
      rintro e a1 w1 ⟨rfl, hd⟩
      cases e1 with
      | normal =>
        simp only [Option.some.injEq, Prod.mk.injEq] at h
        obtain ⟨rfl, rfl, rfl⟩ := h
        exact ⟨rfl, hd⟩
      | exit k =>
        simp only [Tr.cbeq] at h
        by_cases hk : k = id
        · rw [if_pos hk] at h
          simp only [Option.some.injEq, Prod.mk.injEq] at h
          obtain ⟨rfl, rfl, rfl⟩ := h
          show if k = id then _ else _
          rw [if_pos hk]
          exact ⟨rfl, hd⟩
        · rw [if_neg hk] at h
          simp only [Option.some.injEq, Prod.mk.injEq] at h
          obtain ⟨rfl, rfl, rfl⟩ := h
          show if k = id then _ else _
          rw [if_neg hk]
          exact ⟨rfl, hd⟩
      | ret =>
        simp only [Option.some.injEq, Prod.mk.injEq] at h
        obtain ⟨rfl, rfl, rfl⟩ := h
        exact ⟨rfl, hd⟩
  · rename_i b
    exact wp_loop_rounds maxRounds (loopA_sound h1 g1 nt b maxRounds fr st ex fr' st' h E w a hS hG hf hn hfr)
  · rename_i b
    refine wp_scope_straight ?_
    refine wp_mono (h1 nt b fr st ex fr' st' h E w a hS hG hf hn hfr) ?_
    rintro e a1 w1 ⟨rfl, hd⟩
    cases ex <;> exact ⟨rfl, hd⟩
  · cases h; exact wp_exit ⟨rfl, E, .refl hS, hG, hf, hn, rfl⟩
  · cases h; exact wp_ret ⟨rfl, E, .refl hS, hG, hf, hn, rfl⟩
  · cases h

def resF (tmps : Array Value) : ResultVar → Sem Value
  | .tmp t => pure (tmps.getD t undef)
  | .cell a t => do loadVar t (← asAddr (tmps.getD a undef))

theorem resA_sound {C : Cfg} (hC : C.Ok) {w0 : World} {E : Env} {st : St} {w : World} (hS : Sim w0 E st w) {fr : Fr} {tmps : Array Value} (hf : FRel E fr tmps) : ∀ (rs : List ResultVar) (l : List AV), resA C fr st rs = some l →
    ∃ vs : List Value, (rs.mapM (resF tmps)).run C.P w = .ok vs w ∧ VsRel E l vs := by
  intro rs
  induction rs with
  | nil => intro l h; simp only [resA, Option.some.injEq] at h; subst h; exact ⟨[], rfl, .nil⟩
  | cons r rs ih =>
    intro l h
    cases r with
    | tmp t =>
      simp only [resA] at h
      cases ht : fr.get t with
      | none => simp only [ht, reduceCtorEq] at h
      | some a =>
        cases hr : resA C fr st rs with
        | none => simp only [ht, hr, reduceCtorEq] at h
        | some as =>
          simp only [ht, hr, Option.some.injEq] at h
          subst h
          obtain ⟨v, h1, h2⟩ := hf t a ht
          obtain ⟨vs, h3, h4⟩ := ih as hr
          refine ⟨v :: vs, ?_, .cons h2 h4⟩
          have hv : tmps.getD t undef = v := by simp [Array.getD_eq_getD_getElem?, h1]
          simp only [List.mapM_cons, resF, Sem.run_bind, Sem.run_pure, Result.andThen_ok, hv, h3]
    | cell p t =>
      simp only [resA] at h
      split at h
      · rename_i i off hp
        cases hl : ldVar C st t i off with
        | none => simp only [hl, reduceCtorEq] at h
        | some a =>
          cases hr : resA C fr st rs with
          | none => simp only [hl, hr, reduceCtorEq] at h
          | some as =>
            simp only [hl, hr, Option.some.injEq] at h
            subst h
            obtain ⟨v, h1, h2⟩ := hf p _ hp
            cases h2 with
            | ptr _ _ hd =>
            obtain ⟨u, h5, h6⟩ := ldVar_sound hC hS hl
            obtain ⟨vs, h3, h4⟩ := ih as hr
            refine ⟨u :: vs, ?_, .cons h6 h4⟩
            have hv : tmps.getD p undef = .pointer (some ⟨E.ρ i, off, none⟩) := by simp [Array.getD_eq_getD_getElem?, h1]
            simp only [List.mapM_cons, resF, Sem.run_bind, Sem.run_pure, Result.andThen_ok, hv, asAddr, h5, h3]
      · cases h

theorem results_sound {C : Cfg} (hC : C.Ok) {w0 : World} {E : Env} {st : St} {w : World} (hS : Sim w0 E st w) {fr : Fr} {tmps : Array Value} (hf : FRel E fr tmps) {x : Func} {l : List AV} (h : resA C fr st x.results.toList = some l) :
    ∃ v, (results x tmps).run C.P w = .ok v w ∧ VRel E (oneA l) v := by
  obtain ⟨vs, h1, h2⟩ := resA_sound hC hS hf _ _ h
  have hm : (x.results.mapM (resF tmps)).run C.P w = .ok vs.toArray w := by
    rw [Array.mapM_eq_mapM_toList]
    simp only [Sem.run_map, h1, Result.andThen_ok]
  have hres : (results x tmps).run C.P w = .ok (if h : vs.toArray.size = 1 then vs.toArray[0] else .tuple vs.toArray) w := by
    have e : results x tmps = (do let vs ← x.results.mapM (resF tmps); pure (if h : vs.size = 1 then vs[0] else .tuple vs)) := rfl
    rw [e]
    simp only [Sem.run_bind, hm, Result.andThen_ok, Sem.run_pure]
  refine ⟨_, hres, ?_⟩
  cases h2 with
  | nil => exact .tup _ _ .nil
  | cons ha hs =>
    cases hs with
    | nil => exact ha
    | cons hb hs2 => exact .tup _ _ (.cons ha (.cons hb hs2))

theorem callFA_sound {C : Cfg} (hC : C.Ok) {w0 : World} {X : CallF} (hX : SndF C w0 X) {ihC : CodeF} (h1 : SndC C w0 ihC) : SndF C w0 (callFA C X ihC) := by
  intro f args st r st' h E w vs hS hG hv hfr
  unfold callFA at h
  cases hfn : C.fn f with
  | none => simp only [hfn] at h; exact hX _ _ _ _ _ h E w vs hS hG hv hfr
  | some p =>
    obtain ⟨x, c⟩ := p
    obtain ⟨q1, q2, q3⟩ := hC.fn f x c hfn
    simp only [hfn] at h
    cases hb : Nat.ble args.length x.ntmps with
    | false => simp only [hb, cond_false, reduceCtorEq] at h
    | true =>
      have hle := Nat.le_of_ble_eq_true hb
      simp only [hb, cond_true] at h
      have hlen := hv.length
      simp only [Array.length_toList] at hlen
      refine calls_of_wp q1 q3 ?_
      let stR : St := { st with low := st.next }
      have hSR : Sim w0 E stR w := hS.same rfl rfl (Nat.le_refl _)
      cases hc : ihC x.ntmps c (Fr.ofList args 0 .empty) stR with
      | none => simp only [stR] at hc; simp only [hc, reduceCtorEq] at h
      | some q =>
        obtain ⟨ex, fr1, st1⟩ := q
        let a0 : Act := { tmps := vs ++ Array.replicate (x.ntmps - vs.size) undef, defers := [] }
        have hf0 : FRel E (Fr.ofList args 0 .empty) a0.tmps := by
          intro t a ht
          rw [Fr.get_ofList] at ht
          split at ht
          · obtain ⟨v, h3, h4⟩ := hv.get _ a ht
            simp only [Nat.sub_zero, Array.getElem?_toList] at h3
            refine ⟨v, ?_, h4⟩
            have hlt : t < vs.size := by omega
            simp only [a0]
            rw [Array.getElem?_append_left hlt]
            exact h3
          · simp [Fr.get_empty] at ht
        have hn0 : a0.tmps.size = x.ntmps := by simp [a0]; omega
        have hc0 := hc
        simp only [stR] at hc
        simp only [hc] at h
        have hnx : st'.next = st1.next := by
          have hres0 : ∀ l, (bif scalars l && Nat.ble st.next st1.low then some (oneA l, { st with next := st1.next }) else some (oneA l, { st1 with low := bif Nat.ble st.low st1.low then st.low else st1.low })) = some (r, st') → st'.next = st1.next := by
            intro l hh
            cases hk : (scalars l && Nat.ble st.next st1.low) with
            | true => simp only [hk, cond_true, Option.some.injEq, Prod.mk.injEq] at hh; rw [← hh.2]
            | false => simp only [hk, cond_false, Option.some.injEq, Prod.mk.injEq] at hh; rw [← hh.2]
          cases ex with
          | exit k => simp only [reduceCtorEq] at h
          | normal =>
            simp only at h
            cases hl : resA C fr1 st1 x.results.toList with
            | none => simp only [hl, reduceCtorEq] at h
            | some l => simp only [hl] at h; exact hres0 l h
          | ret =>
            simp only at h
            cases hl : resA C fr1 st1 x.results.toList with
            | none => simp only [hl, reduceCtorEq] at h
            | some l => simp only [hl] at h; exact hres0 l h
        have hfr1 : Fresh E stR st1 := fun i h1 h2 => hfr i h1 (by omega)
        have hbody := h1 x.ntmps c _ stR ex fr1 st1 hc0 E w a0 hSR hG hf0 hn0 hfr1
        refine wp_mono hbody ?_
        rintro e a1 w1 ⟨rfl, E1, p1, p2, p3, p4, p5⟩
        have hres : ∀ l, resA C fr1 st1 x.results.toList = some l → (bif scalars l && Nat.ble st.next st1.low then some (oneA l, { st with next := st1.next }) else some (oneA l, { st1 with low := bif Nat.ble st.low st1.low then st.low else st1.low })) = some (r, st') →
            a1.defers = [] ∧ ∃ v, (results x a1.tmps).run C.P w1 = .ok v w1 ∧ ∃ E' u, Ending.returned v = .returned u ∧ Post w0 E st w E' st' w1 ∧ VRel E' r u := by
          intro l hl hh
          obtain ⟨v, r1, r2⟩ := results_sound hC p1.sim p3 hl
          refine ⟨p5, v, r1, E1, v, rfl, ?_, ?_⟩
          · cases hk : (scalars l && Nat.ble st.next st1.low) with
            | true =>
              simp only [hk, cond_true, Option.some.injEq, Prod.mk.injEq] at hh
              obtain ⟨rfl, rfl⟩ := hh
              simp only [Bool.and_eq_true] at hk
              have hlow := Nat.le_of_ble_eq_true hk.2
              have hvis : ∀ i b, St.vis { st with next := st1.next } i = some b → st1.vis i = some b ∧ st.vis i = some b := by
                intro i b hi
                have hi' : st.vis i = some b := by simpa [St.vis_eq] using hi
                have hlt := hS.bnd i b (Sim.vis_of hi').2
                have hkeep := p1.keep i hlt (by omega)
                refine ⟨?_, hi'⟩
                rw [St.vis_eq] at hi' ⊢
                have hh2 : st1.hid = st.hid := p1.hid
                rw [hh2, hkeep]; exact hi'
              refine ⟨p1.le, p1.dom, p1.next, ⟨p1.sim.below, fun i b hi => p1.sim.live i b (hvis i b hi).1, fun i j bi bj hi hj => p1.sim.inj i j bi bj (hvis i bi hi).1 (hvis j bj hj).1, fun i b hi => Nat.lt_of_lt_of_le (hS.bnd i b hi) p1.next⟩, p1.size, p1.frame, fun k hk2 ho => ?_, Nat.le_refl _, fun _ _ _ => rfl, rfl⟩
              obtain ⟨i, b, hi, hro, he⟩ := ho
              have := (hvis i b hi).2
              exact ⟨i, b, this, hro, by rw [← he]; exact (p1.le.ρ i (hS.live i b this).1).symm⟩
            | false =>
              simp only [hk, cond_false, Option.some.injEq, Prod.mk.injEq] at hh
              obtain ⟨rfl, rfl⟩ := hh
              have hlo : (bif Nat.ble st.low st1.low then st.low else st1.low) ≤ st.low ∧ (bif Nat.ble st.low st1.low then st.low else st1.low) ≤ st1.low := by
                cases hq : Nat.ble st.low st1.low with
                | true => have := Nat.le_of_ble_eq_true hq; simp; omega
                | false =>
                  have : ¬ st.low ≤ st1.low := fun h' => by rw [Nat.ble_eq_true_of_le h'] at hq; cases hq
                  simp; omega
              have hvis : ∀ i, St.vis { st1 with low := bif Nat.ble st.low st1.low then st.low else st1.low } i = st1.vis i := fun i => by simp [St.vis_eq]
              refine ⟨p1.le, p1.dom, p1.next, p1.sim.same rfl rfl (Nat.le_refl _), p1.size, p1.frame, fun k hk2 ho => ?_, hlo.1, fun i hi hl2 => p1.keep i hi (by simp only at hl2; omega), p1.hid⟩
              obtain ⟨i, b, hi, hro, he⟩ := ho
              rw [hvis] at hi
              exact p1.cover k hk2 ⟨i, b, hi, hro, he⟩
          · cases hk : (scalars l && Nat.ble st.next st1.low) with
            | true => simp only [hk, cond_true, Option.some.injEq, Prod.mk.injEq] at hh; rw [← hh.1]; exact r2
            | false => simp only [hk, cond_false, Option.some.injEq, Prod.mk.injEq] at hh; rw [← hh.1]; exact r2
        cases ex with
        | exit k => simp only [reduceCtorEq] at h
        | normal =>
          simp only at h
          cases hl : resA C fr1 st1 x.results.toList with
          | none => simp only [hl, reduceCtorEq] at h
          | some l => simp only [hl] at h; exact hres l hl h
        | ret =>
          simp only at h
          cases hl : resA C fr1 st1 x.results.toList with
          | none => simp only [hl, reduceCtorEq] at h
          | some l => simp only [hl] at h; exact hres l hl h

theorem run_grow {C : Cfg} {X : CallF} (hX : GrwF X) : ∀ n, GrwC (run C X n).1 ∧ GrwF (run C X n).2 := by
  intro n
  induction n with
  | zero => exact ⟨fun nt c fr st ex fr' st' h => by simp [run] at h, hX⟩
  | succ n ih => exact ⟨codeA_grow ih.1 ih.2, callFA_grow hX ih.1⟩

theorem run_sound {C : Cfg} (hC : C.Ok) {w0 : World} {X : CallF} (hX : SndF C w0 X) (hg : GrwF X) : ∀ n, SndC C w0 (run C X n).1 ∧ SndF C w0 (run C X n).2 := by
  intro n
  induction n with
  | zero => exact ⟨fun nt c fr st ex fr' st' h => by simp [run] at h, hX⟩
  | succ n ih => exact ⟨codeA_sound hC ih.1 ih.2 (run_grow hg n).1 (run_grow hg n).2, callFA_sound hC hX ih.1⟩
end Go.Proofs.YtcabllflafejoaaGreatDoor.Ax
