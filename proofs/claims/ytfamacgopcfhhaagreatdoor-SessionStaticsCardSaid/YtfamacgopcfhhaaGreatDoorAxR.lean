/-
  AN EXECUTOR OVER AN ABSTRACT MEMORY, PART R: code, calls; and that what it computes is what the call does.
-/
import Derived.Test.YtfamacgopcfhhaaGreatDoorAxRa
import Derived.Scope
namespace Go.Proofs.YtfamacgopcfhhaaGreatDoor.Ax
open Go.RowKit

def loopA (body : Fr → St → Option (Ex × Fr × St)) : Nat → Fr → St → Option (Ex × Fr × St)
  | 0, _, _ => none
  | n + 1, fr, st => match body fr st with
    | some (.normal, fr', st') => loopA body n fr' st'
    | r => r

/-- How many rounds a loop may have here. -/
def maxRounds : Nat := 1000000

/-! A round of a range over a function. -/
def putAll (nt : Nat) : List Nat → List AV → Fr → Option Fr
  | [], [], fr => some fr
  | t :: ts, a :: as, fr => (match putA nt fr (some t) a with
    | some fr' => putAll nt ts as fr'
    | none => none)
  | _, _, _ => none

def roundEnd (i : Nat) (e : LoopState) (j : Option Code) (b : Bool) (st : St) : Option (AV × St) :=
  match st.vis i with
  | some (.loop fr nt ps asg body _ _) => some (.bool b, st.put i (.loop fr nt ps asg body e j))
  | _ => none

def roundA (ihC : CodeF) (args : List AV) (st : St) : Option (AV × St) :=
  match args with
  | .yld i :: as => (match st.vis i with
    | some (.loop fr nt ps asg body .ready _) => (match putAll nt ps as fr with
      | some fr1 => (match ihC nt asg fr1 st with
        | some (.normal, fr2, st2) => (match st2.vis i with
          | some (.loop fr' nt' ps' asg' body' .ready pe) => (match ihC nt body fr2 (st2.put i (.loop fr' nt' ps' asg' body' .busy pe)) with
            | some (.normal, _, st3) => roundEnd i .ready none true st3
            | some (.ret, _, st3) => roundEnd i .done (some .ret) false st3
            | some (.exit k, _, st3) => roundEnd i .done (some (.exit k)) false st3
            | none => none)
          | _ => none)
        | _ => none)
      | none => none)
    | _ => none)
  | _ => none

/-- A call of a loop's yield: with it, its arguments. -/
def yldA (C : Cfg) (fr : Fr) (o : Oper) : Option (List AV) :=
  match o.op with
  | .call c => (match c.callee with
    | .value x => (match evalO C fr x with
      | some (.yld i) => (match evalL C fr c.args.toList with
        | some as => some (.yld i :: as)
        | none => none)
      | _ => none)
    | _ => none)
  | _ => none

def stepY (C : Cfg) (ih : CallF) (all : List Oper) (fr : Fr) (st : St) (o : Oper) : Option (AV × St) :=
  match stepA C ih all fr st o with
  | some r => some r
  | none => (match wantA all fr o with
    | some true => (match yldA C fr o with
      | some args => ih yno args st
      | none => none)
    | _ => none)

def opsY (C : Cfg) (ih : CallF) (nt : Nat) (all : List Oper) : List Oper → Fr → St → Option (Fr × St)
  | [], fr, st => some (fr, st)
  | o :: os, fr, st => match stepY C ih all fr st o with
    | none => none
    | some (x, st1) => match putA nt fr o.dst x with
      | none => none
      | some fr' => opsY C ih nt all os fr' st1

/-- A region in the order of the text, where no other is possible: it may call a loop's yield. -/
def yregA (C : Cfg) (ih : CallF) (nt : Nat) (ops : Array Oper) (draw : Bool) (fr : Fr) (st : St) : Option (Fr × St) :=
  bif !draw || chainA true ops.toList 0 then opsY C ih nt ops.toList ops.toList fr st else none

def regA (C : Cfg) (ih : CallF) (nt : Nat) (ops : Array Oper) (draw : Bool) (fr : Fr) (st : St) : Option (Fr × St) :=
  match (bif draw then drawA C ih nt ops fr st else opsA C ih nt ops.toList ops.toList fr st) with
  | some r => some r
  | none => yregA C ih nt ops draw fr st

/-- A range over a function. -/
def overA (C : Cfg) (ihF : CallF) (nt : Nat) (g : Operand) (ps : Array Tmp) (asg body : Code) (fr : Fr) (st : St) : Option (Ex × Fr × St) :=
  match evalO C fr g with
  | some (.fn (.func gf) first captured) => (match C.fn gf with
    | some _ => (match newBlk st (.loop fr nt ps.toList asg body .ready none) with
      | some (i, st1) => (match ihF gf ((first ++ [.yld i]) ++ captured) st1 with
        | some (_, st2) => (match st2.vis i with
          | some (.loop _ _ _ _ _ .busy _) => none
          | some (.loop fr' nt' ps' asg' body' _ none) => some (.normal, fr, st2.put i (.loop fr' nt' ps' asg' body' .exhausted none))
          | some (.loop fr' nt' ps' asg' body' _ (some .ret)) => some (.ret, fr, st2.put i (.loop fr' nt' ps' asg' body' .exhausted (some .ret)))
          | some (.loop fr' nt' ps' asg' body' _ (some (.exit k))) => some (.exit k, fr, st2.put i (.loop fr' nt' ps' asg' body' .exhausted (some (.exit k))))
          | _ => none)
        | none => none)
      | none => none)
    | none => none)
  | _ => none

def codeA (C : Cfg) (ihC : CodeF) (ihF : CallF) : CodeF := fun nt c fr st =>
  match c with
  | .skip => some (.normal, fr, st)
  | .label _ => some (.normal, fr, st)
  | .region _ ops draw => bif calmA ops.toList then (match regA C ihF nt ops draw fr st with
    | none => none
    | some (fr', st') => some (.normal, fr', st')) else none
  | .seq a b => (match ihC nt a fr st with
    | some (.normal, fr', st') => ihC nt b fr' st'
    | r => r)
  | .cond x a b => (match evalO C fr x with
    | some (.bool true) => ihC nt a fr st
    | some (.bool false) => ihC nt b fr st
    | _ => none)
  | .block id b => (match ihC nt b fr st with
    | some (.exit k, fr', st') => bif Nat.beq k id then some (.normal, fr', st') else some (.exit k, fr', st')
    | r => r)
  | .loop b => loopA (ihC nt b) maxRounds fr st
  | .scope b => ihC nt b fr st
  | .exit id => some (.exit id, fr, st)
  | .ret => some (.ret, fr, st)
  | .rangeFunc g ps asg body => overA C ihF nt g ps asg body fr st
  | _ => none

def resA (C : Cfg) (fr : Fr) (st : St) : List ResultVar → Option (List AV)
  | [] => some []
  | .tmp t :: rs => (match fr.get t with
    | none => none
    | some a => match resA C fr st rs with
      | none => none
      | some as => some (a :: as))
  | .cell p t :: rs => (match fr.get p with
    | some (.ptr i off) => (match ldVar C st t i off with
      | none => none
      | some a => match resA C fr st rs with
        | none => none
        | some as => some (a :: as))
    | _ => none)

mutual
/-- The value leads to no block. -/
def scalar : AV → Bool
  | .ptr _ _ | .sl _ _ _ _ | .slu _ _ _ _ _ | .mp _ | .yld _ => false
  | .fn _ a b => scalars a && scalars b
  | .iface _ v => scalar v
  | .agg l | .tup l => scalars l
  | _ => true
def scalars : List AV → Bool
  | [] => true
  | a :: l => scalar a && scalars l
end

def oneA : List AV → AV
  | [a] => a
  | l => .tup l

def callFA (C : Cfg) (X : CallF) (ihC : CodeF) : CallF := fun f args st =>
  bif Nat.beq f yno then roundA ihC args st else
  match C.fn f with
  | none => X f args st
  | some (x, c) =>
    bif Nat.ble args.length x.ntmps then
      match ihC x.ntmps c (Fr.ofList args 0 .empty) { st with low := st.next } with
      | some (ex, fr', st') => (match ex with
        | .exit _ => none
        | _ => match resA C fr' st' x.results.toList with
          | none => none
          | some l =>
            bif scalars l && Nat.ble st.next st'.low then some (oneA l, { st with next := st'.next })
            else some (oneA l, { st' with low := bif Nat.ble st.low st'.low then st.low else st'.low }))
      | none => none
    else none

/-! What it computes is so. -/
def SndC (C : Cfg) (w0 : World) (F : CodeF) : Prop := ∀ nt c fr st ex fr' st', F nt c fr st = some (ex, fr', st') → ∀ rd E w a, RdOk rd w → Sim w0 E st w → GEnv C E → FRel E fr a.tmps → a.tmps.size = nt → Fresh E st st' →
  c.wpIn (wideR rd) 0 C.P (fun e a' w' => e = ex.of ∧ DoneM C w0 E st w nt a.defers fr' st' a' w') a w

/-- What is said of a call of a loop's yield. -/
def SndY (C : Cfg) (w0 : World) (F : CallF) : Prop := ∀ i as st r st', F yno (.yld i :: as) st = some (r, st') → ∀ E w (vs : Array Value), Sim w0 E st w → GEnv C E → VsRel E as vs.toList → Fresh E st st' →
  ∃ fn tmps asg body, (Instr.yield (E.ρ i) vs).run C.P w = .ok (.round (E.ρ i) fn tmps asg body) w ∧
    RoundIn Fence.wide 0 C.P (E.ρ i) fn tmps asg body w (fun e w' => ∃ E' v, e = .returned v ∧ Post w0 E st w E' st' w' ∧ VRel E' r v)

def GrwC (F : CodeF) : Prop := ∀ nt c fr st ex fr' st', F nt c fr st = some (ex, fr', st') → Grow st st'

theorem headA_grow {C : Cfg} {ih : CallF} (hg : GrwF ih) {nt : Nat} {all : List Oper} {lt : Nat} {Rs : List (Nat × Nat)} : ∀ (os : List Oper) (ms : List Nat) (i : Nat) (rs : List (Nat × Nat × Nat)) (fr : Fr) (st : St) (fr1 : Fr) (st1 : St), headA C ih nt all lt Rs os ms i rs fr st = some (fr1, st1) → Grow st st1 := by
  intro os
  induction os with
  | nil => intro ms i rs fr st fr1 st1 h; simp only [headA, Option.some.injEq, Prod.mk.injEq] at h; rw [h.2]; exact .refl _
  | cons o os ihos =>
    intro ms i rs fr st fr1 st1 h
    cases ms with
    | nil => simp [headA] at h
    | cons m ms =>
      simp only [headA] at h
      cases hs : stepA C ih all (restr fr (looksA all o)) { st with hid := exH lt i Rs (hidA m rs st.hid), low := st.next } o with
      | none => simp only [hs, reduceCtorEq] at h
      | some q =>
        obtain ⟨x, stx⟩ := q
        simp only [hs] at h
        have g := stepA_grow hg hs
        cases hb : okL lt i Rs fr o st.next stx.low with
        | false => simp only [hb, cond_false, reduceCtorEq] at h
        | true =>
          simp only [hb, cond_true] at h
          cases hp : putA nt fr o.dst x with
          | none => simp only [hp, reduceCtorEq] at h
          | some fr' =>
            simp only [hp] at h
            have hle := (okL_spec hb).1
            refine Grow.trans ?_ (ihos _ _ _ _ _ _ _ h)
            exact ⟨g.next, Nat.le_refl _, fun k hk _ => g.keep k hk (by omega), rfl, fun hb => g.bnd hb⟩

theorem drawA_grow {C : Cfg} {ih : CallF} (hg : GrwF ih) {nt : Nat} {ops : Array Oper} {fr fr' : Fr} {st st' : St} (h : drawA C ih nt ops fr st = some (fr', st')) : Grow st st' := by
  unfold drawA at h
  generalize (planA ops.toList).1 = N at h
  generalize (planA ops.toList).2.1 = fl at h
  generalize (planA ops.toList).2.2 = lt at h
  simp only at h
  cases hRs : lateBs fr lt ops.toList with
  | none => simp only [hRs, reduceCtorEq] at h
  | some Rs =>
  simp only [hRs] at h
  have hone := lateBs_one hRs
  cases hb : (shapeOkA ops N fl && (Nat.ble N ops.size && (hidOkA st.next st.hid && hidOkA st.next Rs))) with
  | false => simp only [hb, cond_false, reduceCtorEq] at h
  | true =>
    simp only [hb, cond_true] at h
    cases hh : headA C ih nt ops.toList lt Rs (ops.toList.take N) (masks ops.toList []) 0 [] fr st with
    | none => simp only [hh, reduceCtorEq] at h
    | some q =>
      obtain ⟨fr1, st1⟩ := q
      simp only [hh] at h
      cases hto : opsA C ih nt ops.toList (ops.toList.drop N) fr1 { st1 with hid := Rs ++ st1.hid } with
      | none => simp only [hto, reduceCtorEq] at h
      | some q2 =>
      obtain ⟨fr2, st2⟩ := q2
      simp only [hto] at h
      cases hbk : backR st1.heap Rs st2.heap with
      | none => simp only [hbk, reduceCtorEq] at h
      | some hp =>
      simp only [hbk, Option.some.injEq, Prod.mk.injEq] at h
      obtain ⟨rfl, rfl⟩ := h
      have g := opsA_grow hg _ _ _ _ _ hto
      have hbk := backR_spec hbk
      have hyes : ∀ k, hidden Rs k = true → hp.get k = st1.heap.get k := fun k hk => (hbk k).1 ((hidden_one hone k).1 hk)
      have hno : ∀ k, hidden Rs k = false → hp.get k = st2.heap.get k := fun k hk => (hbk k).2 fun hn => by rw [(hidden_one hone k).2 hn] at hk; cases hk
      refine (headA_grow hg _ _ _ _ _ _ _ _ hh).trans ⟨g.next, g.low, fun k hk hl => ?_, rfl, fun hb k b hk => ?_⟩
      · show hp.get k = st1.heap.get k
        cases hr : hidden Rs k with
        | true => exact hyes k hr
        | false => rw [hno k hr]; exact g.keep k hk hl
      · have hk : hp.get k = some b := hk
        cases hr : hidden Rs k with
        | true => exact Nat.lt_of_lt_of_le (hb k b (by rw [← hyes k hr]; exact hk)) g.next
        | false => exact g.bnd hb k b (by rw [← hno k hr]; exact hk)

theorem loopA_grow {F : CodeF} (hg : GrwC F) {nt : Nat} {b : Code} : ∀ (n : Nat) (fr : Fr) (st : St) (ex : Ex) (fr' : Fr) (st' : St), loopA (F nt b) n fr st = some (ex, fr', st') → Grow st st' := by
  intro n
  induction n with
  | zero => intro fr st ex fr' st' h; simp [loopA] at h
  | succ n ih =>
    intro fr st ex fr' st' h
    simp only [loopA] at h
    cases hb : F nt b fr st with
    | none => simp only [hb, reduceCtorEq] at h
    | some q =>
      obtain ⟨e1, fr1, st1⟩ := q
      have g := hg _ _ _ _ _ _ _ hb
      simp only [hb] at h
      cases e1 with
      | normal => exact g.trans (ih _ _ _ _ _ h)
      | exit id => simp only [Option.some.injEq, Prod.mk.injEq] at h; obtain ⟨rfl, rfl, rfl⟩ := h; exact g
      | ret => simp only [Option.some.injEq, Prod.mk.injEq] at h; obtain ⟨rfl, rfl, rfl⟩ := h; exact g

theorem stepY_grow {C : Cfg} {ih : CallF} (hg : GrwF ih) {all : List Oper} {fr : Fr} {st st' : St} {o : Oper} {x : AV} (h : stepY C ih all fr st o = some (x, st')) : Grow st st' := by
  unfold stepY at h
  cases hs : stepA C ih all fr st o with
  | some q => simp only [hs, Option.some.injEq] at h; subst h; exact stepA_grow hg hs
  | none =>
    simp only [hs] at h
    split at h
    · split at h
      · exact hg _ _ _ _ _ h
      · cases h
    · cases h

theorem opsY_grow {C : Cfg} {ih0 : CallF} (hg : GrwF ih0) {nt : Nat} {all : List Oper} : ∀ (l : List Oper) (fr : Fr) (st : St) (fr' : Fr) (st' : St), opsY C ih0 nt all l fr st = some (fr', st') → Grow st st' := by
  intro l
  induction l with
  | nil => intro fr st fr' st' h; simp only [opsY, Option.some.injEq, Prod.mk.injEq] at h; rw [h.2]; exact .refl _
  | cons o os ih =>
    intro fr st fr' st' h
    simp only [opsY] at h
    cases hs : stepY C ih0 all fr st o with
    | none => simp only [hs, reduceCtorEq] at h
    | some q =>
      obtain ⟨x, st1⟩ := q
      simp only [hs] at h
      cases hp : putA nt fr o.dst x with
      | none => simp only [hp, reduceCtorEq] at h
      | some fr1 => simp only [hp] at h; exact (stepY_grow hg hs).trans (ih _ _ _ _ h)

theorem regA_grow {C : Cfg} {ih : CallF} (hg : GrwF ih) {nt : Nat} {ops : Array Oper} {draw : Bool} {fr fr' : Fr} {st st' : St} (h : regA C ih nt ops draw fr st = some (fr', st')) : Grow st st' := by
  unfold regA at h
  split at h
  · rename_i r hr
    cases h
    cases draw with
    | true => exact drawA_grow hg hr
    | false => exact opsA_grow hg _ _ _ _ _ hr
  · unfold yregA at h
    cases hb : (!draw || chainA true ops.toList 0) with
    | false => simp only [hb, cond_false, reduceCtorEq] at h
    | true => simp only [hb, cond_true] at h; exact opsY_grow hg _ _ _ _ _ h

theorem roundEnd_grow {i : Nat} {e : LoopState} {j : Option Code} {b : Bool} {st st' : St} {r : AV} (h : roundEnd i e j b st = some (r, st')) : Grow st st' := by
  unfold roundEnd at h
  split at h
  · rename_i hv; cases h; exact .put (vis_get hv) _
  · cases h

theorem roundA_grow {ihC : CodeF} (h1 : GrwC ihC) {args : List AV} {st st' : St} {r : AV} (h : roundA ihC args st = some (r, st')) : Grow st st' := by
  unfold roundA at h
  split at h
  · split at h
    · split at h
      · split at h
        · rename_i fr1 _ fr2 st2 hc
          have g1 := h1 _ _ _ _ _ _ _ hc
          split at h
          · rename_i hv
            have g2 := Grow.put (vis_get hv)
            split at h
            · rename_i hb; exact (g1.trans (g2 _)).trans ((h1 _ _ _ _ _ _ _ hb).trans (roundEnd_grow h))
            · rename_i hb; exact (g1.trans (g2 _)).trans ((h1 _ _ _ _ _ _ _ hb).trans (roundEnd_grow h))
            · rename_i hb; exact (g1.trans (g2 _)).trans ((h1 _ _ _ _ _ _ _ hb).trans (roundEnd_grow h))
            · cases h
          · cases h
        · cases h
      · cases h
    · cases h
  · cases h

theorem overA_grow {C : Cfg} {ihF : CallF} (h2 : GrwF ihF) {nt : Nat} {g : Operand} {ps : Array Tmp} {asg body : Code} {fr : Fr} {st : St} {ex : Ex} {fr' : Fr} {st' : St} (h : overA C ihF nt g ps asg body fr st = some (ex, fr', st')) : Grow st st' := by
  unfold overA at h
  split at h
  · split at h
    · split at h
      · rename_i hn
        have g0 := newBlk_grow hn
        split at h
        · rename_i hc
          have g1 := g0.trans (h2 _ _ _ _ _ hc)
          split at h
          · cases h
          · rename_i hv; cases h; exact g1.trans (.put (vis_get hv) _)
          · rename_i hv; cases h; exact g1.trans (.put (vis_get hv) _)
          · rename_i hv; cases h; exact g1.trans (.put (vis_get hv) _)
          · cases h
        · cases h
      · cases h
    · cases h
  · cases h

theorem codeA_grow {C : Cfg} {ihC : CodeF} {ihF : CallF} (h1 : GrwC ihC) (h2 : GrwF ihF) : GrwC (codeA C ihC ihF) := by
  intro nt c fr st ex fr' st' h
  unfold codeA at h
  split at h
  · cases h; exact .refl _
  · cases h; exact .refl _
  · rename_i id ops draw
    cases hc : calmA ops.toList with
    | false => simp only [hc, cond_false, reduceCtorEq] at h
    | true =>
      simp only [hc, cond_true] at h
      cases ho : regA C ihF nt ops draw fr st with
      | none => simp only [ho, reduceCtorEq] at h
      | some q =>
        obtain ⟨fr1, st1⟩ := q
        simp only [ho, Option.some.injEq, Prod.mk.injEq] at h
        obtain ⟨rfl, rfl, rfl⟩ := h
        exact regA_grow h2 ho
  · rename_i x y
    cases hx : ihC nt x fr st with
    | none => simp only [hx, reduceCtorEq] at h
    | some q =>
      obtain ⟨e1, fr1, st1⟩ := q
      have g := h1 _ _ _ _ _ _ _ hx
      simp only [hx] at h
      cases e1 with
      | normal => exact g.trans (h1 _ _ _ _ _ _ _ h)
      | exit id => simp only [Option.some.injEq, Prod.mk.injEq] at h; obtain ⟨rfl, rfl, rfl⟩ := h; exact g
      | ret => simp only [Option.some.injEq, Prod.mk.injEq] at h; obtain ⟨rfl, rfl, rfl⟩ := h; exact g
  · rename_i x y z
    split at h
    · exact h1 _ _ _ _ _ _ _ h
    · exact h1 _ _ _ _ _ _ _ h
    · cases h
  · rename_i id b
    cases hb : ihC nt b fr st with
    | none => simp only [hb, reduceCtorEq] at h
    | some q =>
      obtain ⟨e1, fr1, st1⟩ := q
      have g := h1 _ _ _ _ _ _ _ hb
      simp only [hb] at h
      cases e1 with
      | normal => simp only [Option.some.injEq, Prod.mk.injEq] at h; obtain ⟨rfl, rfl, rfl⟩ := h; exact g
      | exit k =>
        simp only [Tr.cbeq] at h
        by_cases hk : k = id
        · rw [if_pos hk] at h; simp only [Option.some.injEq, Prod.mk.injEq] at h; obtain ⟨rfl, rfl, rfl⟩ := h; exact g
        · rw [if_neg hk] at h; simp only [Option.some.injEq, Prod.mk.injEq] at h; obtain ⟨rfl, rfl, rfl⟩ := h; exact g
      | ret => simp only [Option.some.injEq, Prod.mk.injEq] at h; obtain ⟨rfl, rfl, rfl⟩ := h; exact g
  · exact loopA_grow h1 _ _ _ _ _ _ h
  · exact h1 _ _ _ _ _ _ _ h
  · cases h; exact .refl _
  · cases h; exact .refl _
  · exact overA_grow h2 h
  · cases h

theorem callFA_grow {C : Cfg} {X : CallF} {ihC : CodeF} (hX : GrwF X) (h1 : GrwC ihC) : GrwF (callFA C X ihC) := by
  intro f args st r st' h
  unfold callFA at h
  simp only [Tr.cbeq] at h
  by_cases hy : f = yno
  · rw [if_pos hy] at h; exact roundA_grow h1 h
  rw [if_neg hy] at h
  cases hfn : C.fn f with
  | none => simp only [hfn] at h; exact hX _ _ _ _ _ h
  | some p =>
    obtain ⟨x, c⟩ := p
    simp only [hfn] at h
    cases hb : Nat.ble args.length x.ntmps with
    | false => simp only [hb, cond_false, reduceCtorEq] at h
    | true =>
      simp only [hb, cond_true] at h
      cases hc : ihC x.ntmps c (Fr.ofList args 0 .empty) { st with low := st.next } with
      | none => simp only [hc, reduceCtorEq] at h
      | some q =>
        obtain ⟨ex, fr1, st1⟩ := q
        have g := h1 _ _ _ _ _ _ _ hc
        simp only [hc] at h
        have hres : ∀ l, (bif scalars l && Nat.ble st.next st1.low then some (oneA l, { st with next := st1.next }) else some (oneA l, { st1 with low := bif Nat.ble st.low st1.low then st.low else st1.low })) = some (r, st') → Grow st st' := by
          intro l hh
          have gn := g.next
          simp only at gn
          cases hk : (scalars l && Nat.ble st.next st1.low) with
          | true =>
            simp only [hk, cond_true, Option.some.injEq, Prod.mk.injEq] at hh
            obtain ⟨rfl, rfl⟩ := hh
            exact ⟨gn, Nat.le_refl _, fun _ _ _ => rfl, rfl, fun hb i b hi => Nat.lt_of_lt_of_le (hb i b hi) gn⟩
          | false =>
            simp only [hk, cond_false, Option.some.injEq, Prod.mk.injEq] at hh
            obtain ⟨rfl, rfl⟩ := hh
            have hlo : (bif Nat.ble st.low st1.low then st.low else st1.low) ≤ st.low ∧ (bif Nat.ble st.low st1.low then st.low else st1.low) ≤ st1.low := by
              cases hq : Nat.ble st.low st1.low with
              | true => have := Nat.le_of_ble_eq_true hq; simp; omega
              | false =>
                have : ¬ st.low ≤ st1.low := fun h' => by rw [Nat.ble_eq_true_of_le h'] at hq; cases hq
                simp; omega
            exact ⟨gn, hlo.1, fun i h1 h2 => g.keep i h1 (by simp only at h2; omega), g.hid, fun hb => g.bnd hb⟩
        cases ex with
        | exit k => simp only [reduceCtorEq] at h
        | normal =>
          simp only at h
          cases hl : resA C fr1 st1 x.results.toList with
          | none => simp only [hl, reduceCtorEq] at h
          | some l => simp only [hl] at h; exact hres l h
        | ret =>
          simp only at h
          cases hl : resA C fr1 st1 x.results.toList with
          | none => simp only [hl, reduceCtorEq] at h
          | some l => simp only [hl] at h; exact hres l h

theorem loopA_sound {C : Cfg} {w0 : World} {F : CodeF} (hF : SndC C w0 F) (hg : GrwC F) (nt : Nat) (b : Code) : ∀ (n : Nat) (fr : Fr) (st : St) (ex : Ex) (fr' : Fr) (st' : St), loopA (F nt b) n fr st = some (ex, fr', st') →
    ∀ rd E w a, RdOk rd w → Sim w0 E st w → GEnv C E → FRel E fr a.tmps → a.tmps.size = nt → Fresh E st st' → Code.roundsIn (wideR rd) 0 C.P b (fun e a' w' => e = ex.of ∧ DoneM C w0 E st w nt a.defers fr' st' a' w') n a w := by
  intro n
  induction n with
  | zero => intro fr st ex fr' st' h; simp [loopA] at h
  | succ n ih =>
    intro fr st ex fr' st' h rd E w a hR hS hG hf hn hfr
    simp only [loopA] at h
    rw [roundsIn_succ]
    cases hb : F nt b fr st with
    | none => simp only [hb, reduceCtorEq] at h
    | some q =>
      obtain ⟨e1, fr1, st1⟩ := q
      simp only [hb] at h
      have hfr1 : Fresh E st st1 := by
        cases e1 with
        | normal => exact hfr.left (loopA_grow hg n fr1 st1 ex fr' st' h).next
        | exit id => simp only [Option.some.injEq, Prod.mk.injEq] at h; obtain ⟨rfl, rfl, rfl⟩ := h; exact hfr
        | ret => simp only [Option.some.injEq, Prod.mk.injEq] at h; obtain ⟨rfl, rfl, rfl⟩ := h; exact hfr
      have hbody := hF nt b fr st e1 fr1 st1 hb rd E w a hR hS hG hf hn hfr1
      refine wpIn_mono hbody ?_
      rintro e a1 w1 ⟨rfl, E1, h1, h2, h3, h4, Ds, h5, h6⟩
      cases e1 with
      | normal =>
        simp only at h
        show Code.roundsIn (wideR rd) 0 C.P b _ n a1 w1
        have := ih fr1 st1 ex fr' st' h rd E1 w1 a1 (hR.post h1) h1.sim h2 h3 h4 (hfr.right h1)
        rw [h5] at this
        have mono : ∀ (m : Nat) (Q Q' : Exit → Act → World → Prop), (∀ e a w, Q e a w → Q' e a w) → ∀ a w, Code.roundsIn (wideR rd) 0 C.P b Q m a w → Code.roundsIn (wideR rd) 0 C.P b Q' m a w := by
          intro m Q Q' hq
          induction m with
          | zero => intro a w h; exact h
          | succ m ihm =>
            intro a w h
            rw [roundsIn_succ] at h ⊢
            refine wpIn_mono h ?_
            intro e a w h'
            cases e with
            | normal => exact ihm a w h'
            | _ => exact hq _ _ _ h'
        refine mono n _ _ ?_ a1 w1 this
        rintro e a' w' ⟨he, hd⟩
        exact ⟨he, .pre h1 h6 hd⟩
      | exit id =>
        simp only [Option.some.injEq, Prod.mk.injEq] at h
        obtain ⟨rfl, rfl, rfl⟩ := h
        exact ⟨rfl, E1, h1, h2, h3, h4, Ds, h5, h6⟩
      | ret =>
        simp only [Option.some.injEq, Prod.mk.injEq] at h
        obtain ⟨rfl, rfl, rfl⟩ := h
        exact ⟨rfl, E1, h1, h2, h3, h4, Ds, h5, h6⟩

theorem done_noLet {C : Cfg} {w0 : World} {E : Env} {st : St} {w : World} {nt : Nat} {d : List Deferred} {fr' : Fr} {st' : St} {ex : Ex} : ¬ LetsOut (fun e a' w' => e = ex.of ∧ DoneM C w0 E st w nt d fr' st' a' w') := by
  rintro ⟨a, w, h, _⟩
  cases ex <;> cases h

theorem evalP_args {ρ : Operand → Value} (l : List Operand) : (l.mapM fun x => (pure (ρ x) : Sem Value)) = pure (l.map ρ) := by
  induction l with
  | nil => rfl
  | cons x l ih => simp [List.mapM_cons, ih]

/-- A call of a loop's yield, as the machine carries it out. -/
theorem run_yieldOp {P : Program} {o : Oper} {c : Call} {x : Operand} {l : Nat} {ρ : Operand → Value} (hop : o.op = .call c) (hc : c.callee = .value x) (hx : ρ x = .func (.yield l) #[] #[]) (w : World) :
    (execOp ρ o).run P w = (Instr.yield l (c.args.map ρ)).run P w := by
  unfold execOp
  rw [hop]
  simp only [resolve, hc, hx]
  simp [go_sem]

theorem stepY_sound {C : Cfg} (hC : C.Ok) {w0 : World} {ih : CallF} (hF : SndF C w0 ih) (hY : SndY C w0 ih) {all : Array Oper} (hcalm : calmA all.toList = true) {fr : Fr} {st st' : St} {o : Oper} (ho : o ∈ all.toList) {x : AV} (h : stepY C ih all.toList fr st o = some (x, st')) {rd : Option Nat} {E : Env} {w : World} {a : Act} (hS : Sim w0 E st w) (hG : GEnv C E) (hf : FRel E fr a.tmps) (hfr : Fresh E st st')
    {Q : Exit → Act → World → Prop} {K : Act → World → Prop} (hK : ∀ E' w' v, Post w0 E st w E' st' w' → VRel E' x v → K (a.put o.dst v) w') :
    if Region.wanted o (yielded all a.tmps) then o.wpIn (wideR rd) 0 C.P a w K Q else (∀ f, o.about C.P w a.eval = some f → (wideR rd).fn f) ∧ K (a.put o.dst undef) w := by
  have hd := calmA_spec hcalm o ho
  unfold stepY at h
  cases hs : stepA C ih all.toList fr st o with
  | some q =>
    simp only [hs, Option.some.injEq] at h
    subst h
    have := stepA_sound hC hF hs hS hG hf hfr (Q := fun _ _ _ => False) hK
    by_cases hw : Region.wanted o (yielded all a.tmps) = true
    · rw [if_pos hw] at this ⊢
      rcases this with h | ⟨_, _, _, h⟩
      · refine Oper.wp_in hd ?_
        unfold Oper.wp at h ⊢
        generalize (execOp a.eval o).run C.P w = r at h ⊢
        cases r with
        | ok y w1 =>
          cases y <;> simp only [Oper.upon] at h ⊢ <;> first
            | exact h
            | (refine h.mono fun e w2 he => ?_; cases e <;> first | exact he | exact he.elim | (obtain ⟨_, _, h⟩ := he; exact h.elim))
        | halt y w1 => cases y <;> simp only [Oper.upon] at h ⊢ <;> exact h.elim
      · exact h.elim
    · rw [if_neg hw] at this ⊢
      exact ⟨fun _ _ => trivial, this⟩
  | none =>
    simp only [hs] at h
    split at h
    · rename_i hw
      rw [wantA_sound hw hf, if_pos rfl]
      split at h
      · rename_i args hy
        unfold yldA at hy
        split at hy
        · rename_i c hop
          split at hy
          · rename_i y hc
            split at hy
            · rename_i i hx
              split at hy
              · rename_i as has
                cases hy
                have h1 := evalO_sound hG hf hx
                have h2 := evalL_sound hG hf _ _ has
                have hv : a.eval y = .func (.yield (E.ρ i)) #[] #[] := by
                  generalize a.eval y = v at h1
                  cases h1
                  rfl
                obtain ⟨fn, tmps, asg, body, r1, r2⟩ := hY i as st x st' h E w (c.args.map a.eval) hS hG (by simpa using h2) hfr
                refine ⟨fun _ _ => trivial, ?_⟩
                rw [Oper.semAt_eq _ _ _ hd, run_yieldOp hop hc hv, r1, Oper.uponIn_round]
                refine ⟨fun h => (by cases h), roundIn_wideR (rd := none) (n := 0) (RoundIn.mono r2 ?_)⟩
                rintro e w' ⟨E', v, rfl, p1, p2⟩
                exact hK E' w' v p1 p2
              · cases hy
            · cases hy
          · cases hy
        · cases hy
      · cases h
    · cases h

theorem opsY_sound {C : Cfg} (hC : C.Ok) {w0 : World} {ih : CallF} (hF : SndF C w0 ih) (hY : SndY C w0 ih) (hg : GrwF ih) (nt : Nat) (all : Array Oper) (hcalm : calmA all.toList = true) (rd : Option Nat) (Q : Exit → Act → World → Prop) : ∀ (l : List Oper) (_ : ∀ o ∈ l, o ∈ all.toList) (fr : Fr) (st : St) (fr' : Fr) (st' : St), opsY C ih nt all.toList l fr st = some (fr', st') →
    ∀ E w a, Sim w0 E st w → GEnv C E → FRel E fr a.tmps → a.tmps.size = nt → Fresh E st st' → (∀ a' w', Done C w0 E st w nt a.defers fr' st' a' w' → Q .normal a' w') → wpListIn (wideR rd) 0 C.P all Q l a w := by
  intro l
  induction l with
  | nil =>
    intro _ fr st fr' st' h E w a hS hG hf hn _ hQ
    simp only [opsY, Option.some.injEq, Prod.mk.injEq] at h
    obtain ⟨rfl, rfl⟩ := h
    exact hQ a w ⟨E, .refl hS, hG, hf, hn, rfl⟩
  | cons o rest ihl =>
    intro hm fr st fr' st' h E w a hS hG hf hn hfr hQ
    simp only [opsY] at h
    cases hs : stepY C ih all.toList fr st o with
    | none => simp only [hs, reduceCtorEq] at h
    | some q =>
      obtain ⟨x, st1⟩ := q
      simp only [hs] at h
      cases hp : putA nt fr o.dst x with
      | none => simp only [hp, reduceCtorEq] at h
      | some fr1 =>
        simp only [hp] at h
        have hrest := opsY_grow hg rest fr1 st1 fr' st' h
        unfold wpListIn
        refine stepY_sound hC hF hY hcalm (hm o (List.mem_cons_self ..)) hs hS hG hf (hfr.left hrest.next) fun E1 w1 v h2 h3 => ?_
        obtain ⟨p1, p2, p3⟩ := putA_sound (v := v) hp (hf.mono h2.le) hn h3
        refine ihl (fun o h => hm o (List.mem_cons_of_mem _ h)) fr1 st1 fr' st' h E1 w1 _ h2.sim (hG.mono h2.le) p1 p2 (hfr.right h2) fun a' w' hd => hQ a' w' ?_
        rw [p3] at hd
        exact hd.pre h2

theorem regA_sound {C : Cfg} (hC : C.Ok) {w0 : World} {ih : CallF} (hF : SndF C w0 ih) (hY : SndY C w0 ih) (hg : GrwF ih) {nt id : Nat} {ops : Array Oper} {draw : Bool} (hcalm : calmA ops.toList = true) {fr fr' : Fr} {st st' : St} (h : regA C ih nt ops draw fr st = some (fr', st'))
    {rd : Option Nat} {E : Env} {w : World} {a : Act} (hS : Sim w0 E st w) (hG : GEnv C E) (hf : FRel E fr a.tmps) (hn : a.tmps.size = nt) (hfr : Fresh E st st') :
    (Code.region id ops draw).wpIn (wideR rd) 0 C.P (fun e a' w' => e = (Ex.normal).of ∧ DoneM C w0 E st w nt a.defers fr' st' a' w') a w := by
  unfold regA at h
  split at h
  · rename_i r hr
    cases h
    cases draw with
    | true =>
      refine wpIn_region_draw fun t => ops_in hcalm done_noLet _ _ _ ?_
      exact drawA_any hC hF hg nt ops _ hr hS hG hf hn hfr (fun a' w' hd => ⟨rfl, hd.toM⟩) (fun c a w h => by have h1 := h.1; cases h1) t
    | false =>
      refine wpIn_region (ops_in hcalm done_noLet _ _ _ ?_)
      have := opsA_sound hC hF hg nt ops (fun e a' w' => e = (Ex.normal).of ∧ DoneM C w0 E st w nt a.defers fr' st' a' w') ops.toList fr st fr' st' hr E w a hS hG hf hn hfr fun a' w' hd => ⟨rfl, hd.toM⟩
      rw [List.range_eq_range', ← Array.length_toList, wpOps_eq_wpList ops.toList 0 (by simp)]
      exact this
  · unfold yregA at h
    cases hb : (!draw || chainA true ops.toList 0) with
    | false => simp only [hb, cond_false, reduceCtorEq] at h
    | true =>
      simp only [hb, cond_true] at h
      refine wpIn_chain hC.mixed (fun hd => by rw [hd] at hb; simpa using hb) fun w' hw' => ?_
      have hS' : Sim w0 E st w' := by
        rcases hw' with rfl | rfl
        · exact hS
        · exact hS.drawn _
      refine opsY_sound hC hF hY hg nt ops hcalm rd _ ops.toList (fun _ h => h) fr st fr' st' h E w' a hS' hG hf hn hfr fun a' w2 hd => ⟨rfl, ?_⟩
      rcases hw' with rfl | rfl
      · exact hd.toM
      · exact (hd.pre (Post.drawn hS _)).toM

theorem putAll_sound {E : Env} {nt : Nat} : ∀ (ts : List Nat) (as : List AV) (fr fr' : Fr) (tmps : Array Value) (vs : List Value), putAll nt ts as fr = some fr' → FRel E fr tmps → tmps.size = nt → VsRel E as vs →
    FRel E fr' ((ts.zip vs).foldl (fun tmps (t, a) => tmps.setIfInBounds t a) tmps) ∧ ((ts.zip vs).foldl (fun tmps (t, a) => tmps.setIfInBounds t a) tmps).size = nt ∧ ts.length = vs.length
  | [], [], fr, fr', tmps, vs, h, hf, hn, hv => by cases hv; cases h; exact ⟨hf, hn, rfl⟩
  | [], _ :: _, _, _, _, _, h, _, _, _ => by cases h
  | _ :: _, [], _, _, _, _, h, _, _, _ => by cases h
  | t :: ts, a :: as, fr, fr', tmps, vs, h, hf, hn, hv => by
    cases hv with
    | cons h1 h2 =>
      simp only [putAll] at h
      split at h
      · rename_i fr1 hp
        have := putA_sound (a := { tmps := tmps, defers := [] }) hp hf hn h1
        obtain ⟨p1, p2, _⟩ := this
        obtain ⟨q1, q2, q3⟩ := putAll_sound ts as fr1 fr' _ _ h p1 p2 h2
        exact ⟨q1, q2, by simp [q3]⟩
      · cases h

theorem foldl_zip_array {ts : List Nat} {vs : Array Value} {tmps : Array Value} : ((ts.toArray.zip vs).foldl (fun tmps (t, a) => tmps.setIfInBounds t a) tmps) = ((ts.zip vs.toList).foldl (fun tmps (t, a) => tmps.setIfInBounds t a) tmps) := by
  rw [← Array.foldl_toList]
  simp

theorem roundEnd_sound {C : Cfg} {w0 : World} {E : Env} {st st' : St} {w : World} {i : Nat} {e : LoopState} {j : Option Code} {b : Bool} {r : AV} (hS : Sim w0 E st w) (h : roundEnd i e j b st = some (r, st')) (he : e = if j.isNone then .ready else .done) (hb : b = j.isNone) :
    ∃ v w', (Instr.endRound (E.ρ i) j).run C.P w = .ok v w' ∧ Post w0 E st w E st' w' ∧ VRel E r v := by
  unfold roundEnd at h
  split at h
  · rename_i fr nt ps asg body s pe hv
    cases h
    obtain ⟨hd, tmps, D, fn, h1, h2, h3, h4⟩ := hS.live i _ hv
    have hr := run_endRound (P := C.P) j h1
    have hlt : E.ρ i < w.heap.size := (Array.getElem?_eq_some_iff.1 h1).1
    refine ⟨_, _, hr, ?_, by rw [hb]; exact .bool _⟩
    refine Post.upd hS hv rfl _ rfl rfl rfl (by simp) (fun k hk => World.putObj_heap_other hk) ⟨tmps, D, fn, ?_, h2, h3, h4⟩ (fun _ => rfl)
    rw [World.putObj_heap_same hlt, he]
  · cases h

theorem roundA_sound {C : Cfg} {w0 : World} {ihC : CodeF} (h1 : SndC C w0 ihC) (g1 : GrwC ihC) {i : Nat} {as : List AV} {st : St} {r : AV} {st' : St} (h : roundA ihC (.yld i :: as) st = some (r, st')) {E : Env} {w : World} {vs : Array Value} (hS : Sim w0 E st w) (hG : GEnv C E) (hv : VsRel E as vs.toList) (hfr : Fresh E st st') :
    ∃ fn tmps asg body, (Instr.yield (E.ρ i) vs).run C.P w = .ok (.round (E.ρ i) fn tmps asg body) w ∧
      RoundIn Fence.wide 0 C.P (E.ρ i) fn tmps asg body w (fun e w' => ∃ E' v, e = .returned v ∧ Post w0 E st w E' st' w' ∧ VRel E' r v) := by
  simp only [roundA] at h
  split at h
  · rename_i fr nt ps asg body pe hvis
    obtain ⟨hd, tmps, D, fn, q1, q2, q3, q4⟩ := hS.live i _ hvis
    split at h
    · rename_i fr1 hput
      obtain ⟨p1, p2, p3⟩ := putAll_sound ps as fr fr1 tmps vs.toList hput q3 q2 hv
      have hsz : vs.size = ps.toArray.size := by simpa using p3.symm
      refine ⟨fn, _, asg, body, run_yield q1 hsz, ?_⟩
      simp only [foldl_zip_array]
      split at h
      · rename_i fr2 st2 hasg
        split at h
        · rename_i fr' nt' ps' asg' body' pe' hvis2
          have gp := Grow.put (vis_get hvis2) (.loop fr' nt' ps' asg' body' .busy pe')
          have key : ∀ (ex : Ex) fr3 st3 (e : LoopState) (j : Option Code) (b : Bool), ihC nt body fr2 (st2.put i (.loop fr' nt' ps' asg' body' .busy pe')) = some (ex, fr3, st3) → roundEnd i e j b st3 = some (r, st') → e = (if j.isNone then .ready else .done) → b = j.isNone →
              (ex = .normal ∧ j = none ∨ ex = .ret ∧ j = some .ret ∨ ∃ k, ex = .exit k ∧ j = some (.exit k)) →
              RoundIn Fence.wide 0 C.P (E.ρ i) fn ((ps.zip vs.toList).foldl (fun tmps (t, a) => tmps.setIfInBounds t a) tmps) asg body w (fun e w' => ∃ E' v, e = .returned v ∧ Post w0 E st w E' st' w' ∧ VRel E' r v) := by
            intro ex fr3 st3 e j b hbody hend he hb hex
            have gb := g1 _ _ _ _ _ _ _ hbody
            have ge := roundEnd_grow hend
            have hf2 : Fresh E st st2 := hfr.left (Nat.le_trans gp.next (Nat.le_trans gb.next ge.next))
            refine roundIn_of_wpIn trivial ?_
            refine wpIn_mono (h1 nt asg fr1 st .normal fr2 st2 hasg (some (E.ρ i)) E w { tmps := _, defers := [] } (fun l hl => by cases hl; exact ⟨_, q1⟩) hS hG p1 p2 hf2) ?_
            rintro e1 a1 w1 ⟨rfl, E1, P1, hG1, hf1, hn1, Ds, hd1, hm1⟩
            show ∃ w₂, (Instr.beginRound (E.ρ i)).run C.P w1 = .ok () w₂ ∧ _
            have hρ1 : E1.ρ i = E.ρ i := P1.le.ρ i hd
            obtain ⟨hdd, tmps', D', fn', r1, r2, r3, r4⟩ := P1.sim.live i _ hvis2
            rw [hρ1] at r1
            have hlt : E.ρ i < w1.heap.size := (Array.getElem?_eq_some_iff.1 r1).1
            refine ⟨_, run_beginRound r1 rfl, ?_⟩
            have P2 : Post w0 E1 st2 w1 E1 (st2.put i (.loop fr' nt' ps' asg' body' .busy pe')) (w1.putObj (E.ρ i) (.loop ⟨.busy, pe', fn', tmps', ps'.toArray, asg', body', D'⟩)) := by
              refine Post.upd P1.sim hvis2 rfl _ rfl rfl rfl (by simp) (fun k hk => World.putObj_heap_other (by rw [hρ1] at hk; exact hk)) ⟨tmps', D', fn', ?_, r2, r3, r4⟩ (fun _ => rfl)
              rw [hρ1, World.putObj_heap_same hlt]
            have P12 := P1.trans P2
            have hf3 : Fresh E1 (st2.put i (.loop fr' nt' ps' asg' body' .busy pe')) st3 := by
              intro z z1 z2 zd
              exact (hfr.right P12) z z1 (Nat.lt_of_lt_of_le z2 ge.next) zd
            refine wpIn_mono (h1 nt body fr2 _ ex fr3 st3 hbody (some (E.ρ i)) E1 _ a1 (fun l hl => by cases hl; exact ⟨_, World.putObj_heap_same hlt⟩) P2.sim hG1 hf1 hn1 hf3) ?_
            rintro e2 a2 w2 ⟨rfl, E2, P3, hG2, hff2, hn2, Ds2, hd2, hm2⟩
            have hρ2 : E2.ρ i = E.ρ i := (P3.le.ρ i (P1.le.dom i hd)).trans hρ1
            obtain ⟨v, w3, e1, e2, e3⟩ := roundEnd_sound (C := C) P3.sim hend he hb
            rw [hρ2] at e1
            have hR : ∃ E' v', Ending.returned v = .returned v' ∧ Post w0 E st w E' st' w3 ∧ VRel E' r v' := ⟨E2, v, rfl, (P12.trans P3).trans e2, e3⟩
            rcases hex with ⟨rfl, rfl⟩ | ⟨rfl, rfl⟩ | ⟨k, rfl, rfl⟩
            · exact ⟨v, w3, e1, hR⟩
            · exact ⟨v, w3, e1, hR⟩
            · exact ⟨v, w3, e1, hR⟩
          split at h
          · rename_i hb; exact key _ _ _ _ _ _ hb h rfl rfl (.inl ⟨rfl, rfl⟩)
          · rename_i hb; exact key _ _ _ _ _ _ hb h rfl rfl (.inr (.inl ⟨rfl, rfl⟩))
          · rename_i hb; exact key _ _ _ _ _ _ hb h rfl rfl (.inr (.inr ⟨_, rfl, rfl⟩))
          · cases h
        · cases h
      · cases h
    · cases h
  · cases h

theorem overA_sound {C : Cfg} (hC : C.Ok) {w0 : World} {ihF : CallF} (h2 : SndF C w0 ihF) (g2 : GrwF ihF) {nt : Nat} {g : Operand} {ps : Array Tmp} {asg body : Code} {fr : Fr} {st : St} {ex : Ex} {fr' : Fr} {st' : St} (h : overA C ihF nt g ps asg body fr st = some (ex, fr', st'))
    {rd : Option Nat} {E : Env} {w : World} {a : Act} (hR : RdOk rd w) (hS : Sim w0 E st w) (hG : GEnv C E) (hf : FRel E fr a.tmps) (hn : a.tmps.size = nt) (hfr : Fresh E st st') :
    (Code.rangeFunc g ps asg body).wpIn (wideR rd) 0 C.P (fun e a' w' => e = ex.of ∧ DoneM C w0 E st w nt a.defers fr' st' a' w') a w := by
  unfold overA at h
  split at h
  · rename_i gf first captured hg
    split at h
    · rename_i q hfn
      obtain ⟨x, c⟩ := q
      obtain ⟨n1, n2, n3⟩ := hC.fn gf x c hfn
      have hne : gf ≠ yno := fun e => by rw [e, show C.fn yno = none from hC.yno] at hfn; cases hfn
      split at h
      · rename_i i st1 hnew
        split at h
        · rename_i rv st2 hcall
          have gcall := g2 _ _ _ _ _ hcall
          -- what is laid
          unfold newBlk at hnew
          cases hh : hidden st.hid st.next with
          | true => simp only [hh, cond_true, reduceCtorEq] at hnew
          | false =>
          simp only [hh, cond_false, Option.some.injEq, Prod.mk.injEq] at hnew
          obtain ⟨rfl, rfl⟩ := hnew
          have hfin : ∃ (s : LoopState) (frL : Fr) (ntL : Nat) (psL : List Nat) (aL bL : Code) (pend : Option Code), st2.vis st.next = some (.loop frL ntL psL aL bL s pend) ∧ s ≠ .busy ∧
              fr' = fr ∧ st' = st2.put st.next (.loop frL ntL psL aL bL .exhausted pend) ∧ ((pend = none ∧ ex = .normal) ∨ (pend = some .ret ∧ ex = .ret) ∨ (∃ k, pend = some (.exit k) ∧ ex = .exit k)) := by
            split at h
            · cases h
            · rename_i hnb hvis
              simp only [Option.some.injEq, Prod.mk.injEq] at h
              obtain ⟨rfl, rfl, rfl⟩ := h
              exact ⟨_, _, _, _, _, _, _, hvis, fun e => by subst e; exact hnb rfl, rfl, rfl, .inl ⟨rfl, rfl⟩⟩
            · rename_i hnb hvis
              simp only [Option.some.injEq, Prod.mk.injEq] at h
              obtain ⟨rfl, rfl, rfl⟩ := h
              exact ⟨_, _, _, _, _, _, _, hvis, fun e => by subst e; exact hnb rfl, rfl, rfl, .inr (.inl ⟨rfl, rfl⟩)⟩
            · rename_i hnb hvis
              simp only [Option.some.injEq, Prod.mk.injEq] at h
              obtain ⟨rfl, rfl, rfl⟩ := h
              exact ⟨_, _, _, _, _, _, _, hvis, fun e => by subst e; exact hnb rfl, rfl, rfl, .inr (.inr ⟨_, rfl, rfl⟩)⟩
            · cases h
          obtain ⟨s, frL, ntL, psL, aL, bL, pend, hvis2, hbusy, hfrE, hstE, hfin⟩ := hfin
          have hfrE := hfrE.symm
          subst hfrE
          subst hstE
          have gput := Grow.put (vis_get hvis2)
          have hn2 : st2.next ≤ (st2.put st.next (.loop frL ntL psL aL bL .exhausted pend)).next := (gput _).next
          have hn12 : st.next + 1 ≤ st2.next := gcall.next
          have hnd : ¬ E.dom st.next := fun hd => hfr st.next (Nat.le_refl _) (by omega) hd
          have hval := evalO_sound hG hf hg
          -- from the world behind the laying on
          have core : ∀ (fn : Nat) (wL : World) (D : Nat) (mk : List Nat), Post w0 E st w E st wL → MarksOk w.heap.size E st wL mk →
              (Instr.enterLoop fn a.tmps ps asg body rd).run C.P w = .ok (wL.heap.size, marks mk) (wL.alloc (.loop ⟨.ready, none, fn, a.tmps, ps, asg, body, D⟩)) →
              ∃ (l : Nat) (mark : List Deferred) (w₁ : World) (d : Deferred) (w₁' : World) (f : FuncId) (args : Array Value) (w₂ : World),
                (Instr.enterLoop fn a.tmps ps asg body (wideR rd).round).run C.P w = .ok (l, mark) w₁ ∧
                (resolve a.eval (rangeCall g l) 0).run C.P w₁ = .ok d w₁' ∧
                (∀ f', Target.leads C.P w₁' d.target d.args = some f' → (wideR rd).fn f') ∧
                (invoke d.target d.args).run C.P w₁' = .ok (.enter f args) w₂ ∧
                ((wideR rd).depth.isSome = true → 1 ≤ 0) ∧
                CallsIn (wideR rd) (0 - 1) C.P f args w₂ (rangePost (wideR rd) 0 C.P l (fun e a' w' => e = ex.of ∧ DoneM C w0 E st w nt a.defers fr (st2.put st.next (.loop frL ntL psL aL bL .exhausted pend)) a' w') { a with defers := mark ++ a.defers }) := by
            intro fn wL D mk PL mkOk hen
            obtain ⟨wA, hwA⟩ : ∃ wA, wL.alloc (.loop ⟨.ready, none, fn, a.tmps, ps, asg, body, D⟩) = wA := ⟨_, rfl⟩
            have hA : wA.heap = wL.heap.push (.loop ⟨.ready, none, fn, a.tmps, ps, asg, body, D⟩) := by rw [← hwA]; rfl
            have PA : Post w0 E st wL (E.add st.next wL.heap.size 0) (st.new (.loop fr nt ps.toList asg body .ready none)) wA := by
              refine Post.alloc PL.sim hnd hh _ (.loop ⟨.ready, none, fn, a.tmps, ps, asg, body, D⟩) 0 wA (by rw [← hwA]; rfl) (by rw [← hwA]; rfl) (by rw [← hwA]; rfl) hA ⟨a.tmps, D, fn, ?_, hn, fun t r ht => ?_, ?_⟩
              · simp [Env.add, hA]
              · obtain ⟨v, v1, v2⟩ := hf t r ht
                exact ⟨v, v1, v2.mono (Env.le_add hnd)⟩
              · simp only [Env.add, if_true]; exact PL.sim.below.size
            have PLA := PL.trans PA
            have mkA := mkOk.post PA
            have hρ : (E.add st.next wL.heap.size 0).ρ st.next = wL.heap.size := by simp [Env.add]
            have hdom : (E.add st.next wL.heap.size 0).dom st.next := .inl rfl
            have hGA := hG.mono PLA.le
            generalize hv : a.eval g = gv at hval
            cases hval with
            | fn _ _ _ us ws k1 k2 =>
            have hrel : VsRel (E.add st.next wL.heap.size 0) ((first ++ [.yld st.next]) ++ captured) ((us ++ #[Value.func (.yield wL.heap.size) #[] #[]]) ++ ws).toList := by
              simp only [Array.toList_append]
              refine ((k1.mono PLA.le).append ?_).append (k2.mono PLA.le)
              refine .cons ?_ .nil
              have := VRel.yld (E := E.add st.next wL.heap.size 0) st.next hdom
              rw [hρ] at this
              exact this
            have hcalls := h2 gf _ _ _ _ hcall hne _ wA _ PA.sim hGA hrel (fun z z1 z2 zd => (hfr.right PLA) z z1 (by omega) zd)
            have hres : (resolve a.eval (rangeCall g wL.heap.size) 0).run C.P wA = .ok { target := .fn (.func gf) ws, args := us ++ #[Value.func (.yield wL.heap.size) #[] #[]] } wA := by
              simp only [resolve, hv]
              simp [go_sem, Deferred.ofValue]
            have hinv : (invoke (Target.fn (.func gf) ws) (us ++ #[Value.func (.yield wL.heap.size) #[] #[]])).run C.P wA = .ok (.enter gf ((us ++ #[Value.func (.yield wL.heap.size) #[] #[]]) ++ ws)) wA := by
              simp only [invoke]
              exact run_callFunc n1 n2 n3 _
            have hdep : ((wideR rd).depth.isSome = true → 1 ≤ 0) := fun h => by cases h
            rw [hwA] at hen
            have hlast : Calls C.P gf ((us ++ #[Value.func (.yield wL.heap.size) #[] #[]]) ++ ws) wA (rangePost (wideR rd) 0 C.P wL.heap.size (fun e a' w' => e = ex.of ∧ DoneM C w0 E st w nt a.defers fr (st2.put st.next (.loop frL ntL psL aL bL .exhausted pend)) a' w') { a with defers := marks mk ++ a.defers }) := by
              refine hcalls.mono ?_
              rintro e w3 ⟨E3, v3, rfl, P3, _⟩
              have hρ3 : E3.ρ st.next = wL.heap.size := (P3.le.ρ _ hdom).trans hρ
              obtain ⟨hd3, tmps3, D3, fn3, r1, r2, r3, r4⟩ := P3.sim.live _ _ hvis2
              rw [hρ3] at r1
              have hlt : wL.heap.size < w3.heap.size := (Array.getElem?_eq_some_iff.1 r1).1
              have Pend : Post w0 E3 st2 w3 E3 (st2.put st.next (.loop frL ntL psL aL bL .exhausted pend)) (w3.putObj wL.heap.size (.loop ⟨.exhausted, pend, fn3, tmps3, psL.toArray, aL, bL, D3⟩)) := by
                refine Post.upd P3.sim hvis2 rfl _ rfl rfl rfl (by simp) (fun k hk => World.putObj_heap_other (by rw [hρ3] at hk; exact hk)) ⟨tmps3, D3, fn3, ?_, r2, r3, r4⟩ (fun _ => rfl)
                rw [hρ3, World.putObj_heap_same hlt]
              refine ⟨pend, _, run_endLoop r1 (by simpa using hbusy), ?_⟩
              have P4 := (PLA.trans P3).trans Pend
              have hdone : DoneM C w0 E st w nt a.defers fr (st2.put st.next (.loop frL ntL psL aL bL .exhausted pend)) { a with defers := marks mk ++ a.defers } (w3.putObj wL.heap.size (.loop ⟨.exhausted, pend, fn3, tmps3, psL.toArray, aL, bL, D3⟩)) :=
                ⟨E3, P4, hG.mono P4.le, hf.mono P4.le, hn, mk, rfl, (mkA.post P3).post Pend⟩
              rcases hfin with ⟨rfl, rfl⟩ | ⟨rfl, rfl⟩ | ⟨k, rfl, rfl⟩
              · exact ⟨rfl, hdone⟩
              · exact wpIn_ret ⟨rfl, hdone⟩
              · exact wpIn_exit ⟨rfl, hdone⟩
            exact ⟨wL.heap.size, marks mk, wA, { target := .fn (.func gf) ws, args := us ++ #[Value.func (.yield wL.heap.size) #[] #[]] }, wA, gf, (us ++ #[Value.func (.yield wL.heap.size) #[] #[]]) ++ ws, wA, hen, hres, fun _ _ => trivial, hinv, hdep, callsIn_wideR.2 hlast⟩
          refine wpIn_rangeFunc fun fn _ => ?_
          cases rd with
          | none =>
            refine core fn (w.alloc (.deferred (some []))) w.heap.size [w.heap.size] (Post.beside hS _) ⟨by simp, fun D hD => ?_⟩ ?_
            · simp only [List.mem_singleton] at hD
              subst hD
              refine ⟨Nat.le_refl _, World.alloc_heap_new w _, ?_⟩
              rintro ⟨i, b, hi, hro, he⟩
              have := (hS.live i b hi).2.lt
              omega
            · have := run_enterLoop_outer (P := C.P) (w := w) fn a.tmps ps asg body
              rw [this, World.size_alloc]
              rfl
          | some l0 =>
            obtain ⟨r0, hr0⟩ := hR l0 rfl
            exact core fn w r0.defers [] (.refl hS) (.nil _ _ _ _) (run_enterLoop_inner hr0 fn a.tmps ps asg body)
        · cases h
      · cases h
    · cases h
  · cases h

theorem codeA_sound {C : Cfg} (hC : C.Ok) {w0 : World} {ihC : CodeF} {ihF : CallF} (h1 : SndC C w0 ihC) (h2 : SndF C w0 ihF) (h3 : SndY C w0 ihF) (g1 : GrwC ihC) (g2 : GrwF ihF) : SndC C w0 (codeA C ihC ihF) := by
  intro nt c fr st ex fr' st' h rd E w a hR hS hG hf hn hfr
  unfold codeA at h
  split at h
  · cases h; exact wpIn_skip ⟨rfl, E, .refl hS, hG, hf, hn, [], rfl, .nil _ _ _ _⟩
  · cases h; exact wpIn_label ⟨rfl, E, .refl hS, hG, hf, hn, [], rfl, .nil _ _ _ _⟩
  · rename_i id ops draw
    cases hc : calmA ops.toList with
    | false => simp only [hc, cond_false, reduceCtorEq] at h
    | true =>
      simp only [hc, cond_true] at h
      cases ho : regA C ihF nt ops draw fr st with
      | none => simp only [ho, reduceCtorEq] at h
      | some q =>
        obtain ⟨fr1, st1⟩ := q
        simp only [ho, Option.some.injEq, Prod.mk.injEq] at h
        obtain ⟨rfl, rfl, rfl⟩ := h
        exact regA_sound hC h2 h3 g2 hc ho hS hG hf hn hfr
  · rename_i x y
    refine wpIn_seq ?_
    cases hx : ihC nt x fr st with
    | none => simp only [hx, reduceCtorEq] at h
    | some q =>
      obtain ⟨e1, fr1, st1⟩ := q
      simp only [hx] at h
      have hfr1 : Fresh E st st1 := by
        cases e1 with
        | normal => exact hfr.left (g1 _ _ _ _ _ _ _ h).next
        | exit id => simp only [Option.some.injEq, Prod.mk.injEq] at h; obtain ⟨rfl, rfl, rfl⟩ := h; exact hfr
        | ret => simp only [Option.some.injEq, Prod.mk.injEq] at h; obtain ⟨rfl, rfl, rfl⟩ := h; exact hfr
      have hbody := h1 nt x fr st e1 fr1 st1 hx rd E w a hR hS hG hf hn hfr1
      refine wpIn_mono hbody ?_
      rintro e a1 w1 ⟨rfl, E1, p1, p2, p3, p4, Ds, p5, p6⟩
      cases e1 with
      | normal =>
        simp only at h
        have := h1 nt y fr1 st1 ex fr' st' h rd E1 w1 a1 (hR.post p1) p1.sim p2 p3 p4 (hfr.right p1)
        refine wpIn_mono this ?_
        rintro e a' w' ⟨he, hd⟩
        rw [p5] at hd
        exact ⟨he, .pre p1 p6 hd⟩
      | exit id =>
        simp only [Option.some.injEq, Prod.mk.injEq] at h
        obtain ⟨rfl, rfl, rfl⟩ := h
        exact ⟨rfl, E1, p1, p2, p3, p4, Ds, p5, p6⟩
      | ret =>
        simp only [Option.some.injEq, Prod.mk.injEq] at h
        obtain ⟨rfl, rfl, rfl⟩ := h
        exact ⟨rfl, E1, p1, p2, p3, p4, Ds, p5, p6⟩
  · rename_i x y z
    split at h
    · rename_i hx
      have := inv_bool (evalO_sound hG hf hx)
      exact wpIn_cond_true this (h1 nt y fr st ex fr' st' h rd E w a hR hS hG hf hn hfr)
    · rename_i hx
      have := inv_bool (evalO_sound hG hf hx)
      exact wpIn_cond_false this (h1 nt z fr st ex fr' st' h rd E w a hR hS hG hf hn hfr)
    · cases h
  · rename_i id b
    refine wpIn_block ?_
    cases hb : ihC nt b fr st with
    | none => simp only [hb, reduceCtorEq] at h
    | some q =>
      obtain ⟨e1, fr1, st1⟩ := q
      simp only [hb] at h
      have hst : st1 = st' := by
        cases e1 with
        | normal => simp only [Option.some.injEq, Prod.mk.injEq] at h; exact h.2.2
        | exit k =>
          simp only [Tr.cbeq] at h
          by_cases hk : k = id
          · rw [if_pos hk] at h; simp only [Option.some.injEq, Prod.mk.injEq] at h; exact h.2.2
          · rw [if_neg hk] at h; simp only [Option.some.injEq, Prod.mk.injEq] at h; exact h.2.2
        | ret => simp only [Option.some.injEq, Prod.mk.injEq] at h; exact h.2.2
      have hbody := h1 nt b fr st e1 fr1 st1 hb rd E w a hR hS hG hf hn (hst ▸ hfr)
      refine wpIn_mono hbody ?_
      rintro e a1 w1 ⟨rfl, hd⟩
      cases e1 with
      | normal =>
        simp only [Option.some.injEq, Prod.mk.injEq] at h
        obtain ⟨rfl, rfl, rfl⟩ := h
        exact ⟨rfl, hd⟩
      | exit k =>
        simp only [Tr.cbeq] at h
        by_cases hk : k = id
        · rw [if_pos hk] at h
          simp only [Option.some.injEq, Prod.mk.injEq] at h
          obtain ⟨rfl, rfl, rfl⟩ := h
          show if k = id then _ else _
          rw [if_pos hk]
          exact ⟨rfl, hd⟩
        · rw [if_neg hk] at h
          simp only [Option.some.injEq, Prod.mk.injEq] at h
          obtain ⟨rfl, rfl, rfl⟩ := h
          show if k = id then _ else _
          rw [if_neg hk]
          exact ⟨rfl, hd⟩
      | ret =>
        simp only [Option.some.injEq, Prod.mk.injEq] at h
        obtain ⟨rfl, rfl, rfl⟩ := h
        exact ⟨rfl, hd⟩
  · rename_i b
    exact wpIn_loop_rounds maxRounds (loopA_sound h1 g1 nt b maxRounds fr st ex fr' st' h rd E w a hR hS hG hf hn hfr)
  · rename_i b
    refine wpIn_scope_straight ?_
    refine wpIn_mono (h1 nt b fr st ex fr' st' h rd E w a hR hS hG hf hn hfr) ?_
    rintro e a1 w1 ⟨rfl, hd⟩
    cases ex <;> exact ⟨rfl, hd⟩
  · cases h; exact wpIn_exit ⟨rfl, E, .refl hS, hG, hf, hn, [], rfl, .nil _ _ _ _⟩
  · cases h; exact wpIn_ret ⟨rfl, E, .refl hS, hG, hf, hn, [], rfl, .nil _ _ _ _⟩
  · exact overA_sound hC h2 g2 h hR hS hG hf hn hfr
  · cases h

def resF (tmps : Array Value) : ResultVar → Sem Value
  | .tmp t => pure (tmps.getD t undef)
  | .cell a t => do loadVar t (← asAddr (tmps.getD a undef))

theorem resA_sound {C : Cfg} (hC : C.Ok) {w0 : World} {E : Env} {st : St} {w : World} (hS : Sim w0 E st w) {fr : Fr} {tmps : Array Value} (hf : FRel E fr tmps) : ∀ (rs : List ResultVar) (l : List AV), resA C fr st rs = some l →
    ∃ vs : List Value, (rs.mapM (resF tmps)).run C.P w = .ok vs w ∧ VsRel E l vs := by
  intro rs
  induction rs with
  | nil => intro l h; simp only [resA, Option.some.injEq] at h; subst h; exact ⟨[], rfl, .nil⟩
  | cons r rs ih =>
    intro l h
    cases r with
    | tmp t =>
      simp only [resA] at h
      cases ht : fr.get t with
      | none => simp only [ht, reduceCtorEq] at h
      | some a =>
        cases hr : resA C fr st rs with
        | none => simp only [ht, hr, reduceCtorEq] at h
        | some as =>
          simp only [ht, hr, Option.some.injEq] at h
          subst h
          obtain ⟨v, h1, h2⟩ := hf t a ht
          obtain ⟨vs, h3, h4⟩ := ih as hr
          refine ⟨v :: vs, ?_, .cons h2 h4⟩
          have hv : tmps.getD t undef = v := by simp [Array.getD_eq_getD_getElem?, h1]
          simp only [List.mapM_cons, resF, Sem.run_bind, Sem.run_pure, Result.andThen_ok, hv, h3]
    | cell p t =>
      simp only [resA] at h
      split at h
      · rename_i i off hp
        cases hl : ldVar C st t i off with
        | none => simp only [hl, reduceCtorEq] at h
        | some a =>
          cases hr : resA C fr st rs with
          | none => simp only [hl, hr, reduceCtorEq] at h
          | some as =>
            simp only [hl, hr, Option.some.injEq] at h
            subst h
            obtain ⟨v, h1, h2⟩ := hf p _ hp
            cases h2 with
            | ptr _ _ hd =>
            obtain ⟨u, h5, h6⟩ := ldVar_sound hC hS hl
            obtain ⟨vs, h3, h4⟩ := ih as hr
            refine ⟨u :: vs, ?_, .cons h6 h4⟩
            have hv : tmps.getD p undef = .pointer (some ⟨E.ρ i, off, none⟩) := by simp [Array.getD_eq_getD_getElem?, h1]
            simp only [List.mapM_cons, resF, Sem.run_bind, Sem.run_pure, Result.andThen_ok, hv, asAddr, h5, h3]
      · cases h

theorem results_sound {C : Cfg} (hC : C.Ok) {w0 : World} {E : Env} {st : St} {w : World} (hS : Sim w0 E st w) {fr : Fr} {tmps : Array Value} (hf : FRel E fr tmps) {x : Func} {l : List AV} (h : resA C fr st x.results.toList = some l) :
    ∃ v, (results x tmps).run C.P w = .ok v w ∧ VRel E (oneA l) v := by
  obtain ⟨vs, h1, h2⟩ := resA_sound hC hS hf _ _ h
  have hm : (x.results.mapM (resF tmps)).run C.P w = .ok vs.toArray w := by
    rw [Array.mapM_eq_mapM_toList]
    simp only [Sem.run_map, h1, Result.andThen_ok]
  have hres : (results x tmps).run C.P w = .ok (if h : vs.toArray.size = 1 then vs.toArray[0] else .tuple vs.toArray) w := by
    have e : results x tmps = (do let vs ← x.results.mapM (resF tmps); pure (if h : vs.size = 1 then vs[0] else .tuple vs)) := rfl
    rw [e]
    simp only [Sem.run_bind, hm, Result.andThen_ok, Sem.run_pure]
  refine ⟨_, hres, ?_⟩
  cases h2 with
  | nil => exact .tup _ _ .nil
  | cons ha hs =>
    cases hs with
    | nil => exact ha
    | cons hb hs2 => exact .tup _ _ (.cons ha (.cons hb hs2))

theorem callFA_sound {C : Cfg} (hC : C.Ok) {w0 : World} {X : CallF} (hX : SndF C w0 X) {ihC : CodeF} (h1 : SndC C w0 ihC) : SndF C w0 (callFA C X ihC) := by
  intro f args st r st' h hyn E w vs hS hG hv hfr
  unfold callFA at h
  simp only [Tr.cbeq] at h
  rw [if_neg hyn] at h
  cases hfn : C.fn f with
  | none => simp only [hfn] at h; exact hX _ _ _ _ _ h hyn E w vs hS hG hv hfr
  | some p =>
    obtain ⟨x, c⟩ := p
    obtain ⟨q1, q2, q3⟩ := hC.fn f x c hfn
    simp only [hfn] at h
    cases hb : Nat.ble args.length x.ntmps with
    | false => simp only [hb, cond_false, reduceCtorEq] at h
    | true =>
      have hle := Nat.le_of_ble_eq_true hb
      simp only [hb, cond_true] at h
      have hlen := hv.length
      simp only [Array.length_toList] at hlen
      refine callsIn_wideR.1 (callsIn_of_wp_marks (F := wideR none) (n := 0) q1 q3 trivial ?_)
      let stR : St := { st with low := st.next }
      have hSR : Sim w0 E stR w := hS.same rfl rfl (Nat.le_refl _)
      cases hc : ihC x.ntmps c (Fr.ofList args 0 .empty) stR with
      | none => simp only [stR] at hc; simp only [hc, reduceCtorEq] at h
      | some q =>
        obtain ⟨ex, fr1, st1⟩ := q
        let a0 : Act := { tmps := vs ++ Array.replicate (x.ntmps - vs.size) undef, defers := [] }
        have hf0 : FRel E (Fr.ofList args 0 .empty) a0.tmps := by
          intro t a ht
          rw [Fr.get_ofList] at ht
          split at ht
          · obtain ⟨v, h3, h4⟩ := hv.get _ a ht
            simp only [Nat.sub_zero, Array.getElem?_toList] at h3
            refine ⟨v, ?_, h4⟩
            have hlt : t < vs.size := by omega
            simp only [a0]
            rw [Array.getElem?_append_left hlt]
            exact h3
          · simp [Fr.get_empty] at ht
        have hn0 : a0.tmps.size = x.ntmps := by simp [a0]; omega
        have hc0 := hc
        simp only [stR] at hc
        simp only [hc] at h
        have hnx : st'.next = st1.next := by
          have hres0 : ∀ l, (bif scalars l && Nat.ble st.next st1.low then some (oneA l, { st with next := st1.next }) else some (oneA l, { st1 with low := bif Nat.ble st.low st1.low then st.low else st1.low })) = some (r, st') → st'.next = st1.next := by
            intro l hh
            cases hk : (scalars l && Nat.ble st.next st1.low) with
            | true => simp only [hk, cond_true, Option.some.injEq, Prod.mk.injEq] at hh; rw [← hh.2]
            | false => simp only [hk, cond_false, Option.some.injEq, Prod.mk.injEq] at hh; rw [← hh.2]
          cases ex with
          | exit k => simp only [reduceCtorEq] at h
          | normal =>
            simp only at h
            cases hl : resA C fr1 st1 x.results.toList with
            | none => simp only [hl, reduceCtorEq] at h
            | some l => simp only [hl] at h; exact hres0 l h
          | ret =>
            simp only at h
            cases hl : resA C fr1 st1 x.results.toList with
            | none => simp only [hl, reduceCtorEq] at h
            | some l => simp only [hl] at h; exact hres0 l h
        have hfr1 : Fresh E stR st1 := fun i h1 h2 => hfr i h1 (by omega)
        have hbody := h1 x.ntmps c _ stR ex fr1 st1 hc0 none E w a0 (.none w) hSR hG hf0 hn0 hfr1
        refine wpIn_mono hbody ?_
        rintro e a1 w1' ⟨rfl, E1, p1', p2, p3, p4, Ds, p5, p6⟩
        rw [List.append_nil] at p5
        have p1 := p1'.shut (Nat.le_trans hS.below.size (Nat.le_refl _)) p6
        generalize hw1 : Ax.shut w1' Ds = w1 at p1
        have hres : ∀ l, resA C fr1 st1 x.results.toList = some l → (bif scalars l && Nat.ble st.next st1.low then some (oneA l, { st with next := st1.next }) else some (oneA l, { st1 with low := bif Nat.ble st.low st1.low then st.low else st1.low })) = some (r, st') →
            ∃ v, (results x a1.tmps).run C.P w1 = .ok v w1 ∧ ∃ E' u, Ending.returned v = .returned u ∧ Post w0 E st w E' st' w1 ∧ VRel E' r u := by
          intro l hl hh
          obtain ⟨v, r1, r2⟩ := results_sound hC p1.sim p3 hl
          refine ⟨v, r1, E1, v, rfl, ?_, ?_⟩
          · cases hk : (scalars l && Nat.ble st.next st1.low) with
            | true =>
              simp only [hk, cond_true, Option.some.injEq, Prod.mk.injEq] at hh
              obtain ⟨rfl, rfl⟩ := hh
              simp only [Bool.and_eq_true] at hk
              have hlow := Nat.le_of_ble_eq_true hk.2
              have hvis : ∀ i b, St.vis { st with next := st1.next } i = some b → st1.vis i = some b ∧ st.vis i = some b := by
                intro i b hi
                have hi' : st.vis i = some b := by simpa [St.vis_eq] using hi
                have hlt := hS.bnd i b (Sim.vis_of hi').2
                have hkeep := p1.keep i hlt (by omega)
                refine ⟨?_, hi'⟩
                rw [St.vis_eq] at hi' ⊢
                have hh2 : st1.hid = st.hid := p1.hid
                rw [hh2, hkeep]; exact hi'
              refine ⟨p1.le, p1.dom, p1.next, ⟨p1.sim.below, fun i b hi => p1.sim.live i b (hvis i b hi).1, fun i j bi bj hi hj => p1.sim.inj i j bi bj (hvis i bi hi).1 (hvis j bj hj).1, fun i b hi => Nat.lt_of_lt_of_le (hS.bnd i b hi) p1.next⟩, p1.size, p1.frame, fun k hk2 ho => ?_, Nat.le_refl _, fun _ _ _ => rfl, rfl, p1.loops⟩
              obtain ⟨i, b, hi, hro, he⟩ := ho
              have := (hvis i b hi).2
              exact ⟨i, b, this, hro, by rw [← he]; exact (p1.le.ρ i (hS.live i b this).1).symm⟩
            | false =>
              simp only [hk, cond_false, Option.some.injEq, Prod.mk.injEq] at hh
              obtain ⟨rfl, rfl⟩ := hh
              have hlo : (bif Nat.ble st.low st1.low then st.low else st1.low) ≤ st.low ∧ (bif Nat.ble st.low st1.low then st.low else st1.low) ≤ st1.low := by
                cases hq : Nat.ble st.low st1.low with
                | true => have := Nat.le_of_ble_eq_true hq; simp; omega
                | false =>
                  have : ¬ st.low ≤ st1.low := fun h' => by rw [Nat.ble_eq_true_of_le h'] at hq; cases hq
                  simp; omega
              have hvis : ∀ i, St.vis { st1 with low := bif Nat.ble st.low st1.low then st.low else st1.low } i = st1.vis i := fun i => by simp [St.vis_eq]
              refine ⟨p1.le, p1.dom, p1.next, p1.sim.same rfl rfl (Nat.le_refl _), p1.size, p1.frame, fun k hk2 ho => ?_, hlo.1, fun i hi hl2 => p1.keep i hi (by simp only at hl2; omega), p1.hid, p1.loops⟩
              obtain ⟨i, b, hi, hro, he⟩ := ho
              rw [hvis] at hi
              exact p1.cover k hk2 ⟨i, b, hi, hro, he⟩
          · cases hk : (scalars l && Nat.ble st.next st1.low) with
            | true => simp only [hk, cond_true, Option.some.injEq, Prod.mk.injEq] at hh; rw [← hh.1]; exact r2
            | false => simp only [hk, cond_false, Option.some.injEq, Prod.mk.injEq] at hh; rw [← hh.1]; exact r2
        cases ex with
        | exit k => simp only [reduceCtorEq] at h
        | normal =>
          simp only at h
          cases hl : resA C fr1 st1 x.results.toList with
          | none => simp only [hl, reduceCtorEq] at h
          | some l => simp only [hl] at h; show LeavesInM _ _ _ _ _ _ a1.defers .returning w1'; rw [p5]; exact leaves_marks Ds w1' p6.1 (fun D hD => (p6.2 D hD).2.1) (hw1 ▸ hres l hl h)
        | ret =>
          simp only at h
          cases hl : resA C fr1 st1 x.results.toList with
          | none => simp only [hl, reduceCtorEq] at h
          | some l => simp only [hl] at h; show LeavesInM _ _ _ _ _ _ a1.defers .returning w1'; rw [p5]; exact leaves_marks Ds w1' p6.1 (fun D hD => (p6.2 D hD).2.1) (hw1 ▸ hres l hl h)

end Go.Proofs.YtfamacgopcfhhaaGreatDoor.Ax
