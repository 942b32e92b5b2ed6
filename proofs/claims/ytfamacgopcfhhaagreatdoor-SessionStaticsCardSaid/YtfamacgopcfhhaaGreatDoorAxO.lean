/-
  AN EXECUTOR OVER AN ABSTRACT MEMORY, PART O: the operations of a region, in the order of the text.
-/
import Derived.Test.YtfamacgopcfhhaaGreatDoorAxP
import Derived.StillTail
namespace Go.Proofs.YtfamacgopcfhhaaGreatDoor.Ax
open Go.RowKit

inductive Ex where
  | normal
  | exit (id : Nat)
  | ret

def Ex.of : Ex → Exit
  | .normal => .normal
  | .exit id => .exit id
  | .ret => .ret

/-- A frame's slot is written; none, if there is no such slot. -/
def putA (nt : Nat) (fr : Fr) (dst : Option Tmp) (a : AV) : Option (Fr) :=
  match dst with
  | none => some fr
  | some d => bif Nat.blt d nt then some (fr.set d a) else none

theorem putA_sound {E : Env} {nt : Nat} {fr fr' : Fr} {dst : Option Tmp} {x : AV} {v : Value} {a : Act} (h : putA nt fr dst x = some fr') (hf : FRel E fr a.tmps) (hn : a.tmps.size = nt) (hv : VRel E x v) :
    FRel E fr' (a.put dst v).tmps ∧ (a.put dst v).tmps.size = nt ∧ (a.put dst v).defers = a.defers := by
  cases dst with
  | none => simp only [putA, Option.some.injEq] at h; subst h; exact ⟨hf, hn, rfl⟩
  | some d =>
    simp only [putA] at h
    cases hb : Nat.blt d nt with
    | false => simp only [hb, cond_false, reduceCtorEq] at h
    | true =>
      have hlt := Nat.blt_eq.mp hb
      simp only [hb, cond_true, Option.some.injEq] at h
      subst h
      refine ⟨fun t r ht => ?_, by simp [Act.put, hn], rfl⟩
      rw [Fr.get_set] at ht
      simp only [Act.put]
      by_cases htd : t = d
      · subst htd
        rw [if_pos rfl] at ht
        cases ht
        exact ⟨v, by simp [hn, hlt], hv⟩
      · rw [if_neg htd] at ht
        obtain ⟨u, h1, h2⟩ := hf t r ht
        exact ⟨u, by rw [Array.getElem?_setIfInBounds, if_neg (by omega)]; exact h1, h2⟩

def wantA (all : List Oper) (fr : Fr) (o : Oper) : Option Bool :=
  match o.guard with
  | none => some true
  | some (j, want) => match nth all j with
    | none => none
    | some oj => match oj.dst with
      | none => none
      | some d => match fr.get d with
        | some (.bool b) => some (bif b then want else !want)
        | some (.tup []) => some false
        | _ => none

theorem wantA_sound {E : Env} {all : Array Oper} {fr : Fr} {o : Oper} {tmps : Array Value} {b : Bool} (h : wantA all.toList fr o = some b) (hf : FRel E fr tmps) : Region.wanted o (yielded all tmps) = b := by
  unfold wantA at h
  unfold Region.wanted
  cases hg : o.guard with
  | none => simp only [hg, Option.some.injEq] at h; subst h; rfl
  | some p =>
    obtain ⟨j, want⟩ := p
    simp only [hg] at h ⊢
    cases hj : nth all.toList j with
    | none => simp only [hj, reduceCtorEq] at h
    | some oj =>
      simp only [hj] at h
      rw [nth_eq, Array.getElem?_toList] at hj
      cases hd : oj.dst with
      | none => simp only [hd, reduceCtorEq] at h
      | some d =>
        simp only [hd] at h
        split at h
        · rename_i c hc
          obtain ⟨v, h1, h2⟩ := hf _ _ hc
          cases h2
          have hy : yielded all tmps j = some c := by simp [yielded, hj, hd, h1]
          rw [hy]
          cases h
          cases c <;> cases want <;> rfl
        · rename_i hc
          obtain ⟨v, h1, h2⟩ := hf _ _ hc
          cases h2 with
          | tup _ vs hvs =>
            have hy : yielded all tmps j = none := by simp [yielded, hj, hd, h1]
            rw [hy]
            cases h
            cases want <;> rfl
        · cases h

abbrev CallF := Nat → List AV → St → Option (AV × St)
abbrev CodeF := Nat → Code → Fr → St → Option (Ex × Fr × St)

/-- One operation, called or not: what its slot gets, and the state behind it. -/
def stepA (C : Cfg) (ih : CallF) (all : List Oper) (fr : Fr) (st : St) (o : Oper) : Option (AV × St) :=
  match wantA all fr o with
  | none => none
  | some false => some (.tup [], st)
  | some true => match aop C fr st o with
    | none => none
    | some (.val a st') => some (a, st')
    | some (.skip st') => some (.tup [], st')
    | some (.enter f args) => ih f args st

/-- The rest of a region, in the order of the text. -/
def opsA (C : Cfg) (ih : CallF) (nt : Nat) (all : List Oper) : List Oper → Fr → St → Option (Fr × St)
  | [], fr, st => some (fr, st)
  | o :: rest, fr, st =>
    match stepA C ih all fr st o with
    | none => none
    | some (a, st') => match putA nt fr o.dst a with
      | none => none
      | some fr' => opsA C ih nt all rest fr' st'

def SndF (C : Cfg) (w0 : World) (F : CallF) : Prop := ∀ f args st r st', F f args st = some (r, st') → f ≠ yno → ∀ E w vs, Sim w0 E st w → GEnv C E → VsRel E args vs.toList → Fresh E st st' →
  Calls C.P f vs w fun e w' => ∃ E' v, e = .returned v ∧ Post w0 E st w E' st' w' ∧ VRel E' r v

def GrwF (F : CallF) : Prop := ∀ f args st r st', F f args st = some (r, st') → Grow st st'

theorem stepA_grow {C : Cfg} {ih : CallF} (hg : GrwF ih) {all : List Oper} {fr : Fr} {st st' : St} {o : Oper} {x : AV} (h : stepA C ih all fr st o = some (x, st')) : Grow st st' := by
  unfold stepA at h
  split at h
  · cases h
  · cases h; exact .refl _
  · cases ho : aop C fr st o with
    | none => simp only [ho, reduceCtorEq] at h
    | some r =>
      have hgr := aop_grow ho
      simp only [ho] at h
      cases r with
      | val a st1 => simp only [Option.some.injEq, Prod.mk.injEq] at h; obtain ⟨rfl, rfl⟩ := h; exact hgr
      | skip st1 => simp only [Option.some.injEq, Prod.mk.injEq] at h; obtain ⟨rfl, rfl⟩ := h; exact hgr
      | enter f args => exact hg _ _ _ _ _ h

theorem opsA_grow {C : Cfg} {ih : CallF} (hg : GrwF ih) {nt : Nat} {all : List Oper} : ∀ (l : List Oper) (fr : Fr) (st : St) (fr' : Fr) (st' : St), opsA C ih nt all l fr st = some (fr', st') → Grow st st' := by
  intro l
  induction l with
  | nil => intro fr st fr' st' h; simp only [opsA, Option.some.injEq, Prod.mk.injEq] at h; rw [h.2]; exact .refl _
  | cons o rest ihl =>
    intro fr st fr' st' h
    simp only [opsA] at h
    cases hs : stepA C ih all fr st o with
    | none => simp only [hs, reduceCtorEq] at h
    | some q =>
      obtain ⟨x, st1⟩ := q
      simp only [hs] at h
      cases hp : putA nt fr o.dst x with
      | none => simp only [hp, reduceCtorEq] at h
      | some fr1 =>
        simp only [hp] at h
        exact (stepA_grow hg hs).trans (ihl _ _ _ _ h)

/-- One operation, whatever comes behind it. -/
theorem stepA_sound {C : Cfg} (hC : C.Ok) {w0 : World} {ih : CallF} (hF : SndF C w0 ih) {all : Array Oper} {fr : Fr} {st st' : St} {o : Oper} {x : AV} (h : stepA C ih all.toList fr st o = some (x, st')) {E : Env} {w : World} {a : Act} (hS : Sim w0 E st w) (hG : GEnv C E) (hf : FRel E fr a.tmps) (hfr : Fresh E st st')
    {Q : Exit → Act → World → Prop} {K : Act → World → Prop} (hK : ∀ E' w' v, Post w0 E st w E' st' w' → VRel E' x v → K (a.put o.dst v) w') :
    if Region.wanted o (yielded all a.tmps) then o.wp C.P a w K Q ∨ (o.asks C.P a w ∧ LetsOut Q) else K (a.put o.dst undef) w := by
  unfold stepA at h
  split at h
  · cases h
  · rename_i hw
    cases h
    rw [wantA_sound hw hf]
    exact hK E w undef (.refl hS) (.tup _ _ .nil)
  · rename_i hw
    rw [wantA_sound hw hf]
    left
    cases hop : aop C fr st o with
    | none => simp only [hop, reduceCtorEq] at h
    | some r =>
      simp only [hop] at h
      unfold Oper.wp
      cases r with
      | val y st1 =>
        simp only [Option.some.injEq, Prod.mk.injEq] at h
        obtain ⟨rfl, rfl⟩ := h
        obtain ⟨E1, w1, v, h1, h2, h3⟩ := aop_sound hC hS hG hf hop hfr
        rw [h1]
        exact hK E1 w1 v h2 h3
      | skip st1 =>
        simp only [Option.some.injEq, Prod.mk.injEq] at h
        obtain ⟨rfl, rfl⟩ := h
        obtain ⟨E1, w1, h1, h2⟩ := aop_sound hC hS hG hf hop hfr
        rw [h1]
        exact hK E1 w1 undef h2 (.tup _ _ .nil)
      | enter f args =>
        simp only at h
        obtain ⟨vs, h1, h2⟩ := aop_sound hC hS hG hf hop trivial
        rw [h1]
        refine (hF f args st x st' h (fun e => by obtain ⟨p, hp⟩ := aop_enter hop; rw [e, show C.fn yno = none from hC.yno] at hp; cases hp) E w vs hS hG h2 hfr).mono ?_
        rintro e w1 ⟨E1, v, rfl, h3, h4⟩
        exact hK E1 w1 v h3 h4

def Done (C : Cfg) (w0 : World) (E : Env) (st : St) (w : World) (nt : Nat) (d : List Deferred) (fr' : Fr) (st' : St) (a' : Act) (w' : World) : Prop :=
  ∃ E', Post w0 E st w E' st' w' ∧ GEnv C E' ∧ FRel E' fr' a'.tmps ∧ a'.tmps.size = nt ∧ a'.defers = d

theorem Done.pre {C : Cfg} {w0 : World} {E E1 : Env} {st st1 : St} {w w1 : World} {nt : Nat} {d : List Deferred} {fr' : Fr} {st' : St} {a' : Act} {w' : World} (h : Post w0 E st w E1 st1 w1) (k : Done C w0 E1 st1 w1 nt d fr' st' a' w') : Done C w0 E st w nt d fr' st' a' w' := by
  obtain ⟨E', h1, h2⟩ := k
  exact ⟨E', h.trans h1, h2⟩

theorem opsA_sound {C : Cfg} (hC : C.Ok) {w0 : World} {ih : CallF} (hF : SndF C w0 ih) (hg : GrwF ih) (nt : Nat) (all : Array Oper) (Q : Exit → Act → World → Prop) : ∀ (l : List Oper) (fr : Fr) (st : St) (fr' : Fr) (st' : St), opsA C ih nt all.toList l fr st = some (fr', st') →
    ∀ E w a, Sim w0 E st w → GEnv C E → FRel E fr a.tmps → a.tmps.size = nt → Fresh E st st' → (∀ a' w', Done C w0 E st w nt a.defers fr' st' a' w' → Q .normal a' w') → wpList C.P all Q l a w := by
  intro l
  induction l with
  | nil =>
    intro fr st fr' st' h E w a hS hG hf hn _ hQ
    simp only [opsA, Option.some.injEq, Prod.mk.injEq] at h
    obtain ⟨rfl, rfl⟩ := h
    exact hQ a w ⟨E, .refl hS, hG, hf, hn, rfl⟩
  | cons o rest ihl =>
    intro fr st fr' st' h E w a hS hG hf hn hfr hQ
    simp only [opsA] at h
    cases hs : stepA C ih all.toList fr st o with
    | none => simp only [hs, reduceCtorEq] at h
    | some q =>
      obtain ⟨x, st1⟩ := q
      simp only [hs] at h
      cases hp : putA nt fr o.dst x with
      | none => simp only [hp, reduceCtorEq] at h
      | some fr1 =>
        simp only [hp] at h
        have hrest := opsA_grow hg rest fr1 st1 fr' st' h
        unfold wpList
        refine stepA_sound hC hF hs hS hG hf (hfr.left hrest.next) fun E1 w1 v h2 h3 => ?_
        obtain ⟨p1, p2, p3⟩ := putA_sound (v := v) hp (hf.mono h2.le) hn h3
        refine ihl fr1 st1 fr' st' h E1 w1 _ h2.sim (hG.mono h2.le) p1 p2 (hfr.right h2) fun a' w' hd => hQ a' w' ?_
        rw [p3] at hd
        exact hd.pre h2
end Go.Proofs.YtfamacgopcfhhaaGreatDoor.Ax
