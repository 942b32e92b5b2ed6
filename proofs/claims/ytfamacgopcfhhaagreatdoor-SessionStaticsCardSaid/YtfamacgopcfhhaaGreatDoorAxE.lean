/-
  AN EXECUTOR OVER AN ABSTRACT MEMORY, PART E: variables, composite values, fields, indexes, slices of slices and strings.
-/
import Derived.Test.YtfamacgopcfhhaaGreatDoorAxD
import Derived.Laws.Tables
import Derived.Great.BuildSlice
namespace Go.Proofs.YtfamacgopcfhhaaGreatDoor.Ax
open Go.RowKit

/-- What an operation that yields a value comes to. -/
def Gives (C : Cfg) (w0 : World) (E : Env) (st : St) (w : World) (s : Sem Value) (a : AV) (st' : St) : Prop :=
  ∃ E' w' v, s.run C.P w = .ok v w' ∧ Post w0 E st w E' st' w' ∧ VRel E' a v

theorem Gives.pure {C : Cfg} {w0 : World} {E : Env} {st : St} {w : World} {s : Sem Value} {a : AV} {v : Value} (h : Sim w0 E st w) (hr : s.run C.P w = .ok v w) (hv : VRel E a v) : Gives C w0 E st w s a st :=
  ⟨E, w, v, hr, .refl h, hv⟩

def zeroA (C : Cfg) (t : Nat) : Option (List AV) :=
  match C.ty t with
  | some (ti, _) => (match ti.zero with | some z => ofVsA z.cells | none => none)
  | none => none

theorem zeroA_sound {C : Cfg} (hC : C.Ok) (E : Env) {t : Nat} {as : List AV} (h : zeroA C t = some as) (w : World) :
    ∃ ti d z, C.ty t = some (ti, d) ∧ ti.zero = some z ∧ (zeroValue t).run C.P w = .ok z w ∧ VsRel E as z.cells.toList := by
  unfold zeroA at h
  cases hty : C.ty t with
  | none => simp [hty] at h
  | some p =>
    obtain ⟨ti, d⟩ := p
    cases hz : ti.zero with
    | none => simp [hty, hz] at h
    | some z =>
      simp only [hty, hz] at h
      exact ⟨ti, d, z, rfl, hz, run_zero hC hty hz w, ofVsA_rel E _ _ h⟩

def allocA (C : Cfg) (t : Nat) (st : St) : Option (AV × St) :=
  match zeroA C t with
  | none => none
  | some as => match newRow t as st with
    | none => none
    | some (i, st') => some (.ptr i 0, st')

theorem allocA_sound {C : Cfg} (hC : C.Ok) {w0 : World} {E : Env} {st st' : St} {w : World} (h : Sim w0 E st w) {t : Nat} {a : AV} (ha : allocA C t st = some (a, st')) (hf : Fresh E st st') :
    Gives C w0 E st w (Instr.alloc t true (.tuple #[])) a st' := by
  unfold allocA at ha
  cases hz : zeroA C t with
  | none => simp [hz] at ha
  | some as =>
    cases hn : newRow t as st with
    | none => simp [hz, hn] at ha
    | some p =>
      obtain ⟨i, st1⟩ := p
      simp only [hz, hn, Option.some.injEq, Prod.mk.injEq] at ha
      obtain ⟨rfl, rfl⟩ := ha
      obtain ⟨ti, d, z, hty, hzz, hrun, hrel⟩ := zeroA_sound hC E hz w
      obtain ⟨E', w', hr, hp, hd, _⟩ := newRow_sound C.P h hn hf hrel
      exact ⟨E', w', _, by simp [Instr.alloc, hrun, newVar, hr], hp, .ptr _ _ hd⟩

def boxA (t : Nat) (a : AV) (st : St) : Option (AV × St) :=
  match newRow t a.cells st with
  | none => none
  | some (i, st') => some (.ptr i 0, st')

theorem boxA_sound {C : Cfg} {w0 : World} {E : Env} {st st' : St} {w : World} (h : Sim w0 E st w) {t : Nat} {a r : AV} {v : Value} (hv : VRel E a v) (ha : boxA t a st = some (r, st')) (hf : Fresh E st st') :
    Gives C w0 E st w (Instr.box t v) r st' := by
  unfold boxA at ha
  cases hn : newRow t a.cells st with
  | none => simp [hn] at ha
  | some p =>
    obtain ⟨i, st1⟩ := p
    simp only [hn, Option.some.injEq, Prod.mk.injEq] at ha
    obtain ⟨rfl, rfl⟩ := ha
    obtain ⟨E', w', hr, hp, hd, _⟩ := newRow_sound C.P h hn hf hv.cells
    exact ⟨E', w', _, by simp [Instr.box, newVar, hr], hp, .ptr _ _ hd⟩

/-! Composite values. -/
def putAt (cells : List AV) (off : Nat) (cs : List AV) : List AV := cells.take off ++ (cs ++ cells.drop (off + cs.length))

def fillA (place : Nat → Option (Nat × Nat)) (cells : List AV) : List (Nat × AV) → Option (List AV)
  | [] => some cells
  | (i, v) :: rest =>
    match place i with
    | none => none
    | some (off, size) =>
      let cs := v.cells
      bif Nat.beq cs.length size && Nat.ble (off + cs.length) cells.length then fillA place (putAt cells off cs) rest else none

theorem foldl_put : ∀ (l : List Value) (k off : Nat) (A : Array Value), off + k + l.length ≤ A.size →
    ((l.zipIdx k).foldl (fun cs (x : Value × Nat) => cs.setIfInBounds (off + x.2) x.1) A).size = A.size ∧
    ∀ o, ((l.zipIdx k).foldl (fun cs (x : Value × Nat) => cs.setIfInBounds (off + x.2) x.1) A)[o]? = if off + k ≤ o ∧ o < off + k + l.length then l[o - (off + k)]? else A[o]? := by
  intro l
  induction l with
  | nil => intro k off A _; exact ⟨rfl, fun o => by rw [if_neg (by simp only [List.length_nil]; omega)]; rfl⟩
  | cons v l ih =>
    intro k off A hl
    simp only [List.length_cons] at hl
    obtain ⟨h1, h2⟩ := ih (k + 1) off (A.setIfInBounds (off + k) v) (by simp; omega)
    simp only [List.zipIdx_cons, List.foldl_cons]
    refine ⟨by rw [h1]; simp, fun o => ?_⟩
    rw [h2]
    by_cases ho : o = off + k
    · subst ho
      rw [if_neg (by omega), if_pos (by simp)]
      simp [show off + k < A.size by omega]
    · by_cases h3 : off + (k + 1) ≤ o ∧ o < off + (k + 1) + l.length
      · rw [if_pos h3, if_pos (by simp only [List.length_cons]; omega)]
        have : o - (off + k) = (o - (off + (k + 1))) + 1 := by omega
        rw [this]; simp
      · rw [if_neg h3, if_neg (by simp only [List.length_cons]; omega), Array.getElem?_setIfInBounds, if_neg (by omega)]

theorem putAt_get (cells : List AV) (off : Nat) (cs : List AV) (h : off + cs.length ≤ cells.length) (o : Nat) :
    (putAt cells off cs)[o]? = if off ≤ o ∧ o < off + cs.length then cs[o - off]? else cells[o]? := by
  unfold putAt
  rw [List.getElem?_append, List.getElem?_append, List.length_take, List.getElem?_take, List.getElem?_drop]
  by_cases h1 : o < off
  · rw [if_pos (by omega), if_pos h1, if_neg (by omega)]
  · rw [if_neg (by omega)]
    have : min off cells.length = off := by omega
    rw [this]
    by_cases h2 : o - off < cs.length
    · rw [if_pos h2, if_pos (by omega)]
    · rw [if_neg h2, if_neg (by omega)]
      congr 1; omega

inductive PsRel (E : Env) : List (Nat × AV) → List (Nat × Value) → Prop
  | nil : PsRel E [] []
  | cons {i : Nat} {a : AV} {v : Value} {ps : List (Nat × AV)} {qs : List (Nat × Value)} (h : VRel E a v) (hs : PsRel E ps qs) : PsRel E ((i, a) :: ps) ((i, v) :: qs)

theorem fillA_sound {E : Env} (place : Nat → Option (Nat × Nat)) : ∀ (ps : List (Nat × AV)) (qs : List (Nat × Value)) (cells : List AV) (vs : Array Value) (r : List AV), PsRel E ps qs →
    VsRel E cells vs.toList → fillA place cells ps = some r → ∃ us : Array Value, Instr.fill place vs qs = some us ∧ VsRel E r us.toList := by
  intro ps
  induction ps with
  | nil =>
    intro qs cells vs r hq hc h
    cases hq
    simp only [fillA, Option.some.injEq] at h
    subst h
    exact ⟨vs, rfl, hc⟩
  | cons p ps ih =>
    intro qs cells vs r hq hc h
    cases hq with
    | @cons i a v _ qs hv hrest =>
      simp only [fillA] at h
      simp only [Instr.fill]
      cases hp : place i with
      | none => simp [hp] at h
      | some pl =>
        obtain ⟨off, size⟩ := pl
        simp only [hp] at h ⊢
        cases hb : (Nat.beq a.cells.length size && Nat.ble (off + a.cells.length) cells.length) with
        | false => simp only [hb, cond_false, reduceCtorEq] at h
        | true =>
          simp only [hb, cond_true] at h
          simp only [Bool.and_eq_true] at hb
          have h1 := Nat.eq_of_beq_eq_true hb.1
          have h2 := Nat.le_of_ble_eq_true hb.2
          have hcl := hv.cells.length
          have hvl := hc.length
          simp only [Array.length_toList] at hcl hvl
          have hne : (decide (v.cells.size ≠ size) || decide (off + v.cells.size > vs.size)) = false := by
            simp only [Bool.or_eq_false_iff, decide_eq_false_iff_not]
            omega
          rw [if_neg (by simp only [hne]; decide)]
          obtain ⟨hs1, hs2⟩ := foldl_put v.cells.toList 0 off vs (by simp; omega)
          have he : v.cells.zipIdx.foldl (fun cs (x : Value × Nat) => cs.setIfInBounds (off + x.2) x.1) vs = (v.cells.toList.zipIdx 0).foldl (fun cs (x : Value × Nat) => cs.setIfInBounds (off + x.2) x.1) vs := by
            rw [← Array.foldl_toList]; simp
          refine ih qs _ _ r hrest ?_ h
          show VsRel E (putAt cells off a.cells) (Array.toList (v.cells.zipIdx.foldl (fun cs (x : Value × Nat) => cs.setIfInBounds (off + x.2) x.1) vs))
          rw [he]
          have hlen : (putAt cells off a.cells).length = cells.length := by simp [putAt]; omega
          refine VsRel.ofGet _ _ (hlen.trans (hvl.trans hs1.symm)) fun o b u h3 h4 => ?_
          rw [putAt_get _ _ _ h2] at h3
          rw [Array.getElem?_toList, hs2] at h4
          by_cases ho : off ≤ o ∧ o < off + a.cells.length
          · rw [if_pos ho] at h3
            rw [if_pos (by simp; omega)] at h4
            obtain ⟨u', h5, h6⟩ := hv.cells.get _ _ h3
            simp only [Nat.add_zero] at h4
            rw [h5] at h4; cases h4; exact h6
          · rw [if_neg ho] at h3
            rw [if_neg (by simp; omega)] at h4
            obtain ⟨u', h5, h6⟩ := hc.get _ _ h3
            rw [Array.getElem?_toList] at h5
            rw [h5] at h4; cases h4; exact h6

def placesA (C : Cfg) : List Field → Option (List (Nat × Nat))
  | [] => some []
  | f :: fs => match C.ty f.type with
    | none => none
    | some (ti, _) => match placesA C fs with
      | none => none
      | some l => some ((f.offset, ti.size) :: l)

theorem placesA_sound {C : Cfg} (hC : C.Ok) : ∀ (fs : List Field) (l : List (Nat × Nat)), placesA C fs = some l → fs.mapM (fun f => (C.P.info? f.type).map fun i => (f.offset, i.size)) = some l := by
  intro fs
  induction fs with
  | nil => intro l h; simp only [placesA, Option.some.injEq] at h; subst h; rfl
  | cons f fs ih =>
    intro l h
    simp only [placesA] at h
    cases hty : C.ty f.type with
    | none => simp [hty] at h
    | some p =>
      obtain ⟨ti, d⟩ := p
      cases hp : placesA C fs with
      | none => simp [hty, hp] at h
      | some l' =>
        simp only [hty, hp, Option.some.injEq] at h
        subst h
        simp [List.mapM_cons, (hC.ty _ _ _ hty).1, ih l' hp]

def nth {α : Type} : List α → Nat → Option α
  | [], _ => none
  | a :: _, 0 => some a
  | _ :: l, n + 1 => nth l n

theorem nth_eq {α : Type} : ∀ (l : List α) (n : Nat), nth l n = l[n]?
  | [], n => by simp [nth]
  | a :: l, 0 => rfl
  | a :: l, n + 1 => by simp [nth, nth_eq l n]

def buildA (C : Cfg) (t : Nat) (parts : List (Nat × AV)) : Option AV :=
  match C.ty t with
  | some (_, .struct fields) => (match placesA C fields.toList, zeroA C t with
    | some pl, some z => (match fillA (nth pl) z parts with | some r => some (.agg r) | none => none)
    | _, _ => none)
  | some (_, .array _ elem) => (match C.ty elem, zeroA C t with
    | some (ei, _), some z => (match fillA (fun i => some (i * ei.size, ei.size)) z parts with | some r => some (.agg r) | none => none)
    | _, _ => none)
  | _ => none

theorem buildA_sound {C : Cfg} (hC : C.Ok) {w0 : World} {E : Env} {st : St} {w : World} (h : Sim w0 E st w) {t : Nat} {ps : List (Nat × AV)} {qs : Array (Nat × Value)} {r : AV} (hq : PsRel E ps qs.toList) (hb : buildA C t ps = some r) :
    Gives C w0 E st w (Instr.build t qs) r st := by
  unfold buildA at hb
  split at hb
  · rename_i ti fields hty
    obtain ⟨hi, hu⟩ := hC.ty _ _ _ hty
    split at hb
    · rename_i pl z hpl hz
      cases hfl : fillA (nth pl) z ps with
      | none => simp [hfl] at hb
      | some l =>
        simp only [hfl, Option.some.injEq] at hb
        subst hb
        obtain ⟨ti', d', zv, hty', hzz, hzr, hzrel⟩ := zeroA_sound hC E hz w
        rw [hty] at hty'; cases hty'
        obtain ⟨us, hus, hrel⟩ := fillA_sound (nth pl) ps qs.toList z zv.cells l hq hzrel hfl
        refine Gives.pure h (run_build w t qs us ?_) (.agg _ _ hrel)
        have hpl' := placesA_sound hC _ _ hpl
        simp only [Program.built, hi, hu, hzz, hpl']
        rw [← hus]
        congr 1
        funext x
        rw [nth_eq]; simp
    · cases hb
  · rename_i ti n elem hty
    obtain ⟨hi, hu⟩ := hC.ty _ _ _ hty
    split at hb
    · rename_i ei ed z hety hz
      cases hfl : fillA (fun i => some (i * ei.size, ei.size)) z ps with
      | none => simp [hfl] at hb
      | some l =>
        simp only [hfl, Option.some.injEq] at hb
        subst hb
        obtain ⟨ti', d', zv, hty', hzz, hzr, hzrel⟩ := zeroA_sound hC E hz w
        rw [hty] at hty'; cases hty'
        obtain ⟨us, hus, hrel⟩ := fillA_sound _ ps qs.toList z zv.cells l hq hzrel hfl
        refine Gives.pure h (run_build w t qs us ?_) (.agg _ _ hrel)
        simp only [Program.built, hi, hu, hzz, (hC.ty _ _ _ hety).1]
        exact hus
    · cases hb
  · cases hb

/-- n copies of a row. -/
def rep (as : List AV) : Nat → List AV
  | 0 => []
  | n + 1 => as ++ rep as n

theorem rep_length (as : List AV) : ∀ n, (rep as n).length = n * as.length
  | 0 => by simp [rep]
  | n + 1 => by simp only [rep, List.length_append, rep_length as n, Nat.succ_mul]; omega

theorem rep_get (as : List AV) : ∀ n o, o < n * as.length → (rep as n)[o]? = as[o % as.length]?
  | 0, o, h => by simp at h
  | n + 1, o, h => by
    simp only [rep, List.getElem?_append]
    by_cases ho : o < as.length
    · rw [if_pos ho, Nat.mod_eq_of_lt ho]
    · rw [if_neg ho, rep_get as n (o - as.length) (by rw [Nat.succ_mul] at h; omega)]
      congr 1
      exact (Nat.mod_eq_sub_mod (by omega)).symm

theorem rep_rel {E : Env} {as : List AV} {vs : Array Value} (h : VsRel E as vs.toList) (n : Nat) : VsRel E (rep as n) ((Array.range (n * as.length)).map (vs[· % vs.size]!)).toList := by
  have hl := h.length
  simp only [Array.length_toList] at hl
  refine VsRel.ofGet _ _ (by rw [rep_length]; simp) fun o a v h1 h2 => ?_
  have ho : o < n * as.length := by
    rcases Nat.lt_or_ge o (n * as.length) with h' | h'
    · exact h'
    · rw [List.getElem?_eq_none (by rw [rep_length]; exact h')] at h1; cases h1
  rw [rep_get _ _ _ ho] at h1
  obtain ⟨u, hu, hr⟩ := h.get _ _ h1
  simp only [Array.toList_map, List.getElem?_map, Array.toList_range, List.getElem?_range ho, Option.map_some, Option.some.injEq] at h2
  rw [← hl] at h2
  rw [Array.getElem?_toList] at hu
  have : vs[o % as.length]! = u := by simp [getElem!_def, hu]
  rw [this] at h2
  subst h2
  exact hr

def buildSomeA (C : Cfg) (t len : Nat) (parts : List (Nat × AV)) (st : St) : Option (AV × St) :=
  match C.ty t with
  | some (_, .slice elem) => (match C.ty elem, zeroA C elem with
    | some (ei, _), some z =>
      bif Nat.beq z.length ei.size && (Nat.ble 1 (len * ei.size) && Nat.ble (len * ei.size) 16777216) then
        (match fillA (fun i => some (i * ei.size, ei.size)) (rep z len) parts with
        | none => none
        | some r => match newRow elem r st with
          | none => none
          | some (i, st') => some (.sl i 0 len len, st'))
      else none
    | _, _ => none)
  | _ => none

theorem buildSomeA_sound {C : Cfg} (hC : C.Ok) {w0 : World} {E : Env} {st st' : St} {w : World} (h : Sim w0 E st w) {t len : Nat} {ps : List (Nat × AV)} {qs : Array (Nat × Value)} {r : AV} (hq : PsRel E ps qs.toList) (hb : buildSomeA C t len ps st = some (r, st')) (hf : Fresh E st st') :
    Gives C w0 E st w (Instr.buildSlice t len qs) r st' := by
  unfold buildSomeA at hb
  split at hb
  · rename_i ti elem hty
    obtain ⟨hi, hu⟩ := hC.ty _ _ _ hty
    split at hb
    · rename_i ei ed z hety hz
      cases hk : (Nat.beq z.length ei.size && (Nat.ble 1 (len * ei.size) && Nat.ble (len * ei.size) 16777216)) with
      | false => simp only [hk, cond_false, reduceCtorEq] at hb
      | true =>
        simp only [hk, cond_true] at hb
        simp only [Bool.and_eq_true] at hk
        have k1 := Nat.eq_of_beq_eq_true hk.1
        have k2 := Nat.le_of_ble_eq_true hk.2.1
        have k3 := Nat.le_of_ble_eq_true hk.2.2
        cases hfl : fillA (fun i => some (i * ei.size, ei.size)) (rep z len) ps with
        | none => simp [hfl] at hb
        | some l =>
          cases hn : newRow elem l st with
          | none => simp [hfl, hn] at hb
          | some p =>
            obtain ⟨i, st1⟩ := p
            simp only [hfl, hn, Option.some.injEq, Prod.mk.injEq] at hb
            obtain ⟨rfl, rfl⟩ := hb
            obtain ⟨ti', d', zv, hty', hzz, hzr, hzrel⟩ := zeroA_sound hC E hz w
            rw [hety] at hty'; cases hty'
            have hrr := rep_rel hzrel len
            rw [k1] at hrr
            obtain ⟨us, hus, hrel⟩ := fillA_sound _ ps qs.toList _ _ l hq hrr hfl
            obtain ⟨E', w', hr, hp, hd, hσ⟩ := newRow_sound C.P h hn hf hrel
            have hrun := run_buildSlice w t elem len qs us ei zv hu (hC.ty _ _ _ hety).1 hzz (by omega) (by omega) hus
            simp only [Go.newRow, Sem.run_bind, run_newObj, Result.andThen_ok, Sem.run_pure, Result.ok.injEq] at hr
            obtain ⟨hr1, hr2⟩ := hr
            refine ⟨E', w', _, ?_, hp, .sl _ _ _ _ hd⟩
            rw [hrun, ← hr2, ← hr1]
            rfl
    · cases hb
  · cases hb

/-- A literal without elements. -/
def buildNoneA (C : Cfg) (t : Nat) (parts : List (Nat × AV)) (st : St) : Option (AV × St) :=
  match C.ty t with
  | some (_, .slice elem) => (match C.ty elem, parts with
    | some _, [] => (match newRow elem [] st with
      | none => none
      | some (i, st') => some (.sl i 0 0 0, st'))
    | _, _ => none)
  | _ => none

theorem buildNoneA_sound {C : Cfg} (hC : C.Ok) {w0 : World} {E : Env} {st st' : St} {w : World} (h : Sim w0 E st w) {t : Nat} {ps : List (Nat × AV)} {qs : Array (Nat × Value)} {r : AV} (hq : PsRel E ps qs.toList) (hb : buildNoneA C t ps st = some (r, st')) (hf : Fresh E st st') :
    Gives C w0 E st w (Instr.buildSlice t 0 qs) r st' := by
  unfold buildNoneA at hb
  split at hb
  · rename_i ti elem hty
    obtain ⟨hi, hu⟩ := hC.ty _ _ _ hty
    split at hb
    · rename_i p hety
      obtain ⟨ei, ed⟩ := p
      split at hb
      · cases hb
      · rename_i i st1 hn
        simp only [Option.some.injEq, Prod.mk.injEq] at hb
        obtain ⟨rfl, rfl⟩ := hb
        have hqs : qs.toList = [] := by
          cases hql : qs.toList with
          | nil => rfl
          | cons a l => rw [hql] at hq; cases hq
        obtain ⟨E', w', hr, hp, hd, hσ⟩ := newRow_sound (vs := #[]) C.P h hn hf .nil
        refine ⟨E', w', _, ?_, hp, .sl _ _ _ _ hd⟩
        have e1 := (run_ty hC hty w).2.1
        have e2 := (run_ty hC hety w).2.2
        simp only [Instr.buildSlice, Sem.run_bind, e1, Result.andThen_ok, e2, Nat.zero_mul, hqs, Instr.fill]
        rw [if_neg (by decide)]
        simp only [Sem.run_bind, Sem.run_pure, Result.andThen_ok, if_true]
        have e3 : ∀ f : Nat → Value, Array.map f (Array.range 0) = #[] := fun f => by simp
        rw [e3]
        show Result.andThen ((Go.newRow elem #[]).run C.P w) _ = _
        rw [hr]
        rfl
    · cases hb
  · cases hb

def buildSliceA (C : Cfg) (t len : Nat) (parts : List (Nat × AV)) (st : St) : Option (AV × St) :=
  bif Nat.beq len 0 then buildNoneA C t parts st else buildSomeA C t len parts st

theorem buildSliceA_sound {C : Cfg} (hC : C.Ok) {w0 : World} {E : Env} {st st' : St} {w : World} (h : Sim w0 E st w) {t len : Nat} {ps : List (Nat × AV)} {qs : Array (Nat × Value)} {r : AV} (hq : PsRel E ps qs.toList) (hb : buildSliceA C t len ps st = some (r, st')) (hf : Fresh E st st') :
    Gives C w0 E st w (Instr.buildSlice t len qs) r st' := by
  unfold buildSliceA at hb
  rw [Tr.cbeq] at hb
  by_cases hl : len = 0
  · rw [if_pos hl] at hb
    subst hl
    exact buildNoneA_sound hC h hq hb hf
  · rw [if_neg hl] at hb
    exact buildSomeA_sound hC h hq hb hf
end Go.Proofs.YtfamacgopcfhhaaGreatDoor.Ax
