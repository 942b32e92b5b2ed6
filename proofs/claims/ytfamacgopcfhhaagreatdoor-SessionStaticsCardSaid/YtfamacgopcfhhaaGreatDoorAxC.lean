/-
  AN EXECUTOR OVER AN ABSTRACT MEMORY, PART C: reading and writing memory, new blocks.
-/
import Derived.Test.YtfamacgopcfhhaaGreatDoorAxB
import Derived.WalkKit
namespace Go.Proofs.YtfamacgopcfhhaaGreatDoor.Ax
open Go.RowKit

/-- Rows of the library without a Go body that the executor knows. -/
inductive Ext where
  | indexByte
  | count
  | noEscape
  | noZero (t : Nat)

/-- The program, and its tables in a form that is quick to read. -/
structure Cfg where
  P : Program
  ty : Nat → Option (TypeInfo × TypeDesc)
  fn : Nat → Option (Func × Code)
  ext : Nat → Option Ext
  /-- types whose '==' is plain -/
  eqOk : Nat → Bool
  glob : Nat

structure Cfg.Ok (C : Cfg) : Prop where
  ty : ∀ t i d, C.ty t = some (i, d) → C.P.info? t = some i ∧ C.P.underlying t = some d
  fn : ∀ f x c, C.fn f = some (x, c) → C.P.funcs[f]? = some x ∧ (x.name == "runtime.NumGoroutine") = false ∧ x.body = some c
  mixed : C.P.follows .mixedOrders = true
  yno : C.fn 1099511627776 = none
  eqOk : ∀ t, C.eqOk t = true → C.P.stoodInHeld t = false ∧ C.P.eqGuardType C.P.depth t = false
  extByte : ∀ f, C.ext f = some .indexByte → ∃ x, C.P.funcs[f]? = some x ∧ (x.name == "runtime.NumGoroutine") = false ∧ x.body = none ∧ (Extern.findNext x).isNone = true ∧ Extern.find x = some Extern.BytealgIndexByte.indexByte
  extCount : ∀ f, C.ext f = some .count → ∃ x, C.P.funcs[f]? = some x ∧ (x.name == "runtime.NumGoroutine") = false ∧ x.body = none ∧ (Extern.findNext x).isNone = true ∧ Extern.find x = some Extern.BytealgCount.count
  extSame : ∀ f, C.ext f = some .noEscape → ∃ x, C.P.funcs[f]? = some x ∧ (x.name == "runtime.NumGoroutine") = false ∧ x.body = none ∧ (Extern.findNext x).isNone = true ∧ Extern.find x = some Extern.AbiNoEscape.same
  extZero : ∀ f t, C.ext f = some (.noZero t) → ∃ x ps s, C.P.funcs[f]? = some x ∧ (x.name == "runtime.NumGoroutine") = false ∧ x.body = none ∧ (Extern.findNext x).isNone = true ∧ Extern.find x = some (Extern.BytealgMakeNoZero.makeNoZero ps #[s]) ∧ C.P.underlying s = some (.slice t)

section
variable {C : Cfg} (hC : C.Ok) {w0 : World} {E : Env} {st : St} {w : World}
include hC

theorem run_ty {t : Nat} {i : TypeInfo} {d : TypeDesc} (h : C.ty t = some (i, d)) (w : World) :
    (typeInfo t).run C.P w = .ok i w ∧ (underlying t).run C.P w = .ok d w ∧ (Go.sizeOf t).run C.P w = .ok i.size w := by
  obtain ⟨h1, h2⟩ := hC.ty t i d h
  have e1 : (typeInfo t).run C.P w = .ok i w := by simp [typeInfo, h1]
  refine ⟨e1, by simp [underlying, h2], by simp [Go.sizeOf, e1]⟩

theorem run_zero {t : Nat} {i : TypeInfo} {d : TypeDesc} (h : C.ty t = some (i, d)) {z : Value} (hz : i.zero = some z) (w : World) : (zeroValue t).run C.P w = .ok z w := by
  simp [zeroValue, (run_ty hC h w).1, hz]
end

def isAggD : TypeDesc → Bool
  | .struct _ | .array _ _ => true
  | _ => false

theorem run_isAgg {C : Cfg} (hC : C.Ok) {t : Nat} {i : TypeInfo} {d : TypeDesc} (h : C.ty t = some (i, d)) (w : World) : (isAgg t).run C.P w = .ok (isAggD d) w := by
  simp only [isAgg, Sem.run_bind, (run_ty hC h w).2.1, Result.andThen_ok]
  cases d <;> rfl

theorem add_addr (b off n : Nat) : (⟨b, off, none⟩ : Addr).add n = ⟨b, off + n, none⟩ := by
  unfold Addr.add
  split
  · rename_i h; subst h; rfl
  · rfl

theorem cell_of {w : World} {b : Nat} {C : Array Value} {e : TypeId} {fz : Nat × Nat} (h : w.heap[b]? = some (.cells C e fz)) (o : Nat) : w.cell? ⟨b, o, none⟩ = C[o]? := by
  simp [World.cell?, h]

theorem frozen_of {w : World} {b : Nat} {C : Array Value} {e : TypeId} {fz : Nat × Nat} (h : w.heap[b]? = some (.cells C e fz)) (o : Nat) (hn : ¬ (fz.1 ≤ o ∧ o < fz.2)) : w.frozen? ⟨b, o, none⟩ = false := by
  obtain ⟨lo, hi⟩ := fz
  simp only [World.frozen?, h]
  simpa using hn

/-! Reading. -/
def St.cellsOf (st : St) (i : Nat) : Option (Tr AV) :=
  match st.vis i with
  | some (.cells _ _ _ _ cs) => some cs
  | _ => none

theorem cellsOf_spec {w0 : World} {E : Env} {st : St} {w : World} (h : Sim w0 E st w) {i : Nat} {cs : Tr AV} (hc : st.cellsOf i = some cs) :
    E.dom i ∧ ∃ C e fz, w.heap[E.ρ i]? = some (.cells C e fz) ∧ C.size = E.σ i ∧ (∀ o a, cs.get o = some a → ∃ v, C[o]? = some v ∧ VRel E a v) := by
  unfold St.cellsOf at hc
  split at hc
  · rename_i ro e fr sh cs' hv
    cases hc
    obtain ⟨hd, C, fz, h1, h2, h3, _⟩ := h.live i _ hv
    exact ⟨hd, C, e, fz, h1, h2, h3⟩
  · cases hc

theorem row_load {w0 : World} {E : Env} {st : St} {w : World} (P : Program) (h : Sim w0 E st w) {i : Nat} {cs : Tr AV} (hc : st.cellsOf i = some cs) {n off : Nat} {as : List AV} (hr : cs.row n off = some as) :
    ∃ vs : List Value, (loadCells ⟨E.ρ i, off, none⟩ n).run P w = .ok vs.toArray w ∧ VsRel E as vs ∧ vs.length = n ∧ ∀ j v, vs[j]? = some v → w.cell? ⟨E.ρ i, off + j, none⟩ = some v := by
  obtain ⟨_, C, e, fz, h1, _, h3⟩ := cellsOf_spec h hc
  obtain ⟨hl, hg⟩ := Tr.row_spec cs n off as hr
  have key : ∀ j, j < n → ∃ v, C[off + j]? = some v := by
    intro j hj
    have := hg j hj
    rw [List.getElem?_eq_getElem (by omega)] at this
    obtain ⟨v, hv, _⟩ := h3 (off + j) _ this.symm
    exact ⟨v, hv⟩
  let vs : List Value := (List.range n).map fun j => C[off + j]?.getD default
  have hvl : vs.length = n := by simp [vs]
  have hcell : ∀ j v, vs[j]? = some v → w.cell? ⟨E.ρ i, off + j, none⟩ = some v := by
    intro j v hj
    rw [cell_of h1]
    simp only [vs, List.getElem?_map] at hj
    by_cases hjn : j < n
    · rw [List.getElem?_range hjn] at hj
      simp only [Option.map_some, Option.some.injEq] at hj
      obtain ⟨u, hu⟩ := key j hjn
      rw [hu] at hj ⊢
      simpa using hj
    · rw [List.getElem?_eq_none (by simpa using hjn)] at hj
      cases hj
  refine ⟨vs, ?_, VsRel.ofGet _ _ (by rw [hl, hvl]) fun j a v ha hv => ?_, hvl, hcell⟩
  · have := run_loadCells_list (P := P) w ⟨E.ρ i, off, none⟩ vs (fun j v hj => by rw [add_addr]; exact hcell j v hj)
    rw [hvl] at this
    exact this
  · have hjn : j < n := by
      rcases Nat.lt_or_ge j n with h' | h'
      · exact h'
      · rw [List.getElem?_eq_none (by omega)] at ha; cases ha
    have := hg j hjn
    rw [ha] at this
    obtain ⟨u, hu, hr⟩ := h3 (off + j) a this.symm
    have hc2 := hcell j v hv
    rw [cell_of h1, hu] at hc2
    cases hc2
    exact hr

def ldVar (C : Cfg) (st : St) (t i off : Nat) : Option AV :=
  match C.ty t with
  | none => none
  | some (ti, d) => match st.cellsOf i with
    | none => none
    | some cs => bif isAggD d then (match cs.row ti.size off with | none => none | some l => some (.agg l)) else cs.get off

theorem ldVar_sound {C : Cfg} (hC : C.Ok) {w0 : World} {E : Env} {st : St} {w : World} (h : Sim w0 E st w) {t i off : Nat} {a : AV} (hl : ldVar C st t i off = some a) :
    ∃ v, (loadVar t ⟨E.ρ i, off, none⟩).run C.P w = .ok v w ∧ VRel E a v := by
  unfold ldVar at hl
  cases hty : C.ty t with
  | none => simp [hty] at hl
  | some p =>
    obtain ⟨ti, d⟩ := p
    cases hcs : st.cellsOf i with
    | none => simp [hty, hcs] at hl
    | some cs =>
      simp only [hty, hcs] at hl
      cases hd : isAggD d with
      | true =>
        simp only [hd, cond_true] at hl
        cases hr : cs.row ti.size off with
        | none => simp [hr] at hl
        | some l =>
          simp only [hr, Option.some.injEq] at hl
          subst hl
          obtain ⟨vs, hrun, hrel, _⟩ := row_load C.P h hcs hr
          refine ⟨.agg vs.toArray, ?_, .agg _ _ (by simpa using hrel)⟩
          simp only [loadVar, Sem.run_bind, run_isAgg hC hty, Result.andThen_ok, hd, if_true, (run_ty hC hty w).2.2, hrun]
          rfl
      | false =>
        simp only [hd, cond_false] at hl
        obtain ⟨_, D, e, fz, h1, _, h3⟩ := cellsOf_spec h hcs
        obtain ⟨v, hv, hr⟩ := h3 off a hl
        refine ⟨v, ?_, hr⟩
        simp only [loadVar, Sem.run_bind, run_isAgg hC hty, Result.andThen_ok, hd, Bool.false_eq_true, if_false]
        simp [cell_of h1, hv]

/-! Writing. -/
def AV.isCell : AV → Bool
  | .agg _ | .tup _ => false
  | _ => true

theorem VRel.oneCell {E : Env} {a : AV} {v : Value} (h : VRel E a v) (hc : a.isCell = true) : v.oneCell' = true := by
  cases h <;> first | rfl | simp [AV.isCell] at hc

theorem run_storeCells_block (P : Program) (b off : Nat) : ∀ (vs : List Value) (j : Nat) (w : World) (C : Array Value) (e : TypeId) (fz : Nat × Nat), w.heap[b]? = some (.cells C e fz) → (∀ v ∈ vs, v.oneCell' = true) →
    (∀ o, off + j ≤ o → o < off + j + vs.length → o < C.size ∧ ¬ (fz.1 ≤ o ∧ o < fz.2)) →
    ∃ w' C', (storeCells ⟨b, off, none⟩ vs j).run P w = .ok () w' ∧ w'.os = w.os ∧ w'.tape = w.tape ∧ w'.output = w.output ∧ w'.heap.size = w.heap.size ∧ (∀ k, k ≠ b → w'.heap[k]? = w.heap[k]?) ∧
      w'.heap[b]? = some (.cells C' e fz) ∧ C'.size = C.size ∧ ∀ o, C'[o]? = if off + j ≤ o ∧ o < off + j + vs.length then vs[o - (off + j)]? else C[o]? := by
  intro vs
  induction vs with
  | nil =>
    intro j w C e fz h _ _
    exact ⟨w, C, rfl, rfl, rfl, rfl, rfl, fun _ _ => rfl, h, rfl, fun o => by rw [if_neg (by simp only [List.length_nil]; omega)]⟩
  | cons v vs ih =>
    intro j w C e fz h hone hok
    have hin := hok (off + j) (Nat.le_refl _) (by simp)
    have hcell : w.cell? ⟨b, off + j, none⟩ = some C[off + j] := by rw [cell_of h, Array.getElem?_eq_getElem hin.1]
    have hfz := frozen_of h _ hin.2
    have hblt : b < w.heap.size := by
      rcases Nat.lt_or_ge b w.heap.size with h' | h'
      · exact h'
      · simp [Array.getElem?_eq_none h'] at h
    have hstep : (store ((⟨b, off, none⟩ : Addr).add j) v .plain).run P w = .ok () (w.setCell ⟨b, off + j, none⟩ v) := by
      rw [add_addr, run_store P w _ v .plain (hone v (by simp)), hcell]
      simp [hfz]
    have hself : (w.setCell ⟨b, off + j, none⟩ v).heap[b]? = some (.cells (C.setIfInBounds (off + j) v) e fz) := by
      simp [World.setCell, Array.getElem?_modify, h]
    obtain ⟨w', C', hrun, h1, h2, h3, h4, h5, h6, h7, h8⟩ := ih (j + 1) (w.setCell ⟨b, off + j, none⟩ v) (C.setIfInBounds (off + j) v) e fz hself (fun u hu => hone u (by simp [hu])) (by
      intro o ho1 ho2
      have := hok o (by omega) (by simp; omega)
      exact ⟨by simpa using this.1, this.2⟩)
    refine ⟨w', C', ?_, h1, h2, h3, by rw [h4]; simp, fun k hk => ?_, h6, by rw [h7]; simp, fun o => ?_⟩
    · simp only [storeCells, Sem.run_bind, hstep, Result.andThen_ok]
      exact hrun
    · rw [h5 k hk]
      exact Below.heap_setCell w _ _ k (by simpa using hk)
    · rw [h8 o]
      by_cases ho : o = off + j
      · subst ho
        rw [if_neg (by omega), if_pos (by simp)]
        simp [hin.1]
      · by_cases ho2 : off + (j + 1) ≤ o ∧ o < off + (j + 1) + vs.length
        · rw [if_pos ho2, if_pos (by simp; omega)]
          have : o - (off + j) = (o - (off + (j + 1))) + 1 := by omega
          rw [this]; simp
        · rw [if_neg ho2, if_neg (by simp; omega)]
          rw [Array.getElem?_setIfInBounds, if_neg (by omega)]

/-- The cells from 'off' on are written: all were known, none is frozen. -/
def wrCells (st : St) (i off : Nat) (as : List AV) : Option St :=
  match st.vis i with
  | some (.cells false e fr sh cs) =>
    bif Nat.ble fr off && as.all AV.isCell then
      match cs.row as.length off with
      | none => none
      | some _ => some (st.put i (.cells false e fr sh (Tr.ofList as off cs)))
    else none
  | _ => none

theorem wrCells_sound {w0 : World} {E : Env} {st st' : St} {w : World} (P : Program) (h : Sim w0 E st w) {i off : Nat} {as : List AV} {vs : List Value} (hw : wrCells st i off as = some st') (hr : VsRel E as vs) :
    ∃ w', (storeCells ⟨E.ρ i, off, none⟩ vs 0).run P w = .ok () w' ∧ Post w0 E st w E st' w' := by
  unfold wrCells at hw
  split at hw
  · rename_i e fr sh cs hv
    obtain ⟨hd, C, fz, h1, h2, h3, h4, h5, h6, h7⟩ := h.live i _ hv
    cases hk : (Nat.ble fr off && as.all AV.isCell) with
    | false => simp [hk] at hw
    | true =>
      simp only [hk, cond_true] at hw
      simp only [Bool.and_eq_true] at hk
      have hfr : fr ≤ off := Nat.le_of_ble_eq_true hk.1
      cases hrow : cs.row as.length off with
      | none => simp [hrow] at hw
      | some old =>
        simp only [hrow, Option.some.injEq] at hw
        subst hw
        obtain ⟨hol, hog⟩ := Tr.row_spec _ _ _ _ hrow
        have hlen := hr.length
        have hone : ∀ v ∈ vs, v.oneCell' = true := by
          intro v hv
          obtain ⟨j, hj, rfl⟩ := List.getElem_of_mem hv
          have hja : j < as.length := by omega
          obtain ⟨u, hu, hru⟩ := hr.get j as[j] (List.getElem?_eq_getElem hja)
          rw [List.getElem?_eq_getElem hj] at hu
          cases hu
          exact hru.oneCell ((List.all_eq_true.1 hk.2) _ (List.getElem_mem hja))
        have hinb : ∀ j, j < as.length → off + j < C.size := by
          intro j hj
          have := hog j hj
          rw [List.getElem?_eq_getElem (by omega)] at this
          obtain ⟨u, hu, _⟩ := h3 (off + j) _ this.symm
          rcases Nat.lt_or_ge (off + j) C.size with h' | h'
          · exact h'
          · rw [Array.getElem?_eq_none h'] at hu; cases hu
        obtain ⟨w', C', hrun, e1, e2, e3, e4, e5, e6, e7, e8⟩ := run_storeCells_block P (E.ρ i) off vs 0 w C e fz h1 hone (by
          intro o ho1 ho2
          have hoc : o < C.size := by have := hinb (o - off) (by omega); omega
          exact ⟨hoc, h4 o (by omega) hoc⟩)
        refine ⟨w', hrun, Post.upd h hv rfl w' e1 e2 e3 e4 e5 ⟨C', fz, e6, by rw [e7, h2], fun o a ho => ?_, fun o ho1 ho2 => h4 o ho1 (by omega), h5, h6, h7⟩⟩
        rw [Tr.get_ofList] at ho
        rw [e8]
        by_cases hin : off ≤ o ∧ o < off + as.length
        · rw [if_pos hin] at ho
          rw [if_pos (by omega)]
          obtain ⟨v, hv, hrv⟩ := hr.get _ a ho
          exact ⟨v, by simpa using hv, hrv⟩
        · rw [if_neg hin] at ho
          rw [if_neg (by omega)]
          exact h3 o a ho
  · cases hw

def stVar (C : Cfg) (st : St) (t i off : Nat) (a : AV) : Option St :=
  match C.ty t with
  | none => none
  | some (ti, _) => bif Nat.beq a.cells.length ti.size then wrCells st i off a.cells else none

theorem stVar_sound {C : Cfg} (hC : C.Ok) {w0 : World} {E : Env} {st st' : St} {w : World} (h : Sim w0 E st w) {t i off : Nat} {a : AV} {v : Value} (hs : stVar C st t i off a = some st') (hv : VRel E a v) :
    ∃ w', (storeVar t ⟨E.ρ i, off, none⟩ v).run C.P w = .ok () w' ∧ Post w0 E st w E st' w' := by
  unfold stVar at hs
  cases hty : C.ty t with
  | none => simp [hty] at hs
  | some p =>
    obtain ⟨ti, d⟩ := p
    simp only [hty, Tr.cbeq] at hs
    by_cases hsz : a.cells.length = ti.size
    · rw [if_pos hsz] at hs
      obtain ⟨w', hrun, hp⟩ := wrCells_sound C.P h hs hv.cells
      refine ⟨w', ?_, hp⟩
      have hl := hv.cells.length
      simp only [Array.length_toList] at hl
      simp only [storeVar, Sem.run_bind, (run_ty hC hty w).2.2, Result.andThen_ok]
      rw [if_neg (by simp; omega)]
      simpa using hrun
    · rw [if_neg hsz] at hs; cases hs

/-! New blocks. -/
def newBlk (st : St) (b : Blk) : Option (Nat × St) := bif hidden st.hid st.next then none else some (st.next, st.new b)

def newRow (elem : TypeId) (as : List AV) (st : St) : Option (Nat × St) := newBlk st (.cells false elem 0 false (Tr.ofList as 0 .leaf))

/-- A new row whose first cells are known. -/
theorem newBlk_cells {w0 : World} {E : Env} {st st' : St} {w : World} (h : Sim w0 E st w) {i : Nat} {elem : TypeId} {fr : Nat} {sh : Bool} {as : List AV} (hn : newBlk st (.cells false elem fr sh (Tr.ofList as 0 .leaf)) = some (i, st')) (hf : Fresh E st st') {vs : List Value} (hr : VsRel E as vs) (D : Array Value) (fz : Nat × Nat) (hD : ∀ (j : Nat) (v : Value), vs[j]? = some v → D[j]? = some v)
    (hfz : ∀ o, fr ≤ o → o < D.size → ¬ (fz.1 ≤ o ∧ o < fz.2)) (hsh : sh = false → fz.1 = fz.2 ∨ fz.2 ≤ fr) (w' : World) (hos : w'.os = w.os) (htape : w'.tape = w.tape) (hout : w'.output = w.output) (hheap : w'.heap = w.heap.push (.cells D elem fz)) :
    ∃ E', Post w0 E st w E' st' w' ∧ E'.ρ i = w.heap.size ∧ E'.dom i ∧ E'.σ i = D.size := by
  unfold newBlk at hn
  cases hh : hidden st.hid st.next with
  | true => simp [hh] at hn
  | false =>
    simp only [hh, cond_false, Option.some.injEq, Prod.mk.injEq] at hn
    obtain ⟨rfl, rfl⟩ := hn
    have hnd : ¬ E.dom st.next := hf _ (Nat.le_refl _) (by simp [St.new])
    refine ⟨E.add st.next w.heap.size D.size, Post.alloc h hnd hh _ (.cells D elem fz) D.size w' hos htape hout hheap ?_, by simp [Env.add], .inl rfl, by simp [Env.add]⟩
    refine ⟨D, fz, ?_, by simp [Env.add], fun o a ho => ?_, hfz, (fun he => by cases he), (fun _ => ?_), hsh⟩
    · rw [hheap]; simp [Env.add]
    · rw [Tr.get_ofList] at ho
      split at ho
      · obtain ⟨v, hv, hrv⟩ := hr.get _ a ho
        exact ⟨v, hD o v (by simpa using hv), hrv.mono (Env.le_add hnd)⟩
      · simp [Tr.get_leaf] at ho
    · simp only [Env.add, if_true]; exact h.below.size

theorem newRow_sound {w0 : World} {E : Env} {st st' : St} {w : World} (P : Program) (h : Sim w0 E st w) {i : Nat} {elem : TypeId} {as : List AV} (hn : newRow elem as st = some (i, st')) (hf : Fresh E st st') {vs : Array Value} (hr : VsRel E as vs.toList) :
    ∃ E' w', (Go.newRow elem vs).run P w = .ok ⟨E'.ρ i, 0, none⟩ w' ∧ Post w0 E st w E' st' w' ∧ E'.dom i ∧ E'.σ i = vs.size := by
  obtain ⟨E', hp, hρ, hd, hσ⟩ := newBlk_cells h hn hf hr vs (0, 0) (fun j v hv => by simpa using hv) (fun o _ _ => by simp) (fun _ => .inl rfl) (w.alloc (.cells vs elem)) rfl rfl rfl rfl
  exact ⟨E', _, by simp [Go.newRow, hρ], hp, hd, hσ⟩
end Go.Proofs.YtfamacgopcfhhaaGreatDoor.Ax
