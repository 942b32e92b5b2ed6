/-
  AN EXECUTOR OVER AN ABSTRACT MEMORY, PART B: abstract states, what they say of a world, and how steps are put together.
-/
import Derived.Test.YtfamacgopcfhhaaGreatDoorAxMa
namespace Go.Proofs.YtfamacgopcfhhaaGreatDoor.Ax
open Go.RowKit

namespace Tr
variable {α : Type}
theorem one_set : ∀ (f k : Nat) (a b : α), k ≤ f → (one f k a).set k b = one f k b := by
  intro f
  induction f with
  | zero =>
    intro k a b hk
    have : k = 0 := by omega
    subst this
    simp [one, set, cbeq]
  | succ f ih =>
    intro k a b hk
    by_cases h0 : k = 0
    · subst h0; simp [one, set, cbeq]
    · by_cases h1 : k % 2 = 1
      · simp only [one, cbeq, h0, h1, if_true, if_false, set]; rw [ih _ _ _ (by omega)]
      · simp only [one, cbeq, h0, h1, if_false, set]; rw [ih _ _ _ (by omega)]
theorem set_set : ∀ (t : Tr α) (k : Nat) (a b : α), (t.set k a).set k b = t.set k b := by
  intro t
  induction t with
  | leaf => intro k a b; simp only [set]; exact one_set _ _ _ _ (Nat.le_refl k)
  | node o l r ihl ihr =>
    intro k a b
    by_cases h0 : k = 0
    · subst h0; simp [set, cbeq]
    · by_cases h1 : k % 2 = 1
      · simp only [set, cbeq, h0, h1, if_true, if_false, ihl]
      · simp only [set, cbeq, h0, h1, if_false, ihr]
end Tr

/-- An abstract block. 'cells': 'ro': it was there before the call and is only read; cells from 'fr' on are not frozen ('sh = false': what is frozen lies before 'fr'); cells that the map lacks are not known. -/
inductive Blk where
  | cells (ro : Bool) (elem : TypeId) (fr : Nat) (sh : Bool) (cs : Tr AV)
  | mapb (es : List (AV × AV × Nat)) (clock : Nat)
  | iter (s : ByteArray) (pos : Nat)
  | loop (fr : Fr) (nt : Nat) (ps : List Nat) (assign body : Code) (s : LoopState) (pend : Option Code)

def Blk.isLoop : Blk → Bool
  | .loop .. => true
  | _ => false

def Blk.ro : Blk → Bool
  | .cells ro .. => ro
  | _ => false

/-- An abstract state: 'next': the next block's number; 'low': no block below it has been written; 'hid': blocks that must not be looked at. -/
structure St where
  heap : Tr Blk
  next : Nat
  low : Nat
  hid : List (Nat × Nat)

def hidden : List (Nat × Nat) → Nat → Bool
  | [], _ => false
  | (a, b) :: l, i => bif (Nat.ble a i && Nat.blt i b) then true else hidden l i

def St.vis (st : St) (i : Nat) : Option Blk :=
  match st.hid with
  | [] => st.heap.get i
  | _ :: _ => bif hidden st.hid i then none else st.heap.get i

theorem St.vis_eq (st : St) (i : Nat) : st.vis i = if hidden st.hid i = true then none else st.heap.get i := by
  unfold St.vis
  split
  · rename_i h; simp [h, hidden]
  · cases hidden st.hid i <;> simp

inductive EsRel (E : Env) : List (AV × AV × Nat) → List MapEntry → Prop
  | nil : EsRel E [] []
  | cons {k v : AV} {n : Nat} {k' v' : Value} {es : List (AV × AV × Nat)} {fs : List MapEntry} (hk : VRel E k k') (hv : VRel E v v') (hs : EsRel E es fs) :
      EsRel E ((k, v, n) :: es) (⟨k', v', n⟩ :: fs)

theorem EsRel.mono {E E' : Env} (h : E.le E') : ∀ {es : List (AV × AV × Nat)} {fs : List MapEntry}, EsRel E es fs → EsRel E' es fs
  | _, _, .nil => .nil
  | _, _, .cons hk hv hs => .cons (hk.mono h) (hv.mono h) (EsRel.mono h hs)

/-- What abstract block i says of the world. 'B': how many blocks there were before the call. -/
def BRel (B : Nat) (E : Env) (i : Nat) (w : World) : Blk → Prop
  | .cells ro elem fr sh cs => ∃ C fz, w.heap[E.ρ i]? = some (.cells C elem fz) ∧ C.size = E.σ i ∧
      (∀ o a, cs.get o = some a → ∃ v, C[o]? = some v ∧ VRel E a v) ∧ (∀ o, fr ≤ o → o < C.size → ¬ (fz.1 ≤ o ∧ o < fz.2)) ∧
      (ro = true → E.ρ i < B) ∧ (ro = false → B ≤ E.ρ i) ∧ (sh = false → fz.1 = fz.2 ∨ fz.2 ≤ fr)
  | .mapb es clock => ∃ C, w.heap[E.ρ i]? = some (.map C clock) ∧ EsRel E es C.toList ∧ B ≤ E.ρ i
  | .iter s pos => w.heap[E.ρ i]? = some (.stringIter s pos) ∧ B ≤ E.ρ i
  | .loop fr nt ps assign body s pend => ∃ tmps D fn, w.heap[E.ρ i]? = some (Obj.loop ⟨s, pend, fn, tmps, ps.toArray, assign, body, D⟩) ∧ tmps.size = nt ∧ (∀ t a, fr.get t = some a → ∃ v, tmps[t]? = some v ∧ VRel E a v) ∧ B ≤ E.ρ i

theorem BRel.mono {B : Nat} {E E' : Env} (h : E.le E') {i : Nat} (hd : E.dom i) {w w' : World} (hw : w'.heap[E.ρ i]? = w.heap[E.ρ i]?) {b : Blk} (hb : BRel B E i w b) : BRel B E' i w' b := by
  cases b with
  | cells ro elem fr sh cs =>
    obtain ⟨C, fz, h1, h2, h3, h4, h5, h6, h7⟩ := hb
    refine ⟨C, fz, by rw [h.ρ i hd, hw]; exact h1, by rw [h.σ i hd]; exact h2, fun o a ho => ?_, h4, by rw [h.ρ i hd]; exact h5, by rw [h.ρ i hd]; exact h6, h7⟩
    obtain ⟨v, hv, hr⟩ := h3 o a ho
    exact ⟨v, hv, hr.mono h⟩
  | mapb es clock =>
    obtain ⟨C, h1, h2, h3⟩ := hb
    exact ⟨C, by rw [h.ρ i hd, hw]; exact h1, h2.mono h, by rw [h.ρ i hd]; exact h3⟩
  | iter s pos =>
    obtain ⟨h1, h2⟩ := hb
    exact ⟨by rw [h.ρ i hd, hw]; exact h1, by rw [h.ρ i hd]; exact h2⟩
  | loop fr nt ps assign body s pend =>
    obtain ⟨tmps, D, fn, h1, h2, h3, h4⟩ := hb
    refine ⟨tmps, D, fn, by rw [h.ρ i hd, hw]; exact h1, h2, fun t a ht => ?_, by rw [h.ρ i hd]; exact h4⟩
    obtain ⟨v, hv, hr⟩ := h3 t a ht
    exact ⟨v, hv, hr.mono h⟩

theorem BRel.old {B : Nat} {E : Env} {i : Nat} {w : World} {b : Blk} (hb : BRel B E i w b) : (b.ro = true → E.ρ i < B) ∧ (b.ro = false → B ≤ E.ρ i) := by
  cases b with
  | cells ro elem fr sh cs => obtain ⟨C, fz, h1, h2, h3, h4, h5, h6, _⟩ := hb; exact ⟨h5, h6⟩
  | mapb es clock => obtain ⟨C, h1, h2, h3⟩ := hb; exact ⟨fun h => by simp [Blk.ro] at h, fun _ => h3⟩
  | iter s pos => obtain ⟨h1, h2⟩ := hb; exact ⟨fun h => by simp [Blk.ro] at h, fun _ => h2⟩
  | loop fr nt ps assign body s pend => obtain ⟨tmps, D, fn, h1, h2, h3, h4⟩ := hb; exact ⟨fun h => by simp [Blk.ro] at h, fun _ => h4⟩

theorem BRel.lt {B : Nat} {E : Env} {i : Nat} {w : World} {b : Blk} (hb : BRel B E i w b) : E.ρ i < w.heap.size := by
  have key : ∀ o, w.heap[E.ρ i]? = some o → E.ρ i < w.heap.size := by
    intro o h
    rcases Nat.lt_or_ge (E.ρ i) w.heap.size with h' | h'
    · exact h'
    · simp [Array.getElem?_eq_none h'] at h
  cases b with
  | cells ro elem fr sh cs => obtain ⟨C, fz, h1, h2⟩ := hb; exact key _ h1
  | mapb es clock => obtain ⟨C, h1, h2⟩ := hb; exact key _ h1
  | iter s pos => exact key _ hb.1
  | loop fr nt ps assign body s pend => obtain ⟨tmps, D, fn, h1, h2⟩ := hb; exact key _ h1

theorem BRel.notLoop {B : Nat} {E : Env} {i : Nat} {w : World} {b : Blk} (hb : BRel B E i w b) (hl : b.isLoop = false) (r : Loop) : w.heap[E.ρ i]? ≠ some (Obj.loop r) := by
  intro h
  cases b with
  | cells ro elem fr sh cs => obtain ⟨C, fz, h1, h2⟩ := hb; rw [h] at h1; cases h1
  | mapb es clock => obtain ⟨C, h1, h2⟩ := hb; rw [h] at h1; cases h1
  | iter s pos => have h1 := hb.1; rw [h] at h1; cases h1
  | loop fr nt ps assign body s pend => cases hl

theorem BRel.isLoop {B : Nat} {E : Env} {i : Nat} {w : World} {b : Blk} (hb : BRel B E i w b) (hl : b.isLoop = true) : ∃ r, w.heap[E.ρ i]? = some (Obj.loop r) := by
  cases b with
  | cells ro elem fr sh cs => cases hl
  | mapb es clock => cases hl
  | iter s pos => cases hl
  | loop fr nt ps assign body s pend => obtain ⟨tmps, D, fn, h1, h2⟩ := hb; exact ⟨_, h1⟩

/-- The world is as the abstract state says; what was there before the call is as it was. -/
structure Sim (w0 : World) (E : Env) (st : St) (w : World) : Prop where
  below : Below w0.heap.size w0 w
  live : ∀ i b, st.vis i = some b → E.dom i ∧ BRel w0.heap.size E i w b
  inj : ∀ i j bi bj, st.vis i = some bi → st.vis j = some bj → bi.ro = false → bj.ro = false → E.ρ i = E.ρ j → i = j
  bnd : ∀ i b, st.heap.get i = some b → i < st.next

def Own (E : Env) (st : St) (k : Nat) : Prop := ∃ i b, st.vis i = some b ∧ b.ro = false ∧ E.ρ i = k

structure Post (w0 : World) (E : Env) (st : St) (w : World) (E' : Env) (st' : St) (w' : World) : Prop where
  le : E.le E'
  dom : ∀ i, E'.dom i → E.dom i ∨ (st.next ≤ i ∧ i < st'.next)
  next : st.next ≤ st'.next
  sim : Sim w0 E' st' w'
  size : w.heap.size ≤ w'.heap.size
  frame : ∀ k, k < w.heap.size → ¬ Own E st k → w'.heap[k]? = w.heap[k]?
  cover : ∀ k, k < w.heap.size → Own E' st' k → Own E st k
  low : st'.low ≤ st.low
  keep : ∀ i, i < st.next → i < st'.low → st'.heap.get i = st.heap.get i
  hid : st'.hid = st.hid
  loops : ∀ (k : Nat) (r : Loop), w.heap[k]? = some (Obj.loop r) → ∃ r', w'.heap[k]? = some (Obj.loop r')

/-- None of the numbers that a step may give has been given. -/
def Fresh (E : Env) (st st' : St) : Prop := ∀ i, st.next ≤ i → i < st'.next → ¬ E.dom i

theorem Post.refl {w0 : World} {E : Env} {st : St} {w : World} (h : Sim w0 E st w) : Post w0 E st w E st w :=
  ⟨.refl E, fun _ h => .inl h, Nat.le_refl _, h, Nat.le_refl _, fun _ _ _ => rfl, fun _ _ h => h, Nat.le_refl _, fun _ _ _ => rfl, rfl, fun _ r h => ⟨r, h⟩⟩

theorem Post.trans {w0 : World} {E E1 E2 : Env} {st st1 st2 : St} {w w1 w2 : World} (a : Post w0 E st w E1 st1 w1) (b : Post w0 E1 st1 w1 E2 st2 w2) : Post w0 E st w E2 st2 w2 where
  le := a.le.trans b.le
  dom i hi := by
    rcases b.dom i hi with h | h
    · rcases a.dom i h with h | h
      · exact .inl h
      · exact .inr ⟨h.1, Nat.lt_of_lt_of_le h.2 b.next⟩
    · exact .inr ⟨Nat.le_trans a.next h.1, h.2⟩
  next := Nat.le_trans a.next b.next
  sim := b.sim
  size := Nat.le_trans a.size b.size
  frame k hk ho := by
    rw [b.frame k (Nat.lt_of_lt_of_le hk a.size) (fun h => ho (a.cover k hk h)), a.frame k hk ho]
  cover k hk ho := a.cover k hk (b.cover k (Nat.lt_of_lt_of_le hk a.size) ho)
  low := Nat.le_trans b.low a.low
  keep i hi hl := by rw [b.keep i (Nat.lt_of_lt_of_le hi a.next) hl, a.keep i hi (Nat.lt_of_lt_of_le hl b.low)]
  hid := b.hid.trans a.hid
  loops k r h := by obtain ⟨r1, h1⟩ := a.loops k r h; exact b.loops k r1 h1

theorem Fresh.left {E : Env} {st st1 st2 : St} (h : Fresh E st st2) (hn : st1.next ≤ st2.next) : Fresh E st st1 :=
  fun i h1 h2 => h i h1 (Nat.lt_of_lt_of_le h2 hn)

theorem Fresh.right {w0 : World} {E E1 : Env} {st st1 st2 : St} {w w1 : World} (h : Fresh E st st2) (a : Post w0 E st w E1 st1 w1) : Fresh E1 st1 st2 := by
  intro i h1 h2 hd
  rcases a.dom i hd with h' | h'
  · exact h i (Nat.le_trans a.next h1) h2 h'
  · omega

theorem Sim.drawn {w0 : World} {E : Env} {st : St} {w : World} (h : Sim w0 E st w) (d : Nat) : Sim w0 E st { w with drawn := d } :=
  ⟨⟨h.below.os, h.below.tape, h.below.output, h.below.size, h.below.block⟩, fun i b hb => ⟨(h.live i b hb).1, (BRel.mono (.refl E) (h.live i b hb).1 rfl (h.live i b hb).2)⟩, h.inj, h.bnd⟩

theorem Post.drawn {w0 : World} {E : Env} {st : St} {w : World} (h : Sim w0 E st w) (d : Nat) : Post w0 E st w E st { w with drawn := d } :=
  ⟨.refl E, fun _ h => .inl h, Nat.le_refl _, h.drawn d, Nat.le_refl _, fun _ _ _ => rfl, fun _ _ h => h, Nat.le_refl _, fun _ _ _ => rfl, rfl, fun _ r h => ⟨r, h⟩⟩

/-- Only the counters of the state differ. -/
theorem Sim.same {w0 : World} {E : Env} {st st' : St} {w : World} (h : Sim w0 E st w) (h1 : st'.heap = st.heap) (h2 : st'.hid = st.hid) (h3 : st.next ≤ st'.next) : Sim w0 E st' w := by
  have hv : ∀ i, st'.vis i = st.vis i := fun i => by simp [St.vis_eq, h1, h2]
  exact ⟨h.below, fun i b hb => h.live i b (by rw [← hv]; exact hb), fun i j bi bj hi hj => h.inj i j bi bj (by rw [← hv]; exact hi) (by rw [← hv]; exact hj), fun i b hi => Nat.lt_of_lt_of_le (h.bnd i b (h1 ▸ hi)) h3⟩

def Env.add (E : Env) (i r s : Nat) : Env where
  ρ := fun j => if j = i then r else E.ρ j
  σ := fun j => if j = i then s else E.σ j
  dom := fun j => j = i ∨ E.dom j

theorem Env.le_add {E : Env} {i r s : Nat} (h : ¬ E.dom i) : E.le (E.add i r s) := by
  refine ⟨fun j hj => .inr hj, fun j hj => ?_, fun j hj => ?_⟩ <;>
    (simp only [Env.add]; rw [if_neg]; rintro rfl; exact h hj)

/-- A number that is not given is hidden from sight. -/
theorem Sim.no {w0 : World} {E : Env} {st : St} {w : World} (h : Sim w0 E st w) {i : Nat} (hd : ¬ E.dom i) : st.vis i = none := by
  cases hv : st.vis i with
  | none => rfl
  | some b => exact absurd (h.live i b hv).1 hd

def St.new (st : St) (b : Blk) : St := { st with heap := st.heap.set st.next b, next := st.next + 1 }

/-- A new block. It must not be hidden: 'hh'. -/
theorem Post.alloc {w0 : World} {E : Env} {st : St} {w : World} (h : Sim w0 E st w) (hf : ¬ E.dom st.next) (hh : hidden st.hid st.next = false) (b : Blk) (o : Obj) (s : Nat) (w' : World)
    (hos : w'.os = w.os) (htape : w'.tape = w.tape) (hout : w'.output = w.output) (hheap : w'.heap = w.heap.push o)
    (hb : BRel w0.heap.size (E.add st.next w.heap.size s) st.next w' b) : Post w0 E st w (E.add st.next w.heap.size s) (st.new b) w' := by
  have hle := Env.le_add (r := w.heap.size) (s := s) hf
  have hvis : ∀ i, (st.new b).vis i = if i = st.next then some b else st.vis i := by
    intro i
    simp only [St.vis_eq, St.new, Tr.get_set]
    by_cases hi : i = st.next
    · subst hi; simp [hh]
    · simp [hi]
  have hold : ∀ k, k < w.heap.size → w'.heap[k]? = w.heap[k]? := by
    intro k hk
    rw [hheap, Array.getElem?_push, if_neg (by omega)]
  have hblt : ∀ i bi, st.vis i = some bi → E.ρ i < w.heap.size := fun i bi hi => (h.live i bi hi).2.lt
  have hρ : ∀ i, i ≠ st.next → (E.add st.next w.heap.size s).ρ i = E.ρ i := fun i hi => by simp [Env.add, hi]
  have hρn : (E.add st.next w.heap.size s).ρ st.next = w.heap.size := by simp [Env.add]
  refine ⟨hle, fun i hi => ?_, by simp [St.new], ⟨?_, fun i bi hi => ?_, fun i j bi bj hi hj r1 r2 he => ?_, fun i bi hi => ?_⟩, by rw [hheap]; simp, fun k hk _ => hold k hk, fun k hk ho => ?_, Nat.le_refl _, fun i hi _ => ?_, rfl, fun k r hk => ⟨r, by rw [hold k (Array.getElem?_eq_some_iff.1 hk).1]; exact hk⟩⟩
  · rcases hi with rfl | hi
    · exact .inr ⟨Nat.le_refl _, by simp [St.new]⟩
    · exact .inl hi
  · refine ⟨hos.trans h.below.os, htape.trans h.below.tape, hout.trans h.below.output, ?_, fun k hk => ?_⟩
    · rw [hheap, Array.size_push]; exact Nat.le_succ_of_le h.below.size
    · rw [hold k (Nat.lt_of_lt_of_le hk h.below.size)]; exact h.below.block k hk
  · rw [hvis] at hi
    by_cases hin : i = st.next
    · subst hin
      rw [if_pos rfl] at hi
      cases hi
      exact ⟨.inl rfl, hb⟩
    · rw [if_neg hin] at hi
      exact ⟨.inr (h.live i bi hi).1, BRel.mono hle (h.live i bi hi).1 (hold _ (hblt i bi hi)) (h.live i bi hi).2⟩
  · rw [hvis] at hi hj
    by_cases hin : i = st.next <;> by_cases hjn : j = st.next
    · rw [hin, hjn]
    · rw [if_neg hjn] at hj
      rw [hin, hρn, hρ j hjn] at he
      have := hblt j bj hj
      omega
    · rw [if_neg hin] at hi
      rw [hjn, hρn, hρ i hin] at he
      have := hblt i bi hi
      omega
    · rw [if_neg hin] at hi
      rw [if_neg hjn] at hj
      rw [hρ i hin, hρ j hjn] at he
      exact h.inj i j bi bj hi hj r1 r2 he
  · simp only [St.new, Tr.get_set] at hi ⊢
    by_cases hin : i = st.next
    · omega
    · rw [if_neg hin] at hi; have := h.bnd i bi hi; omega
  · obtain ⟨i, bi, hi, hr, hk'⟩ := ho
    rw [hvis] at hi
    by_cases hin : i = st.next
    · rw [hin, hρn] at hk'; omega
    · rw [if_neg hin] at hi
      rw [hρ i hin] at hk'
      exact ⟨i, bi, hi, hr, hk'⟩
  · simp only [St.new, Tr.get_set]
    rw [if_neg (by omega)]

def St.put (st : St) (i : Nat) (b : Blk) : St := { st with heap := st.heap.set i b, low := bif Nat.blt i st.low then i else st.low }

theorem St.low_put (st : St) (i : Nat) (b : Blk) : (st.put i b).low ≤ st.low ∧ (st.put i b).low ≤ i := by
  simp only [St.put]
  cases h : Nat.blt i st.low with
  | true => simp; have := (Nat.blt_eq.mp h); omega
  | false =>
    simp
    rcases Nat.lt_or_ge i st.low with h' | h'
    · have := Nat.blt_eq.mpr h'
      rw [this] at h; cases h
    · exact h'

theorem Sim.vis_of {st : St} {i : Nat} {b : Blk} (h : st.vis i = some b) : hidden st.hid i = false ∧ st.heap.get i = some b := by
  rw [St.vis_eq] at h
  by_cases hh : hidden st.hid i = true
  · rw [if_pos hh] at h; cases h
  · rw [if_neg hh] at h; exact ⟨by simpa using hh, h⟩

/-- A block of the call's own is written. -/
theorem Post.upd {w0 : World} {E : Env} {st : St} {w : World} (h : Sim w0 E st w) {i : Nat} {b b' : Blk} (hv : st.vis i = some b) (hro : b.ro = false) (w' : World)
    (hos : w'.os = w.os) (htape : w'.tape = w.tape) (hout : w'.output = w.output) (hsize : w'.heap.size = w.heap.size)
    (hoth : ∀ k, k ≠ E.ρ i → w'.heap[k]? = w.heap[k]?) (hb : BRel w0.heap.size E i w' b') (hl : b.isLoop = true → b'.isLoop = true := by intro h; cases h) : Post w0 E st w E (st.put i b') w' := by
  obtain ⟨hh, hg⟩ := Sim.vis_of hv
  have hvis : ∀ j, (st.put i b').vis j = if j = i then some b' else st.vis j := by
    intro j
    simp only [St.vis_eq, St.put, Tr.get_set]
    by_cases hj : j = i
    · subst hj; simp [hh]
    · simp [hj]
  have hB := (h.live i b hv).2.old.2 hro
  refine ⟨.refl E, fun _ h => .inl h, Nat.le_refl _, ⟨?_, fun j bj hj => ?_, fun j k bj bk hj hk r1 r2 he => ?_, fun j bj hj => ?_⟩, by omega, fun k hk ho => ?_, fun k hk ho => ?_, (St.low_put st i b').1, fun j hj hl => ?_, rfl, fun k r hk => ?_⟩
  · refine ⟨hos.trans h.below.os, htape.trans h.below.tape, hout.trans h.below.output, by rw [hsize]; exact h.below.size, fun k hk => ?_⟩
    rw [hoth k (by omega)]; exact h.below.block k hk
  · rw [hvis] at hj
    by_cases hji : j = i
    · subst hji
      rw [if_pos rfl] at hj
      cases hj
      exact ⟨(h.live j b hv).1, hb⟩
    · rw [if_neg hji] at hj
      have hl := h.live j bj hj
      refine ⟨hl.1, BRel.mono (.refl E) hl.1 (hoth _ fun he => ?_) hl.2⟩
      cases hr : bj.ro with
      | false => exact hji (h.inj j i bj b hj hv hr hro he)
      | true => have := hl.2.old.1 hr; omega
  · rw [hvis] at hj hk
    by_cases hji : j = i <;> by_cases hki : k = i
    · rw [hji, hki]
    · rw [if_neg hki] at hk
      rw [hji] at he ⊢
      exact h.inj i k b bk hv hk hro r2 he
    · rw [if_neg hji] at hj
      rw [hki] at he ⊢
      exact h.inj j i bj b hj hv r1 hro he
    · rw [if_neg hji] at hj
      rw [if_neg hki] at hk
      exact h.inj j k bj bk hj hk r1 r2 he
  · simp only [St.put, Tr.get_set] at hj ⊢
    by_cases hji : j = i
    · subst hji; exact h.bnd j b hg
    · rw [if_neg hji] at hj; exact h.bnd j bj hj
  · exact hoth k fun he => ho ⟨i, b, hv, hro, he.symm⟩
  · obtain ⟨j, bj, hj, hr, he⟩ := ho
    rw [hvis] at hj
    by_cases hji : j = i
    · subst hji; exact ⟨j, b, hv, hro, he⟩
    · rw [if_neg hji] at hj; exact ⟨j, bj, hj, hr, he⟩
  · have := (St.low_put st i b').2
    simp only [St.put, Tr.get_set]
    rw [if_neg (by omega)]
  · by_cases hki : k = E.ρ i
    · subst hki
      cases hbl : b.isLoop with
      | false => exact absurd hk ((h.live i b hv).2.notLoop hbl r)
      | true => exact hb.isLoop (hl hbl)
    · exact ⟨r, by rw [hoth k hki]; exact hk⟩

def St.kill (st : St) (i : Nat) : St := { st with heap := st.heap.del i, low := bif Nat.blt i st.low then i else st.low }

/-- A block is forgotten. -/
theorem Post.kill {w0 : World} {E : Env} {st : St} {w : World} (h : Sim w0 E st w) (i : Nat) : Post w0 E st w E (st.kill i) w := by
  have hvis : ∀ j, (st.kill i).vis j = if j = i then none else st.vis j := by
    intro j
    simp only [St.vis_eq, St.kill, Tr.get_del]
    by_cases hj : j = i <;> simp [hj]
  have hsub : ∀ j b, (st.kill i).vis j = some b → st.vis j = some b := by
    intro j b hj
    rw [hvis] at hj
    by_cases hji : j = i
    · rw [if_pos hji] at hj; cases hj
    · rw [if_neg hji] at hj; exact hj
  refine ⟨.refl E, fun _ h => .inl h, Nat.le_refl _, ⟨h.below, fun j b hj => h.live j b (hsub j b hj), fun j k bj bk hj hk => h.inj j k bj bk (hsub j bj hj) (hsub k bk hk), fun j bj hj => by
    simp only [St.kill, Tr.get_del] at hj
    by_cases hji : j = i
    · rw [if_pos hji] at hj; cases hj
    · rw [if_neg hji] at hj; exact h.bnd j bj hj⟩, Nat.le_refl _, fun _ _ _ => rfl, fun k _ ho => ?_, (St.low_put st i (.iter .empty 0)).1, fun j hj hl => ?_, rfl, fun _ r h => ⟨r, h⟩⟩
  · obtain ⟨j, bj, hj, hr, he⟩ := ho
    exact ⟨j, bj, hsub j bj hj, hr, he⟩
  · have := (St.low_put st i (.iter .empty 0)).2
    simp only [St.put] at this
    simp only [St.kill, Tr.get_del] at hl ⊢
    rw [if_neg (by omega)]

/-- A block that is not told of any more gets a new number: what it holds may have turned. -/
theorem Post.alias {w0 : World} {E : Env} {st : St} {w : World} (h : Sim w0 E st w) {i : Nat} {b b' : Blk} (hv : st.vis i = some b) (hro : b.ro = false) (hf : ¬ E.dom st.next) (hh : hidden st.hid st.next = false) (w' : World)
    (hos : w'.os = w.os) (htape : w'.tape = w.tape) (hout : w'.output = w.output) (hsize : w'.heap.size = w.heap.size)
    (hoth : ∀ k, k ≠ E.ρ i → w'.heap[k]? = w.heap[k]?) (hb : BRel w0.heap.size (E.add st.next (E.ρ i) (E.σ i)) st.next w' b')
    (hl : b.isLoop = false := by rfl) : Post w0 E st w (E.add st.next (E.ρ i) (E.σ i)) ((st.kill i).new b') w' := by
  have hle := Env.le_add (r := E.ρ i) (s := E.σ i) hf
  have hne : i ≠ st.next := fun he => hf (he ▸ (h.live i b hv).1)
  have hvis : ∀ j, ((st.kill i).new b').vis j = if j = st.next then some b' else if j = i then none else st.vis j := by
    intro j
    simp only [St.vis_eq, St.kill, St.new, Tr.get_set, Tr.get_del]
    by_cases hj : j = st.next
    · subst hj; simp [hh]
    · by_cases hj2 : j = i
      · subst hj2; simp [hne]
      · simp [hj, hj2]
  have hB := (h.live i b hv).2.old.2 hro
  have hρ : ∀ j, j ≠ st.next → (E.add st.next (E.ρ i) (E.σ i)).ρ j = E.ρ j := fun j hj => by simp [Env.add, hj]
  have hρn : (E.add st.next (E.ρ i) (E.σ i)).ρ st.next = E.ρ i := by simp [Env.add]
  refine ⟨hle, fun j hj => ?_, by simp [St.new, St.kill], ⟨?_, fun j bj hj => ?_, fun j k bj bk hj hk r1 r2 he => ?_, fun j bj hj => ?_⟩, by omega, fun k hk ho => ?_, fun k hk ho => ?_, (St.low_put st i (.iter .empty 0)).1, fun j hj hl => ?_, rfl, fun k r hk => ?_⟩
  · rcases hj with rfl | hj
    · exact .inr ⟨Nat.le_refl _, by simp [St.new, St.kill]⟩
    · exact .inl hj
  · refine ⟨hos.trans h.below.os, htape.trans h.below.tape, hout.trans h.below.output, by rw [hsize]; exact h.below.size, fun k hk => ?_⟩
    rw [hoth k (by omega)]; exact h.below.block k hk
  · rw [hvis] at hj
    by_cases hjn : j = st.next
    · subst hjn
      rw [if_pos rfl] at hj
      cases hj
      exact ⟨.inl rfl, hb⟩
    · rw [if_neg hjn] at hj
      by_cases hji : j = i
      · rw [if_pos hji] at hj; cases hj
      · rw [if_neg hji] at hj
        have hl := h.live j bj hj
        refine ⟨.inr hl.1, BRel.mono hle hl.1 (hoth _ fun he => ?_) hl.2⟩
        cases hr : bj.ro with
        | false => exact hji (h.inj j i bj b hj hv hr hro he)
        | true => have := hl.2.old.1 hr; omega
  · rw [hvis] at hj hk
    by_cases hjn : j = st.next <;> by_cases hkn : k = st.next
    · rw [hjn, hkn]
    · rw [if_neg hkn] at hk
      rw [hjn, hρn, hρ k hkn] at he
      by_cases hki : k = i
      · rw [if_pos hki] at hk; cases hk
      · rw [if_neg hki] at hk
        exact absurd (h.inj i k b bk hv hk hro r2 he).symm hki
    · rw [if_neg hjn] at hj
      rw [hkn, hρn, hρ j hjn] at he
      by_cases hji : j = i
      · rw [if_pos hji] at hj; cases hj
      · rw [if_neg hji] at hj
        exact absurd (h.inj j i bj b hj hv r1 hro he) hji
    · rw [if_neg hjn] at hj
      rw [if_neg hkn] at hk
      rw [hρ j hjn, hρ k hkn] at he
      by_cases hji : j = i
      · rw [if_pos hji] at hj; cases hj
      · by_cases hki : k = i
        · rw [if_pos hki] at hk; cases hk
        · rw [if_neg hji] at hj
          rw [if_neg hki] at hk
          exact h.inj j k bj bk hj hk r1 r2 he
  · simp only [St.new, St.kill, Tr.get_set, Tr.get_del] at hj ⊢
    by_cases hjn : j = st.next
    · omega
    · rw [if_neg hjn] at hj
      by_cases hji : j = i
      · rw [if_pos hji] at hj; cases hj
      · rw [if_neg hji] at hj; have := h.bnd j bj hj; omega
  · exact hoth k fun he => ho ⟨i, b, hv, hro, he.symm⟩
  · obtain ⟨j, bj, hj, hr, he⟩ := ho
    rw [hvis] at hj
    by_cases hjn : j = st.next
    · rw [hjn, hρn] at he; exact ⟨i, b, hv, hro, he⟩
    · rw [if_neg hjn] at hj
      by_cases hji : j = i
      · rw [if_pos hji] at hj; cases hj
      · rw [if_neg hji] at hj
        rw [hρ j hjn] at he
        exact ⟨j, bj, hj, hr, he⟩
  · have := (St.low_put st i (.iter .empty 0)).2
    simp only [St.put] at this
    simp only [St.kill, St.new, Tr.get_set, Tr.get_del] at hl ⊢
    rw [if_neg (by omega), if_neg (by omega)]
  · by_cases hki : k = E.ρ i
    · subst hki
      exact absurd hk ((h.live i b hv).2.notLoop hl r)
    · exact ⟨r, by rw [hoth k hki]; exact hk⟩
end Go.Proofs.YtfamacgopcfhhaaGreatDoor.Ax
