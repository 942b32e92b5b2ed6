/-
  AN EXECUTOR OVER AN ABSTRACT MEMORY, PART U: a drawing region's head in whatever order: the invariant, and one operation.
-/
import Derived.Test.YtfamacgopcfhhaaGreatDoorAxS
namespace Go.Proofs.YtfamacgopcfhhaaGreatDoor.Ax
open Go.RowKit

structure Ctx (C : Cfg) (w0 : World) (ih : CallF) (nt : Nat) (ops : Array Oper) (N : Nat) (lt : Nat) (Rs : List (Nat × Nat)) (T : Nat → HS) (E0 : Env) (ws : World) (d0 : List Deferred) : Prop where
  ok : C.Ok
  snd : SndF C w0 ih
  grw : GrwF ih
  tr : ∀ j, j < N → ∃ o m, ops.toList[j]? = some o ∧ (masks ops.toList [])[j]? = some m ∧ Step C ih nt ops.toList lt Rs T j o m
  edges : ∀ j o, j < N → ops.toList[j]? = some o → edgesA j o.after.toList = true
  pairs : ∀ j o m, j < N → ops.toList[j]? = some o → (masks ops.toList [])[j]? = some m → pairA ops.toList m o ops.toList 0 j = true
  hid : hidOkA (T 0).st.next (T 0).st.hid = true
  hidR : hidOkA (T 0).st.next Rs = true
  sim : Sim w0 E0 (T 0).st ws
  genv : GEnv C E0
  fresh : Fresh E0 (T 0).st (T N).st
  noSel : True

section
variable {C : Cfg} {w0 : World} {ih : CallF} {nt : Nat} {ops : Array Oper} {N : Nat} {lt : Nat} {Rs : List (Nat × Nat)} {T : Nat → HS} {E0 : Env} {ws : World} {d0 : List Deferred} (X : Ctx C w0 ih nt ops N lt Rs T E0 ws d0)
include X

theorem Ctx.chain : ∀ (j : Nat), j ≤ N → ∀ i, i ≤ j → Grow (T i).st (T j).st ∧ (T j).st.low = (T i).st.low ∧ ∀ k, k < (T i).st.next → (T j).st.heap.get k = (T i).st.heap.get k := by
  intro j
  induction j with
  | zero => intro _ i hi; have : i = 0 := by omega
            subst this; exact ⟨.refl _, rfl, fun _ _ => rfl⟩
  | succ j ihj =>
    intro hj i hi
    by_cases hij : i = j + 1
    · subst hij; exact ⟨.refl _, rfl, fun _ _ => rfl⟩
    · obtain ⟨g1, g2, g3⟩ := ihj (by omega) i (by omega)
      obtain ⟨o, m, _, _, hs⟩ := X.tr j (by omega)
      obtain ⟨s1, s2, s3⟩ := step_grow X.grw hs
      exact ⟨g1.trans s1, by rw [s2, g2], fun k hk => by rw [s3 k (Nat.lt_of_lt_of_le hk g1.next), g3 k hk]⟩

theorem Ctx.next {i j : Nat} (h : i ≤ j) (hj : j ≤ N) : (T i).st.next ≤ (T j).st.next := (X.chain j hj i h).1.next

theorem Ctx.heap {i j : Nat} (h : i ≤ j) (hj : j ≤ N) {k : Nat} (hk : k < (T i).st.next) : (T j).st.heap.get k = (T i).st.heap.get k := (X.chain j hj i h).2.2 k hk

theorem Ctx.hidE {j : Nat} (hj : j ≤ N) : (T j).st.hid = (T 0).st.hid := (X.chain j hj 0 (by omega)).1.hid

theorem Ctx.bnd {j : Nat} (hj : j ≤ N) : ∀ k b, (T j).st.heap.get k = some b → k < (T j).st.next := (X.chain j hj 0 (by omega)).1.bnd X.sim.bnd

omit X in
theorem Ctx.range : ∀ (i : Nat), i ≤ N → ∀ k, (T 0).st.next ≤ k → k < (T i).st.next → ∃ j, j < i ∧ (T j).st.next ≤ k ∧ k < (T (j + 1)).st.next := by
  intro i
  induction i with
  | zero => intro _ k h1 h2; omega
  | succ i ihi =>
    intro hi k h1 h2
    by_cases hk : (T i).st.next ≤ k
    · exact ⟨i, by omega, hk, h2⟩
    · obtain ⟨j, h3, h4⟩ := ihi (by omega) k h1 (by omega)
      exact ⟨j, by omega, h4⟩

theorem Ctx.oneRange {i j k : Nat} (hi : i < N) (hj : j < N) (h1 : (T i).st.next ≤ k) (h2 : k < (T (i + 1)).st.next) (h3 : (T j).st.next ≤ k) (h4 : k < (T (j + 1)).st.next) : i = j := by
  rcases Nat.lt_trichotomy i j with h | h | h
  · have := X.next (i := i + 1) (j := j) (by omega) (by omega); omega
  · exact h
  · have := X.next (i := j + 1) (j := i) (by omega) (by omega); omega
end

/-- The blocks that are told of when the operations of L have been carried out. -/
def VisS (N : Nat) (T : Nat → HS) (L : Nat → Bool) (k : Nat) (b : Blk) : Prop :=
  (T 0).st.vis k = some b ∨ ∃ j, j < N ∧ L j = true ∧ (T j).st.next ≤ k ∧ k < (T (j + 1)).st.next ∧ (T N).st.heap.get k = some b

def dstAt (ops : Array Oper) (i : Nat) : Option Nat := (ops.toList[i]?).bind (·.dst)

/-- What a slot holds when the operations of L have been carried out. -/
def slotS (ops : Array Oper) (T : Nat → HS) (L : Nat → Bool) (t : Nat) : Nat → Option AV
  | 0 => (T 0).fr.get t
  | i + 1 => if L i = true ∧ dstAt ops i = some t then (T (i + 1)).fr.get t else slotS ops T L t i

structure Inv (C : Cfg) (w0 : World) (nt : Nat) (ops : Array Oper) (N : Nat) (T : Nat → HS) (E0 : Env) (ws : World) (d0 : List Deferred) (L : Nat → Bool) (E : Env) (a : Act) (w : World) : Prop where
  down : ∀ i o, ops.toList[i]? = some o → L i = true → ∀ e ∈ o.after.toList, bindsAny e = true → L e.on = true
  tail : ∀ i, N ≤ i → L i = false
  le : E0.le E
  dom : ∀ k, E.dom k → E0.dom k ∨ ∃ j, j < N ∧ L j = true ∧ (T j).st.next ≤ k ∧ k < (T (j + 1)).st.next
  below : Below w0.heap.size w0 w
  live : ∀ k b, VisS N T L k b → E.dom k ∧ BRel w0.heap.size E k w b
  inj : ∀ i j bi bj, VisS N T L i bi → VisS N T L j bj → bi.ro = false → bj.ro = false → E.ρ i = E.ρ j → i = j
  size : ws.heap.size ≤ w.heap.size
  frame : ∀ k, k < ws.heap.size → ¬ Own E0 (T 0).st k → w.heap[k]? = ws.heap[k]?
  cover : ∀ q, q < ws.heap.size → (∃ k b, VisS N T L k b ∧ b.ro = false ∧ E.ρ k = q) → Own E0 (T 0).st q
  tm : ∀ t r, slotS ops T L t N = some r → ∃ v, a.tmps[t]? = some v ∧ VRel E r v
  nt : a.tmps.size = nt
  defers : a.defers = d0
  loops : ∀ (k : Nat) (r : Loop), ws.heap[k]? = some (Obj.loop r) → ∃ r', w.heap[k]? = some (Obj.loop r')

theorem step_put {C : Cfg} {ih : CallF} {nt : Nat} {all : List Oper} {lt : Nat} {Rs : List (Nat × Nat)} {T : Nat → HS} {j : Nat} {o : Oper} {m : Nat} (h : Step C ih nt all lt Rs T j o m) (t : Nat) (ht : o.dst ≠ some t) : (T (j + 1)).fr.get t = (T j).fr.get t := by
  obtain ⟨x, stx, h1, h2, h3, h4, _⟩ := h
  cases hd : o.dst with
  | none => rw [hd] at h3; simp only [putA, Option.some.injEq] at h3; rw [h3]
  | some d =>
    rw [hd] at h3
    simp only [putA] at h3
    cases hb : Nat.blt d nt with
    | false => simp only [hb, cond_false, reduceCtorEq] at h3
    | true =>
      simp only [hb, cond_true, Option.some.injEq] at h3
      rw [← h3, Fr.get_set, if_neg]
      rintro rfl
      exact ht hd

section
variable {C : Cfg} {w0 : World} {ih : CallF} {nt : Nat} {ops : Array Oper} {N : Nat} {lt : Nat} {Rs : List (Nat × Nat)} {T : Nat → HS} {E0 : Env} {ws : World} {d0 : List Deferred} (X : Ctx C w0 ih nt ops N lt Rs T E0 ws d0)
include X

/-- Up to place i the slot holds what it held in the order of the text, if all that wrote it there are listed. -/
theorem Ctx.slot_before {L : Nat → Bool} {t : Nat} : ∀ (i : Nat), i ≤ N → (∀ j, j < i → dstAt ops j = some t → L j = true) → slotS ops T L t i = (T i).fr.get t := by
  intro i
  induction i with
  | zero => intro _ _; rfl
  | succ i ihi =>
    intro hi h
    simp only [slotS]
    by_cases hd : dstAt ops i = some t
    · rw [if_pos ⟨h i (by omega) hd, hd⟩]
    · rw [if_neg (fun h' => hd h'.2), ihi (by omega) fun j hj => h j (by omega)]
      obtain ⟨o, m, h1, _, h3⟩ := X.tr i (by omega)
      exact (step_put h3 t (by simpa [dstAt, h1] using hd)).symm

omit X in
/-- From place i on the slot holds what it held there, if none of those that write it later is listed. -/
theorem slot_after {L : Nat → Bool} {t i : Nat} : ∀ (n : Nat), i ≤ n → (∀ j, i ≤ j → j < n → dstAt ops j = some t → L j = false) → slotS ops T L t n = slotS ops T L t i := by
  intro n
  induction n with
  | zero => intro h _; have : i = 0 := by omega
            subst this; rfl
  | succ n ihn =>
    intro h hl
    by_cases hi : i = n + 1
    · subst hi; rfl
    · simp only [slotS]
      by_cases hd : dstAt ops n = some t
      · rw [if_neg (fun h' => by rw [hl n (by omega) (by omega) hd] at h'; cases h'.1)]
        exact ihn (by omega) fun j h1 h2 => hl j h1 (by omega)
      · rw [if_neg (fun h' => hd h'.2)]
        exact ihn (by omega) fun j h1 h2 => hl j h1 (by omega)

omit X in
theorem slot_congr {L L' : Nat → Bool} {t : Nat} : ∀ (n : Nat), (∀ j, j < n → L j = L' j ∨ dstAt ops j ≠ some t) → slotS ops T L t n = slotS ops T L' t n := by
  intro n
  induction n with
  | zero => intro _; rfl
  | succ n ihn =>
    intro h
    simp only [slotS]
    rw [ihn fun j hj => h j (by omega)]
    rcases h n (by omega) with h1 | h1
    · rw [h1]
    · rw [if_neg (fun h' => h1 h'.2), if_neg (fun h' => h1 h'.2)]
end
end Go.Proofs.YtfamacgopcfhhaaGreatDoor.Ax
