/-
  AN EXECUTOR OVER AN ABSTRACT MEMORY, PART Ma: frames: sixty-four slots in eight rows, the rest in a trie.
-/
import Derived.Test.YtfamacgopcfhhaaGreatDoorAxA
namespace Go.Proofs.YtfamacgopcfhhaaGreatDoor.Ax
open Go.RowKit

structure B8 where
  a0 : Option AV
  a1 : Option AV
  a2 : Option AV
  a3 : Option AV
  a4 : Option AV
  a5 : Option AV
  a6 : Option AV
  a7 : Option AV

structure Fr where
  b0 : B8
  b1 : B8
  b2 : B8
  b3 : B8
  b4 : B8
  b5 : B8
  b6 : B8
  b7 : B8
  hi : Tr AV

def B8.get (b : B8) : Nat → Option AV
  | 0 => b.a0
  | 1 => b.a1
  | 2 => b.a2
  | 3 => b.a3
  | 4 => b.a4
  | 5 => b.a5
  | 6 => b.a6
  | 7 => b.a7
  | _ => none

def B8.set (b : B8) (v : AV) : Nat → B8
  | 0 => { b with a0 := some v }
  | 1 => { b with a1 := some v }
  | 2 => { b with a2 := some v }
  | 3 => { b with a3 := some v }
  | 4 => { b with a4 := some v }
  | 5 => { b with a5 := some v }
  | 6 => { b with a6 := some v }
  | 7 => { b with a7 := some v }
  | _ => b

def Fr.row (x : Fr) : Nat → B8
  | 0 => x.b0
  | 1 => x.b1
  | 2 => x.b2
  | 3 => x.b3
  | 4 => x.b4
  | 5 => x.b5
  | 6 => x.b6
  | 7 => x.b7
  | _ => x.b0

def Fr.setRow (x : Fr) (b : B8) : Nat → Fr
  | 0 => { x with b0 := b }
  | 1 => { x with b1 := b }
  | 2 => { x with b2 := b }
  | 3 => { x with b3 := b }
  | 4 => { x with b4 := b }
  | 5 => { x with b5 := b }
  | 6 => { x with b6 := b }
  | 7 => { x with b7 := b }
  | _ => x

def Fr.get (x : Fr) (k : Nat) : Option AV := bif Nat.blt k 64 then (x.row (k / 8)).get (k % 8) else x.hi.get k
def Fr.set (x : Fr) (k : Nat) (v : AV) : Fr := bif Nat.blt k 64 then x.setRow ((x.row (k / 8)).set v (k % 8)) (k / 8) else { x with hi := x.hi.set k v }
def B8.empty : B8 := ⟨none, none, none, none, none, none, none, none⟩
def Fr.empty : Fr := ⟨B8.empty, B8.empty, B8.empty, B8.empty, B8.empty, B8.empty, B8.empty, B8.empty, .leaf⟩

theorem lt8 {i : Nat} (h : i < 8) : i = 0 ∨ i = 1 ∨ i = 2 ∨ i = 3 ∨ i = 4 ∨ i = 5 ∨ i = 6 ∨ i = 7 := by omega

theorem B8.get_set (b : B8) (v : AV) (i j : Nat) (hi : i < 8) (hj : j < 8) : (b.set v i).get j = if j = i then some v else b.get j := by
  rcases lt8 hi with rfl | rfl | rfl | rfl | rfl | rfl | rfl | rfl <;> rcases lt8 hj with rfl | rfl | rfl | rfl | rfl | rfl | rfl | rfl <;> rfl

theorem Fr.row_setRow (x : Fr) (b : B8) (i j : Nat) (hi : i < 8) (hj : j < 8) : (x.setRow b i).row j = if j = i then b else x.row j := by
  rcases lt8 hi with rfl | rfl | rfl | rfl | rfl | rfl | rfl | rfl <;> rcases lt8 hj with rfl | rfl | rfl | rfl | rfl | rfl | rfl | rfl <;> rfl

theorem Fr.hi_setRow (x : Fr) (b : B8) (i : Nat) (hi : i < 8) : (x.setRow b i).hi = x.hi := by
  rcases lt8 hi with rfl | rfl | rfl | rfl | rfl | rfl | rfl | rfl <;> rfl

theorem Fr.row_hi (x : Fr) (t : Tr AV) (i : Nat) (hi : i < 8) : (Fr.row { x with hi := t } i) = x.row i := by
  rcases lt8 hi with rfl | rfl | rfl | rfl | rfl | rfl | rfl | rfl <;> rfl

theorem Fr.get_set (x : Fr) (k : Nat) (v : AV) (j : Nat) : (x.set k v).get j = if j = k then some v else x.get j := by
  unfold Fr.get Fr.set
  simp only [nblt, Bool.cond_decide]
  by_cases hk : k < 64
  · rw [if_pos hk]
    by_cases hj : j < 64
    · rw [if_pos hj, if_pos hj, Fr.row_setRow _ _ _ _ (by omega) (by omega)]
      by_cases hr : j / 8 = k / 8
      · rw [if_pos hr, B8.get_set _ _ _ _ (by omega) (by omega), hr]
        by_cases hc : j % 8 = k % 8
        · rw [if_pos hc, if_pos (by omega)]
        · rw [if_neg hc, if_neg (by omega)]
      · rw [if_neg hr, if_neg (by omega)]
    · rw [if_neg hj, if_neg hj, Fr.hi_setRow _ _ _ (by omega), if_neg (by omega)]
  · rw [if_neg hk]
    by_cases hj : j < 64
    · rw [if_pos hj, if_pos hj, Fr.row_hi _ _ _ (by omega), if_neg (by omega)]
    · rw [if_neg hj, if_neg hj]
      exact Tr.get_set _ _ _ _

theorem Fr.get_empty (k : Nat) : Fr.empty.get k = none := by
  unfold Fr.get
  simp only [nblt, Bool.cond_decide]
  by_cases hk : k < 64
  · rw [if_pos hk]
    have h1 : k / 8 < 8 := by omega
    have h2 : k % 8 < 8 := by omega
    generalize k / 8 = i at h1
    generalize k % 8 = j at h2
    rcases lt8 h1 with rfl | rfl | rfl | rfl | rfl | rfl | rfl | rfl <;> rcases lt8 h2 with rfl | rfl | rfl | rfl | rfl | rfl | rfl | rfl <;> rfl
  · rw [if_neg hk]; rfl

def Fr.ofList : List AV → Nat → Fr → Fr
  | [], _, x => x
  | v :: vs, k, x => Fr.ofList vs (k + 1) (x.set k v)

theorem Fr.get_ofList : ∀ (l : List AV) (k : Nat) (x : Fr) (j : Nat), (Fr.ofList l k x).get j = if k ≤ j ∧ j < k + l.length then l[j - k]? else x.get j := by
  intro l
  induction l with
  | nil => intro k x j; simp only [Fr.ofList, List.length_nil]; rw [if_neg (by omega)]
  | cons v l ih =>
    intro k x j
    simp only [Fr.ofList, ih, Fr.get_set, List.length_cons]
    by_cases h : k + 1 ≤ j ∧ j < k + 1 + l.length
    · rw [if_pos h, if_pos (by omega)]
      have : j - k = (j - (k + 1)) + 1 := by omega
      rw [this, List.getElem?_cons_succ]
    · rw [if_neg h]
      by_cases hj : j = k
      · subst hj; rw [if_pos rfl, if_pos (by omega)]; simp
      · rw [if_neg hj, if_neg (by omega)]

/-! The quick forms: what does not hang on the frame is closed, and so reckoned once. -/
noncomputable section
def sel8 {α : Type} (x0 x1 x2 x3 x4 x5 x6 x7 : α) (i : Nat) : α :=
  @Nat.rec (fun _ => α) x0 (fun i _ => @Nat.rec (fun _ => α) x1 (fun i _ => @Nat.rec (fun _ => α) x2 (fun i _ => @Nat.rec (fun _ => α) x3 (fun i _ => @Nat.rec (fun _ => α) x4 (fun i _ => @Nat.rec (fun _ => α) x5 (fun i _ => @Nat.rec (fun _ => α) x6 (fun _ _ => x7) i) i) i) i) i) i) i
structure CB where
  f : B8 → Option AV
structure RB where
  f : Fr → B8
structure SC where
  f : AV → B8 → B8
structure SR where
  f : Fr → (B8 → B8) → Fr
structure GB where
  f : Fr → Option AV
structure SB where
  f : Fr → AV → Fr

def sc0 (v : AV) (b : B8) : B8 := @B8.rec (fun _ => B8) (fun _ a1 a2 a3 a4 a5 a6 a7 => ⟨some v, a1, a2, a3, a4, a5, a6, a7⟩) b
def sc1 (v : AV) (b : B8) : B8 := @B8.rec (fun _ => B8) (fun a0 _ a2 a3 a4 a5 a6 a7 => ⟨a0, some v, a2, a3, a4, a5, a6, a7⟩) b
def sc2 (v : AV) (b : B8) : B8 := @B8.rec (fun _ => B8) (fun a0 a1 _ a3 a4 a5 a6 a7 => ⟨a0, a1, some v, a3, a4, a5, a6, a7⟩) b
def sc3 (v : AV) (b : B8) : B8 := @B8.rec (fun _ => B8) (fun a0 a1 a2 _ a4 a5 a6 a7 => ⟨a0, a1, a2, some v, a4, a5, a6, a7⟩) b
def sc4 (v : AV) (b : B8) : B8 := @B8.rec (fun _ => B8) (fun a0 a1 a2 a3 _ a5 a6 a7 => ⟨a0, a1, a2, a3, some v, a5, a6, a7⟩) b
def sc5 (v : AV) (b : B8) : B8 := @B8.rec (fun _ => B8) (fun a0 a1 a2 a3 a4 _ a6 a7 => ⟨a0, a1, a2, a3, a4, some v, a6, a7⟩) b
def sc6 (v : AV) (b : B8) : B8 := @B8.rec (fun _ => B8) (fun a0 a1 a2 a3 a4 a5 _ a7 => ⟨a0, a1, a2, a3, a4, a5, some v, a7⟩) b
def sc7 (v : AV) (b : B8) : B8 := @B8.rec (fun _ => B8) (fun a0 a1 a2 a3 a4 a5 a6 _ => ⟨a0, a1, a2, a3, a4, a5, a6, some v⟩) b
def sr0 (x : Fr) (g : B8 → B8) : Fr := @Fr.rec (fun _ => Fr) (fun a0 a1 a2 a3 a4 a5 a6 a7 t => ⟨g a0, a1, a2, a3, a4, a5, a6, a7, t⟩) x
def sr1 (x : Fr) (g : B8 → B8) : Fr := @Fr.rec (fun _ => Fr) (fun a0 a1 a2 a3 a4 a5 a6 a7 t => ⟨a0, g a1, a2, a3, a4, a5, a6, a7, t⟩) x
def sr2 (x : Fr) (g : B8 → B8) : Fr := @Fr.rec (fun _ => Fr) (fun a0 a1 a2 a3 a4 a5 a6 a7 t => ⟨a0, a1, g a2, a3, a4, a5, a6, a7, t⟩) x
def sr3 (x : Fr) (g : B8 → B8) : Fr := @Fr.rec (fun _ => Fr) (fun a0 a1 a2 a3 a4 a5 a6 a7 t => ⟨a0, a1, a2, g a3, a4, a5, a6, a7, t⟩) x
def sr4 (x : Fr) (g : B8 → B8) : Fr := @Fr.rec (fun _ => Fr) (fun a0 a1 a2 a3 a4 a5 a6 a7 t => ⟨a0, a1, a2, a3, g a4, a5, a6, a7, t⟩) x
def sr5 (x : Fr) (g : B8 → B8) : Fr := @Fr.rec (fun _ => Fr) (fun a0 a1 a2 a3 a4 a5 a6 a7 t => ⟨a0, a1, a2, a3, a4, g a5, a6, a7, t⟩) x
def sr6 (x : Fr) (g : B8 → B8) : Fr := @Fr.rec (fun _ => Fr) (fun a0 a1 a2 a3 a4 a5 a6 a7 t => ⟨a0, a1, a2, a3, a4, a5, g a6, a7, t⟩) x
def sr7 (x : Fr) (g : B8 → B8) : Fr := @Fr.rec (fun _ => Fr) (fun a0 a1 a2 a3 a4 a5 a6 a7 t => ⟨a0, a1, a2, a3, a4, a5, a6, g a7, t⟩) x
def colB (i : Nat) : CB := sel8 ⟨B8.a0⟩ ⟨B8.a1⟩ ⟨B8.a2⟩ ⟨B8.a3⟩ ⟨B8.a4⟩ ⟨B8.a5⟩ ⟨B8.a6⟩ ⟨B8.a7⟩ i
def rowB (i : Nat) : RB := sel8 ⟨Fr.b0⟩ ⟨Fr.b1⟩ ⟨Fr.b2⟩ ⟨Fr.b3⟩ ⟨Fr.b4⟩ ⟨Fr.b5⟩ ⟨Fr.b6⟩ ⟨Fr.b7⟩ i
def setC (i : Nat) : SC := sel8 ⟨sc0⟩ ⟨sc1⟩ ⟨sc2⟩ ⟨sc3⟩ ⟨sc4⟩ ⟨sc5⟩ ⟨sc6⟩ ⟨sc7⟩ i
def setR (i : Nat) : SR := sel8 ⟨sr0⟩ ⟨sr1⟩ ⟨sr2⟩ ⟨sr3⟩ ⟨sr4⟩ ⟨sr5⟩ ⟨sr6⟩ ⟨sr7⟩ i
def mkG (r : RB) (c : CB) : GB := @RB.rec (fun _ => GB) (fun f => @CB.rec (fun _ => GB) (fun g => ⟨fun x => g (f x)⟩) c) r
def mkS (r : SR) (c : SC) : SB := @SR.rec (fun _ => SB) (fun f => @SC.rec (fun _ => SB) (fun g => ⟨fun x v => f x (g v)⟩) c) r
def hiS (k : Nat) (x : Fr) (v : AV) : Fr := ⟨x.b0, x.b1, x.b2, x.b3, x.b4, x.b5, x.b6, x.b7, x.hi.set k v⟩
def gB (k : Nat) : GB := @Bool.rec (fun _ => GB) ⟨fun x => x.hi.get k⟩ (mkG (rowB (Nat.div k (nat_lit 8))) (colB (Nat.mod k (nat_lit 8)))) (Nat.ble (Nat.succ k) (nat_lit 64))
def sB (k : Nat) : SB := @Bool.rec (fun _ => SB) ⟨hiS k⟩ (mkS (setR (Nat.div k (nat_lit 8))) (setC (Nat.mod k (nat_lit 8)))) (Nat.ble (Nat.succ k) (nat_lit 64))

theorem gB_eq (k : Nat) (x : Fr) : (gB k).f x = x.get k := by
  unfold gB Fr.get
  have e : Nat.ble (Nat.succ k) 64 = Nat.blt k 64 := rfl
  show GB.f (@Bool.rec (fun _ => GB) _ (mkG (rowB (k / 8)) (colB (k % 8))) (Nat.ble (Nat.succ k) 64)) x = _
  rw [e]
  cases hb : Nat.blt k 64 with
  | false => rfl
  | true =>
    have hk := Nat.blt_eq.mp hb
    have h1 : k / 8 < 8 := by omega
    have h2 : k % 8 < 8 := by omega
    show GB.f (mkG (rowB (k / 8)) (colB (k % 8))) x = (x.row (k / 8)).get (k % 8)
    generalize k / 8 = i at h1
    generalize k % 8 = j at h2
    rcases lt8 h1 with rfl | rfl | rfl | rfl | rfl | rfl | rfl | rfl <;> rcases lt8 h2 with rfl | rfl | rfl | rfl | rfl | rfl | rfl | rfl <;> rfl

theorem sB_eq (k : Nat) (x : Fr) (v : AV) : (sB k).f x v = x.set k v := by
  unfold sB Fr.set
  have e : Nat.ble (Nat.succ k) 64 = Nat.blt k 64 := rfl
  show SB.f (@Bool.rec (fun _ => SB) _ (mkS (setR (k / 8)) (setC (k % 8))) (Nat.ble (Nat.succ k) 64)) x v = _
  rw [e]
  cases hb : Nat.blt k 64 with
  | false => rfl
  | true =>
    have hk := Nat.blt_eq.mp hb
    have h1 : k / 8 < 8 := by omega
    have h2 : k % 8 < 8 := by omega
    show SB.f (mkS (setR (k / 8)) (setC (k % 8))) x v = x.setRow ((x.row (k / 8)).set v (k % 8)) (k / 8)
    generalize k / 8 = i at h1
    generalize k % 8 = j at h2
    rcases lt8 h1 with rfl | rfl | rfl | rfl | rfl | rfl | rfl | rfl <;> rcases lt8 h2 with rfl | rfl | rfl | rfl | rfl | rfl | rfl | rfl <;> rfl
end
end Go.Proofs.YtfamacgopcfhhaaGreatDoor.Ax
