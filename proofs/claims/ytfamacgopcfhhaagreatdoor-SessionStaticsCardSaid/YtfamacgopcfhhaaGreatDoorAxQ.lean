/-
  AN EXECUTOR OVER AN ABSTRACT MEMORY, PART Q: a region that draws its order: its head in whatever order its edges allow, its tail in the order of the text.
-/
import Derived.Test.YtfamacgopcfhhaaGreatDoorAxO
namespace Go.Proofs.YtfamacgopcfhhaaGreatDoor.Ax
open Go.RowKit

/-! Which operations come before another one in every order: a number whose bits tell. -/
def bindsAny (e : Edge) : Bool :=
  match e.ground with
  | .textOnly _ | .gcOnly _ => false
  | _ => true

theorem bindsAny_eq (e : Edge) : Region.binds .any e = bindsAny e := by
  unfold Region.binds bindsAny
  cases e.ground <;> rfl

def maskE (acc : List Nat) : List Edge → Nat → Nat
  | [], s => s
  | e :: es, s => bif bindsAny e then maskE acc es (Nat.lor s (Nat.lor (Nat.shiftLeft 1 e.on) (match nth acc e.on with | some m => m | none => 0))) else maskE acc es s

def masks : List Oper → List Nat → List Nat
  | [], acc => acc
  | o :: os, acc => masks os (acc ++ [maskE acc o.after.toList 0])

def looksA (all : List Oper) (o : Oper) : List Nat :=
  (o.op.operands.toList.filterMap fun | .tmp t => some t | _ => none) ++
  (match o.guard with
   | some (g, _) => (match nth all g with | some og => og.dst.toList | none => [])
   | none => [])

/-- A frame with these slots alone. -/
def restr (fr : Fr) : List Nat → Fr
  | [] => .empty
  | n :: l => match fr.get n with
    | some a => (restr fr l).set n a
    | none => restr fr l

theorem restr_get (fr : Fr) : ∀ (l : List Nat) (t : Nat) (a : AV), (restr fr l).get t = some a → t ∈ l ∧ fr.get t = some a := by
  intro l
  induction l with
  | nil => intro t a h; simp [restr, Fr.get_empty] at h
  | cons n l ih =>
    intro t a h
    simp only [restr] at h
    cases hn : fr.get n with
    | none => simp only [hn] at h; obtain ⟨h1, h2⟩ := ih t a h; exact ⟨List.mem_cons_of_mem _ h1, h2⟩
    | some b =>
      simp only [hn, Fr.get_set] at h
      by_cases ht : t = n
      · subst ht; rw [if_pos rfl] at h; cases h; exact ⟨List.mem_cons_self .., hn⟩
      · rw [if_neg ht] at h; obtain ⟨h1, h2⟩ := ih t a h; exact ⟨List.mem_cons_of_mem _ h1, h2⟩

def memN (t : Nat) : List Nat → Bool
  | [] => false
  | n :: l => bif Nat.beq t n then true else memN t l

theorem memN_iff (t : Nat) : ∀ l, memN t l = true ↔ t ∈ l
  | [] => by simp [memN]
  | n :: l => by
    simp only [memN, Tr.cbeq, List.mem_cons]
    by_cases h : t = n
    · simp [h]
    · simp [h, memN_iff t l]

/-- Two operations that do not meddle with each other's slots. -/
def freeA (all : List Oper) (x y : Oper) : Bool :=
  (match x.dst with | some d => !memN d (looksA all y) && (match y.dst with | some e => !Nat.beq e d | none => true) | none => true) &&
  (match y.dst with | some e => !memN e (looksA all x) | none => true)

/-- For operation y at place i: every earlier one (places from j on) that meddles with it is bound to come before it. -/
def pairA (all : List Oper) (m : Nat) (y : Oper) : List Oper → Nat → Nat → Bool
  | [], _, _ => true
  | _ :: _, _, 0 => true
  | x :: xs, j, n + 1 => (freeA all x y || Nat.testBit m j) && pairA all m y xs (j + 1) n

def edgesA (i : Nat) : List Edge → Bool
  | [] => true
  | e :: es => (!bindsAny e || Nat.blt e.on i) && edgesA i es

/-- The head's operations, place by place. -/
def headOkA (all : List Oper) : List Oper → List Nat → Nat → Nat → Bool
  | _, _, _, 0 => true
  | o :: os, m :: ms, i, n + 1 => edgesA i o.after.toList && (pairA all m o all 0 i && headOkA all os ms (i + 1) n)
  | _, _, _, _ => false

/-- The tail's operations come behind all of the head, but for those that float. -/
def tailOkA (full fl : Nat) : List Nat → Bool
  | [] => true
  | m :: ms => Nat.beq (Nat.land (Nat.lor m fl) full) full && tailOkA full fl ms

/-- How long the head is: all but the operations at the end that come behind everything before them (what floats aside). -/
def tailLen (fl : Nat) : List Nat → Nat → Nat
  | [], _ => 0
  | m :: ms, i => bif Nat.beq (Nat.land (Nat.lor m fl) (Nat.pred (Nat.shiftLeft 1 i))) (Nat.pred (Nat.shiftLeft 1 i)) then (bif Nat.beq (tailLen fl ms (i + 1)) ms.length then ms.length + 1 else tailLen fl ms (i + 1)) else tailLen fl ms (i + 1)

def linkA : List Edge → Nat → Bool
  | [], _ => false
  | e :: es, p => (bindsAny e && Nat.beq e.on p) || linkA es p

/-- Operations each of which comes behind the one before it. -/
def chainA : Bool → List Oper → Nat → Bool
  | _, [], _ => true
  | first, o :: os, k => edgesA k o.after.toList && ((first || linkA o.after.toList (Nat.pred k)) && chainA false os (k + 1))

/-! Operations that float: each only hands a slot's value on, and meddles with none that is not tied to it. -/
def handsOn : Op → Bool
  | .move _ | .assign _ | .extract _ _ | .indexAddr _ _ _ | .fieldAddr _ _ _ | .nilCheck _ => true
  | .binOp op _ _ _ _ => (match op with | .eql | .neq => false | _ => true)
  | _ => false

/-- It may write what was there. -/
def writesA : Op → Bool
  | .store .. => true
  | .call c => (match c.callee with | .builtin .append | .builtin .copy | .builtin .clear => true | .value _ => true | _ => false)
  | .mapUpdate _ _ _ _ | .insert _ _ _ _ => true
  | _ => false

def anyWrites : List Oper → Nat → Bool
  | [], _ => false
  | _ :: _, 0 => false
  | o :: os, n + 1 => writesA o.op || anyWrites os n

def apartAll (all : List Oper) (i : Nat) (o : Oper) : List Oper → Nat → Bool
  | [], _ => true
  | x :: xs, j => (Nat.beq j i || (linkA o.after.toList j || (linkA x.after.toList i || freeA all o x))) && apartAll all i o xs (j + 1)

def floatA (all : List Oper) (i : Nat) (o : Oper) : Bool := handsOn o.op && (o.guard.isNone && apartAll all i o all 0)

def flMask (all : List Oper) : List Oper → Nat → Nat
  | [], _ => 0
  | o :: os, i => bif floatA all i o then Nat.lor (Nat.shiftLeft 1 i) (flMask all os (i + 1)) else flMask all os (i + 1)

def noSelA : List Oper → Bool
  | [] => true
  | o :: os => (match o.op with | .select _ _ => false | _ => true) && noSelA os

/-! Loads that may come late: through a slot that the region doesn't write, out of a block that nothing else in the region sees. -/
def notDst (p : Nat) : List Oper → Bool
  | [] => true
  | o :: os => (match o.dst with | some d => !Nat.beq d p | none => true) && notDst p os

def lateA (all : List Oper) (i : Nat) (o : Oper) : Bool :=
  match o.op with
  | .load _ (.tmp _) => o.guard.isNone && apartAll all i o all 0
  | _ => false

def ltMask (all : List Oper) : List Oper → Nat → Nat
  | [], _ => 0
  | o :: os, i => bif lateA all i o then Nat.lor (Nat.shiftLeft 1 i) (ltMask all os (i + 1)) else ltMask all os (i + 1)

/-! Where the address in a slot comes from: a guess. -/
def wrOf (p : Nat) : List Oper → Option Nat
  | [] => none
  | o :: os => match o.dst with
    | some d => bif Nat.beq d p then (match o.op with
        | .fieldAddr _ (.tmp q) _ => some q
        | .indexAddr _ (.tmp q) _ => some q
        | .move (.tmp q) => some q
        | .nilCheck (.tmp q) => some q
        | _ => none) else wrOf p os
    | none => wrOf p os
def rootOf (all : List Oper) (p : Nat) : Nat → Nat
  | 0 => p
  | n + 1 => match wrOf p all with
    | some q => rootOf all q n
    | none => p

/-- The blocks that the late loads read: a guess, which is looked at again when the load is carried out ('lateChk'). -/
def lateR (fr : Fr) (lt : Nat) (all : List Oper) : List Oper → Nat → Option (List (Nat × Nat))
  | [], _ => some []
  | o :: os, i => bif Nat.testBit lt i then
      (match o.op with
      | .load _ (.tmp p) => (match fr.get (rootOf all p 4) with
        | some (.ptr b _) => (match lateR fr lt all os (i + 1) with
          | some l => some ((b, b + 1) :: l)
          | none => none)
        | some (.sl b _ _ _) => (match lateR fr lt all os (i + 1) with
          | some l => some ((b, b + 1) :: l)
          | none => none)
        | some (.slu b _ _ _ _) => (match lateR fr lt all os (i + 1) with
          | some l => some ((b, b + 1) :: l)
          | none => none)
        | _ => none)
      | _ => none)
    else lateR fr lt all os (i + 1)

def lateBs (fr : Fr) (lt : Nat) (ops : List Oper) : Option (List (Nat × Nat)) := bif Nat.beq lt 0 then some [] else lateR fr lt ops ops 0

/-- A late load reads a block that the others don't see. -/
def lateChk (lt i : Nat) (Rs : List (Nat × Nat)) (fr : Fr) (o : Oper) : Bool :=
  !Nat.testBit lt i || (match o.op with
    | .load _ (.tmp p) => (match fr.get p with
      | some (.ptr b _) => hidden Rs b
      | _ => false)
    | _ => false)

/-- What is asked behind an operation of the head. -/
def okL (lt i : Nat) (Rs : List (Nat × Nat)) (fr : Fr) (o : Oper) (a b : Nat) : Bool :=
  bif Nat.ble a b then (bif Nat.beq lt 0 then true else lateChk lt i Rs fr o) else false
theorem okL_spec {lt i : Nat} {Rs : List (Nat × Nat)} {fr : Fr} {o : Oper} {a b : Nat} (h : okL lt i Rs fr o a b = true) : a ≤ b ∧ lateChk lt i Rs fr o = true := by
  unfold okL at h
  cases hab : Nat.ble a b with
  | false => rw [hab] at h; cases h
  | true =>
    rw [hab, cond_true] at h
    refine ⟨Nat.le_of_ble_eq_true hab, ?_⟩
    rw [Tr.cbeq] at h
    by_cases hl : lt = 0
    · subst hl; simp [lateChk]
    · rw [if_neg hl] at h; exact h

/-- What more is hidden from an operation that is no late load. -/
def exH (lt j : Nat) (Rs h : List (Nat × Nat)) : List (Nat × Nat) := bif Nat.testBit lt j then h else Rs ++ h

/-- What was hidden is as it was. -/
def backR (h : Tr Blk) : List (Nat × Nat) → Tr Blk → Option (Tr Blk)
  | [], t => some t
  | (b, _) :: l, t => match h.get b with
    | some k => backR h l (t.set b k)
    | none => none

/-- How many operations at the end come each behind the one before it and behind all before it (what floats aside). -/
def tailLenC (fl : Nat) : List Nat → List Oper → Nat → Nat
  | m :: ms, _ :: os, i =>
    bif (Nat.beq (Nat.land (Nat.lor m fl) (Nat.pred (Nat.shiftLeft 1 i))) (Nat.pred (Nat.shiftLeft 1 i))) && (Nat.beq (tailLenC fl ms os (i + 1)) ms.length && (match os with | [] => true | o :: _ => linkA o.after.toList i)) then ms.length + 1 else tailLenC fl ms os (i + 1)
  | _, _, _ => 0

/-- What of the head some operation of the tail does not wait for. -/
def missM (full : Nat) : List Nat → Nat
  | [] => 0
  | m :: ms => Nat.lor (Nat.sub full (Nat.land m full)) (missM full ms)

/-- The roots of the loads of a mask. -/
def rootsM (all : List Oper) (m : Nat) : List Oper → Nat → List Nat
  | [], _ => []
  | o :: os, i => bif Nat.testBit m i then (match o.op with
      | .load _ (.tmp p) => rootOf all p 4 :: rootsM all m os (i + 1)
      | _ => rootsM all m os (i + 1)) else rootsM all m os (i + 1)
/-- The loads with such roots. -/
def sameM (all : List Oper) (rs : List Nat) : List Oper → Nat → Nat
  | [], _ => 0
  | o :: os, i => match o.op with
      | .load _ (.tmp p) => bif memN (rootOf all p 4) rs then Nat.lor (Nat.shiftLeft 1 i) (sameM all rs os (i + 1)) else sameM all rs os (i + 1)
      | _ => sameM all rs os (i + 1)
/-- What loads late, where the head has n operations: what some operation of the tail does not wait for, and what reads through the same slots. -/
def ltSel (ops : List Oper) (lt0 n : Nat) : Nat := sameM ops (rootsM ops (Nat.land lt0 (missM (Nat.pred (Nat.shiftLeft 1 n)) ((masks ops []).drop n))) ops 0) (ops.take n) 0

/-- The head takes in all that may load late, where something does. -/
def nSel (ops : List Oper) (lt0 n : Nat) : Nat := bif Nat.beq (ltSel ops lt0 n) 0 then n else (bif Nat.ble n (Nat.log2 lt0) then Nat.succ (Nat.log2 lt0) else n)

/-- The head's length, what floats, what loads late. -/
def planC (ops : List Oper) (N fl lt0 n : Nat) : Nat × Nat × Nat :=
  bif Nat.blt n N && anyWrites (ops.drop n) (Nat.sub N n) then
    (let lt := Nat.land lt0 (ltSel ops lt0 (nSel ops lt0 n)); (nSel ops lt0 n, Nat.lor fl lt, lt))
  else (N, fl, 0)
def planB (ops : List Oper) (N fl : Nat) : Nat × Nat × Nat :=
  bif anyWrites ops N then planC ops N fl (ltMask ops ops 0) (ops.length - tailLenC (Nat.lor fl (ltMask ops ops 0)) (masks ops []) ops 0) else (N, fl, 0)
def planA (ops : List Oper) : Nat × Nat × Nat :=
  bif anyWrites ops (ops.length - tailLen 0 (masks ops []) 0) && noSelA ops then planB ops (ops.length - tailLenC (flMask ops ops 0) (masks ops []) ops 0) (flMask ops ops 0) else (ops.length - tailLen 0 (masks ops []) 0, 0, 0)

def shapeOkA (ops : Array Oper) (N fl : Nat) : Bool :=
  headOkA ops.toList ops.toList (masks ops.toList []) 0 N &&
  (tailOkA (Nat.pred (Nat.shiftLeft 1 N)) fl ((masks ops.toList []).drop N) &&
  chainA true (ops.toList.drop N) N)

/-- What of the blocks made in this region is not to be seen. -/
def hidA (m : Nat) : List (Nat × Nat × Nat) → List (Nat × Nat) → List (Nat × Nat)
  | [], h => h
  | (j, lo, hi) :: l, h => bif (Nat.testBit m j || Nat.beq lo hi) then hidA m l h else (lo, hi) :: hidA m l h

def headA (C : Cfg) (ih : CallF) (nt : Nat) (all : List Oper) (lt : Nat) (Rs : List (Nat × Nat)) : List Oper → List Nat → Nat → List (Nat × Nat × Nat) → Fr → St → Option (Fr × St)
  | [], _, _, _, fr, st => some (fr, st)
  | _ :: _, [], _, _, _, _ => none
  | o :: os, m :: ms, i, rs, fr, st =>
    match stepA C ih all (restr fr (looksA all o)) { st with hid := exH lt i Rs (hidA m rs st.hid), low := st.next } o with
    | none => none
    | some (x, st1) =>
      bif okL lt i Rs fr o st.next st1.low then
        match putA nt fr o.dst x with
        | none => none
        | some fr' => headA C ih nt all lt Rs os ms (i + 1) ((i, st.next, st1.next) :: rs) fr' { st1 with hid := st.hid, low := st.low }
      else none

def hidOkA (n : Nat) : List (Nat × Nat) → Bool
  | [] => true
  | (_, hi) :: l => Nat.ble hi n && hidOkA n l

def drawA (C : Cfg) (ih : CallF) (nt : Nat) (ops : Array Oper) (fr : Fr) (st : St) : Option (Fr × St) :=
  let N := (planA ops.toList).1
  match lateBs fr (planA ops.toList).2.2 ops.toList with
  | none => none
  | some Rs =>
    bif shapeOkA ops N (planA ops.toList).2.1 && (Nat.ble N ops.size && (hidOkA st.next st.hid && hidOkA st.next Rs)) then
      match headA C ih nt ops.toList (planA ops.toList).2.2 Rs (ops.toList.take N) (masks ops.toList []) 0 [] fr st with
      | none => none
      | some (fr1, st1) => match opsA C ih nt ops.toList (ops.toList.drop N) fr1 { st1 with hid := Rs ++ st1.hid } with
        | none => none
        | some (fr2, st2) => match backR st1.heap Rs st2.heap with
          | none => none
          | some h => some (fr2, { st2 with heap := h, hid := st1.hid })
    else none
end Go.Proofs.YtfamacgopcfhhaaGreatDoor.Ax
