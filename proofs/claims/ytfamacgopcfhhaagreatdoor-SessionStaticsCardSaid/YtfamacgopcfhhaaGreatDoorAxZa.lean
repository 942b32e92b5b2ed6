/-
  AN EXECUTOR OVER AN ABSTRACT MEMORY, PART Za: the quick form: regions, code, calls; that what it computes is what the call does.
-/
import Derived.Test.YtfamacgopcfhhaaGreatDoorAxZ
namespace Go.Proofs.YtfamacgopcfhhaaGreatDoor.Ax
open Go.RowKit

noncomputable section
def wantF (all : List Oper) (fr : Fr) (g : Nat × Bool) : Option Bool :=
  prF (fun j want => optF none (fun oj => optF none (fun d => optF none (fun a => boolD (tupD none (fun l => @List.rec AV (fun _ => Option Bool) (some false) (fun _ _ _ => none) l) a) (fun b => some (ifF b want (notF want))) a) ((gB d).f fr)) oj.dst) (nthF all j)) g

theorem wantF_eq (all : List Oper) (fr : Fr) (o : Oper) : wantA all fr o = optF (some true) (wantF all fr) o.guard := by
  unfold wantA
  cases o.guard with
  | none => rfl
  | some p =>
    obtain ⟨j, want⟩ := p
    show _ = optF none _ (nthF all j)
    rw [nthF_eq]
    dsimp only
    cases nth all j with
    | none => rfl
    | some oj =>
      show _ = optF none _ oj.dst
      dsimp only
      cases oj.dst with
      | none => rfl
      | some d =>
        show _ = optF none _ ((gB d).f fr)
        rw [gB_eq]
        dsimp only
        cases fr.get d with
        | none => rfl
        | some a =>
          cases a with
          | bool b => show _ = some (ifF b want (notF want)); rw [ifF_eq, notF_eq]
          | tup l => cases l <;> rfl
          | _ => rfl

def stepF (C : Cfg) (ih : CallF) (all : List Oper) (o : Oper) (fr : Fr) (st : St) : Option (AV × St) :=
  optF ((opB o.op).f C ih fr st) (fun g => optF none (fun b => ifF b ((opB o.op).f C ih fr st) (some (.tup [], st))) (wantF all fr g)) o.guard

theorem stepF_eq (C : Cfg) (ih : CallF) (all : List Oper) (o : Oper) (fr : Fr) (st : St) : stepF C ih all o fr st = stepA C ih all fr st o := by
  unfold stepF stepA
  rw [opTab_eq, wantF_eq]
  have key : aftA ih st (aop C fr st o) = match aop C fr st o with
    | none => none
    | some (.val a st') => some (a, st')
    | some (.skip st') => some (.tup [], st')
    | some (.enter f args) => ih f args st := by
    unfold aftA
    rfl
  cases o.guard with
  | none => exact key
  | some g =>
    show optF none _ (wantF all fr g) = match wantF all fr g with | none => none | some false => some (AV.tup [], st) | some true => _
    cases wantF all fr g with
    | none => rfl
    | some b => cases b with
      | true => exact key
      | false => rfl

def putFF (nt : Nat) (fr : Fr) (dst : Option Tmp) (a : AV) : Option (Fr) := optF (some fr) (fun d => ifF (Nat.ble (Nat.succ d) nt) (some ((sB d).f fr a)) none) dst
theorem putFF_eq (nt : Nat) (fr : Fr) (dst : Option Tmp) (a : AV) : putFF nt fr dst a = putA nt fr dst a := by
  cases dst with
  | none => rfl
  | some d =>
    show ifF _ (some ((sB d).f fr a)) none = _
    rw [ifF_eq, sB_eq]; rfl

/-! One operation with its slot, all that does not hang on the frame reckoned once. -/
structure WB where
  f : Fr → Option Bool
structure QB where
  f : Fr → AV → Fr
structure PB where
  f : Cfg → CallF → Fr → St → Option (Fr × St)
def judgeF (want : Bool) (a : AV) : Option Bool := boolD (tupD none (fun l => @List.rec AV (fun _ => Option Bool) (some false) (fun _ _ _ => none) l) a) (fun b => some (ifF b want (notF want))) a
def wantG (want : Bool) (g : GB) : WB := @GB.rec (fun _ => WB) (fun f => ⟨fun x => optF none (judgeF want) (f x)⟩) g
def noW : WB := ⟨fun _ => none⟩
def wantB (all : List Oper) (g : Nat × Bool) : WB := prF (fun j want => optF noW (fun oj => optF noW (fun d => wantG want (gB d)) oj.dst) (nthF all j)) g
theorem wantB_eq (all : List Oper) (g : Nat × Bool) (fr : Fr) : (wantB all g).f fr = wantF all fr g := by
  obtain ⟨j, want⟩ := g
  show (optF noW (fun oj => optF noW (fun d => wantG want (gB d)) oj.dst) (nthF all j)).f fr = optF none _ (nthF all j)
  cases nthF all j with
  | none => rfl
  | some oj =>
    show (optF noW (fun d => wantG want (gB d)) oj.dst).f fr = optF none _ oj.dst
    cases oj.dst with
    | none => rfl
    | some d => rfl

def putQ (s : SB) : QB := @SB.rec (fun _ => QB) (fun f => ⟨f⟩) s
def putB (nt : Nat) (dst : Option Tmp) : Option QB := optF (some ⟨fun x _ => x⟩) (fun d => ifF (Nat.ble (Nat.succ d) nt) (some (putQ (sB d))) none) dst
theorem putB_eq (nt : Nat) (dst : Option Tmp) (fr : Fr) (a : AV) : optF none (fun q => some (QB.f q fr a)) (putB nt dst) = putA nt fr dst a := by
  rw [← putFF_eq]
  cases dst with
  | none => rfl
  | some d =>
    show optF none _ (ifF (Nat.ble (Nat.succ d) nt) (some (putQ (sB d))) none) = ifF (Nat.ble (Nat.succ d) nt) (some ((sB d).f fr a)) none
    rw [ifF_eq, ifF_eq]
    cases Nat.ble (Nat.succ d) nt <;> rfl
def noP : PB := ⟨fun _ _ _ _ => none⟩
def plainB (o : OB) (q : Option QB) : PB := optF noP (fun q => @QB.rec (fun _ => PB) (fun g => @OB.rec (fun _ => PB) (fun f => ⟨fun C ih fr st => optF none (prF fun a st' => some (g fr a, st')) (f C ih fr st)⟩) o) q) q
def guardB (w : WB) (o : OB) (q : Option QB) : PB := optF noP (fun q => @QB.rec (fun _ => PB) (fun g => @OB.rec (fun _ => PB) (fun f => @WB.rec (fun _ => PB) (fun h => ⟨fun C ih fr st => optF none (fun b => ifF b (optF none (prF fun a st' => some (g fr a, st')) (f C ih fr st)) (some (g fr (.tup []), st))) (h fr)⟩) w) o) q) q
def stepB (nt : Nat) (all : List Oper) (o : Oper) : PB := optF (plainB (opB o.op) (putB nt o.dst)) (fun g => guardB (wantB all g) (opB o.op) (putB nt o.dst)) o.guard

theorem stepB_eq (nt : Nat) (all : List Oper) (o : Oper) (C : Cfg) (ih : CallF) (fr : Fr) (st : St) :
    (stepB nt all o).f C ih fr st = optF none (prF fun a st' => optF none (fun fr' => some (fr', st')) (putA nt fr o.dst a)) (stepF C ih all o fr st) := by
  have hp := putB_eq nt o.dst fr
  unfold stepB stepF
  cases hg : o.guard with
  | none =>
    show (plainB (opB o.op) (putB nt o.dst)).f C ih fr st = optF none _ ((opB o.op).f C ih fr st)
    cases hq : putB nt o.dst with
    | none =>
      rw [hq] at hp
      show none = _
      cases (opB o.op).f C ih fr st with
      | none => rfl
      | some p =>
        obtain ⟨a, st'⟩ := p
        show none = optF none _ (putA nt fr o.dst a)
        rw [← hp]; rfl
    | some q =>
      rw [hq] at hp
      show optF none (prF fun a st' => some (QB.f q fr a, st')) ((opB o.op).f C ih fr st) = _
      cases (opB o.op).f C ih fr st with
      | none => rfl
      | some p =>
        obtain ⟨a, st'⟩ := p
        show _ = optF none _ (putA nt fr o.dst a)
        rw [← hp]; rfl
  | some g =>
    show (guardB (wantB all g) (opB o.op) (putB nt o.dst)).f C ih fr st = optF none _ (optF none (fun b => ifF b ((opB o.op).f C ih fr st) (some (.tup [], st))) (wantF all fr g))
    rw [← wantB_eq]
    cases hq : putB nt o.dst with
    | none =>
      rw [hq] at hp
      show none = _
      cases (wantB all g).f fr with
      | none => rfl
      | some b =>
        cases b with
        | false =>
          show none = optF none _ (putA nt fr o.dst (.tup []))
          rw [← hp]; rfl
        | true =>
          show none = optF none _ ((opB o.op).f C ih fr st)
          cases (opB o.op).f C ih fr st with
          | none => rfl
          | some p =>
            obtain ⟨a, st'⟩ := p
            show none = optF none _ (putA nt fr o.dst a)
            rw [← hp]; rfl
    | some q =>
      rw [hq] at hp
      show optF none (fun b => ifF b (optF none (prF fun a st' => some (QB.f q fr a, st')) ((opB o.op).f C ih fr st)) (some (QB.f q fr (.tup []), st))) ((wantB all g).f fr) = _
      cases (wantB all g).f fr with
      | none => rfl
      | some b =>
        cases b with
        | false =>
          show _ = optF none _ (putA nt fr o.dst (.tup []))
          rw [← hp]; rfl
        | true =>
          show optF none _ ((opB o.op).f C ih fr st) = optF none _ ((opB o.op).f C ih fr st)
          cases (opB o.op).f C ih fr st with
          | none => rfl
          | some p =>
            obtain ⟨a, st'⟩ := p
            show _ = optF none _ (putA nt fr o.dst a)
            rw [← hp]; rfl

def opsF (C : Cfg) (ih : CallF) (nt : Nat) (all : List Oper) (l : List Oper) : Fr → St → Option (Fr × St) :=
  @List.rec Oper (fun _ => Fr → St → Option (Fr × St)) (fun fr st => some (fr, st)) (fun o _ ihl fr st => optF none (prF ihl) ((stepB nt all o).f C ih fr st)) l
theorem opsF_eq (C : Cfg) (ih : CallF) (nt : Nat) (all : List Oper) : ∀ (l : List Oper) (fr : Fr) (st : St), opsF C ih nt all l fr st = opsA C ih nt all l fr st
  | [], _, _ => rfl
  | o :: l, fr, st => by
    show optF none (prF (opsF C ih nt all l)) ((stepB nt all o).f C ih fr st) = _
    rw [stepB_eq, stepF_eq]
    simp only [opsA]
    cases stepA C ih all fr st o with
    | none => rfl
    | some p =>
      obtain ⟨a, st'⟩ := p
      show optF none _ (optF none _ (putA nt fr o.dst a)) = _
      dsimp only
      cases putA nt fr o.dst a with
      | none => rfl
      | some fr' => exact opsF_eq C ih nt all l fr' st'

def restrF (fr : Fr) (l : List Nat) : Fr := @List.rec Nat (fun _ => Fr) .empty (fun n _ ih => optF ih (fun a => (sB n).f ih a) ((gB n).f fr)) l
theorem restrF_eq (fr : Fr) : ∀ (l : List Nat), restrF fr l = restr fr l
  | [] => rfl
  | n :: l => by
    show optF (restrF fr l) (fun a => (sB n).f (restrF fr l) a) ((gB n).f fr) = _
    rw [restrF_eq fr l, gB_eq]
    simp only [restr]
    cases fr.get n with
    | none => rfl
    | some a => exact sB_eq _ _ _

def headF (C : Cfg) (ih : CallF) (nt : Nat) (all : List Oper) (lt : Nat) (Rs : List (Nat × Nat)) (os : List Oper) : List Nat → Nat → List (Nat × Nat × Nat) → Fr → St → Option (Fr × St) :=
  @List.rec Oper (fun _ => List Nat → Nat → List (Nat × Nat × Nat) → Fr → St → Option (Fr × St)) (fun _ _ _ fr st => some (fr, st))
    (fun o _ ihl ms i rs fr st => @List.rec Nat (fun _ => Option (Fr × St)) none (fun m ms _ =>
      optF none (prF fun x st1 => ifF (okL lt i Rs fr o st.next st1.low) (optF none (fun fr' => ihl ms (Nat.succ i) ((i, st.next, st1.next) :: rs) fr' ⟨st1.heap, st1.next, st.low, st.hid⟩) (putFF nt fr o.dst x)) none)
        (stepF C ih all o (restrF fr (looksA all o)) ⟨st.heap, st.next, st.next, exH lt i Rs (hidA m rs st.hid)⟩)) ms) os
theorem headF_eq (C : Cfg) (ih : CallF) (nt : Nat) (all : List Oper) (lt : Nat) (Rs : List (Nat × Nat)) : ∀ (os : List Oper) (ms : List Nat) (i : Nat) (rs : List (Nat × Nat × Nat)) (fr : Fr) (st : St), headF C ih nt all lt Rs os ms i rs fr st = headA C ih nt all lt Rs os ms i rs fr st
  | [], ms, _, _, _, _ => by cases ms <;> rfl
  | o :: os, [], _, _, _, _ => rfl
  | o :: os, m :: ms, i, rs, fr, st => by
    show optF none (prF fun x st1 => ifF (okL lt i Rs fr o st.next st1.low) (optF none (fun fr' => headF C ih nt all lt Rs os ms (Nat.succ i) ((i, st.next, st1.next) :: rs) fr' ⟨st1.heap, st1.next, st.low, st.hid⟩) (putFF nt fr o.dst x)) none)
        (stepF C ih all o (restrF fr (looksA all o)) ⟨st.heap, st.next, st.next, exH lt i Rs (hidA m rs st.hid)⟩) = _
    rw [stepF_eq, restrF_eq]
    simp only [headA]
    cases stepA C ih all (restr fr (looksA all o)) ⟨st.heap, st.next, st.next, exH lt i Rs (hidA m rs st.hid)⟩ o with
    | none => rfl
    | some p =>
      obtain ⟨x, st1⟩ := p
      show ifF (okL lt i Rs fr o st.next st1.low) _ none = _
      rw [ifF_eq]
      dsimp only
      cases okL lt i Rs fr o st.next st1.low with
      | false => rfl
      | true =>
        rw [putFF_eq]
        dsimp only [cond_true]
        cases putA nt fr o.dst x with
        | none => rfl
        | some fr' => exact headF_eq C ih nt all lt Rs os ms (i + 1) _ fr' _

def headLen (ops : List Oper) : Nat := (planA ops).1
def ltOf (ops : List Oper) : Nat := (planA ops).2.2
def backG (st1 : St) (Rs : List (Nat × Nat)) (fr2 : Fr) (st2 : St) : Option (Fr × St) := optF none (fun h => some (fr2, ⟨h, st2.next, st2.low, st1.hid⟩)) (backR st1.heap Rs st2.heap)
def drawG (lt : Nat) (Rs : List (Nat × Nat)) (C : Cfg) (ih : CallF) (nt : Nat) (ops : Array Oper) (fr : Fr) (st : St) : Option (Fr × St) :=
  ifF (shapeOkA ops (headLen ops.toList) (planA ops.toList).2.1) (ifF (Nat.ble (headLen ops.toList) ops.size) (ifF (hidOkA st.next st.hid) (ifF (hidOkA st.next Rs)
    (optF none (prF fun fr1 st1 => optF none (prF fun fr2 st2 => backG st1 Rs fr2 st2) (opsF C ih nt ops.toList (dropF ops.toList (headLen ops.toList)) fr1 ⟨st1.heap, st1.next, st1.low, Rs ++ st1.hid⟩)) (headF C ih nt ops.toList lt Rs (takeF ops.toList (headLen ops.toList)) (masks ops.toList []) (nat_lit 0) [] fr st)) none) none) none) none
def drawF (C : Cfg) (ih : CallF) (nt : Nat) (ops : Array Oper) (fr : Fr) (st : St) : Option (Fr × St) :=
  ifF (Nat.beq (ltOf ops.toList) (nat_lit 0)) (drawG (nat_lit 0) [] C ih nt ops fr st) (optF none (fun Rs => drawG (ltOf ops.toList) Rs C ih nt ops fr st) (lateR fr (ltOf ops.toList) ops.toList ops.toList (nat_lit 0)))
theorem drawG_eq (lt : Nat) (Rs : List (Nat × Nat)) (C : Cfg) (ih : CallF) (nt : Nat) (ops : Array Oper) (fr : Fr) (st : St) : drawG lt Rs C ih nt ops fr st =
    (bif shapeOkA ops (planA ops.toList).1 (planA ops.toList).2.1 && (Nat.ble (planA ops.toList).1 ops.size && (hidOkA st.next st.hid && hidOkA st.next Rs)) then
      match headA C ih nt ops.toList lt Rs (ops.toList.take (planA ops.toList).1) (masks ops.toList []) 0 [] fr st with
      | none => none
      | some (fr1, st1) => match opsA C ih nt ops.toList (ops.toList.drop (planA ops.toList).1) fr1 { st1 with hid := Rs ++ st1.hid } with
        | none => none
        | some (fr2, st2) => match backR st1.heap Rs st2.heap with
          | none => none
          | some h => some (fr2, { st2 with heap := h, hid := st1.hid })
    else none) := by
  unfold drawG
  have hl : headLen ops.toList = (planA ops.toList).1 := rfl
  rw [hl, ifF_eq, ifF_eq, ifF_eq, ifF_eq, headF_eq, takeF_eq, dropF_eq]
  generalize (planA ops.toList).1 = N
  generalize (planA ops.toList).2.1 = fl
  cases shapeOkA ops N fl with
  | false => rfl
  | true =>
    cases Nat.ble N ops.size with
    | false => rfl
    | true =>
      cases hidOkA st.next st.hid with
      | false => rfl
      | true =>
        cases hidOkA st.next Rs with
        | false => rfl
        | true =>
          simp only [cond_true, Bool.and_self]
          cases headA C ih nt ops.toList lt Rs (ops.toList.take N) (masks ops.toList []) 0 [] fr st with
          | none => rfl
          | some p =>
            obtain ⟨fr1, st1⟩ := p
            show optF none _ (opsF C ih nt ops.toList (ops.toList.drop N) fr1 ⟨st1.heap, st1.next, st1.low, Rs ++ st1.hid⟩) = _
            rw [opsF_eq]
            dsimp only
            cases opsA C ih nt ops.toList (ops.toList.drop N) fr1 ⟨st1.heap, st1.next, st1.low, Rs ++ st1.hid⟩ with
            | none => rfl
            | some p2 =>
              obtain ⟨fr2, st2⟩ := p2
              show optF none _ (backR st1.heap Rs st2.heap) = _
              dsimp only
              cases backR st1.heap Rs st2.heap with
              | none => rfl
              | some h => rfl
theorem drawF_eq (C : Cfg) (ih : CallF) (nt : Nat) (ops : Array Oper) (fr : Fr) (st : St) : drawF C ih nt ops fr st = drawA C ih nt ops fr st := by
  unfold drawF drawA lateBs
  have hl : ltOf ops.toList = (planA ops.toList).2.2 := rfl
  rw [hl, ifF_eq]
  cases hz : Nat.beq (planA ops.toList).2.2 0 with
  | true =>
    have h0 := Nat.eq_of_beq_eq_true hz
    show drawG 0 [] C ih nt ops fr st = _
    simp only [cond_true]
    rw [drawG_eq, h0]
    rfl
  | false =>
    show optF none _ (lateR fr (planA ops.toList).2.2 ops.toList ops.toList 0) = _
    simp only [cond_false]
    cases lateR fr (planA ops.toList).2.2 ops.toList ops.toList 0 with
    | none => rfl
    | some Rs => exact drawG_eq _ _ _ _ _ _ _ _

abbrev Out := Option (Ex × Fr × St)
abbrev CodeT := Cfg → CallF → Nat → Fr → St → Out
def outF (r : Out) (kn : Fr → St → Out) (ke : Nat → Fr → St → Out) : Out :=
  optF none (prF fun e p => prF (fun fr st => @Ex.rec (fun _ => Out) (kn fr st) (fun id => ke id fr st) (some (.ret, fr, st)) e) p) r
def exF (id : Nat) (fr : Fr) (st : St) : Out := some (.exit id, fr, st)
def norF (fr : Fr) (st : St) : Out := some (.normal, fr, st)
structure KB where
  f : CodeT
def seqF (x y : KB) : KB := ⟨fun C ih nt fr st => outF (x.f C ih nt fr st) (y.f C ih nt) exF⟩
def condF (c : Operand) (x y : KB) : KB := ⟨fun C ih nt fr st => optF none (boolD none fun b => @Bool.rec (fun _ => Out) (y.f C ih nt fr st) (x.f C ih nt fr st) b) (evalF c C fr)⟩
def blockF (id : Nat) (x : KB) : KB := ⟨fun C ih nt fr st => outF (x.f C ih nt fr st) norF (fun k fr st => ifF (Nat.beq k id) (norF fr st) (exF k fr st))⟩
def loopFF (b : Fr → St → Out) (n : Nat) : Fr → St → Out := @Nat.rec (fun _ => Fr → St → Out) (fun _ _ => none) (fun _ ih fr st => outF (b fr st) ih exF) n
def loopF (x : KB) : KB := ⟨fun C ih nt => loopFF (x.f C ih nt) (nat_lit 1000000)⟩
theorem loopF_f (x : KB) (C : Cfg) (ih : CallF) (nt : Nat) : (loopF x).f C ih nt = loopFF (x.f C ih nt) 1000000 := rfl
def pairOut (r : Option (Fr × St)) : Out := optF none (prF norF) r
/-- No operation defers. -/
def calmOp (x : Op) : Bool := @Op.rec (fun _ => Bool) (fun _ => true) (fun _ => true) (fun _ _ _ => true) (fun _ => true) (fun _ _ => true) (fun _ _ => true) (fun _ _ _ => true) (fun _ _ _ _ => true) (fun _ _ => true) (fun _ _ _ => true) (fun _ => true) (fun _ => true) (fun _ => true) (fun _ _ _ _ _ => true) (fun _ _ _ => true) (fun _ _ _ => true) (fun _ _ => true) (fun _ _ => true) (fun _ _ _ => true) (fun _ _ => true) (fun _ _ => true) (fun _ _ _ => true) (fun _ _ _ _ _ => true) (fun _ _ _ => true) (fun _ _ _ => true) (fun _ _ _ => true) (fun _ _ _ => true) (fun _ _ _ _ => true) (fun _ _ _ _ => true) (fun _ _ _ => true) (fun _ _ _ _ => true) (fun _ _ => true) (fun _ _ => true) (fun _ => true) (fun _ _ _ _ => true) (fun _ _ => true) (fun _ => true) (fun _ => true) (fun _ => false) (fun _ => true) (fun _ _ => true) (fun _ _ _ => true) (fun _ _ => true) x
theorem calmOp_eq (x : Op) : calmOp x = calmO x := by cases x <;> rfl
def calmF (l : List Oper) : Bool := @List.rec Oper (fun _ => Bool) true (fun o _ ih => @Bool.rec (fun _ => Bool) false ih (calmOp o.op)) l
theorem calmF_eq : ∀ l, calmF l = calmA l
  | [] => rfl
  | o :: l => by
    show @Bool.rec (fun _ => Bool) false (calmF l) (calmOp o.op) = _
    simp only [calmA, calmOp_eq, calmF_eq l]
    cases calmO o.op <;> rfl
def orElseF (r alt : Option (Fr × St)) : Option (Fr × St) := @Option.rec (Fr × St) (fun _ => Option (Fr × St)) alt (fun x => some x) r
def regionF (ops : Array Oper) (draw : Bool) : KB := @Bool.rec (fun _ => KB) ⟨fun _ _ _ _ _ => none⟩ (@Bool.rec (fun _ => KB) ⟨fun C ih nt fr st => pairOut (orElseF (opsF C ih nt ops.toList ops.toList fr st) (yregA C ih nt ops false fr st))⟩ ⟨fun C ih nt fr st => pairOut (orElseF (drawF C ih nt ops fr st) (yregA C ih nt ops true fr st))⟩ draw) (calmF ops.toList)
def skipF : KB := ⟨fun _ _ _ fr st => norF fr st⟩
def noF : KB := ⟨fun _ _ _ _ _ => none⟩
def codeB : Code → KB :=
  @Code.rec (fun _ => KB) skipF (fun _ ops draw => regionF ops draw) (fun _ _ x y => seqF x y) (fun c _ _ x y => condF c x y) (fun id _ x => blockF id x) (fun _ x => loopF x) (fun g ps a b _ _ => ⟨fun C ih nt fr st => overA C ih nt g ps a b fr st⟩) (fun id => ⟨fun _ _ _ fr st => exF id fr st⟩) (fun _ x => x) (fun _ => skipF) (fun _ => noF) ⟨fun _ _ _ fr st => some (.ret, fr, st)⟩ (fun _ => noF)
def codeF (c : Code) : CodeT := (codeB c).f

/-- By depth. -/
def codeK (C : Cfg) (ih : CallF) : Nat → CodeF
  | 0 => fun _ _ _ _ => none
  | n + 1 => codeA C (codeK C ih n) ih

theorem outF_seq (r : Out) (k : Fr → St → Out) : outF r k exF = match r with | some (.normal, fr', st') => k fr' st' | r => r := by
  cases r with
  | none => rfl
  | some p => obtain ⟨e, fr, st⟩ := p; cases e <;> rfl

theorem loopFF_eq (b : Fr → St → Out) : ∀ (n : Nat) (fr : Fr) (st : St), loopFF b n fr st = loopA b n fr st
  | 0, _, _ => rfl
  | n + 1, fr, st => by
    show outF (b fr st) (loopFF b n) exF = _
    rw [outF_seq]
    simp only [loopA]
    cases b fr st with
    | none => rfl
    | some p =>
      obtain ⟨e, fr', st'⟩ := p
      cases e with
      | normal => exact loopFF_eq b n fr' st'
      | _ => rfl

theorem codeF_eq (C : Cfg) (ih : CallF) : ∀ c : Code, ∃ k0, ∀ k, k0 ≤ k → ∀ nt fr st, codeK C ih k nt c fr st = codeF c C ih nt fr st := by
  intro c
  have lift : ∀ {c : Code} {k0 : Nat}, (∀ k, k0 ≤ k → ∀ nt fr st, codeA C (codeK C ih k) ih nt c fr st = codeF c C ih nt fr st) → ∃ k0, ∀ k, k0 ≤ k → ∀ nt fr st, codeK C ih k nt c fr st = codeF c C ih nt fr st := by
    intro c k0 h
    refine ⟨k0 + 1, fun k hk nt fr st => ?_⟩
    obtain ⟨k', rfl⟩ : ∃ k', k = k' + 1 := ⟨k - 1, by omega⟩
    exact h k' (by omega) nt fr st
  induction c with
  | skip => exact lift (k0 := 0) fun _ _ _ _ _ => rfl
  | label l => exact lift (k0 := 0) fun _ _ _ _ _ => rfl
  | region id ops draw =>
    refine lift (k0 := 0) fun k _ nt fr st => ?_
    show codeA C (codeK C ih k) ih nt (.region id ops draw) fr st = (regionF ops draw).f C ih nt fr st
    unfold regionF
    rw [calmF_eq]
    simp only [codeA]
    cases calmA ops.toList with
    | false => rfl
    | true =>
      cases draw with
      | false =>
        show _ = pairOut (orElseF (opsF C ih nt ops.toList ops.toList fr st) (yregA C ih nt ops false fr st))
        rw [opsF_eq]
        simp only [regA, cond_true, cond_false]
        cases opsA C ih nt ops.toList ops.toList fr st with
        | some r => rfl
        | none => show _ = pairOut (yregA C ih nt ops false fr st); cases yregA C ih nt ops false fr st <;> rfl
      | true =>
        show _ = pairOut (orElseF (drawF C ih nt ops fr st) (yregA C ih nt ops true fr st))
        rw [drawF_eq]
        simp only [regA, cond_true]
        cases drawA C ih nt ops fr st with
        | some r => rfl
        | none => show _ = pairOut (yregA C ih nt ops true fr st); cases yregA C ih nt ops true fr st <;> rfl
  | seq a b ha hb =>
    obtain ⟨ka, ha⟩ := ha
    obtain ⟨kb, hb⟩ := hb
    refine lift (k0 := ka + kb) fun k hk nt fr st => ?_
    show _ = outF (codeF a C ih nt fr st) (codeF b C ih nt) exF
    rw [outF_seq, ← ha k (by omega)]
    simp only [codeA]
    cases codeK C ih k nt a fr st with
    | none => rfl
    | some p =>
      obtain ⟨e, fr', st'⟩ := p
      cases e with
      | normal => exact hb k (by omega) nt fr' st'
      | _ => rfl
  | cond c a b ha hb =>
    obtain ⟨ka, ha⟩ := ha
    obtain ⟨kb, hb⟩ := hb
    refine lift (k0 := ka + kb) fun k hk nt fr st => ?_
    show _ = optF none (boolD none fun v => @Bool.rec (fun _ => Out) (codeF b C ih nt fr st) (codeF a C ih nt fr st) v) (evalF c C fr)
    rw [evalF_eq]
    simp only [codeA]
    cases evalO C fr c with
    | none => rfl
    | some v =>
      cases v with
      | bool v => cases v with
        | true => exact ha k (by omega) nt fr st
        | false => exact hb k (by omega) nt fr st
      | _ => rfl
  | block id b hb =>
    obtain ⟨kb, hb⟩ := hb
    refine lift (k0 := kb) fun k hk nt fr st => ?_
    show _ = outF (codeF b C ih nt fr st) norF (fun j fr st => ifF (Nat.beq j id) (norF fr st) (exF j fr st))
    rw [← hb k (by omega)]
    simp only [codeA]
    cases codeK C ih k nt b fr st with
    | none => rfl
    | some p =>
      obtain ⟨e, fr', st'⟩ := p
      cases e with
      | exit j =>
        show _ = ifF (Nat.beq j id) (norF fr' st') (exF j fr' st')
        rw [ifF_eq]; rfl
      | _ => rfl
  | loop b hb =>
    obtain ⟨kb, hb⟩ := hb
    refine lift (k0 := kb) fun k hk nt fr st => ?_
    show _ = (loopF (codeB b)).f C ih nt fr st
    rw [loopF_f]
    rw [loopFF_eq]
    simp only [codeA, maxRounds]
    congr 1
    funext fr st
    exact hb k hk nt fr st
  | rangeFunc f params a b ha hb => exact lift (k0 := 0) fun _ _ _ _ _ => rfl
  | exit id => exact lift (k0 := 0) fun _ _ _ _ _ => rfl
  | scope b hb =>
    obtain ⟨kb, hb⟩ := hb
    exact lift (k0 := kb) fun k hk nt fr st => hb k hk nt fr st
  | goto l => exact lift (k0 := 0) fun _ _ _ _ _ => rfl
  | ret => exact lift (k0 := 0) fun _ _ _ _ _ => rfl
  | refuse why => exact lift (k0 := 0) fun _ _ _ _ _ => rfl

def CF (C : Cfg) (ih : CallF) : CodeF := fun nt c fr st => codeF c C ih nt fr st

theorem codeK_sound {C : Cfg} (hC : C.Ok) {w0 : World} {ih : CallF} (h : SndF C w0 ih) (hy : SndY C w0 ih) (g : GrwF ih) : ∀ k, SndC C w0 (codeK C ih k) ∧ GrwC (codeK C ih k) := by
  intro k
  induction k with
  | zero => exact ⟨fun nt c fr st ex fr' st' h => by simp [codeK] at h, fun nt c fr st ex fr' st' h => by simp [codeK] at h⟩
  | succ k ihk => exact ⟨codeA_sound hC ihk.1 h hy ihk.2 g, codeA_grow ihk.2 g⟩

theorem CF_sound {C : Cfg} (hC : C.Ok) {w0 : World} {ih : CallF} (h : SndF C w0 ih) (hy : SndY C w0 ih) (g : GrwF ih) : SndC C w0 (CF C ih) := by
  intro nt c fr st ex fr' st' hr
  obtain ⟨k0, hk⟩ := codeF_eq C ih c
  unfold CF at hr
  rw [← hk k0 (Nat.le_refl _)] at hr
  exact (codeK_sound hC h hy g k0).1 nt c fr st ex fr' st' hr

theorem codeK_grow {C : Cfg} {ih : CallF} (g : GrwF ih) : ∀ k, GrwC (codeK C ih k) := by
  intro k
  induction k with
  | zero => exact fun nt c fr st ex fr' st' h => by simp [codeK] at h
  | succ k ihk => exact codeA_grow ihk g

theorem CF_grow {C : Cfg} {ih : CallF} (g : GrwF ih) : GrwC (CF C ih) := by
  intro nt c fr st ex fr' st' hr
  obtain ⟨k0, hk⟩ := codeF_eq C ih c
  unfold CF at hr
  rw [← hk k0 (Nat.le_refl _)] at hr
  exact codeK_grow g k0 nt c fr st ex fr' st' hr

/-! Calls. -/
def resF' (C : Cfg) (l : List ResultVar) : Fr → St → Option (List AV) :=
  @List.rec ResultVar (fun _ => Fr → St → Option (List AV)) (fun _ _ => some []) (fun r _ ih fr st => optF none (fun a => optF none (fun as => some (a :: as)) (ih fr st))
    (@ResultVar.rec (fun _ => Option AV) (fun t => (gB t).f fr) (fun p t => optF none (ptrD none fun i off => ldF C st t i off) ((gB p).f fr)) r)) l
theorem resF'_eq (C : Cfg) (fr : Fr) (st : St) : ∀ (l : List ResultVar), resF' C l fr st = resA C fr st l
  | [] => rfl
  | .tmp t :: l => by
    show optF none (fun a => optF none (fun as => some (a :: as)) (resF' C l fr st)) ((gB t).f fr) = _
    rw [resF'_eq C fr st l, gB_eq]
    simp only [resA]
    cases fr.get t with
    | none => rfl
    | some a => cases resA C fr st l <;> rfl
  | .cell p t :: l => by
    show optF none (fun a => optF none (fun as => some (a :: as)) (resF' C l fr st)) (optF none (ptrD none fun i off => ldF C st t i off) ((gB p).f fr)) = _
    rw [resF'_eq C fr st l, gB_eq]
    simp only [resA]
    cases fr.get p with
    | none => rfl
    | some a =>
      cases a with
      | ptr i off =>
        show optF none _ (ldF C st t i off) = _
        rw [ldF_eq]
        dsimp only
        cases ldVar C st t i off with
        | none => rfl
        | some a => cases resA C fr st l <;> rfl
      | _ => rfl

def oneF (l : List AV) : AV := @List.rec AV (fun _ => AV) (.tup l) (fun a t _ => @List.rec AV (fun _ => AV) a (fun _ _ _ => .tup l) t) l
theorem oneF_eq (l : List AV) : oneF l = oneA l := by
  cases l with
  | nil => rfl
  | cons a t => cases t <;> rfl

def backF (st st' : St) (l : List AV) : Option (AV × St) :=
  ifF (ifF (scalarsF l) (Nat.ble st.next st'.low) false) (some (oneF l, ⟨st.heap, st'.next, st.low, st.hid⟩)) (some (oneF l, ⟨st'.heap, st'.next, ifF (Nat.ble st.low st'.low) st.low st'.low, st'.hid⟩))

def ofLFr (l : List AV) : Nat → Fr → Fr := @List.rec AV (fun _ => Nat → Fr → Fr) (fun _ x => x) (fun a _ ih k x => ih (Nat.succ k) ((sB k).f x a)) l
theorem ofLFr_eq : ∀ (l : List AV) (k : Nat) (x : Fr), ofLFr l k x = Fr.ofList l k x
  | [], _, _ => rfl
  | a :: l, k, x => by
    show ofLFr l (k + 1) ((sB k).f x a) = Fr.ofList l (k + 1) (x.set k a)
    rw [ofLFr_eq l, sB_eq]

def callFF (C : Cfg) (X ih : CallF) : CallF := fun f args st =>
  ifF (Nat.beq f (nat_lit 1099511627776)) (roundA (CF C ih) args st) (optF (optF none (prF fun x c => ifF (Nat.ble (lenLF args) x.ntmps)
      (optF none (prF fun ex p => prF (fun fr' st' => @Ex.rec (fun _ => Option (AV × St)) (optF none (backF st st') (resF' C x.results.toList fr' st')) (fun _ => none) (optF none (backF st st') (resF' C x.results.toList fr' st')) ex) p)
        (codeF c C ih x.ntmps (ofLFr args (nat_lit 0) .empty) ⟨st.heap, st.next, st.next, st.hid⟩)) none) (C.fn f)) some (X f args st))

theorem callFF_eq (C : Cfg) (X ih : CallF) (f : Nat) (args : List AV) (st : St) : callFF C X ih f args st = bif Nat.beq f yno then roundA (CF C ih) args st else match X f args st with | some r => some r | none => callFA C (fun _ _ _ => none) (CF C ih) f args st := by
  unfold callFF
  rw [ifF_eq]
  show (bif Nat.beq f yno then _ else _) = _
  cases hy : Nat.beq f yno with
  | true => rfl
  | false =>
  simp only [cond_false]
  cases X f args st with
  | some r => rfl
  | none =>
    show optF none _ (C.fn f) = callFA C (fun _ _ _ => none) (CF C ih) f args st
    unfold callFA
    rw [hy, cond_false]
    unfold CF
    cases C.fn f with
    | none => rfl
    | some p =>
      obtain ⟨x, c⟩ := p
      show ifF (Nat.ble (lenLF args) x.ntmps) _ none = _
      rw [ifF_eq, lenLF_eq, ofLFr_eq]
      dsimp only
      cases Nat.ble args.length x.ntmps with
      | false => rfl
      | true =>
        rw [cond_true, cond_true]
        cases codeF c C ih x.ntmps (Fr.ofList args 0 .empty) ⟨st.heap, st.next, st.next, st.hid⟩ with
        | none => rfl
        | some p =>
          obtain ⟨ex, fr', st'⟩ := p
          have hb : ∀ l, backF st st' l = bif scalars l && Nat.ble st.next st'.low then some (oneA l, { st with next := st'.next }) else some (oneA l, { st' with low := bif Nat.ble st.low st'.low then st.low else st'.low }) := by
            intro l
            unfold backF
            rw [ifF_eq, ifF_eq, ifF_eq, scalarsF_eq, oneF_eq]
            cases scalars l <;> rfl
          cases ex with
          | exit k => rfl
          | normal =>
            show optF none (backF st st') (resF' C x.results.toList fr' st') = _
            rw [resF'_eq]
            dsimp only
            cases resA C fr' st' x.results.toList with
            | none => rfl
            | some l => exact hb l
          | ret =>
            show optF none (backF st st') (resF' C x.results.toList fr' st') = _
            rw [resF'_eq]
            dsimp only
            cases resA C fr' st' x.results.toList with
            | none => rfl
            | some l => exact hb l

def runF (C : Cfg) (X : CallF) : Nat → CallF := @Nat.rec (fun _ => CallF) (fun _ _ _ => none) (fun _ ih => callFF C X ih)

theorem runF_grow {C : Cfg} {X : CallF} (hX : GrwF X) : ∀ n, GrwF (runF C X n) := by
  intro n
  induction n with
  | zero => intro f args st r st' h; cases h
  | succ n ih =>
    intro f args st r st' h
    rw [show runF C X (n + 1) f args st = callFF C X (runF C X n) f args st from rfl, callFF_eq, Tr.cbeq] at h
    by_cases hy : f = yno
    · rw [if_pos hy] at h; exact roundA_grow (CF_grow ih) h
    rw [if_neg hy] at h
    cases hx : X f args st with
    | some q => rw [hx] at h; cases h; exact hX _ _ _ _ _ hx
    | none => rw [hx] at h; exact callFA_grow (X := fun _ _ _ => none) (fun _ _ _ _ _ h => by cases h) (CF_grow ih) _ _ _ _ _ h

theorem runF_both {C : Cfg} (hC : C.Ok) {w0 : World} {X : CallF} (hX : SndF C w0 X) (hg : GrwF X) : ∀ n, SndF C w0 (runF C X n) ∧ SndY C w0 (runF C X n) := by
  intro n
  induction n with
  | zero => exact ⟨fun f args st r st' h => (by cases h), fun i as st r st' h => (by cases h)⟩
  | succ n ih =>
    have hc := CF_sound hC ih.1 ih.2 (runF_grow hg n)
    refine ⟨fun f args st r st' h hne => ?_, fun i as st r st' h E w vs hS hG hv hfr => ?_⟩
    · rw [show runF C X (n + 1) f args st = callFF C X (runF C X n) f args st from rfl, callFF_eq, Tr.cbeq, if_neg hne] at h
      cases hx : X f args st with
      | some q => rw [hx] at h; cases h; exact hX _ _ _ _ _ hx hne
      | none =>
        rw [hx] at h
        exact callFA_sound hC (X := fun _ _ _ => none) (fun _ _ _ _ _ h => by cases h) hc _ _ _ _ _ h hne
    · rw [show runF C X (n + 1) yno (.yld i :: as) st = callFF C X (runF C X n) yno (.yld i :: as) st from rfl, callFF_eq, Tr.cbeq, if_pos rfl] at h
      exact roundA_sound hc (CF_grow (runF_grow hg n)) h hS hG hv hfr

theorem runF_sound {C : Cfg} (hC : C.Ok) {w0 : World} {X : CallF} (hX : SndF C w0 X) (hg : GrwF X) : ∀ n, SndF C w0 (runF C X n) := fun n => (runF_both hC hX hg n).1
end
end Go.Proofs.YtfamacgopcfhhaaGreatDoor.Ax
