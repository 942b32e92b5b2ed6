/-
  AN EXECUTOR OVER AN ABSTRACT MEMORY, PART Za: the quick form: regions, code, calls; that what it computes is what the call does.
-/
import Derived.Test.YtogdgamgpkbdaaaGreatDoorAxZ
namespace Go.Proofs.YtogdgamgpkbdaaaGreatDoor.Ax
open Go.RowKit

noncomputable section
def wantF (all : List Oper) (fr : Tr AV) (g : Nat × Bool) : Option Bool :=
  prF (fun j want => optF none (fun oj => optF none (fun d => optF none (fun a => boolD (tupD none (fun l => @List.rec AV (fun _ => Option Bool) (some false) (fun _ _ _ => none) l) a) (fun b => some (ifF b want (notF want))) a) (getP fr (posF d d))) oj.dst) (nthF all j)) g

theorem wantF_eq (all : List Oper) (fr : Tr AV) (o : Oper) : wantA all fr o = optF (some true) (wantF all fr) o.guard := by
  unfold wantA
  cases o.guard with
  | none => rfl
  | some p =>
    obtain ⟨j, want⟩ := p
    show _ = optF none _ (nthF all j)
    rw [nthF_eq]
    dsimp only
    cases nth all j with
    | none => rfl
    | some oj =>
      show _ = optF none _ oj.dst
      dsimp only
      cases oj.dst with
      | none => rfl
      | some d =>
        show _ = optF none _ (getF fr d)
        rw [getF_eq]
        dsimp only
        cases fr.get d with
        | none => rfl
        | some a =>
          cases a with
          | bool b => show _ = some (ifF b want (notF want)); rw [ifF_eq, notF_eq]
          | tup l => cases l <;> rfl
          | _ => rfl

def stepF (C : Cfg) (ih : CallF) (all : List Oper) (o : Oper) (fr : Tr AV) (st : St) : Option (AV × St) :=
  optF (opTab o.op C ih fr st) (fun g => optF none (fun b => ifF b (opTab o.op C ih fr st) (some (.tup [], st))) (wantF all fr g)) o.guard

theorem stepF_eq (C : Cfg) (ih : CallF) (all : List Oper) (o : Oper) (fr : Tr AV) (st : St) : stepF C ih all o fr st = stepA C ih all fr st o := by
  unfold stepF stepA
  rw [opTab_eq, wantF_eq]
  have key : aftA ih st (aop C fr st o) = match aop C fr st o with
    | none => none
    | some (.val a st') => some (a, st')
    | some (.skip st') => some (.tup [], st')
    | some (.enter f args) => ih f args st := by
    unfold aftA
    rfl
  cases o.guard with
  | none => exact key
  | some g =>
    show optF none _ (wantF all fr g) = match wantF all fr g with | none => none | some false => some (AV.tup [], st) | some true => _
    cases wantF all fr g with
    | none => rfl
    | some b => cases b with
      | true => exact key
      | false => rfl

def putFF (nt : Nat) (fr : Tr AV) (dst : Option Tmp) (a : AV) : Option (Tr AV) := optF (some fr) (fun d => ifF (Nat.ble (Nat.succ d) nt) (some (setP fr (posF d d) a)) none) dst
theorem putFF_eq (nt : Nat) (fr : Tr AV) (dst : Option Tmp) (a : AV) : putFF nt fr dst a = putA nt fr dst a := by
  cases dst with
  | none => rfl
  | some d =>
    show ifF _ (some (setF fr d a)) none = _
    rw [ifF_eq, setF_eq]; rfl

def opsF (C : Cfg) (ih : CallF) (nt : Nat) (all : List Oper) (l : List Oper) : Tr AV → St → Option (Tr AV × St) :=
  @List.rec Oper (fun _ => Tr AV → St → Option (Tr AV × St)) (fun fr st => some (fr, st)) (fun o _ ihl fr st => optF none (prF fun a st' => optF none (fun fr' => ihl fr' st') (putFF nt fr o.dst a)) (stepF C ih all o fr st)) l
theorem opsF_eq (C : Cfg) (ih : CallF) (nt : Nat) (all : List Oper) : ∀ (l : List Oper) (fr : Tr AV) (st : St), opsF C ih nt all l fr st = opsA C ih nt all l fr st
  | [], _, _ => rfl
  | o :: l, fr, st => by
    show optF none (prF fun a st' => optF none (fun fr' => opsF C ih nt all l fr' st') (putFF nt fr o.dst a)) (stepF C ih all o fr st) = _
    rw [stepF_eq]
    simp only [opsA]
    cases stepA C ih all fr st o with
    | none => rfl
    | some p =>
      obtain ⟨a, st'⟩ := p
      show optF none _ (putFF nt fr o.dst a) = _
      rw [putFF_eq]
      dsimp only
      cases putA nt fr o.dst a with
      | none => rfl
      | some fr' => exact opsF_eq C ih nt all l fr' st'

def restrF (fr : Tr AV) (l : List Nat) : Tr AV := @List.rec Nat (fun _ => Tr AV) .leaf (fun n _ ih => optF ih (fun a => setF ih n a) (getF fr n)) l
theorem restrF_eq (fr : Tr AV) : ∀ (l : List Nat), restrF fr l = restr fr l
  | [] => rfl
  | n :: l => by
    show optF (restrF fr l) (fun a => setF (restrF fr l) n a) (getF fr n) = _
    rw [restrF_eq fr l, getF_eq]
    simp only [restr]
    cases fr.get n with
    | none => rfl
    | some a => exact setF_eq _ _ _

def headF (C : Cfg) (ih : CallF) (nt : Nat) (all : List Oper) (os : List Oper) : List Nat → Nat → List (Nat × Nat × Nat) → Tr AV → St → Option (Tr AV × St) :=
  @List.rec Oper (fun _ => List Nat → Nat → List (Nat × Nat × Nat) → Tr AV → St → Option (Tr AV × St)) (fun _ _ _ fr st => some (fr, st))
    (fun o _ ihl ms i rs fr st => @List.rec Nat (fun _ => Option (Tr AV × St)) none (fun m ms _ =>
      optF none (prF fun x st1 => ifF (Nat.ble st.next st1.low) (optF none (fun fr' => ihl ms (Nat.succ i) ((i, st.next, st1.next) :: rs) fr' ⟨st1.heap, st1.next, st.low, st.hid⟩) (putFF nt fr o.dst x)) none)
        (stepF C ih all o (restrF fr (looksA all o)) ⟨st.heap, st.next, st.next, hidA m rs st.hid⟩)) ms) os
theorem headF_eq (C : Cfg) (ih : CallF) (nt : Nat) (all : List Oper) : ∀ (os : List Oper) (ms : List Nat) (i : Nat) (rs : List (Nat × Nat × Nat)) (fr : Tr AV) (st : St), headF C ih nt all os ms i rs fr st = headA C ih nt all os ms i rs fr st
  | [], ms, _, _, _, _ => by cases ms <;> rfl
  | o :: os, [], _, _, _, _ => rfl
  | o :: os, m :: ms, i, rs, fr, st => by
    show optF none (prF fun x st1 => ifF (Nat.ble st.next st1.low) (optF none (fun fr' => headF C ih nt all os ms (Nat.succ i) ((i, st.next, st1.next) :: rs) fr' ⟨st1.heap, st1.next, st.low, st.hid⟩) (putFF nt fr o.dst x)) none)
        (stepF C ih all o (restrF fr (looksA all o)) ⟨st.heap, st.next, st.next, hidA m rs st.hid⟩) = _
    rw [stepF_eq, restrF_eq]
    simp only [headA]
    cases stepA C ih all (restr fr (looksA all o)) ⟨st.heap, st.next, st.next, hidA m rs st.hid⟩ o with
    | none => rfl
    | some p =>
      obtain ⟨x, st1⟩ := p
      show ifF (Nat.ble st.next st1.low) _ none = _
      rw [ifF_eq]
      dsimp only
      cases Nat.ble st.next st1.low with
      | false => rfl
      | true =>
        rw [putFF_eq]
        dsimp only [cond_true]
        cases putA nt fr o.dst x with
        | none => rfl
        | some fr' => exact headF_eq C ih nt all os ms (i + 1) _ fr' _

def headLen (ops : List Oper) : Nat := ops.length - tailLen (masks ops []) 0
def drawF (C : Cfg) (ih : CallF) (nt : Nat) (ops : Array Oper) (fr : Tr AV) (st : St) : Option (Tr AV × St) :=
  ifF (shapeOkA ops (headLen ops.toList)) (ifF (Nat.ble (headLen ops.toList) ops.size) (ifF (hidOkA st.next st.hid)
    (optF none (prF fun fr1 st1 => opsF C ih nt ops.toList (dropF ops.toList (headLen ops.toList)) fr1 st1) (headF C ih nt ops.toList (takeF ops.toList (headLen ops.toList)) (masks ops.toList []) (nat_lit 0) [] fr st)) none) none) none
theorem drawF_eq (C : Cfg) (ih : CallF) (nt : Nat) (ops : Array Oper) (fr : Tr AV) (st : St) : drawF C ih nt ops fr st = drawA C ih nt ops fr st := by
  unfold drawF drawA
  have hl : headLen ops.toList = ops.size - tailLen (masks ops.toList []) 0 := by simp [headLen]
  rw [hl, ifF_eq, ifF_eq, ifF_eq, headF_eq, takeF_eq, dropF_eq]
  dsimp only
  generalize ops.size - tailLen (masks ops.toList []) 0 = N
  cases shapeOkA ops N with
  | false => rfl
  | true =>
    cases Nat.ble N ops.size with
    | false => rfl
    | true =>
      cases hidOkA st.next st.hid with
      | false => rfl
      | true =>
        show optF none _ (headA C ih nt ops.toList (ops.toList.take N) (masks ops.toList []) 0 [] fr st) = match headA C ih nt ops.toList (ops.toList.take N) (masks ops.toList []) 0 [] fr st with | none => none | some (fr1, st1) => opsA C ih nt ops.toList (ops.toList.drop N) fr1 st1
        cases headA C ih nt ops.toList (ops.toList.take N) (masks ops.toList []) 0 [] fr st with
        | none => rfl
        | some p => obtain ⟨fr1, st1⟩ := p; exact opsF_eq C ih nt _ _ fr1 st1

abbrev Out := Option (Ex × Tr AV × St)
abbrev CodeT := Cfg → CallF → Nat → Tr AV → St → Out
def outF (r : Out) (kn : Tr AV → St → Out) (ke : Nat → Tr AV → St → Out) : Out :=
  optF none (prF fun e p => prF (fun fr st => @Ex.rec (fun _ => Out) (kn fr st) (fun id => ke id fr st) (some (.ret, fr, st)) e) p) r
def exF (id : Nat) (fr : Tr AV) (st : St) : Out := some (.exit id, fr, st)
def norF (fr : Tr AV) (st : St) : Out := some (.normal, fr, st)
def seqF (x y : CodeT) : CodeT := fun C ih nt fr st => outF (x C ih nt fr st) (y C ih nt) exF
def condF (c : Operand) (x y : CodeT) : CodeT := fun C ih nt fr st => optF none (boolD none fun b => @Bool.rec (fun _ => Out) (y C ih nt fr st) (x C ih nt fr st) b) (evalF c C fr)
def blockF (id : Nat) (x : CodeT) : CodeT := fun C ih nt fr st => outF (x C ih nt fr st) norF (fun k fr st => ifF (Nat.beq k id) (norF fr st) (exF k fr st))
def loopFF (b : Tr AV → St → Out) (n : Nat) : Tr AV → St → Out := @Nat.rec (fun _ => Tr AV → St → Out) (fun _ _ => none) (fun _ ih fr st => outF (b fr st) ih exF) n
def loopF (x : CodeT) : CodeT := fun C ih nt => loopFF (x C ih nt) (nat_lit 1000000)
def pairOut (r : Option (Tr AV × St)) : Out := optF none (prF norF) r
def regionF (ops : Array Oper) (draw : Bool) : CodeT := @Bool.rec (fun _ => CodeT) (fun C ih nt fr st => pairOut (opsF C ih nt ops.toList ops.toList fr st)) (fun C ih nt fr st => pairOut (drawF C ih nt ops fr st)) draw
def skipF : CodeT := fun _ _ _ fr st => norF fr st
def noF : CodeT := fun _ _ _ _ _ => none
def codeF : Code → CodeT :=
  @Code.rec (fun _ => CodeT) skipF (fun _ ops draw => regionF ops draw) (fun _ _ x y => seqF x y) (fun c _ _ x y => condF c x y) (fun id _ x => blockF id x) (fun _ x => loopF x) (fun _ _ _ _ _ _ => noF) (fun id _ _ _ fr st => exF id fr st) (fun _ x => x) (fun _ => skipF) (fun _ => noF) (fun _ _ _ fr st => some (.ret, fr, st)) (fun _ => noF)

/-- By depth. -/
def codeK (C : Cfg) (ih : CallF) : Nat → CodeF
  | 0 => fun _ _ _ _ => none
  | n + 1 => codeA C (codeK C ih n) ih

theorem outF_seq (r : Out) (k : Tr AV → St → Out) : outF r k exF = match r with | some (.normal, fr', st') => k fr' st' | r => r := by
  cases r with
  | none => rfl
  | some p => obtain ⟨e, fr, st⟩ := p; cases e <;> rfl

theorem loopFF_eq (b : Tr AV → St → Out) : ∀ (n : Nat) (fr : Tr AV) (st : St), loopFF b n fr st = loopA b n fr st
  | 0, _, _ => rfl
  | n + 1, fr, st => by
    show outF (b fr st) (loopFF b n) exF = _
    rw [outF_seq]
    simp only [loopA]
    cases b fr st with
    | none => rfl
    | some p =>
      obtain ⟨e, fr', st'⟩ := p
      cases e with
      | normal => exact loopFF_eq b n fr' st'
      | _ => rfl

theorem codeF_eq (C : Cfg) (ih : CallF) : ∀ c : Code, ∃ k0, ∀ k, k0 ≤ k → ∀ nt fr st, codeK C ih k nt c fr st = codeF c C ih nt fr st := by
  intro c
  have lift : ∀ {c : Code} {k0 : Nat}, (∀ k, k0 ≤ k → ∀ nt fr st, codeA C (codeK C ih k) ih nt c fr st = codeF c C ih nt fr st) → ∃ k0, ∀ k, k0 ≤ k → ∀ nt fr st, codeK C ih k nt c fr st = codeF c C ih nt fr st := by
    intro c k0 h
    refine ⟨k0 + 1, fun k hk nt fr st => ?_⟩
    obtain ⟨k', rfl⟩ : ∃ k', k = k' + 1 := ⟨k - 1, by omega⟩
    exact h k' (by omega) nt fr st
  induction c with
  | skip => exact lift (k0 := 0) fun _ _ _ _ _ => rfl
  | label l => exact lift (k0 := 0) fun _ _ _ _ _ => rfl
  | region id ops draw =>
    refine lift (k0 := 0) fun k _ nt fr st => ?_
    cases draw with
    | false =>
      show _ = pairOut (opsF C ih nt ops.toList ops.toList fr st)
      rw [opsF_eq]
      simp only [codeA]
      cases opsA C ih nt ops.toList ops.toList fr st <;> rfl
    | true =>
      show _ = pairOut (drawF C ih nt ops fr st)
      rw [drawF_eq]
      simp only [codeA]
      cases drawA C ih nt ops fr st <;> rfl
  | seq a b ha hb =>
    obtain ⟨ka, ha⟩ := ha
    obtain ⟨kb, hb⟩ := hb
    refine lift (k0 := ka + kb) fun k hk nt fr st => ?_
    show _ = outF (codeF a C ih nt fr st) (codeF b C ih nt) exF
    rw [outF_seq, ← ha k (by omega)]
    simp only [codeA]
    cases codeK C ih k nt a fr st with
    | none => rfl
    | some p =>
      obtain ⟨e, fr', st'⟩ := p
      cases e with
      | normal => exact hb k (by omega) nt fr' st'
      | _ => rfl
  | cond c a b ha hb =>
    obtain ⟨ka, ha⟩ := ha
    obtain ⟨kb, hb⟩ := hb
    refine lift (k0 := ka + kb) fun k hk nt fr st => ?_
    show _ = optF none (boolD none fun v => @Bool.rec (fun _ => Out) (codeF b C ih nt fr st) (codeF a C ih nt fr st) v) (evalF c C fr)
    rw [evalF_eq]
    simp only [codeA]
    cases evalO C fr c with
    | none => rfl
    | some v =>
      cases v with
      | bool v => cases v with
        | true => exact ha k (by omega) nt fr st
        | false => exact hb k (by omega) nt fr st
      | _ => rfl
  | block id b hb =>
    obtain ⟨kb, hb⟩ := hb
    refine lift (k0 := kb) fun k hk nt fr st => ?_
    show _ = outF (codeF b C ih nt fr st) norF (fun j fr st => ifF (Nat.beq j id) (norF fr st) (exF j fr st))
    rw [← hb k (by omega)]
    simp only [codeA]
    cases codeK C ih k nt b fr st with
    | none => rfl
    | some p =>
      obtain ⟨e, fr', st'⟩ := p
      cases e with
      | exit j =>
        show _ = ifF (Nat.beq j id) (norF fr' st') (exF j fr' st')
        rw [ifF_eq]; rfl
      | _ => rfl
  | loop b hb =>
    obtain ⟨kb, hb⟩ := hb
    refine lift (k0 := kb) fun k hk nt fr st => ?_
    show _ = loopFF (codeF b C ih nt) 1000000 fr st
    rw [loopFF_eq]
    simp only [codeA, maxRounds]
    congr 1
    funext fr st
    exact hb k hk nt fr st
  | rangeFunc f params a b ha hb => exact lift (k0 := 0) fun _ _ _ _ _ => rfl
  | exit id => exact lift (k0 := 0) fun _ _ _ _ _ => rfl
  | scope b hb =>
    obtain ⟨kb, hb⟩ := hb
    exact lift (k0 := kb) fun k hk nt fr st => hb k hk nt fr st
  | goto l => exact lift (k0 := 0) fun _ _ _ _ _ => rfl
  | ret => exact lift (k0 := 0) fun _ _ _ _ _ => rfl
  | refuse why => exact lift (k0 := 0) fun _ _ _ _ _ => rfl

def CF (C : Cfg) (ih : CallF) : CodeF := fun nt c fr st => codeF c C ih nt fr st

theorem codeK_sound {C : Cfg} (hC : C.Ok) {w0 : World} {ih : CallF} (h : SndF C w0 ih) (g : GrwF ih) : ∀ k, SndC C w0 (codeK C ih k) ∧ GrwC (codeK C ih k) := by
  intro k
  induction k with
  | zero => exact ⟨fun nt c fr st ex fr' st' h => by simp [codeK] at h, fun nt c fr st ex fr' st' h => by simp [codeK] at h⟩
  | succ k ihk => exact ⟨codeA_sound hC ihk.1 h ihk.2 g, codeA_grow ihk.2 g⟩

theorem CF_sound {C : Cfg} (hC : C.Ok) {w0 : World} {ih : CallF} (h : SndF C w0 ih) (g : GrwF ih) : SndC C w0 (CF C ih) := by
  intro nt c fr st ex fr' st' hr
  obtain ⟨k0, hk⟩ := codeF_eq C ih c
  unfold CF at hr
  rw [← hk k0 (Nat.le_refl _)] at hr
  exact (codeK_sound hC h g k0).1 nt c fr st ex fr' st' hr

theorem codeK_grow {C : Cfg} {ih : CallF} (g : GrwF ih) : ∀ k, GrwC (codeK C ih k) := by
  intro k
  induction k with
  | zero => exact fun nt c fr st ex fr' st' h => by simp [codeK] at h
  | succ k ihk => exact codeA_grow ihk g

theorem CF_grow {C : Cfg} {ih : CallF} (g : GrwF ih) : GrwC (CF C ih) := by
  intro nt c fr st ex fr' st' hr
  obtain ⟨k0, hk⟩ := codeF_eq C ih c
  unfold CF at hr
  rw [← hk k0 (Nat.le_refl _)] at hr
  exact codeK_grow g k0 nt c fr st ex fr' st' hr

/-! Calls. -/
def resF' (C : Cfg) (l : List ResultVar) : Tr AV → St → Option (List AV) :=
  @List.rec ResultVar (fun _ => Tr AV → St → Option (List AV)) (fun _ _ => some []) (fun r _ ih fr st => optF none (fun a => optF none (fun as => some (a :: as)) (ih fr st))
    (@ResultVar.rec (fun _ => Option AV) (fun t => getF fr t) (fun p t => optF none (ptrD none fun i off => ldF C st t i off) (getF fr p)) r)) l
theorem resF'_eq (C : Cfg) (fr : Tr AV) (st : St) : ∀ (l : List ResultVar), resF' C l fr st = resA C fr st l
  | [] => rfl
  | .tmp t :: l => by
    show optF none (fun a => optF none (fun as => some (a :: as)) (resF' C l fr st)) (getF fr t) = _
    rw [resF'_eq C fr st l, getF_eq]
    simp only [resA]
    cases fr.get t with
    | none => rfl
    | some a => cases resA C fr st l <;> rfl
  | .cell p t :: l => by
    show optF none (fun a => optF none (fun as => some (a :: as)) (resF' C l fr st)) (optF none (ptrD none fun i off => ldF C st t i off) (getF fr p)) = _
    rw [resF'_eq C fr st l, getF_eq]
    simp only [resA]
    cases fr.get p with
    | none => rfl
    | some a =>
      cases a with
      | ptr i off =>
        show optF none _ (ldF C st t i off) = _
        rw [ldF_eq]
        dsimp only
        cases ldVar C st t i off with
        | none => rfl
        | some a => cases resA C fr st l <;> rfl
      | _ => rfl

def oneF (l : List AV) : AV := @List.rec AV (fun _ => AV) (.tup l) (fun a t _ => @List.rec AV (fun _ => AV) a (fun _ _ _ => .tup l) t) l
theorem oneF_eq (l : List AV) : oneF l = oneA l := by
  cases l with
  | nil => rfl
  | cons a t => cases t <;> rfl

def backF (st st' : St) (l : List AV) : Option (AV × St) :=
  ifF (ifF (scalarsF l) (Nat.ble st.next st'.low) false) (some (oneF l, ⟨st.heap, st'.next, st.low, st.hid⟩)) (some (oneF l, ⟨st'.heap, st'.next, ifF (Nat.ble st.low st'.low) st.low st'.low, st'.hid⟩))

def callFF (C : Cfg) (X ih : CallF) : CallF := fun f args st =>
  optF (optF none (prF fun x c => ifF (Nat.ble (lenLF args) x.ntmps)
      (optF none (prF fun ex p => prF (fun fr' st' => @Ex.rec (fun _ => Option (AV × St)) (optF none (backF st st') (resF' C x.results.toList fr' st')) (fun _ => none) (optF none (backF st st') (resF' C x.results.toList fr' st')) ex) p)
        (codeF c C ih x.ntmps (ofLF args (nat_lit 0) .leaf) ⟨st.heap, st.next, st.next, st.hid⟩)) none) (C.fn f)) some (X f args st)

theorem callFF_eq (C : Cfg) (X ih : CallF) (f : Nat) (args : List AV) (st : St) : callFF C X ih f args st = match X f args st with | some r => some r | none => callFA C (fun _ _ _ => none) (CF C ih) f args st := by
  unfold callFF
  cases X f args st with
  | some r => rfl
  | none =>
    show optF none _ (C.fn f) = callFA C (fun _ _ _ => none) (CF C ih) f args st
    unfold callFA CF
    cases C.fn f with
    | none => rfl
    | some p =>
      obtain ⟨x, c⟩ := p
      show ifF (Nat.ble (lenLF args) x.ntmps) _ none = _
      rw [ifF_eq, lenLF_eq, ofLF_eq]
      dsimp only
      cases Nat.ble args.length x.ntmps with
      | false => rfl
      | true =>
        rw [cond_true, cond_true]
        cases codeF c C ih x.ntmps (Tr.ofList args 0 .leaf) ⟨st.heap, st.next, st.next, st.hid⟩ with
        | none => rfl
        | some p =>
          obtain ⟨ex, fr', st'⟩ := p
          have hb : ∀ l, backF st st' l = bif scalars l && Nat.ble st.next st'.low then some (oneA l, { st with next := st'.next }) else some (oneA l, { st' with low := bif Nat.ble st.low st'.low then st.low else st'.low }) := by
            intro l
            unfold backF
            rw [ifF_eq, ifF_eq, ifF_eq, scalarsF_eq, oneF_eq]
            cases scalars l <;> rfl
          cases ex with
          | exit k => rfl
          | normal =>
            show optF none (backF st st') (resF' C x.results.toList fr' st') = _
            rw [resF'_eq]
            dsimp only
            cases resA C fr' st' x.results.toList with
            | none => rfl
            | some l => exact hb l
          | ret =>
            show optF none (backF st st') (resF' C x.results.toList fr' st') = _
            rw [resF'_eq]
            dsimp only
            cases resA C fr' st' x.results.toList with
            | none => rfl
            | some l => exact hb l

def runF (C : Cfg) (X : CallF) : Nat → CallF := @Nat.rec (fun _ => CallF) (fun _ _ _ => none) (fun _ ih => callFF C X ih)

theorem runF_grow {C : Cfg} {X : CallF} (hX : GrwF X) : ∀ n, GrwF (runF C X n) := by
  intro n
  induction n with
  | zero => intro f args st r st' h; cases h
  | succ n ih =>
    intro f args st r st' h
    rw [show runF C X (n + 1) f args st = callFF C X (runF C X n) f args st from rfl, callFF_eq] at h
    cases hx : X f args st with
    | some q => rw [hx] at h; cases h; exact hX _ _ _ _ _ hx
    | none => rw [hx] at h; exact callFA_grow (X := fun _ _ _ => none) (fun _ _ _ _ _ h => by cases h) (CF_grow ih) _ _ _ _ _ h

theorem runF_sound {C : Cfg} (hC : C.Ok) {w0 : World} {X : CallF} (hX : SndF C w0 X) (hg : GrwF X) : ∀ n, SndF C w0 (runF C X n) := by
  intro n
  induction n with
  | zero => intro f args st r st' h; cases h
  | succ n ih =>
    intro f args st r st' h
    rw [show runF C X (n + 1) f args st = callFF C X (runF C X n) f args st from rfl, callFF_eq] at h
    cases hx : X f args st with
    | some q => rw [hx] at h; cases h; exact hX _ _ _ _ _ hx
    | none =>
      rw [hx] at h
      exact callFA_sound hC (X := fun _ _ _ => none) (fun _ _ _ _ _ h => by cases h) (CF_sound hC ih (runF_grow hg n)) _ _ _ _ _ h
end
end Go.Proofs.YtogdgamgpkbdaaaGreatDoor.Ax
