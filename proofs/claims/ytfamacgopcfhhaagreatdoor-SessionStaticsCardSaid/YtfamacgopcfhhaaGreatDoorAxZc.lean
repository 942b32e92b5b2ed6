/-
  AN EXECUTOR OVER AN ABSTRACT MEMORY, PART Zc: the run that hands on: where a test can't be reckoned, both ways are gone, each with what it takes for granted. 'runK .. k = true' says that the run comes to an end and that k says yes there.
-/
import Derived.Test.YtfamacgopcfhhaaGreatDoorAxZb
namespace Go.Proofs.YtfamacgopcfhhaaGreatDoor.Ax
open Go.RowKit

noncomputable section
abbrev KV := AV → St → Bool
abbrev CallK := Nat → List AV → St → KV → Bool

def SndK (ihK : CallK) (ih : CallF) : Prop := ∀ f args st k, ihK f args st k = true → ∃ r st', ih f args st = some (r, st') ∧ k r st' = true

abbrev OpK := Cfg → CallK → Fr → St → KV → Bool
structure OKB where
  f : OpK

theorem optF_true {α : Type} {f : α → Bool} {x : Option α} (h : optF false f x = true) : ∃ a, x = some a ∧ f a = true := by
  cases x with
  | none => cases h
  | some a => exact ⟨a, rfl, h⟩
theorem ifF_true {b x : Bool} (h : ifF b x false = true) : b = true ∧ x = true := by
  cases b with
  | false => cases h
  | true => exact ⟨rfl, h⟩

def getK (r : Option (AV × St)) (k : KV) : Bool := optF false (prF k) r
theorem getK_true {r : Option (AV × St)} {k : KV} (h : getK r k = true) : ∃ a st', r = some (a, st') ∧ k a st' = true := by
  obtain ⟨p, h1, h2⟩ := optF_true h
  obtain ⟨a, st'⟩ := p
  exact ⟨a, st', h1, h2⟩

def noCall : CallF := fun _ _ _ => none
theorem noCall_le {ih : CallF} {st : St} {r : Option AR} {a : AV} {st' : St} (h : aftA noCall st r = some (a, st')) : aftA ih st r = some (a, st') := by
  cases r with
  | none => exact h
  | some r => cases r with
    | enter f args => cases h
    | _ => exact h

def opDef (o : OB) : OKB := @OB.rec (fun _ => OKB) (fun f => ⟨fun C _ fr st k => getK (f C noCall fr st) k⟩) o

/-- A choice between two values: where both are of a kind, one value. -/
def mergeK (v : Bool) (x y : Option AV) (st : St) (k : KV) : Bool :=
  optF (@Bool.rec (fun _ => Bool) (optF false (fun y => k y st) y) false v) (fun x => optF (@Bool.rec (fun _ => Bool) false (k x st) v) (fun y =>
    boolD (intD (@Bool.rec (fun _ => Bool) (k y st) (k x st) v) (fun kx m => intD (@Bool.rec (fun _ => Bool) (k y st) (k x st) v) (fun ky n => @Bool.rec (fun _ => Bool) (@Bool.rec (fun _ => Bool) (k y st) (k x st) v) (k (.int kx (ifF v m n)) st) (kbeqF kx ky)) y) x)
      (fun p => boolD (@Bool.rec (fun _ => Bool) (k y st) (k x st) v) (fun q => k (.bool (ifF v p q)) st) y) x) y) x

theorem mergeK_true {v : Bool} {x y : Option AV} {st : St} {k : KV} (h : mergeK v x y st k = true) : ∃ a, (bif v then x else y) = some a ∧ k a st = true := by
  cases x with
  | none =>
    cases v with
    | true => cases h
    | false =>
      obtain ⟨a, h1, h2⟩ := optF_true (x := y) h
      exact ⟨a, h1, h2⟩
  | some x =>
    cases y with
    | none =>
      cases v with
      | true => exact ⟨x, rfl, h⟩
      | false => cases h
    | some y =>
      have fall : @Bool.rec (fun _ => Bool) (k y st) (k x st) v = true → ∃ a, (bif v then some x else some y) = some a ∧ k a st = true := by
        intro h
        cases v with
        | true => exact ⟨x, rfl, h⟩
        | false => exact ⟨y, rfl, h⟩
      cases x with
      | bool p =>
        cases y with
        | bool q =>
          cases v with
          | true => exact ⟨_, rfl, h⟩
          | false => exact ⟨_, rfl, h⟩
        | _ => exact fall h
      | int kx m =>
        cases y with
        | int ky n =>
          have h' : @Bool.rec (fun _ => Bool) (@Bool.rec (fun _ => Bool) (k (.int ky n) st) (k (.int kx m) st) v) (k (.int kx (ifF v m n)) st) (kbeqF kx ky) = true := h
          cases hb : kbeqF kx ky with
          | false => rw [hb] at h'; exact fall h'
          | true =>
            rw [hb] at h'
            rw [kbeqF_eq] at hb
            have := of_decide_eq_true hb
            subst this
            cases v with
            | true => exact ⟨_, rfl, h'⟩
            | false => exact ⟨_, rfl, h'⟩
        | _ => exact fall h
      | _ => exact fall h

def pickK (c a b : Operand) : OKB := ⟨fun C _ fr st k => optF false (boolD false fun v => mergeK v (evalF a C fr) (evalF b C fr) st k) (evalF c C fr)⟩

/-! Equality of structs, all fields together. -/
def andF (a b : Bool) : Bool := @Bool.rec (fun _ => Bool) false b a
abbrev EqT := (Nat → AV → AV → Option Bool) × (List AV → List AV → List Field → Option Bool)
def eqS1 (C : Cfg) (n : Nat) (r : List AV → List AV → List Field → Option Bool) : Nat → AV → AV → Option Bool := fun t x y =>
  aggD (eqA C n t x y) (fun xs => aggD (eqA C n t x y) (fun ys => optF none (prF fun _ d => tdD (eqA C n t x y) (eqA C n t x y) (fun _ => eqA C n t x y) (fun _ => eqA C n t x y) (fun _ _ => eqA C n t x y) (fun fields => ifF (C.eqOk t) (r xs ys fields.toList) none) d) (C.ty t)) y) x
def eqS2 (C : Cfg) (e : Nat → AV → AV → Option Bool) (r : List AV → List AV → List Field → Option Bool) : List AV → List AV → List Field → Option Bool := fun xs ys fs =>
  @List.rec Field (fun _ => Option Bool) (some true) (fun f fs _ => @Bool.rec (fun _ => Option Bool)
    (optF none (fun a => optF none (fun b => optF none (fun u => optF none (fun v => some (andF u v)) (r xs ys fs)) (e f.type a b)) (partF C f.type ys f.offset)) (partF C f.type xs f.offset))
    (r xs ys fs) (f.name == "_")) fs
def eqS (C : Cfg) : Nat → EqT := @Nat.rec (fun _ => EqT) (fun _ _ _ => none, fun _ _ _ => none) (fun n ih => (eqS1 C (Nat.succ n) ih.2, eqS2 C ih.1 ih.2))

theorem optN {α β : Type} {f : α → Option β} {x : Option α} {r : β} (h : optF none f x = some r) : ∃ a, x = some a ∧ f a = some r := by
  cases x with
  | none => cases h
  | some a => exact ⟨a, rfl, h⟩

theorem eqS_le (C : Cfg) : ∀ n, (∀ t x y b, (eqS C n).1 t x y = some b → eqA C n t x y = some b) ∧ (∀ xs ys fs b, (eqS C n).2 xs ys fs = some b → eqFieldsA C n xs ys fs = some b) := by
  intro n
  induction n with
  | zero => exact ⟨fun _ _ _ _ h => (by cases h), fun _ _ _ _ h => (by cases h)⟩
  | succ n ih =>
    obtain ⟨ih1, ih2⟩ := ih
    constructor
    · intro t x y b h
      cases x with
      | agg xs =>
        cases y with
        | agg ys =>
          have h' : optF none (prF fun _ d => tdD (eqA C (n + 1) t (.agg xs) (.agg ys)) (eqA C (n + 1) t (.agg xs) (.agg ys)) (fun _ => eqA C (n + 1) t (.agg xs) (.agg ys)) (fun _ => eqA C (n + 1) t (.agg xs) (.agg ys)) (fun _ _ => eqA C (n + 1) t (.agg xs) (.agg ys)) (fun fields => ifF (C.eqOk t) ((eqS C n).2 xs ys fields.toList) none) d) (C.ty t) = some b := h
          obtain ⟨p, h1, h2⟩ := optN h'
          obtain ⟨ti, d⟩ := p
          cases d with
          | struct fields =>
            have h3 : ifF (C.eqOk t) ((eqS C n).2 xs ys fields.toList) none = some b := h2
            rw [ifF_eq] at h3
            simp only [eqA, h1]
            cases hk : C.eqOk t with
            | false => rw [hk] at h3; cases h3
            | true => rw [hk] at h3; exact ih2 _ _ _ _ h3
          | _ => exact h2
        | _ => exact h
      | _ => exact h
    · intro xs ys fs b h
      cases fs with
      | nil => exact h
      | cons f fs =>
        have h' : @Bool.rec (fun _ => Option Bool)
          (optF none (fun a => optF none (fun b => optF none (fun u => optF none (fun v => some (andF u v)) ((eqS C n).2 xs ys fs)) ((eqS C n).1 f.type a b)) (partF C f.type ys f.offset)) (partF C f.type xs f.offset))
          ((eqS C n).2 xs ys fs) (f.name == "_") = some b := h
        simp only [eqFieldsA]
        cases hn : (f.name == "_") with
        | true => rw [hn] at h'; exact ih2 _ _ _ _ h'
        | false =>
          rw [hn] at h'
          obtain ⟨a, h1, h2⟩ := optN h'
          obtain ⟨c, h3, h4⟩ := optN h2
          obtain ⟨u, h5, h6⟩ := optN h4
          obtain ⟨v, h7, h8⟩ := optN h6
          rw [partF_eq] at h1 h3
          rw [cond_false, h1, h3]
          dsimp only
          rw [ih1 _ _ _ _ h5]
          cases u with
          | false => exact h8
          | true =>
            dsimp only
            rw [ih2 _ _ _ _ h7]
            exact h8

def binS (C : Cfg) (op : BinOp) (t : Nat) (cst : Bool) (x y : AV) : Option AV :=
  aggD (binF C op t cst x y) (fun _ => aggD (binF C op t cst x y) (fun _ =>
    @BinOp.rec (fun _ => Option AV) none none none none none none none none none none none (optF none (fun b => some (.bool b)) (ifF (C.eqOk t) ((eqS C 64).1 t x y) none)) (optF none (fun b => some (.bool (notF b))) (ifF (C.eqOk t) ((eqS C 64).1 t x y) none)) none none none none op) y) x

theorem binS_le {C : Cfg} {op : BinOp} {t : Nat} {cst : Bool} {x y : AV} {r : AV} (h : binS C op t cst x y = some r) : binF C op t cst x y = some r := by
  cases x with
  | agg xs =>
    cases y with
    | agg ys =>
      rw [binF_eq]
      cases op
      case eql =>
        have h' : optF none (fun b => some (AV.bool b)) (ifF (C.eqOk t) ((eqS C 64).1 t (.agg xs) (.agg ys)) none) = some r := h
        obtain ⟨b, h1, h2⟩ := optN h'
        cases h2
        rw [ifF_eq] at h1
        show (match eqqA C t cst (.agg xs) (.agg ys) with | some b => some (AV.bool b) | none => none) = _
        unfold eqqA
        dsimp only
        cases hk : C.eqOk t with
        | false => rw [hk] at h1; cases h1
        | true => rw [hk] at h1; rw [cond_true, (eqS_le C 64).1 _ _ _ _ h1]
      case neq =>
        have h' : optF none (fun b => some (AV.bool (notF b))) (ifF (C.eqOk t) ((eqS C 64).1 t (.agg xs) (.agg ys)) none) = some r := h
        obtain ⟨b, h1, h2⟩ := optN h'
        cases h2
        rw [ifF_eq] at h1
        show (match eqqA C t cst (.agg xs) (.agg ys) with | some b => some (AV.bool (!b)) | none => none) = _
        unfold eqqA
        dsimp only
        cases hk : C.eqOk t with
        | false => rw [hk] at h1; cases h1
        | true => rw [hk] at h1; rw [cond_true, (eqS_le C 64).1 _ _ _ _ h1]; show some (AV.bool (!b)) = some (AV.bool (notF b)); rw [notF_eq]
      all_goals cases h
    | _ => exact h
  | _ => exact h

def opBinK (op : BinOp) (t : TypeId) (x y : Operand) : OKB := ⟨fun C _ fr st k => optF false (fun a => optF false (fun b => optF false (fun v => k v st) (binS C op t (ifF (isConstF x) true (isConstF y)) a b)) (evalF y C fr)) (evalF x C fr)⟩

/-! Calls. -/
def enterK (C : Cfg) (ih : CallK) (q : Nat) (args : List AV) (st : St) (k : KV) : Bool := optF (optF false (fun e => getK (extSt e args st) k) (C.ext q)) (fun _ => ih q args st k) (C.fn q)
def calleeK (x : Callee) : List Nat → List AV → OpK :=
  @Callee.rec (fun _ => List Nat → List AV → OpK)
    (fun f _ args C ih fr st k => optF false (fnD false fun g a b => @Fn.rec (fun _ => Bool) (fun q => enterK C ih q (appLF (appLF a args) b) st k) (fun _ => false) (fun _ _ => false) (fun _ _ _ _ => false) (fun _ => false) g) (evalF f C fr))
    (fun _ _ _ _ _ _ _ _ _ => false)
    (fun b tys args C _ fr st k => getK (calleeF (.builtin b) tys args C noCall fr st) k) x
def opCallK (c : Call) : OKB := ⟨fun C ih fr st k => optF false (fun args => calleeK c.callee c.argTypes.toList args C ih fr st k) (evalLF c.args.toList C fr)⟩

def opK : Op → OKB :=
  @Op.rec (fun _ => OKB) (fun x => opDef (opB (.move x))) (fun x => opDef (opB (.assign x))) (fun c a b => pickK c a b) (fun t => opDef (opB (.alloc t))) (fun t x => opDef (opB (.box t x))) (fun t p => opDef (opB (.build t p))) (fun t l p => opDef (opB (.buildSlice t l p))) (fun a b c d => opDef (opB (.insert a b c d))) (fun t x => opDef (opB (.load t x))) (fun t p x => opDef (opB (.store t p x))) (fun g => opDef (opB (.ready g))) (fun g => opDef (opB (.waits g))) (fun x => opDef (opB (.nilCheck x)))
    (fun op t x y _ => opBinK op t x y) (fun op t x => opDef (opB (.unOp op t x))) (fun s d x => opDef (opB (.convert s d x))) (fun a b => opDef (opB (.sliceToArrayPointer a b))) (fun t x => opDef (opB (.makeInterface t x))) (fun f a b => opDef (opB (.makeFunc f a b))) (fun a b => opDef (opB (.makeMap a b))) (fun a b => opDef (opB (.makeChan a b))) (fun a b c => opDef (opB (.makeSlice a b c))) (fun a b c d e => opDef (opB (.slice a b c d e)))
    (fun t x n => opDef (opB (.fieldAddr t x n))) (fun t x n => opDef (opB (.field t x n))) (fun t x i => opDef (opB (.indexAddr t x i))) (fun t x i => opDef (opB (.index t x i))) (fun a b c d => opDef (opB (.lookup a b c d))) (fun a b c d => opDef (opB (.mapUpdate a b c d))) (fun a b c => opDef (opB (.mapEntry a b c))) (fun a b c d => opDef (opB (.entryStore a b c d))) (fun a b => opDef (opB (.range a b))) (fun a b => opDef (opB (.next a b))) (fun a => opDef (opB (.entry a))) (fun a b c d => opDef (opB (.typeAssert a b c d)))
    (fun x n => opDef (opB (.extract x n))) (fun c => opCallK c) (fun c => opDef (opB (.go c))) (fun c => opDef (opB (.defer c))) (fun c => opDef (opB (.panic c))) (fun a b => opDef (opB (.send a b))) (fun a b c => opDef (opB (.recv a b c))) (fun a b => opDef (opB (.select a b)))

/-- An operation that calls nothing gives the same whatever calls do. -/
theorem opB_le {C : Cfg} {ih : CallF} {o : Op} {fr : Fr} {st : St} {a : AV} {st' : St} (h : (opB o).f C noCall fr st = some (a, st')) : (opB o).f C ih fr st = some (a, st') := by
  have e : ∀ ih, (opB o).f C ih fr st = aftA ih st (aop C fr st ⟨none, o, 0, "", #[], none⟩) := fun ih => opTab_eq C ih fr st ⟨none, o, 0, "", #[], none⟩
  rw [e] at h ⊢
  exact noCall_le h

theorem opDef_true {C : Cfg} {ihK : CallK} {ih : CallF} {o : Op} {fr : Fr} {st : St} {k : KV} (h : (opDef (opB o)).f C ihK fr st k = true) : ∃ r st', (opB o).f C ih fr st = some (r, st') ∧ k r st' = true := by
  have h' : getK ((opB o).f C noCall fr st) k = true := h
  obtain ⟨a, st', h1, h2⟩ := getK_true h'
  exact ⟨a, st', opB_le h1, h2⟩

theorem out_some {st : St} {x : Option AV} {a : AV} (h : x = some a) : out st x = some (a, st) := by subst h; rfl

theorem opK_true {C : Cfg} {ihK : CallK} {ih : CallF} (hK : SndK ihK ih) {o : Op} {fr : Fr} {st : St} {k : KV} (h : (opK o).f C ihK fr st k = true) : ∃ r st', (opB o).f C ih fr st = some (r, st') ∧ k r st' = true := by
  cases o
  case pick c a b =>
    have h' : optF false (boolD false fun v => mergeK v (evalF a C fr) (evalF b C fr) st k) (evalF c C fr) = true := h
    obtain ⟨v, h1, h2⟩ := optF_true h'
    cases v with
    | bool v =>
      obtain ⟨r, h3, h4⟩ := mergeK_true h2
      refine ⟨r, st, ?_, h4⟩
      show optF none (boolD none fun v => @Bool.rec (fun _ => Option (AV × St)) (out st (evalF b C fr)) (out st (evalF a C fr)) v) (evalF c C fr) = _
      rw [h1]
      cases v with
      | true => exact out_some h3
      | false => exact out_some h3
    | _ => cases h2
  case binOp op t x y yt =>
    have h' : optF false (fun a => optF false (fun b => optF false (fun v => k v st) (binS C op t (ifF (isConstF x) true (isConstF y)) a b)) (evalF y C fr)) (evalF x C fr) = true := h
    obtain ⟨a, h1, h2⟩ := optF_true h'
    obtain ⟨b, h3, h4⟩ := optF_true h2
    obtain ⟨v, h5, h6⟩ := optF_true h4
    refine ⟨v, st, ?_, h6⟩
    show optF none (fun a => optF none (fun b => out st (binF C op t (ifF (isConstF x) true (isConstF y)) a b)) (evalF y C fr)) (evalF x C fr) = _
    rw [h1, h3]
    exact out_some (binS_le h5)
  case call c =>
    have h' : optF false (fun args => calleeK c.callee c.argTypes.toList args C ihK fr st k) (evalLF c.args.toList C fr) = true := h
    obtain ⟨args, h1, h2⟩ := optF_true h'
    have goal : ∃ r st', calleeF c.callee c.argTypes.toList args C ih fr st = some (r, st') ∧ k r st' = true := by
      cases hc : c.callee with
      | value f =>
        rw [hc] at h2
        have h3 : optF false (fnD false fun g a b => @Fn.rec (fun _ => Bool) (fun q => enterK C ihK q (appLF (appLF a args) b) st k) (fun _ => false) (fun _ _ => false) (fun _ _ _ _ => false) (fun _ => false) g) (evalF f C fr) = true := h2
        obtain ⟨fv, h4, h5⟩ := optF_true h3
        cases fv with
        | fn g a b =>
          cases g with
          | func q =>
            have h6 : enterK C ihK q (appLF (appLF a args) b) st k = true := h5
            have e : ∀ r, enterF C ih q (appLF (appLF a args) b) st = some r → calleeF (.value f) c.argTypes.toList args C ih fr st = some r := by
              intro r hr
              show optF none _ (evalF f C fr) = _
              rw [h4]
              exact hr
            unfold enterK at h6
            cases hf : C.fn q with
            | some p =>
              rw [hf] at h6
              obtain ⟨r, st', q1, q2⟩ := hK q _ st k h6
              refine ⟨r, st', e _ ?_, q2⟩
              unfold enterF
              rw [hf]
              exact q1
            | none =>
              rw [hf] at h6
              obtain ⟨x, q1, q2⟩ := optF_true (show optF false (fun e => getK (extSt e (appLF (appLF a args) b) st) k) (C.ext q) = true from h6)
              obtain ⟨r, st', q3, q4⟩ := getK_true q2
              refine ⟨r, st', e _ ?_, q4⟩
              unfold enterF
              rw [hf, q1]
              exact q3
          | _ => cases h5
        | _ => cases h5
      | invoke _ _ => rw [hc] at h2; cases h2
      | builtin b =>
        rw [hc] at h2
        have h3 : getK (calleeF (.builtin b) c.argTypes.toList args C noCall fr st) k = true := h2
        obtain ⟨r, st', q1, q2⟩ := getK_true h3
        refine ⟨r, st', ?_, q2⟩
        rw [calleeF_eq] at q1 ⊢
        exact noCall_le q1
    obtain ⟨r, st', g1, g2⟩ := goal
    refine ⟨r, st', ?_, g2⟩
    show optF none _ (evalLF c.args.toList C fr) = _
    rw [h1]
    exact g1
  all_goals exact opDef_true h

/-! Slots. -/
structure PKB where
  f : Cfg → CallK → Fr → St → (Fr → St → Bool) → Bool
def noPK : PKB := ⟨fun _ _ _ _ _ => false⟩
def plainK (o : OKB) (q : Option QB) : PKB := optF noPK (fun q => @QB.rec (fun _ => PKB) (fun g => @OKB.rec (fun _ => PKB) (fun f => ⟨fun C ih fr st k => f C ih fr st (fun a st' => k (g fr a) st')⟩) o) q) q
/-- A guard: behind it its slot holds what it was taken to hold. -/
def guardKF (want : Bool) (gf : Fr → Option AV) (sf : Fr → AV → Fr) (f : OpK) (g : Fr → AV → Fr) : PKB :=
  ⟨fun C ih fr st k => optF false (fun a => boolD (tupD false (fun l => @List.rec AV (fun _ => Bool) (k (g fr (.tup [])) st) (fun _ _ _ => false) l) a)
    (fun b => @Bool.rec (fun _ => Bool)
      (@Bool.rec (fun _ => Bool) (f C ih (sf fr (.bool false)) st (fun a st' => k (g (sf fr (.bool false)) a) st')) (k (g (sf fr (.bool false)) (.tup [])) st) want)
      (@Bool.rec (fun _ => Bool) (k (g (sf fr (.bool true)) (.tup [])) st) (f C ih (sf fr (.bool true)) st (fun a st' => k (g (sf fr (.bool true)) a) st')) want) b) a) (gf fr)⟩
def guardKB (want : Bool) (gb : GB) (sb : SB) (o : OKB) (q : Option QB) : PKB := optF noPK (fun q => @QB.rec (fun _ => PKB) (fun g => @OKB.rec (fun _ => PKB) (fun f => @GB.rec (fun _ => PKB) (fun gf => @SB.rec (fun _ => PKB) (fun sf => guardKF want gf sf f g) sb) gb) o) q) q
def stepK (nt : Nat) (all : List Oper) (o : Oper) : PKB :=
  optF (plainK (opK o.op) (putB nt o.dst)) (prF fun j want => optF noPK (fun oj => optF noPK (fun d => guardKB want (gB d) (sB d) (opK o.op) (putB nt o.dst)) oj.dst) (nthF all j)) o.guard

theorem Tr.set_same {α : Type} : ∀ (t : Tr α) (k : Nat) (v : α), t.get k = some v → t.set k v = t
  | .leaf, k, v, h => by simp [Tr.get_leaf] at h
  | .node o l r, k, v, h => by
    rw [Tr.get_node] at h
    simp only [Tr.set, Tr.cbeq]
    by_cases h0 : k = 0
    · rw [if_pos h0] at h ⊢
      rw [h]
    · rw [if_neg h0] at h ⊢
      by_cases h1 : k % 2 = 1
      · rw [if_pos h1] at h ⊢
        rw [Tr.set_same l _ v h]
      · rw [if_neg h1] at h ⊢
        rw [Tr.set_same r _ v h]

theorem B8.set_same (b : B8) (v : AV) (i : Nat) (hi : i < 8) (h : b.get i = some v) : b.set v i = b := by
  obtain ⟨a0, a1, a2, a3, a4, a5, a6, a7⟩ := b
  rcases lt8 hi with rfl | rfl | rfl | rfl | rfl | rfl | rfl | rfl <;> (have h' : _ = some v := h; simp only [B8.get] at h'; simp only [B8.set, h'])

theorem Fr.setRow_same (x : Fr) (i : Nat) (hi : i < 8) : x.setRow (x.row i) i = x := by
  rcases lt8 hi with rfl | rfl | rfl | rfl | rfl | rfl | rfl | rfl <;> rfl

theorem Fr.set_same (x : Fr) (k : Nat) (v : AV) (h : x.get k = some v) : x.set k v = x := by
  unfold Fr.get at h
  unfold Fr.set
  simp only [nblt, Bool.cond_decide] at h ⊢
  by_cases hk : k < 64
  · rw [if_pos hk] at h ⊢
    rw [B8.set_same _ v _ (by omega) h]
    exact Fr.setRow_same x _ (by omega)
  · rw [if_neg hk] at h ⊢
    rw [Tr.set_same _ _ _ h]

theorem sB_same {d : Nat} {fr : Fr} {v : AV} (h : (gB d).f fr = some v) : (sB d).f fr v = fr := by
  rw [gB_eq] at h
  rw [sB_eq]
  exact Fr.set_same fr d v h

theorem stepK_true {C : Cfg} {ihK : CallK} {ih : CallF} (hK : SndK ihK ih) {nt : Nat} {all : List Oper} {o : Oper} {fr : Fr} {st : St} {k : Fr → St → Bool} (h : (stepK nt all o).f C ihK fr st k = true) :
    ∃ fr' st', (stepB nt all o).f C ih fr st = some (fr', st') ∧ k fr' st' = true := by
  unfold stepK at h
  unfold stepB
  cases hg : o.guard with
  | none =>
    rw [hg] at h
    have h' : (plainK (opK o.op) (putB nt o.dst)).f C ihK fr st k = true := h
    show ∃ fr' st', (plainB (opB o.op) (putB nt o.dst)).f C ih fr st = some (fr', st') ∧ k fr' st' = true
    cases hq : putB nt o.dst with
    | none => rw [hq] at h'; cases h'
    | some q =>
      rw [hq] at h'
      obtain ⟨a, st', h1, h2⟩ := opK_true hK (show (opK o.op).f C ihK fr st (fun a st' => k (QB.f q fr a) st') = true from h')
      refine ⟨QB.f q fr a, st', ?_, h2⟩
      show optF none _ ((opB o.op).f C ih fr st) = _
      rw [h1]; rfl
  | some g =>
    obtain ⟨j, want⟩ := g
    rw [hg] at h
    have h' : (optF noPK (fun oj => optF noPK (fun d => guardKB want (gB d) (sB d) (opK o.op) (putB nt o.dst)) oj.dst) (nthF all j)).f C ihK fr st k = true := h
    show ∃ fr' st', (guardB (wantB all (j, want)) (opB o.op) (putB nt o.dst)).f C ih fr st = some (fr', st') ∧ k fr' st' = true
    cases hj : nthF all j with
    | none => rw [hj] at h'; cases h'
    | some oj =>
      rw [hj] at h'
      have h2 : (optF noPK (fun d => guardKB want (gB d) (sB d) (opK o.op) (putB nt o.dst)) oj.dst).f C ihK fr st k = true := h'
      cases hd : oj.dst with
      | none => rw [hd] at h2; cases h2
      | some d =>
        rw [hd] at h2
        cases hq : putB nt o.dst with
        | none => rw [hq] at h2; cases h2
        | some q =>
          rw [hq] at h2
          have h3 : (guardKF want (gB d).f (sB d).f (opK o.op).f q.f).f C ihK fr st k = true := h2
          obtain ⟨a, h4, h5⟩ := optF_true (show optF false _ ((gB d).f fr) = true from h3)
          have hw : (wantB all (j, want)).f fr = judgeF want a := by
            show (optF noW (fun oj => optF noW (fun d => wantG want (gB d)) oj.dst) (nthF all j)).f fr = _
            rw [hj]
            show (optF noW (fun d => wantG want (gB d)) oj.dst).f fr = _
            rw [hd]
            show optF none (judgeF want) ((gB d).f fr) = _
            rw [h4]; rfl
          show ∃ fr' st', optF none (fun b => ifF b (optF none (prF fun a st' => some (QB.f q fr a, st')) ((opB o.op).f C ih fr st)) (some (QB.f q fr (.tup []), st))) ((wantB all (j, want)).f fr) = some (fr', st') ∧ k fr' st' = true
          rw [hw]
          have run : ∀ k', (opK o.op).f C ihK fr st k' = true → k' = (fun a st' => k (QB.f q fr a) st') → ∃ fr' st', optF none (prF fun a st' => some (QB.f q fr a, st')) ((opB o.op).f C ih fr st) = some (fr', st') ∧ k fr' st' = true := by
            intro k' h6 he
            subst he
            obtain ⟨a, st', q1, q2⟩ := opK_true hK h6
            exact ⟨_, st', by rw [q1]; rfl, q2⟩
          cases a with
          | bool b =>
            have hs := sB_same h4
            have h6 : @Bool.rec (fun _ => Bool)
              (@Bool.rec (fun _ => Bool) ((opK o.op).f C ihK ((sB d).f fr (.bool false)) st (fun a st' => k (QB.f q ((sB d).f fr (.bool false)) a) st')) (k (QB.f q ((sB d).f fr (.bool false)) (.tup [])) st) want)
              (@Bool.rec (fun _ => Bool) (k (QB.f q ((sB d).f fr (.bool true)) (.tup [])) st) ((opK o.op).f C ihK ((sB d).f fr (.bool true)) st (fun a st' => k (QB.f q ((sB d).f fr (.bool true)) a) st')) want) b = true := h5
            cases b with
            | true =>
              rw [hs] at h6
              cases want with
              | true => exact run _ h6 rfl
              | false => exact ⟨_, st, rfl, h6⟩
            | false =>
              rw [hs] at h6
              cases want with
              | false => exact run _ h6 rfl
              | true => exact ⟨_, st, rfl, h6⟩
          | tup l =>
            cases l with
            | nil => exact ⟨_, st, rfl, h5⟩
            | cons x l => cases h5
          | _ => cases h5

def opsK (C : Cfg) (ih : CallK) (nt : Nat) (all : List Oper) (l : List Oper) : Fr → St → (Fr → St → Bool) → Bool :=
  @List.rec Oper (fun _ => Fr → St → (Fr → St → Bool) → Bool) (fun fr st k => k fr st) (fun o _ ihl fr st k => (stepK nt all o).f C ih fr st (fun fr' st' => ihl fr' st' k)) l
theorem opsK_true {C : Cfg} {ihK : CallK} {ih : CallF} (hK : SndK ihK ih) {nt : Nat} {all : List Oper} {k : Fr → St → Bool} : ∀ {l : List Oper} {fr : Fr} {st : St}, opsK C ihK nt all l fr st k = true → ∃ fr' st', opsF C ih nt all l fr st = some (fr', st') ∧ k fr' st' = true
  | [], fr, st, h => ⟨fr, st, rfl, h⟩
  | o :: l, fr, st, h => by
    obtain ⟨fr1, st1, h1, h2⟩ := stepK_true hK (show (stepK nt all o).f C ihK fr st (fun fr' st' => opsK C ihK nt all l fr' st' k) = true from h)
    obtain ⟨fr2, st2, h3, h4⟩ := opsK_true hK h2
    refine ⟨fr2, st2, ?_, h4⟩
    show optF none (prF (opsF C ih nt all l)) ((stepB nt all o).f C ih fr st) = _
    rw [h1]
    exact h3

def valK (C : Cfg) (ih : CallK) (all : List Oper) (o : Oper) (fr : Fr) (st : St) (k : KV) : Bool :=
  optF ((opK o.op).f C ih fr st k) (fun g => optF false (fun b => @Bool.rec (fun _ => Bool) (k (.tup []) st) ((opK o.op).f C ih fr st k) b) (wantF all fr g)) o.guard
theorem valK_true {C : Cfg} {ihK : CallK} {ih : CallF} (hK : SndK ihK ih) {all : List Oper} {o : Oper} {fr : Fr} {st : St} {k : KV} (h : valK C ihK all o fr st k = true) : ∃ a st', stepF C ih all o fr st = some (a, st') ∧ k a st' = true := by
  unfold valK at h
  unfold stepF
  cases hg : o.guard with
  | none => rw [hg] at h; exact opK_true hK h
  | some g =>
    rw [hg] at h
    obtain ⟨b, h1, h2⟩ := optF_true (show optF false (fun b => @Bool.rec (fun _ => Bool) (k (.tup []) st) ((opK o.op).f C ihK fr st k) b) (wantF all fr g) = true from h)
    show ∃ a st', optF none _ (wantF all fr g) = some (a, st') ∧ k a st' = true
    rw [h1]
    cases b with
    | true =>
      obtain ⟨a, st', q1, q2⟩ := opK_true hK h2
      exact ⟨a, st', q1, q2⟩
    | false => exact ⟨_, st, rfl, h2⟩

def headK (C : Cfg) (ih : CallK) (nt : Nat) (all : List Oper) (lt : Nat) (Rs : List (Nat × Nat)) (os : List Oper) : List Nat → Nat → List (Nat × Nat × Nat) → Fr → St → (Fr → St → Bool) → Bool :=
  @List.rec Oper (fun _ => List Nat → Nat → List (Nat × Nat × Nat) → Fr → St → (Fr → St → Bool) → Bool) (fun _ _ _ fr st k => k fr st)
    (fun o _ ihl ms i rs fr st k => @List.rec Nat (fun _ => Bool) false (fun m ms _ =>
      valK C ih all o (restrF fr (looksA all o)) ⟨st.heap, st.next, st.next, exH lt i Rs (hidA m rs st.hid)⟩ (fun x st1 => ifF (okL lt i Rs fr o st.next st1.low) (optF false (fun fr' => ihl ms (Nat.succ i) ((i, st.next, st1.next) :: rs) fr' ⟨st1.heap, st1.next, st.low, st.hid⟩ k) (putFF nt fr o.dst x)) false)) ms) os
theorem headK_true {C : Cfg} {ihK : CallK} {ih : CallF} (hK : SndK ihK ih) {nt : Nat} {all : List Oper} {lt : Nat} {Rs : List (Nat × Nat)} {k : Fr → St → Bool} : ∀ {os : List Oper} {ms : List Nat} {i : Nat} {rs : List (Nat × Nat × Nat)} {fr : Fr} {st : St}, headK C ihK nt all lt Rs os ms i rs fr st k = true →
    ∃ fr' st', headF C ih nt all lt Rs os ms i rs fr st = some (fr', st') ∧ k fr' st' = true
  | [], ms, _, _, fr, st, h => ⟨fr, st, rfl, h⟩
  | o :: os, [], _, _, _, _, h => by cases h
  | o :: os, m :: ms, i, rs, fr, st, h => by
    obtain ⟨x, st1, h1, h2⟩ := valK_true hK (show valK C ihK all o (restrF fr (looksA all o)) ⟨st.heap, st.next, st.next, exH lt i Rs (hidA m rs st.hid)⟩ (fun x st1 => ifF (okL lt i Rs fr o st.next st1.low) (optF false (fun fr' => headK C ihK nt all lt Rs os ms (Nat.succ i) ((i, st.next, st1.next) :: rs) fr' ⟨st1.heap, st1.next, st.low, st.hid⟩ k) (putFF nt fr o.dst x)) false) = true from h)
    obtain ⟨h3, h4⟩ := ifF_true h2
    obtain ⟨fr', h5, h6⟩ := optF_true h4
    obtain ⟨fr2, st2, h7, h8⟩ := headK_true hK h6
    refine ⟨fr2, st2, ?_, h8⟩
    show optF none (prF fun x st1 => ifF (okL lt i Rs fr o st.next st1.low) (optF none (fun fr' => headF C ih nt all lt Rs os ms (Nat.succ i) ((i, st.next, st1.next) :: rs) fr' ⟨st1.heap, st1.next, st.low, st.hid⟩) (putFF nt fr o.dst x)) none)
        (stepF C ih all o (restrF fr (looksA all o)) ⟨st.heap, st.next, st.next, exH lt i Rs (hidA m rs st.hid)⟩) = _
    rw [h1]
    show ifF (okL lt i Rs fr o st.next st1.low) _ none = _
    rw [h3]
    show optF none _ (putFF nt fr o.dst x) = _
    rw [h5]
    exact h7

def drawKG (lt : Nat) (Rs : List (Nat × Nat)) (C : Cfg) (ih : CallK) (nt : Nat) (ops : Array Oper) (fr : Fr) (st : St) (k : Fr → St → Bool) : Bool :=
  ifF (shapeOkA ops (headLen ops.toList) (planA ops.toList).2.1) (ifF (Nat.ble (headLen ops.toList) ops.size) (ifF (hidOkA st.next st.hid) (ifF (hidOkA st.next Rs)
    (headK C ih nt ops.toList lt Rs (takeF ops.toList (headLen ops.toList)) (masks ops.toList []) (nat_lit 0) [] fr st (fun fr1 st1 => opsK C ih nt ops.toList (dropF ops.toList (headLen ops.toList)) fr1 ⟨st1.heap, st1.next, st1.low, Rs ++ st1.hid⟩ (fun fr2 st2 => optF false (fun h => k fr2 ⟨h, st2.next, st2.low, st1.hid⟩) (backR st1.heap Rs st2.heap)))) false) false) false) false
def drawK (C : Cfg) (ih : CallK) (nt : Nat) (ops : Array Oper) (fr : Fr) (st : St) (k : Fr → St → Bool) : Bool :=
  ifF (Nat.beq (ltOf ops.toList) (nat_lit 0)) (drawKG (nat_lit 0) [] C ih nt ops fr st k) (optF false (fun Rs => drawKG (ltOf ops.toList) Rs C ih nt ops fr st k) (lateR fr (ltOf ops.toList) ops.toList ops.toList (nat_lit 0)))
theorem drawKG_true {lt : Nat} {Rs : List (Nat × Nat)} {C : Cfg} {ihK : CallK} {ih : CallF} (hK : SndK ihK ih) {nt : Nat} {ops : Array Oper} {fr : Fr} {st : St} {k : Fr → St → Bool} (h : drawKG lt Rs C ihK nt ops fr st k = true) : ∃ fr' st', drawG lt Rs C ih nt ops fr st = some (fr', st') ∧ k fr' st' = true := by
  obtain ⟨h1, h⟩ := ifF_true h
  obtain ⟨h2, h⟩ := ifF_true h
  obtain ⟨h3, h⟩ := ifF_true h
  obtain ⟨h3', h⟩ := ifF_true h
  obtain ⟨fr1, st1, h4, h5⟩ := headK_true hK h
  obtain ⟨fr2, st2, h6, h7⟩ := opsK_true hK h5
  obtain ⟨hp, h8, h9⟩ := optF_true h7
  refine ⟨fr2, ⟨hp, st2.next, st2.low, st1.hid⟩, ?_, h9⟩
  unfold drawG
  rw [h1, h2, h3, h3']
  show optF none _ (headF C ih nt ops.toList lt Rs (takeF ops.toList (headLen ops.toList)) (masks ops.toList []) (nat_lit 0) [] fr st) = _
  rw [h4]
  show optF none _ (opsF C ih nt ops.toList (dropF ops.toList (headLen ops.toList)) fr1 ⟨st1.heap, st1.next, st1.low, Rs ++ st1.hid⟩) = _
  rw [h6]
  show optF none _ (backR st1.heap Rs st2.heap) = _
  rw [h8]
  rfl
theorem drawK_true {C : Cfg} {ihK : CallK} {ih : CallF} (hK : SndK ihK ih) {nt : Nat} {ops : Array Oper} {fr : Fr} {st : St} {k : Fr → St → Bool} (h : drawK C ihK nt ops fr st k = true) : ∃ fr' st', drawF C ih nt ops fr st = some (fr', st') ∧ k fr' st' = true := by
  unfold drawK at h
  unfold drawF
  cases hz : Nat.beq (ltOf ops.toList) 0 with
  | true =>
    rw [hz] at h
    obtain ⟨fr', st', h1, h2⟩ := drawKG_true hK (show drawKG 0 [] C ihK nt ops fr st k = true from h)
    exact ⟨fr', st', h1, h2⟩
  | false =>
    rw [hz] at h
    obtain ⟨Rs, h1, h2⟩ := optF_true (show optF false _ (lateR fr (ltOf ops.toList) ops.toList ops.toList 0) = true from h)
    obtain ⟨fr', st', h3, h4⟩ := drawKG_true hK h2
    refine ⟨fr', st', ?_, h4⟩
    show optF none _ (lateR fr (ltOf ops.toList) ops.toList ops.toList 0) = _
    rw [h1]
    exact h3

/-! Code. -/
abbrev KC := Ex → Fr → St → Bool
structure CKB where
  f : Cfg → CallK → Nat → Fr → St → KC → Bool
structure RfB where
  f : Fr → Bool → Fr
def refB (c : Operand) : RfB := @Operand.rec (fun _ => RfB) (fun t => @SB.rec (fun _ => RfB) (fun s => ⟨fun fr b => s fr (.bool b)⟩) (sB t)) (fun _ => ⟨fun fr _ => fr⟩) (fun _ => ⟨fun fr _ => fr⟩) (fun _ => ⟨fun fr _ => fr⟩) c
theorem refB_same {C : Cfg} {c : Operand} {fr : Fr} {b : Bool} (h : evalF c C fr = some (.bool b)) : (refB c).f fr b = fr := by
  cases c with
  | tmp t => exact sB_same (d := t) (v := .bool b) h
  | _ => rfl

def afterK (e : Ex) (fr : Fr) (st : St) (kn : Fr → St → Bool) (k : KC) : Bool := @Ex.rec (fun _ => Bool) (kn fr st) (fun id => k (.exit id) fr st) (k .ret fr st) e
def seqK (x y : CKB) : CKB := ⟨fun C ih nt fr st k => x.f C ih nt fr st (fun e fr' st' => afterK e fr' st' (fun fr st => y.f C ih nt fr st k) k)⟩
def condK (c : Operand) (x y : CKB) : CKB := ⟨fun C ih nt fr st k => optF false (boolD false fun b => @Bool.rec (fun _ => Bool) (y.f C ih nt ((refB c).f fr false) st k) (x.f C ih nt ((refB c).f fr true) st k) b) (evalF c C fr)⟩
def blockK (id : Nat) (x : CKB) : CKB := ⟨fun C ih nt fr st k => x.f C ih nt fr st (fun e fr' st' => @Ex.rec (fun _ => Bool) (k .normal fr' st') (fun j => ifF (Nat.beq j id) (k .normal fr' st') (k (.exit j) fr' st')) (k .ret fr' st') e)⟩
def loopKK (b : Fr → St → KC → Bool) (n : Nat) : Fr → St → KC → Bool := @Nat.rec (fun _ => Fr → St → KC → Bool) (fun _ _ _ => false) (fun _ ih fr st k => b fr st (fun e fr' st' => afterK e fr' st' (fun fr st => ih fr st k) k)) n
def loopK (x : CKB) : CKB := ⟨fun C ih nt => loopKK (x.f C ih nt) (nat_lit 1000000)⟩
theorem loopK_f (x : CKB) (C : Cfg) (ih : CallK) (nt : Nat) : (loopK x).f C ih nt = loopKK (x.f C ih nt) 1000000 := rfl
def regionK (ops : Array Oper) (draw : Bool) : CKB := @Bool.rec (fun _ => CKB) ⟨fun _ _ _ _ _ _ => false⟩ (@Bool.rec (fun _ => CKB) ⟨fun C ih nt fr st k => opsK C ih nt ops.toList ops.toList fr st (k .normal)⟩ ⟨fun C ih nt fr st k => drawK C ih nt ops fr st (k .normal)⟩ draw) (calmF ops.toList)
def noCK : CKB := ⟨fun _ _ _ _ _ _ => false⟩
def skipK : CKB := ⟨fun _ _ _ fr st k => k .normal fr st⟩
def codeC : Code → CKB :=
  @Code.rec (fun _ => CKB) skipK (fun _ ops draw => regionK ops draw) (fun _ _ x y => seqK x y) (fun c _ _ x y => condK c x y) (fun id _ x => blockK id x) (fun _ x => loopK x) (fun _ _ _ _ _ _ => noCK) (fun id => ⟨fun _ _ _ fr st k => k (.exit id) fr st⟩) (fun _ x => x) (fun _ => skipK) (fun _ => noCK) ⟨fun _ _ _ fr st k => k .ret fr st⟩ (fun _ => noCK)

theorem outF_of {C : Cfg} {ih : CallF} {nt : Nat} {x y : Code} {fr : Fr} {st : St} {e : Ex} {fr' : Fr} {st' : St} (h : codeF x C ih nt fr st = some (e, fr', st')) : codeF (.seq x y) C ih nt fr st = @Ex.rec (fun _ => Out) (codeF y C ih nt fr' st') (fun id => some (.exit id, fr', st')) (some (.ret, fr', st')) e := by
  show outF (codeF x C ih nt fr st) (codeF y C ih nt) exF = _
  rw [h]; rfl

theorem loopKK_true {b : Fr → St → KC → Bool} {bf : Fr → St → Out} (hb : ∀ fr st k, b fr st k = true → ∃ e fr' st', bf fr st = some (e, fr', st') ∧ k e fr' st' = true) {k : KC} : ∀ (n : Nat) {fr : Fr} {st : St}, loopKK b n fr st k = true → ∃ e fr' st', loopFF bf n fr st = some (e, fr', st') ∧ k e fr' st' = true
  | 0, _, _, h => by cases h
  | n + 1, fr, st, h => by
    obtain ⟨e, fr1, st1, h1, h2⟩ := hb fr st _ (show b fr st (fun e fr' st' => afterK e fr' st' (fun fr st => loopKK b n fr st k) k) = true from h)
    have e0 : loopFF bf (n + 1) fr st = outF (bf fr st) (loopFF bf n) exF := rfl
    cases e with
    | normal =>
      obtain ⟨e2, fr2, st2, h3, h4⟩ := loopKK_true hb n (show loopKK b n fr1 st1 k = true from h2)
      exact ⟨e2, fr2, st2, by rw [e0, h1]; exact h3, h4⟩
    | exit id => exact ⟨_, fr1, st1, by rw [e0, h1]; rfl, h2⟩
    | ret => exact ⟨_, fr1, st1, by rw [e0, h1]; rfl, h2⟩

theorem codeC_true {C : Cfg} {ihK : CallK} {ih : CallF} (hK : SndK ihK ih) : ∀ (c : Code) (nt : Nat) (fr : Fr) (st : St) (k : KC), (codeC c).f C ihK nt fr st k = true → ∃ e fr' st', codeF c C ih nt fr st = some (e, fr', st') ∧ k e fr' st' = true := by
  intro c
  induction c with
  | skip => intro nt fr st k h; exact ⟨.normal, fr, st, rfl, h⟩
  | label l => intro nt fr st k h; exact ⟨.normal, fr, st, rfl, h⟩
  | region id ops draw =>
    intro nt fr st k h
    have h' : (regionK ops draw).f C ihK nt fr st k = true := h
    show ∃ e fr' st', (regionF ops draw).f C ih nt fr st = some (e, fr', st') ∧ k e fr' st' = true
    unfold regionK at h'
    unfold regionF
    cases hc : calmF ops.toList with
    | false => rw [hc] at h'; cases h'
    | true =>
    rw [hc] at h'
    cases draw with
    | false =>
      obtain ⟨fr', st', h1, h2⟩ := opsK_true hK (show opsK C ihK nt ops.toList ops.toList fr st (k .normal) = true from h')
      refine ⟨.normal, fr', st', ?_, h2⟩
      show pairOut (orElseF (opsF C ih nt ops.toList ops.toList fr st) _) = _
      rw [h1]; rfl
    | true =>
      obtain ⟨fr', st', h1, h2⟩ := drawK_true hK (show drawK C ihK nt ops fr st (k .normal) = true from h')
      refine ⟨.normal, fr', st', ?_, h2⟩
      show pairOut (orElseF (drawF C ih nt ops fr st) _) = _
      rw [h1]; rfl
  | seq a b ha hb =>
    intro nt fr st k h
    obtain ⟨e, fr1, st1, h1, h2⟩ := ha nt fr st _ (show (codeC a).f C ihK nt fr st (fun e fr' st' => afterK e fr' st' (fun fr st => (codeC b).f C ihK nt fr st k) k) = true from h)
    cases e with
    | normal =>
      obtain ⟨e2, fr2, st2, h3, h4⟩ := hb nt fr1 st1 k h2
      exact ⟨e2, fr2, st2, by rw [outF_of h1]; exact h3, h4⟩
    | exit id => exact ⟨_, fr1, st1, by rw [outF_of h1], h2⟩
    | ret => exact ⟨_, fr1, st1, by rw [outF_of h1], h2⟩
  | cond c a b ha hb =>
    intro nt fr st k h
    obtain ⟨v, h1, h2⟩ := optF_true (show optF false (boolD false fun v => @Bool.rec (fun _ => Bool) ((codeC b).f C ihK nt ((refB c).f fr false) st k) ((codeC a).f C ihK nt ((refB c).f fr true) st k) v) (evalF c C fr) = true from h)
    cases v with
    | bool v =>
      have hs := refB_same h1
      have e0 : codeF (.cond c a b) C ih nt fr st = optF none (boolD none fun v => @Bool.rec (fun _ => Out) (codeF b C ih nt fr st) (codeF a C ih nt fr st) v) (evalF c C fr) := rfl
      cases v with
      | true =>
        obtain ⟨e, fr', st', q1, q2⟩ := ha nt fr st k (by rw [← hs]; exact h2)
        exact ⟨e, fr', st', by rw [e0, h1]; exact q1, q2⟩
      | false =>
        obtain ⟨e, fr', st', q1, q2⟩ := hb nt fr st k (by rw [← hs]; exact h2)
        exact ⟨e, fr', st', by rw [e0, h1]; exact q1, q2⟩
    | _ => cases h2
  | block id b hb =>
    intro nt fr st k h
    obtain ⟨e, fr1, st1, h1, h2⟩ := hb nt fr st _ (show (codeC b).f C ihK nt fr st (fun e fr' st' => @Ex.rec (fun _ => Bool) (k .normal fr' st') (fun j => ifF (Nat.beq j id) (k .normal fr' st') (k (.exit j) fr' st')) (k .ret fr' st') e) = true from h)
    have e0 : codeF (.block id b) C ih nt fr st = outF (codeF b C ih nt fr st) norF (fun j fr st => ifF (Nat.beq j id) (norF fr st) (exF j fr st)) := rfl
    cases e with
    | normal => exact ⟨_, fr1, st1, by rw [e0, h1]; rfl, h2⟩
    | ret => exact ⟨_, fr1, st1, by rw [e0, h1]; rfl, h2⟩
    | exit j =>
      have h3 : ifF (Nat.beq j id) (k .normal fr1 st1) (k (.exit j) fr1 st1) = true := h2
      cases hj : Nat.beq j id with
      | true =>
        rw [hj] at h3
        refine ⟨.normal, fr1, st1, ?_, h3⟩
        rw [e0, h1]
        show ifF (Nat.beq j id) _ _ = _
        rw [hj]; rfl
      | false =>
        rw [hj] at h3
        refine ⟨.exit j, fr1, st1, ?_, h3⟩
        rw [e0, h1]
        show ifF (Nat.beq j id) _ _ = _
        rw [hj]; rfl
  | loop b hb =>
    intro nt fr st k h
    have h' : (loopK (codeC b)).f C ihK nt fr st k = true := h
    rw [loopK_f] at h'
    show ∃ e fr' st', (loopF (codeB b)).f C ih nt fr st = some (e, fr', st') ∧ k e fr' st' = true
    rw [loopF_f]
    exact loopKK_true (bf := codeF b C ih nt) (fun fr st k h => hb nt fr st k h) 1000000 h'
  | rangeFunc f params a b ha hb => intro nt fr st k h; cases h
  | exit id => intro nt fr st k h; exact ⟨.exit id, fr, st, rfl, h⟩
  | scope b hb => intro nt fr st k h; exact hb nt fr st k h
  | goto l => intro nt fr st k h; cases h
  | ret => intro nt fr st k h; exact ⟨.ret, fr, st, rfl, h⟩
  | refuse why => intro nt fr st k h; cases h

def callKK (C : Cfg) (X : CallF) (ih : CallK) : CallK := fun f args st k => ifF (Nat.beq f (nat_lit 1099511627776)) false <|
  optF (optF false (prF fun x c => ifF (Nat.ble (lenLF args) x.ntmps)
      ((codeC c).f C ih x.ntmps (ofLFr args (nat_lit 0) .empty) ⟨st.heap, st.next, st.next, st.hid⟩ (fun ex fr' st' => @Ex.rec (fun _ => Bool) (optF false (fun l => getK (backF st st' l) k) (resF' C x.results.toList fr' st')) (fun _ => false) (optF false (fun l => getK (backF st st' l) k) (resF' C x.results.toList fr' st')) ex)) false) (C.fn f)) (prF k) (X f args st)

theorem callKK_true {C : Cfg} {X : CallF} {ihK : CallK} {ih : CallF} (hK : SndK ihK ih) : SndK (callKK C X ihK) (callFF C X ih) := by
  intro f args st k h
  unfold callKK at h
  unfold callFF
  cases hy : Nat.beq f 1099511627776 with
  | true => simp only [hy] at h; cases (show false = true from h)
  | false =>
  simp only [hy] at h ⊢
  have h : optF _ _ (X f args st) = true := h
  show ∃ r st', optF _ _ (X f args st) = some (r, st') ∧ k r st' = true
  cases hx : X f args st with
  | some p =>
    obtain ⟨r, st'⟩ := p
    rw [hx] at h
    exact ⟨r, st', rfl, h⟩
  | none =>
    rw [hx] at h
    obtain ⟨p, h1, h2⟩ := optF_true (show optF false _ (C.fn f) = true from h)
    obtain ⟨x, c⟩ := p
    obtain ⟨h3, h4⟩ := ifF_true h2
    obtain ⟨e, fr', st', h5, h6⟩ := codeC_true hK c _ _ _ _ h4
    have fin : optF false (fun l => getK (backF st st' l) k) (resF' C x.results.toList fr' st') = true → ∃ r st2, optF none (backF st st') (resF' C x.results.toList fr' st') = some (r, st2) ∧ k r st2 = true := by
      intro hf
      obtain ⟨l, q1, q2⟩ := optF_true hf
      obtain ⟨r, st2, q3, q4⟩ := getK_true q2
      exact ⟨r, st2, by rw [q1]; exact q3, q4⟩
    have e0 : ∀ (z : Option (AV × St)), (@Ex.rec (fun _ => Option (AV × St)) (optF none (backF st st') (resF' C x.results.toList fr' st')) (fun _ => none) (optF none (backF st st') (resF' C x.results.toList fr' st')) e) = z →
        optF (optF none (prF fun x c => ifF (Nat.ble (lenLF args) x.ntmps)
      (optF none (prF fun ex p => prF (fun fr' st' => @Ex.rec (fun _ => Option (AV × St)) (optF none (backF st st') (resF' C x.results.toList fr' st')) (fun _ => none) (optF none (backF st st') (resF' C x.results.toList fr' st')) ex) p)
        (codeF c C ih x.ntmps (ofLFr args (nat_lit 0) .empty) ⟨st.heap, st.next, st.next, st.hid⟩)) none) (C.fn f)) some (none : Option (AV × St)) = z := by
      intro z hz
      show optF none _ (C.fn f) = z
      rw [h1]
      show ifF (Nat.ble (lenLF args) x.ntmps) _ none = z
      rw [h3]
      show optF none _ (codeF c C ih x.ntmps (ofLFr args (nat_lit 0) .empty) ⟨st.heap, st.next, st.next, st.hid⟩) = z
      rw [h5]
      exact hz
    cases e with
    | exit j => cases h6
    | normal =>
      obtain ⟨r, st2, q1, q2⟩ := fin h6
      exact ⟨r, st2, e0 _ q1, q2⟩
    | ret =>
      obtain ⟨r, st2, q1, q2⟩ := fin h6
      exact ⟨r, st2, e0 _ q1, q2⟩

def runK (C : Cfg) (X : CallF) : Nat → CallK := @Nat.rec (fun _ => CallK) (fun _ _ _ _ => false) (fun _ ih => callKK C X ih)
theorem runK_true (C : Cfg) (X : CallF) : ∀ n, SndK (runK C X n) (runF C X n)
  | 0 => fun _ _ _ _ h => by cases h
  | n + 1 => callKK_true (runK_true C X n)

/-- The answer is true. -/
def yesK : KV := fun a _ => boolD false id a

theorem runK_says {C : Cfg} {X : CallF} {n f : Nat} {args : List AV} {st : St} (h : runK C X n f args st yesK = true) : saysF (runF C X n f args st) = true := by
  obtain ⟨r, st', h1, h2⟩ := runK_true C X n f args st yesK h
  rw [h1]
  exact h2
end
end Go.Proofs.YtfamacgopcfhhaaGreatDoor.Ax
