/-
  AN EXECUTOR OVER AN ABSTRACT MEMORY, PART W: a region that draws its order, whole.
-/
import Derived.Test.YtfamacgopcfhhaaGreatDoorAxV
import Derived.OrdersHeld
namespace Go.Proofs.YtfamacgopcfhhaaGreatDoor.Ax
open Go.RowKit

/-- How many of the first k operations are not listed. -/
def cnt (L : Nat → Bool) : Nat → Nat
  | 0 => 0
  | k + 1 => cnt L k + if L k = true then 0 else 1

theorem cnt_set {L : Nat → Bool} {i : Nat} (hi : L i = false) : ∀ k, cnt L k = cnt (fun j => decide (j = i) || L j) k + if i < k then 1 else 0
  | 0 => by simp [cnt]
  | k + 1 => by
    simp only [cnt]
    rw [cnt_set hi k]
    by_cases hk : k = i
    · subst hk
      simp [hi]
    · simp only [hk, decide_false, Bool.false_or]
      generalize (if L k = true then 0 else 1) = z
      by_cases h : i < k
      · rw [if_pos h, if_pos (Nat.lt_succ_of_lt h)]; omega
      · rw [if_neg h, if_neg (by omega)]; omega

theorem cnt_zero {L : Nat → Bool} : ∀ k, cnt L k = 0 → ∀ j, j < k → L j = true
  | 0, _, j, hj => by omega
  | k + 1, h, j, hj => by
    simp only [cnt] at h
    have h1 : cnt L k = 0 := by omega
    by_cases hjk : j = k
    · subst hjk
      cases hL : L j with
      | true => rfl
      | false => rw [hL] at h; simp at h
    · exact cnt_zero k h1 j (by omega)

theorem cnt_all {L : Nat → Bool} : ∀ k, (∀ j, j < k → L j = true) → cnt L k = 0
  | 0, _ => rfl
  | k + 1, h => by simp only [cnt]; rw [cnt_all k fun j hj => h j (by omega), h k (by omega)]; rfl

theorem least_of_cnt {L : Nat → Bool} : ∀ k, cnt L k ≠ 0 → ∃ j, j < k ∧ L j = false ∧ ∀ j', j' < j → L j' = true
  | 0, h => by simp [cnt] at h
  | k + 1, h => by
    by_cases hk : cnt L k = 0
    · simp only [cnt, hk, Nat.zero_add] at h
      refine ⟨k, by omega, ?_, cnt_zero k hk⟩
      cases hL : L k with
      | false => rfl
      | true => rw [hL] at h; simp at h
    · obtain ⟨j, h1, h2, h3⟩ := least_of_cnt k hk
      exact ⟨j, by omega, h2, h3⟩

theorem apart_of_free {ops : Array Oper} {x y : Oper} (h : freeA ops.toList x y = true) : x.apart ops y = true := by
  have hl : ∀ o : Oper, looksA ops.toList o = o.looksAt ops := by
    intro o
    unfold looksA Oper.looksAt
    congr 1
    cases o.guard with
    | none => rfl
    | some g =>
      obtain ⟨g, b⟩ := g
      simp only
      rw [nth_eq]
      have : ops.toList[g]? = ops[g]? := by simp
      rw [this]
      cases ops[g]? <;> rfl
  obtain ⟨h1, h2⟩ := freeA_spec h
  rw [hl] at *
  unfold Oper.apart
  rw [Bool.and_eq_true]
  constructor
  · cases hx : x.dst with
    | none => rfl
    | some d =>
      obtain ⟨q1, q2⟩ := h1 d hx
      simp only [Bool.and_eq_true, Bool.not_eq_true', bne_iff_ne, ne_eq]
      exact ⟨by simpa using q1, q2⟩
  · cases hy : y.dst with
    | none => rfl
    | some d =>
      have q1 := h2 d hy
      simpa using q1

section blind
def Blind {α : Type} (P : Program) (s : Sem α) : Prop := (∃ v, ∀ w, s.run P w = .ok v w) ∨ (∀ w, ∃ h w', s.run P w = .halt h w')
variable {P : Program} {α β : Type}
theorem Blind.pure (v : α) : Blind P (Pure.pure v) := .inl ⟨v, fun _ => rfl⟩
theorem Blind.bind {s : Sem α} {f : α → Sem β} (h : Blind P s) (hf : ∀ v, Blind P (f v)) : Blind P (s >>= f) := by
  rcases h with ⟨v, hv⟩ | hh
  · rcases hf v with ⟨u, hu⟩ | hh
    · exact .inl ⟨u, fun w => by rw [Sem.run_bind, hv, Result.andThen_ok, hu]⟩
    · exact .inr fun w => by obtain ⟨x, w', q⟩ := hh w; exact ⟨x, w', by rw [Sem.run_bind, hv, Result.andThen_ok, q]⟩
  · exact .inr fun w => by obtain ⟨x, w', q⟩ := hh w; exact ⟨x, w', by rw [Sem.run_bind, q]; rfl⟩
theorem Blind.stuck (m : String) : Blind P (Go.stuck m : Sem α) := .inr fun w => ⟨_, w, rfl⟩
theorem Blind.underlying (t : TypeId) : Blind P (Go.underlying t) := by
  cases h : P.underlying t with
  | some u => exact .inl ⟨u, fun w => run_underlying h w⟩
  | none => exact .inr fun w => by simp [Go.underlying, h]
theorem Blind.sureAddr (x : Value) : Blind P (Instr.sureAddr x) := by
  unfold Instr.sureAddr
  split
  · exact .pure _
  all_goals first | exact .stuck _ | exact .inr fun w => ⟨_, _, rfl⟩
theorem Blind.asIntOf (x : Value) : Blind P (Go.asIntOf x) := by
  unfold Go.asIntOf
  split
  all_goals first | exact .pure _ | exact .stuck _ | exact .inr fun w => ⟨_, w, rfl⟩
theorem ends_bind {s : Sem β} {f : β → Sem α} (hf : ∀ v w, ∃ h w', (f v).run P w = .halt h w') : ∀ w, ∃ h w', (s >>= f).run P w = .halt h w' := by
  intro w
  rw [Sem.run_bind]
  cases hs : s.run P w with
  | ok v w1 => exact hf v w1
  | halt x w1 => exact ⟨x, w1, rfl⟩
theorem Blind.boundsPanic (k : IntKind) (i n : Int) (c : BoundsCode) : Blind P (Go.boundsPanic k i n c : Sem α) := by
  unfold Go.boundsPanic
  extract_lets jp
  split <;> exact .inr (ends_bind fun v w => ⟨_, w, rfl⟩)
theorem Blind.sizeOf (t : TypeId) : Blind P (Go.sizeOf t) := by
  unfold Go.sizeOf
  refine .bind ?_ fun _ => .pure _
  cases h : P.info? t with
  | some u => exact .inl ⟨u, fun w => by simp [typeInfo, h]⟩
  | none => exact .inr fun w => by simp [typeInfo, h]
theorem Blind.indexAt (t : TypeId) (x i : Value) : Blind P (Instr.indexAt t x i) := by
  unfold Instr.indexAt
  refine .bind (.asIntOf _) fun q => .bind (.underlying t) fun u => ?_
  extract_lets jp
  have hj : ∀ z, Blind P (jp z) := by
    rintro ⟨base, len, elem⟩
    refine .bind (.underlying t) fun u2 => ?_
    cases base with
    | none => exact .boundsPanic _ _ _ _
    | some a =>
      dsimp only
      split
      · exact .bind (.sizeOf _) fun _ => .pure _
      · split
        all_goals first | exact .boundsPanic _ _ _ _ | (split <;> first | exact .boundsPanic _ _ _ _ | exact .inr fun w => ⟨_, w, rfl⟩) | exact .inr fun w => ⟨_, w, rfl⟩
  split
  · exact .bind (.sureAddr _) fun _ => .bind (.pure _) hj
  · exact .bind (.pure _) hj
  · exact .bind (.stuck _) hj
end blind

/-- Two whole numbers, or two texts. -/
def Plain2 (x y : Value) : Prop := (∃ k a k' b, x = .int k a ∧ y = .int k' b) ∨ (∃ a b, x = .string a ∧ y = .string b)

section blind2
variable {P : Program}
theorem Blind.ends {α : Type} {s : Sem α} (h : ∀ w, ∃ e w', s.run P w = .halt e w') : Blind P s := .inr h
theorem Blind.panic {α : Type} (m : String) : Blind P (Go.runtimePanic (.error m) : Sem α) := by
  unfold Go.runtimePanic
  exact .inr (ends_bind fun v w => ⟨_, w, rfl⟩)
theorem Blind.binOp {op : BinOp} {t : TypeId} {x y : Value} (h : Plain2 x y) : Blind P (Go.binOp op t x y) := by
  rcases h with ⟨k, a, k', b, rfl, rfl⟩ | ⟨a, b, rfl, rfl⟩
  · have hs : ∀ op, Blind P (Op.shift op k a k' b) := by
      intro op
      unfold Op.shift
      by_cases hb : b < 0
      · rw [if_pos hb]; exact .panic _
      · rw [if_neg hb]; cases op <;> first | exact .pure _ | exact .stuck _
    have hd : ∀ op, Blind P (Op.intDiv op k a b) := by
      intro op
      unfold Op.intDiv
      by_cases hb : b = 0
      · rw [if_pos hb]; exact .panic _
      · rw [if_neg hb]; cases op <;> first | exact .pure _ | exact .stuck _
    cases op <;> simp only [Go.binOp] <;> first
      | exact hs _
      | (split <;> first
          | exact .stuck _
          | exact hd _
          | exact .pure _)
  · cases op <;> simp only [Go.binOp, Op.stringOp] <;> first
      | exact .pure _
      | exact .stuck _
      | (split <;> first | exact .pure _ | exact .inr fun w => ⟨_, w, rfl⟩)
end blind2

theorem binA_plain {C : Cfg} {op : BinOp} {t : Nat} {cst : Bool} {x y r : AV} (hop : (match op with | .eql | .neq => false | _ => true) = true) (h : binA C op t cst x y = some r) : (∃ k a k' b, x = .int k a ∧ y = .int k' b) ∨ (∃ a b, x = .str a ∧ y = .str b) := by
  unfold binA at h
  split at h
  · exact .inl ⟨_, _, _, _, rfl, rfl⟩
  · exact .inl ⟨_, _, _, _, rfl, rfl⟩
  · exact .inl ⟨_, _, _, _, rfl, rfl⟩
  · exact .inr ⟨_, _, rfl, rfl⟩
  · cases hop
  · cases hop
  · cases h

theorem step_plain {C : Cfg} {ih : CallF} {all : List Oper} {fr : Fr} {st stx : St} {o : Oper} {r : AV} (h : stepA C ih all fr st o = some (r, stx)) (hg : o.guard = none) {op : BinOp} {t : Nat} {x y : Operand} {yt : Nat} (hop : o.op = .binOp op t x y yt) (hh : handsOn o.op = true)
    {E : Env} (hG : GEnv C E) {a : Act} (hf : FRel E fr a.tmps) : Plain2 (a.eval x) (a.eval y) := by
  unfold stepA at h
  have hw : wantA all fr o = some true := by unfold wantA; rw [hg]
  rw [hw] at h
  simp only [aop, hop] at h
  cases hx : evalO C fr x with
  | none => simp [hx, e1] at h
  | some xa =>
    cases hy : evalO C fr y with
    | none => simp [hx, hy, e1] at h
    | some ya =>
      simp only [hx, hy, e1] at h
      cases hb : binA C op t (isConst x || isConst y) xa ya with
      | none => simp [hb, AR.ofVal] at h
      | some q =>
        have h1 := evalO_sound hG hf hx
        have h2 := evalO_sound hG hf hy
        rw [hop] at hh
        rcases binA_plain hh hb with ⟨k, n, k', m, rfl, rfl⟩ | ⟨n, m, rfl, rfl⟩
        · generalize a.eval x = vx at *
          generalize a.eval y = vy at *
          cases h1; cases h2
          exact .inl ⟨_, _, _, _, rfl, rfl⟩
        · generalize a.eval x = vx at *
          generalize a.eval y = vy at *
          cases h1; cases h2
          exact .inr ⟨_, _, rfl, rfl⟩

theorem fieldAt_all {C : Cfg} (hC : C.Ok) {E : Env} {t n : Nat} {x a : AV} {v : Value} (hf : fieldAtA C t x n = some a) (hv : VRel E x v) : ∃ u, ∀ w, (Instr.fieldAt t v n).run C.P w = .ok u w := by
  unfold fieldAtA at hf
  split at hf
  · rename_i ti fields hty
    split at hf
    · rename_i f i off hn
      cases hv with
      | ptr _ _ hd =>
        split at hf
        · rename_i fi fd hfty
          rw [Tr.cbeq] at hf
          by_cases hz : fi.size = 0
          · rw [if_pos hz] at hf; cases hf
          · rw [nth_eq, Array.getElem?_toList] at hn
            refine ⟨.pointer (some ⟨E.ρ i, off + f.offset, none⟩), fun w => ?_⟩
            simp [Instr.fieldAt, (run_ty hC hty w).2.1, hn, Instr.sureAddr, fieldPlace, (run_ty hC hfty w).2.2, hz, add_addr]
        · cases hf
    · cases hf
  · cases hf

theorem step_field {C : Cfg} (hC : C.Ok) {ih : CallF} {all : List Oper} {fr : Fr} {st stx : St} {o : Oper} {r : AV} (h : stepA C ih all fr st o = some (r, stx)) (hg : o.guard = none) {t n : Nat} {x : Operand} (hop : o.op = .fieldAddr t x n)
    {E : Env} (hG : GEnv C E) {a : Act} (hf : FRel E fr a.tmps) : ∃ u, ∀ w, (Instr.fieldAt t (a.eval x) n).run C.P w = .ok u w := by
  unfold stepA at h
  have hw : wantA all fr o = some true := by unfold wantA; rw [hg]
  rw [hw] at h
  simp only [aop, hop] at h
  cases hx : evalO C fr x with
  | none => simp [hx, e1] at h
  | some xa =>
    simp only [hx, e1] at h
    cases hb : fieldAtA C t xa n with
    | none => simp [hb, AR.ofVal] at h
    | some q => exact fieldAt_all hC hb (evalO_sound hG hf hx)

theorem step_nil {C : Cfg} {ih : CallF} {all : List Oper} {fr : Fr} {st stx : St} {o : Oper} {r : AV} (h : stepA C ih all fr st o = some (r, stx)) (hg : o.guard = none) {x : Operand} (hop : o.op = .nilCheck x)
    {E : Env} (hG : GEnv C E) {a : Act} (hf : FRel E fr a.tmps) : ∃ u, ∀ w, (execOp a.eval o).run C.P w = .ok (.value u) w := by
  unfold stepA at h
  have hw : wantA all fr o = some true := by unfold wantA; rw [hg]
  rw [hw] at h
  simp only [aop, hop] at h
  cases hx : evalO C fr x with
  | none => simp [hx, e1] at h
  | some xa =>
    simp only [hx, e1] at h
    have hv := evalO_sound hG hf hx
    unfold execOp
    simp only [hop]
    cases hc : checkA xa st with
    | none => simp [hc] at h
    | some q =>
      unfold checkA at hc
      generalize a.eval x = v at *
      split at hc
      · cases hv; exact ⟨_, fun _ => rfl⟩
      · cases hv; exact ⟨_, fun _ => rfl⟩
      · cases hv; exact ⟨_, fun _ => rfl⟩
      · cases hc

/-- What hands on gives the same in whatever world. -/
theorem hands_yields {P : Program} {o : Oper} (hh : handsOn o.op = true) {a : Act} (hpl : ∀ op t x y c, o.op = .binOp op t x y c → Plain2 (a.eval x) (a.eval y)) (hfl : ∀ t x n, o.op = .fieldAddr t x n → ∃ u, ∀ w, (Instr.fieldAt t (a.eval x) n).run P w = .ok u w) (hnl : ∀ x, o.op = .nilCheck x → ∃ u, ∀ w, (execOp a.eval o).run P w = .ok (.value u) w) {w : World} {K : Act → World → Prop} (h : o.wp P a w K (fun _ _ _ => False)) : ∃ v, (∀ w, (execOp a.eval o).run P w = .ok (.value v) w) ∧ K (a.put o.dst v) w := by
  obtain ⟨dst, op, ty, pos, after, guard⟩ := o
  cases op <;> try (cases hh; done)
  case indexAddr t x ix =>
    have hrun : ∀ w, (execOp a.eval ⟨dst, .indexAddr t x ix, ty, pos, after, guard⟩).run P w = ((do pure (.value (← Instr.indexAt t (a.eval x) (a.eval ix))) : Sem Next)).run P w := fun _ => rfl
    unfold Oper.wp at h
    rw [hrun] at h
    rcases Blind.indexAt (P := P) t (a.eval x) (a.eval ix) with ⟨v, hv⟩ | hh
    · simp only [Sem.run_bind, hv, Sem.run_pure, Result.andThen_ok, Oper.upon] at h
      exact ⟨v, fun w => by rw [hrun]; simp only [Sem.run_bind, hv, Sem.run_pure, Result.andThen_ok], h⟩
    · obtain ⟨e, w', q⟩ := hh w
      rw [Sem.run_bind, q] at h
      cases e <;> simp [Result.andThen, Oper.upon] at h
  case binOp bop t x y c =>
    have hP := hpl bop t x y c rfl
    have hne : bop ≠ .eql ∧ bop ≠ .neq := by constructor <;> (rintro rfl; cases hh)
    have hrun : ∀ w, (execOp a.eval ⟨dst, .binOp bop t x y c, ty, pos, after, guard⟩).run P w = ((do pure (.value (← Go.binOp bop t (a.eval x) (a.eval y))) : Sem Next)).run P w := fun w => by
      have hg := guardOff P w bop t x y (a.eval x) (a.eval y) (by rcases hP with ⟨k, n, k', m, e1, e2⟩ | ⟨n, m, e1, e2⟩ <;> rw [e1, e2])
      show ((do pure (.value (← (do eqGuard bop t x y (a.eval x) (a.eval y); Go.binOp bop t (a.eval x) (a.eval y)))) : Sem Next)).run P w = _
      simp only [Sem.run_bind, hg, Result.andThen_ok]
    unfold Oper.wp at h
    rw [hrun] at h
    rcases Blind.binOp (P := P) (op := bop) (t := t) hP with ⟨v, hv⟩ | hh
    · simp only [Sem.run_bind, hv, Sem.run_pure, Result.andThen_ok, Oper.upon] at h
      exact ⟨v, fun w => by rw [hrun]; simp only [Sem.run_bind, hv, Sem.run_pure, Result.andThen_ok], h⟩
    · obtain ⟨e, w', q⟩ := hh w
      rw [Sem.run_bind, q] at h
      cases e <;> simp [Result.andThen, Oper.upon] at h
  case nilCheck x =>
    obtain ⟨v, hv⟩ := hnl x rfl
    unfold Oper.wp at h
    rw [hv] at h
    exact ⟨v, hv, h⟩
  case fieldAddr t x n =>
    have hrun : ∀ w, (execOp a.eval ⟨dst, .fieldAddr t x n, ty, pos, after, guard⟩).run P w = ((do pure (.value (← Instr.fieldAt t (a.eval x) n)) : Sem Next)).run P w := fun _ => rfl
    unfold Oper.wp at h
    rw [hrun] at h
    obtain ⟨v, hv⟩ := hfl t x n rfl
    simp only [Sem.run_bind, hv, Sem.run_pure, Result.andThen_ok, Oper.upon] at h
    exact ⟨v, fun w => by rw [hrun]; simp only [Sem.run_bind, hv, Sem.run_pure, Result.andThen_ok], h⟩
  case move x => exact ⟨a.eval x, fun _ => rfl, h⟩
  case assign x => exact ⟨a.eval x, fun _ => rfl, h⟩
  case extract x n =>
    have hrun : ∀ w, (execOp a.eval ⟨dst, .extract x n, ty, pos, after, guard⟩).run P w = ((do pure (.value (← Instr.extract (a.eval x) n)) : Sem Next)).run P w := fun _ => rfl
    unfold Oper.wp at h
    rw [hrun] at h
    cases hx : a.eval x with
    | tuple vs =>
      cases hn : vs[n]? with
      | none => rw [hx] at h; simp [Instr.extract, hn, stuck, Oper.upon] at h
      | some v =>
        rw [hx] at h
        simp only [Instr.extract, hn, Sem.run_bind, Sem.run_pure, Result.andThen_ok, Oper.upon] at h
        exact ⟨v, fun w => by rw [hrun, hx]; simp [Instr.extract, hn], h⟩
    | _ => rw [hx] at h; simp [Instr.extract, stuck, Oper.upon] at h

/-! A load gives the same wherever its block is the same. -/
def SameB (b : Nat) (w w' : World) : Prop := w'.heap[b]? = w.heap[b]?

theorem SameB.cell {b : Nat} {w w' : World} (h : SameB b w w') (o : Nat) : w'.cell? ⟨b, o, none⟩ = w.cell? ⟨b, o, none⟩ := by
  unfold World.cell?
  rw [h]

/-- The cells of a block that a load reads are there. -/
def LdOk (C : Cfg) (t off : Nat) (cs : Tr AV) : Prop := ∃ ti d, C.ty t = some (ti, d) ∧ ((isAggD d = true ∧ ∃ l, cs.row ti.size off = some l) ∨ (isAggD d = false ∧ ∃ a, cs.get off = some a))

theorem loadVar_same {C : Cfg} (hC : C.Ok) {t b off : Nat} {cs : Tr AV} (hl : LdOk C t off cs) {w : World} {D : Array Value} {e : TypeId} {fz : Nat × Nat} (hw : w.heap[b]? = some (.cells D e fz)) (hk : ∀ o a, cs.get o = some a → ∃ v, D[o]? = some v) :
    ∃ v, ∀ w', SameB b w w' → (loadVar t ⟨b, off, none⟩).run C.P w' = .ok v w' := by
  obtain ⟨ti, d, hty, hl⟩ := hl
  rcases hl with ⟨hd, l, hrow⟩ | ⟨hd, a, ha⟩
  · obtain ⟨h1, h2⟩ := Tr.row_spec _ _ _ _ hrow
    let vs : List Value := (List.range ti.size).map fun j => D[off + j]?.getD default
    have hvl : vs.length = ti.size := by simp [vs]
    refine ⟨.agg vs.toArray, fun w' hs => ?_⟩
    have hc : ∀ j v, vs[j]? = some v → w'.cell? ((⟨b, off, none⟩ : Addr).add j) = some v := by
      intro j v hj
      rw [add_addr, hs.cell, cell_of hw]
      simp only [vs, List.getElem?_map] at hj
      by_cases hjn : j < ti.size
      · rw [List.getElem?_range hjn] at hj
        simp only [Option.map_some, Option.some.injEq] at hj
        have hg := h2 j hjn
        rw [List.getElem?_eq_getElem (by omega)] at hg
        obtain ⟨u, hu⟩ := hk _ _ hg.symm
        rw [hu] at hj ⊢
        simpa using hj
      · rw [List.getElem?_eq_none (by simpa using hjn)] at hj
        cases hj
    have hr := run_loadCells_list (P := C.P) (w := w') ⟨b, off, none⟩ vs hc
    rw [hvl] at hr
    simp only [loadVar, Sem.run_bind, run_isAgg hC hty, Result.andThen_ok, hd, if_true, (run_ty hC hty w').2.2, hr]
    rfl
  · obtain ⟨u, hu⟩ := hk _ _ ha
    refine ⟨u, fun w' hs => ?_⟩
    have hc : w'.cell? ⟨b, off, none⟩ = some u := by rw [hs.cell, cell_of hw, hu]
    simp only [loadVar, Sem.run_bind, run_isAgg hC hty, Result.andThen_ok, hd, Bool.false_eq_true, if_false]
    simp [hc]

/-- A load through a slot that holds a pointer. -/
theorem late_yields {P : Program} {o : Oper} {t p b off : Nat} (hop : o.op = .load t (.tmp p)) {a : Act} (hp : a.eval (.tmp p) = .pointer (some ⟨b, off, none⟩)) {w : World} {v : Value} (hv : ∀ w', SameB b w w' → (loadVar t ⟨b, off, none⟩).run P w' = .ok v w') {K : Act → World → Prop} (h : o.wp P a w K (fun _ _ _ => False)) :
    (∀ w', SameB b w w' → (execOp a.eval o).run P w' = .ok (.value v) w') ∧ K (a.put o.dst v) w := by
  have hrun : ∀ w, (execOp a.eval o).run P w = Result.andThen ((loadVar t ⟨b, off, none⟩).run P w) fun v w => .ok (.value v) w := by
    intro w
    unfold execOp
    rw [hop]
    simp only [hp, Instr.loadAt, Instr.sureAddr, Sem.run_bind, Sem.run_pure, Result.andThen_ok]
  unfold Oper.wp at h
  rw [hrun, hv w rfl] at h
  simp only [Result.andThen_ok, Oper.upon] at h
  exact ⟨fun w' hw => by rw [hrun, hv w' hw]; rfl, h⟩

/-- The blocks that late loads read are as they were. -/
def Stays (Rs : List (Nat × Nat)) (T : Nat → HS) (E0 : Env) (ws w : World) : Prop := ∀ k b, hidden Rs k = true → (T 0).st.vis k = some b → w.heap[E0.ρ k]? = ws.heap[E0.ρ k]?

/-- What a late load reads was there, and is seen. -/
theorem Ctx.lateSeen {C : Cfg} {w0 : World} {ih : CallF} {nt : Nat} {ops : Array Oper} {N : Nat} {lt : Nat} {Rs : List (Nat × Nat)} {T : Nat → HS} {E0 : Env} {ws : World} {d0 : List Deferred} (X : Ctx C w0 ih nt ops N lt Rs T E0 ws d0)
    {i : Nat} (hi : i < N) {o : Oper} (ho : ops.toList[i]? = some o) {t p : Nat} (hop : o.op = .load t (.tmp p)) (hg : o.guard = none) (_hlt : lt.testBit i = true) {b off : Nat} (hp : (T i).fr.get p = some (.ptr b off)) (hR : hidden Rs b = true) : ∃ ro e fr sh cs, (T 0).st.vis b = some (.cells ro e fr sh cs) ∧ LdOk C t off cs := by
  obtain ⟨o', m, ho', hm, x, stx, h1, _⟩ := X.tr i hi
  rw [ho] at ho'
  cases ho'
  have hlook : looksA ops.toList o = [p] := by simp [looksA, hop, hg, Op.operands]
  have hb0 : b < (T 0).st.next := by
    rcases Nat.lt_or_ge b (T 0).st.next with h | h
    · exact h
    · rw [hidOkA_spec X.hidR h] at hR; cases hR
  unfold stepA at h1
  have hw : wantA ops.toList (restr (T i).fr (looksA ops.toList o)) o = some true := by unfold wantA; rw [hg]
  rw [hw] at h1
  simp only [aop, hop] at h1
  have hr : (restr (T i).fr (looksA ops.toList o)).get p = some (.ptr b off) := by
    rw [hlook]
    simp [restr, hp, Fr.get_set]
  simp only [evalO, hr, e1, loadA] at h1
  cases hl : ldVar C { (T i).st with hid := exH lt i Rs (hidA m (rng T i) (T i).st.hid), low := (T i).st.next } t b off with
  | none => rw [hl] at h1; simp [AR.ofVal] at h1
  | some y =>
    unfold ldVar at hl
    cases hty : C.ty t with
    | none => simp [hty] at hl
    | some q =>
      obtain ⟨ti, d⟩ := q
      cases hc : St.cellsOf { (T i).st with hid := exH lt i Rs (hidA m (rng T i) (T i).st.hid), low := (T i).st.next } b with
      | none => simp [hty, hc] at hl
      | some cs =>
        unfold St.cellsOf at hc
        split at hc
        · rename_i ro e fr sh cs' hv
          obtain ⟨g1, g2⟩ := Sim.vis_of hv
          have g2' : (T i).st.heap.get b = some (.cells ro e fr sh cs') := g2
          have g1' : hidden (exH lt i Rs (hidA m (rng T i) (T i).st.hid)) b = false := g1
          cases hc
          refine ⟨ro, e, fr, sh, cs, ?_, ti, d, hty, ?_⟩
          case refine_2 =>
            simp only [hty, St.cellsOf, hv] at hl
            cases hd : isAggD d with
            | true =>
              simp only [hd, cond_true] at hl
              cases hr : cs.row ti.size off with
              | none => simp [hr] at hl
              | some l => exact .inl ⟨rfl, l, rfl⟩
            | false =>
              simp only [hd, cond_false] at hl
              exact .inr ⟨rfl, y, hl⟩
          rw [St.vis_eq, if_neg, ← X.heap (i := 0) (j := i) (by omega) (by omega) hb0]
          · exact g2'
          · intro h'
            rw [← X.hidE (j := i) (by omega)] at h'
            rw [(exH_spec lt i Rs _ b).2 (.inl ((hidA_spec m _ b _).2 (.inl h')))] at g1'
            cases g1'
        · cases hc

theorem head_any {C : Cfg} {w0 : World} {ih : CallF} {nt : Nat} {ops : Array Oper} {N : Nat} {lt : Nat} {Rs : List (Nat × Nat)} {T : Nat → HS} {E0 : Env} {ws : World} {d0 : List Deferred} (X : Ctx C w0 ih nt ops N lt Rs T E0 ws d0)
    (hN : N ≤ ops.size) {fl : Nat} (htail : tailOkA (Nat.pred (Nat.shiftLeft 1 N)) fl ((masks ops.toList []).drop N) = true) (hpl : PlanOk ops.toList fl lt)
    (hltfl : ∀ k, lt.testBit k = true → fl.testBit k = true) (Q : Exit → Act → World → Prop) (hQ : ∀ c a w, ¬ Q (.panic c) a w)
    (hend : ∀ (listed : Array Bool) E a w, listed.size = ops.size → (∀ j, listed.getD j false = decide (j < N)) → Inv C w0 nt ops N T E0 ws d0 (fun j => listed.getD j false) E a w → Stays Rs T E0 ws w → wpAnyH C.P .any ops Q (Stays Rs T E0 ws) (ops.size - N) listed a w) :
    ∀ (m : Nat) (listed : Array Bool) (E : Env) (a : Act) (w : World), listed.size = ops.size → Inv C w0 nt ops N T E0 ws d0 (fun j => listed.getD j false) E a w → Stays Rs T E0 ws w → cnt (fun j => listed.getD j false) N = m → wpAnyH C.P .any ops Q (Stays Rs T E0 ws) (m + (ops.size - N)) listed a w := by
  intro m
  induction m with
  | zero =>
    intro listed E a w hsz hI hS hc
    rw [Nat.zero_add]
    refine hend listed E a w hsz (fun j => ?_) hI hS
    by_cases hj : j < N
    · rw [decide_eq_true hj]; exact cnt_zero N hc j hj
    · rw [decide_eq_false hj]; exact hI.tail j (by omega)
  | succ m ihm =>
    intro listed E a w hsz hI hS hc
    rw [show m + 1 + (ops.size - N) = (m + (ops.size - N)) + 1 by omega]
    have hcount : ∀ i, i < N → listed.getD i false = false → cnt (fun j => (listed.setIfInBounds i true).getD j false) N = m ∧ (fun j => (listed.setIfInBounds i true).getD j false) = fun j => decide (j = i) || listed.getD j false := by
      intro i hiN hLi
      have hfn : (fun j => (listed.setIfInBounds i true).getD j false) = fun j => decide (j = i) || listed.getD j false := by
        funext j
        by_cases hji : j = i
        · subst hji
          have : j < listed.size := by omega
          simp [this]
        · rw [getD_set_ne false (fun h => hji h.symm)]
          simp [hji]
      refine ⟨?_, hfn⟩
      rw [hfn]
      have := cnt_set (L := fun j => listed.getD j false) hLi N
      rw [if_pos hiN] at this
      omega
    have hnext : ∀ i o, i < N → ops.toList[i]? = some o → listed.getD i false = false → lt.testBit i = false → (∀ e ∈ o.after.toList, bindsAny e = true → listed.getD e.on false = true) → ∀ Q' : Exit → Act → World → Prop,
        if Region.wanted o (yielded ops a.tmps) then o.wp C.P a w (fun a' w' => Stays Rs T E0 ws w' ∧ wpAnyH C.P .any ops Q (Stays Rs T E0 ws) (m + (ops.size - N)) (listed.setIfInBounds i true) a' w') Q' ∨ (o.asks C.P a w ∧ LetsOut Q')
        else (fun a' w' => Stays Rs T E0 ws w' ∧ wpAnyH C.P .any ops Q (Stays Rs T E0 ws) (m + (ops.size - N)) (listed.setIfInBounds i true) a' w') (a.put o.dst undef) w := by
      intro i o hiN ho' hLi hltI hready Q'
      obtain ⟨c1, c2⟩ := hcount i hiN hLi
      exact X.step hI hiN hLi ho' hready (Q := Q') (K := fun a' w' => Stays Rs T E0 ws w' ∧ wpAnyH C.P .any ops Q (Stays Rs T E0 ws) (m + (ops.size - N)) (listed.setIfInBounds i true) a' w') (fun E' a' w' hI' hst => by
        have hS' : Stays Rs T E0 ws w' := fun k b hk hv => by rw [hst hltI k b hk hv]; exact hS k b hk hv
        exact ⟨hS', ihm (listed.setIfInBounds i true) E' a' w' (by simpa using hsz) (by rw [c2]; exact hI') hS' c1⟩)
    by_cases hfloat : ∃ i, i < N ∧ fl.testBit i = true ∧ i ∈ Region.ready .any ops listed
    · -- what floats, and what loads, is carried out first
      obtain ⟨i, hiN, hbit, hi⟩ := hfloat
      have hi' := hi
      rw [mem_ready] at hi
      obtain ⟨hun, o, ho, hall⟩ := hi
      have hlt : i < ops.size := (Array.getElem?_eq_some_iff.1 ho).1
      have hLi : listed.getD i false = false := by
        have : i < listed.size := by omega
        rw [Array.getD_eq_getD_getElem?, Array.getElem?_eq_getElem this] at hun ⊢
        exact hun
      have ho' : ops.toList[i]? = some o := by simpa using ho
      have hready : ∀ e ∈ o.after.toList, bindsAny e = true → listed.getD e.on false = true := fun e he hb => hall e (by simpa using he) (by rw [bindsAny_eq]; exact hb)
      have hsel : noSelA ops.toList = true := by
        rcases hpl.none with h | h
        · rw [h] at hbit; simp at hbit
        · exact h
      have hfree : ∀ (apart : ∀ j x, ops.toList[j]? = some x → j = i ∨ linkA o.after.toList j = true ∨ linkA x.after.toList i = true ∨ freeA ops.toList o x = true), ∀ j oj, ops[j]? = some oj → j ≠ i → listed.getD j true = false → (∀ e ∈ oj.after, Region.binds .any e = true → e.on ≠ i) → o.apart ops oj = true := by
        intro apart j oj hj hne hunj hno
        rcases apart j oj (by simpa using hj) with h | h | h | h
        · exact absurd h hne
        · obtain ⟨e, e1, e2, e3⟩ := linkA_spec h
          have := hready e e1 e2
          rw [e3] at this
          have hjl : j < listed.size := by have := (Array.getElem?_eq_some_iff.1 hj).1; omega
          rw [Array.getD_eq_getD_getElem?, Array.getElem?_eq_getElem hjl] at this hunj
          rw [Option.getD_some] at this hunj
          rw [this] at hunj; cases hunj
        · obtain ⟨e, e1, e2, e3⟩ := linkA_spec h
          exact absurd e3 (hno e (by simpa using e1) (by rw [bindsAny_eq]; exact e2))
        · exact apart_of_free h
      have hselj : ∀ (j : Nat) (o : Oper) cs b, ops[j]? = some o → o.op ≠ .select cs b := fun j oj cs b hj => noSelA_spec hsel oj (List.mem_of_getElem? (by simpa using hj : ops.toList[j]? = some oj)) cs b
      cases hltI : lt.testBit i with
      | false =>
        rcases hpl.fl i hbit with h | ⟨o2, t2, t3⟩
        · rw [h] at hltI; cases hltI
        rw [ho'] at t2
        cases t2
        have hwp := hnext i o hiN ho' hLi hltI hready (fun _ _ _ => False)
        have hw : Region.wanted o (yielded ops a.tmps) = true := by unfold Region.wanted; rw [t3.guard]
        rw [if_pos hw] at hwp
        rcases hwp with hwp | ⟨_, _, _, hwp⟩
        case inr => exact hwp.elim
        obtain ⟨v, v1, v2⟩ := hands_yields t3.hands (fun bop t x y c hop => by
          obtain ⟨o3, m3, q1, _, xx, stx, q3, _⟩ := X.tr i hiN
          rw [ho'] at q1
          cases q1
          exact step_plain q3 t3.guard hop t3.hands (X.genv.mono hI.le) (X.frel hI hiN hLi ho' hready)) (fun t x n hop => by
          obtain ⟨o3, m3, q1, _, xx, stx, q3, _⟩ := X.tr i hiN
          rw [ho'] at q1
          cases q1
          exact step_field X.ok q3 t3.guard hop (X.genv.mono hI.le) (X.frel hI hiN hLi ho' hready)) (fun x hop => by
          obtain ⟨o3, m3, q1, _, xx, stx, q3, _⟩ := X.tr i hiN
          rw [ho'] at q1
          cases q1
          exact step_nil q3 t3.guard hop (X.genv.mono hI.le) (X.frel hI hiN hLi ho' hready)) hwp
        exact wpAnyH_first ho hselj (fun c a w h => absurd h (hQ c _ w)) _ listed a w (hfree t3.apart) hi' (.inl ⟨hw, fun w _ => v1 w⟩) hS v2.2
      | true =>
        obtain ⟨o2, p, t2, t3⟩ := hpl.late i hltI
        rw [ho'] at t2
        cases t2
        obtain ⟨t, hop⟩ := t3.op
        obtain ⟨b, off, hp, hR⟩ : ∃ b off, (T i).fr.get p = some (.ptr b off) ∧ hidden Rs b = true := by
          obtain ⟨o4, m4, q1, _, _, _, _, _, _, _, q6⟩ := X.tr i hiN
          rw [ho'] at q1
          cases q1
          unfold lateChk at q6
          rw [hltI, hop] at q6
          simp only [Bool.not_true, Bool.false_or] at q6
          split at q6
          · exact ⟨_, _, by assumption, q6⟩
          · cases q6
        have hw : Region.wanted o (yielded ops a.tmps) = true := by unfold Region.wanted; rw [t3.guard]
        obtain ⟨c1, c2⟩ := hcount i hiN hLi
        have hwp := X.step hI hiN hLi ho' hready (Q := fun _ _ _ => False) (K := fun a' w' => ∃ E', Inv C w0 nt ops N T E0 ws d0 (fun j => decide (j = i) || listed.getD j false) E' a' w') (fun E' a' w' hI' _ => ⟨E', hI'⟩)
        rw [if_pos hw] at hwp
        rcases hwp with hwp | ⟨_, _, _, hwp⟩
        case inr => exact hwp.elim
        obtain ⟨ro, el, frz, sh, cs, hblk, hld⟩ := X.lateSeen hiN ho' hop t3.guard hltI hp hR
        obtain ⟨u, u1, u2⟩ := X.frel hI hiN hLi ho' hready p (.ptr b off) (by
          have hlook : looksA ops.toList o = [p] := by simp [looksA, hop, t3.guard, Op.operands]
          rw [hlook]
          simp [restr, hp, Fr.get_set])
        have hE : E.ρ b = E0.ρ b := hI.le.ρ b (X.sim.live b _ hblk).1
        obtain ⟨_, D, fz, g1, g2, g3, _⟩ := hI.live b _ (.inl hblk)
        rw [hE] at g1
        obtain ⟨v, hv⟩ := loadVar_same X.ok hld g1 (fun o a h => by obtain ⟨v, h1, _⟩ := g3 o a h; exact ⟨v, h1⟩)
        have hpv : a.eval (.tmp p) = .pointer (some ⟨E0.ρ b, off, none⟩) := by
          rw [← hE]
          simp only [Act.eval, Array.getD_eq_getD_getElem?, u1, Option.getD_some]
          exact inv_ptr u2
        obtain ⟨v1, E', v2⟩ := late_yields hop hpv hv hwp
        refine wpAnyH_first ho hselj (fun c a w h => absurd h (hQ c _ w)) _ listed a w (hfree t3.apart) hi' (.inl ⟨hw, fun w' hw' => v1 w' ?_⟩) hS (ihm (listed.setIfInBounds i true) E' _ w (by simpa using hsz) (by rw [c2]; exact v2) hS c1)
        show w'.heap[E0.ρ b]? = w.heap[E0.ρ b]?
        rw [hw' b _ hR hblk, hS b _ hR hblk]
    refine ⟨fun hnil => ?_, fun i hi => ?_⟩
    · obtain ⟨j, h1, h2, h3⟩ := least_of_cnt N (by omega : cnt (fun j => listed.getD j false) N ≠ 0)
      obtain ⟨o, mj, q1, q2, _⟩ := X.tr j h1
      have hj : j ∈ Region.ready .any ops listed := by
        rw [mem_ready]
        refine ⟨?_, o, by simpa using q1, fun e he hb => ?_⟩
        · have : j < listed.size := by omega
          have h2' : listed.getD j false = false := h2
          rw [Array.getD_eq_getD_getElem?, Array.getElem?_eq_getElem this] at h2' ⊢
          exact h2'
        · have := edgesA_spec (X.edges j o h1 q1) e (by simpa using he) (by rw [← bindsAny_eq]; exact hb)
          exact h3 e.on this
      rw [hnil] at hj; cases hj
    · have hi0 := hi
      rw [mem_ready] at hi
      obtain ⟨hun, o, ho, hall⟩ := hi
      have hlt : i < ops.size := (Array.getElem?_eq_some_iff.1 ho).1
      have hLi : listed.getD i false = false := by
        have : i < listed.size := by omega
        rw [Array.getD_eq_getD_getElem?, Array.getElem?_eq_getElem this] at hun ⊢
        exact hun
      have ho' : ops.toList[i]? = some o := by simpa using ho
      have hready : ∀ e ∈ o.after.toList, bindsAny e = true → listed.getD e.on false = true := fun e he hb => hall e (by simpa using he) (by rw [bindsAny_eq]; exact hb)
      have hiN : i < N := by
        rcases Nat.lt_or_ge i N with h | h
        · exact h
        · exfalso
          have hml := masks_length ops.toList []
          simp only [List.length_nil, Nat.zero_add, Array.length_toList] at hml
          have him : i < (masks ops.toList []).length := by omega
          have hmi : (masks ops.toList [])[i]? = some (masks ops.toList [])[i] := List.getElem?_eq_getElem him
          have hfull := tailOkA_spec htail (i - N) (masks ops.toList [])[i] (by rw [List.getElem?_drop, show N + (i - N) = i by omega]; exact hmi)
          have hbits : ∀ j, j < N → ((masks ops.toList [])[i]).testBit j = true ∨ fl.testBit j = true := by
            intro j hj
            have h2 : (Nat.land (Nat.lor (masks ops.toList [])[i] fl) (Nat.pred (Nat.shiftLeft 1 N))).testBit j = true := by rw [hfull, testBit_full]; simpa using hj
            change (((masks ops.toList [])[i] ||| fl) &&& (Nat.pred (Nat.shiftLeft 1 N))).testBit j = true at h2
            rw [Nat.testBit_and, Nat.testBit_or] at h2
            simp only [Bool.and_eq_true, Bool.or_eq_true] at h2
            exact h2.1
          have hzero : cnt (fun j => listed.getD j false) N = 0 := by
            refine cnt_all N fun j hj => ?_
            induction j using Nat.strongRecOn with
            | ind j ihj =>
            rcases hbits j hj with hbj | hbj
            case inr =>
              -- it floats, and all that comes before it is listed
              cases hLj : listed.getD j false with
              | true => rfl
              | false =>
                exfalso
                refine hfloat ⟨j, hj, hbj, ?_⟩
                obtain ⟨oj, mj, q1, q2, _⟩ := X.tr j hj
                rw [mem_ready]
                refine ⟨?_, oj, by simpa using q1, fun e he hb => ?_⟩
                · have : j < listed.size := by omega
                  rw [Array.getD_eq_getD_getElem?, Array.getElem?_eq_getElem this] at hLj ⊢
                  exact hLj
                · have := edgesA_spec (X.edges j oj hj q1) e (by simpa using he) (by rw [← bindsAny_eq]; exact hb)
                  exact ihj e.on this (by omega)
            have := masks_spec (fun j => listed.getD j false = true ∨ j = i) ops.toList [] (fun i m h => by simp at h) (fun t o1 h1 h2 e he hbe => by
              simp only [List.length_nil, Nat.zero_add] at h2
              rcases h2 with h2 | h2
              · exact .inl (hI.down t o1 h1 h2 e he hbe)
              · subst h2
                rw [ho'] at h1
                cases h1
                exact .inl (hready e he hbe)) i _ hmi (.inr rfl) j hbj
            rcases this with h' | h'
            · exact h'
            · omega
          omega
      have hltI : lt.testBit i = false := by
        cases h : lt.testBit i with
        | false => rfl
        | true => exact absurd ⟨i, hiN, hltfl i h, hi0⟩ hfloat
      have hwp := hnext i o hiN ho' hLi hltI hready Q
      unfold wpOp
      rw [ho]
      exact hwp

theorem wpOps_held {P : Program} {ops : Array Oper} {Q : Exit → Act → World → Prop} {S : World → Prop} {a : Act} {w : World} (hm : P.follows .mixedOrders = true)
    (h : wpAnyH P .any ops Q S ops.size (Array.replicate ops.size false) a w) (t : Nat) : wpOps P ops Q (Region.schedule (P.follows .mixedOrders) ops t) a w := by
  simp only [Region.schedule, hm, Bool.true_or, if_true]
  exact wpAny_sound ops.size t _ a _ (wpAny_of_held _ _ _ _ h)

/-- What is hidden is none of the call's own. -/
theorem Sim.hidden_notOwn {w0 : World} {E : Env} {st : St} {w : World} (h : Sim w0 E st w) {Rs : List (Nat × Nat)} {k : Nat} {b : Blk} (hk : hidden Rs k = true) (hv : st.vis k = some b) : ¬ Own E { st with hid := Rs ++ st.hid } (E.ρ k) := by
  rintro ⟨i, bi, h1, h2, h3⟩
  obtain ⟨g1, g2⟩ := Sim.vis_of h1
  have g1' : (hidden Rs i || hidden st.hid i) = false := by rw [← hidden_append]; exact g1
  rw [Bool.or_eq_false_iff] at g1'
  have hvi : st.vis i = some bi := by rw [St.vis_eq, if_neg (by rw [g1'.2]; simp)]; exact g2
  obtain ⟨_, hbi⟩ := h.live i bi hvi
  obtain ⟨_, hbk⟩ := h.live k b hv
  have hb : b.ro = false → False := fun hro => by
    have := h.inj i k bi b hvi hv h2 hro h3
    subst this
    rw [hk] at g1'; cases g1'.1
  have hge : w0.heap.size ≤ E.ρ i := by
    cases bi with
    | cells ro el fr sh cs => obtain ⟨_, _, _, _, _, _, _, q, _⟩ := hbi; exact q h2
    | mapb es c => obtain ⟨_, _, _, q⟩ := hbi; exact q
    | iter s p => exact hbi.2
    | loop fr nt ps asg body s pe => obtain ⟨_, _, _, _, _, _, q⟩ := hbi; exact q
  cases b with
  | cells ro el fr sh cs =>
    cases ro with
    | false => exact hb rfl
    | true =>
      obtain ⟨_, _, _, _, _, _, q, _, _⟩ := hbk
      have := q rfl
      omega
  | mapb es c => exact hb rfl
  | iter s p => exact hb rfl
  | loop fr nt ps asg body s pe => exact hb rfl

theorem Sim.hide {w0 : World} {E : Env} {st : St} {w : World} (h : Sim w0 E st w) (Rs : List (Nat × Nat)) : Sim w0 E { st with hid := Rs ++ st.hid } w := by
  have hv : ∀ k b, ({ st with hid := Rs ++ st.hid } : St).vis k = some b → st.vis k = some b := by
    intro k b hk
    obtain ⟨g1, g2⟩ := Sim.vis_of hk
    have g1' : (hidden Rs k || hidden st.hid k) = false := by rw [← hidden_append]; exact g1
    rw [Bool.or_eq_false_iff] at g1'
    rw [St.vis_eq, if_neg (by rw [g1'.2]; simp)]; exact g2
  exact ⟨h.below, fun k b hk => h.live k b (hv k b hk), fun i j bi bj hi hj => h.inj i j bi bj (hv i bi hi) (hv j bj hj), h.bnd⟩

theorem Post.unhide {w0 : World} {E1 E2 : Env} {st1 st2 : St} {w1 w2 : World} {Rs : List (Nat × Nat)} (hS : Sim w0 E1 st1 w1) (P : Post w0 E1 { st1 with hid := Rs ++ st1.hid } w1 E2 st2 w2) (hone : ∀ p ∈ Rs, p.2 = p.1 + 1) {h : Tr Blk} (hb : backR st1.heap Rs st2.heap = some h) : Post w0 E1 st1 w1 E2 { st2 with heap := h, hid := st1.hid } w2 := by
  have hbk := backR_spec hb
  have hyes : ∀ k, hidden Rs k = true → h.get k = st1.heap.get k := fun k hk => (hbk k).1 ((hidden_one hone k).1 hk)
  have hno : ∀ k, hidden Rs k = false → h.get k = st2.heap.get k := fun k hk => (hbk k).2 fun hn => by rw [(hidden_one hone k).2 hn] at hk; cases hk
  have hhid : st2.hid = Rs ++ st1.hid := P.hid
  -- what is seen at the end
  have hvis : ∀ k b, ({ st2 with heap := h, hid := st1.hid } : St).vis k = some b → (hidden Rs k = true ∧ st1.vis k = some b) ∨ (hidden Rs k = false ∧ st2.vis k = some b) := by
    intro k b hk
    obtain ⟨g1, g2⟩ := Sim.vis_of hk
    have g1 : hidden st1.hid k = false := g1
    have g2 : h.get k = some b := g2
    cases hr : hidden Rs k with
    | true => exact .inl ⟨rfl, by rw [St.vis_eq, if_neg (by rw [g1]; simp), ← hyes k hr]; exact g2⟩
    | false =>
      refine .inr ⟨rfl, ?_⟩
      rw [St.vis_eq, hhid, hidden_append, hr, g1, if_neg (by simp), ← hno k hr]
      exact g2
  have hdom : ∀ k b, st1.vis k = some b → E1.dom k := fun k b hk => (hS.live k b hk).1
  have hsize : ∀ k b, st1.vis k = some b → E1.ρ k < w1.heap.size := by
    intro k b hk
    obtain ⟨_, q⟩ := hS.live k b hk
    cases b with
    | cells ro el fr sh cs => obtain ⟨_, _, q1, _⟩ := q; exact (Array.getElem?_eq_some_iff.1 q1).1
    | mapb es c => obtain ⟨_, q1, _⟩ := q; exact (Array.getElem?_eq_some_iff.1 q1).1
    | iter s p => exact (Array.getElem?_eq_some_iff.1 q.1).1
    | loop fr nt ps asg body s pe => obtain ⟨_, _, _, q, _⟩ := q; exact (Array.getElem?_eq_some_iff.1 q).1
  have hmix : ∀ i j bi bj, hidden Rs i = true → st1.vis i = some bi → st2.vis j = some bj → bj.ro = false → E2.ρ i = E2.ρ j → False := by
    intro i j bi bj hi hvi hvj hro he
    have h1 : E2.ρ i = E1.ρ i := P.le.ρ i (hdom i bi hvi)
    have := P.cover (E1.ρ i) (hsize i bi hvi) ⟨j, bj, hvj, hro, by rw [← he, h1]⟩
    exact hS.hidden_notOwn hi hvi this
  have hownUp : ∀ k, Own E1 { st1 with hid := Rs ++ st1.hid } k → Own E1 st1 k := by
    rintro k ⟨i, b, h1, h2, h3⟩
    obtain ⟨g1, g2⟩ := Sim.vis_of h1
    have g1' : (hidden Rs i || hidden st1.hid i) = false := by rw [← hidden_append]; exact g1
    rw [Bool.or_eq_false_iff] at g1'
    exact ⟨i, b, by rw [St.vis_eq, if_neg (by rw [g1'.2]; simp)]; exact g2, h2, h3⟩
  refine ⟨P.le, P.dom, P.next, ⟨P.sim.below, fun k b hk => ?_, fun i j bi bj hi hj ri rj he => ?_, fun k b hk => ?_⟩, P.size, fun k hk ho => P.frame k hk fun hn => ho (hownUp k hn), fun k hk ho => ?_, P.low, fun k hk hl => ?_, rfl, P.loops⟩
  · rcases hvis k b hk with ⟨h1, h2⟩ | ⟨_, h2⟩
    · obtain ⟨q1, q2⟩ := hS.live k b h2
      exact ⟨P.le.dom k q1, q2.mono P.le q1 (P.frame _ (hsize k b h2) (hS.hidden_notOwn h1 h2))⟩
    · exact P.sim.live k b h2
  · rcases hvis i bi hi with ⟨h1, h2⟩ | ⟨h1, h2⟩
    · rcases hvis j bj hj with ⟨g1, g2⟩ | ⟨g1, g2⟩
      · rw [P.le.ρ i (hdom i bi h2), P.le.ρ j (hdom j bj g2)] at he
        exact hS.inj i j bi bj h2 g2 ri rj he
      · exact (hmix i j bi bj h1 h2 g2 rj he).elim
    · rcases hvis j bj hj with ⟨g1, g2⟩ | ⟨g1, g2⟩
      · exact (hmix j i bj bi g1 g2 h2 ri he.symm).elim
      · exact P.sim.inj i j bi bj h2 g2 ri rj he
  · have hk : h.get k = some b := hk
    cases hr : hidden Rs k with
    | true => exact Nat.lt_of_lt_of_le (hS.bnd k b (by rw [← hyes k hr]; exact hk)) P.next
    | false => exact P.sim.bnd k b (by rw [← hno k hr]; exact hk)
  · obtain ⟨i, b, h1, h2, h3⟩ := ho
    rcases hvis i b h1 with ⟨g1, g2⟩ | ⟨g1, g2⟩
    · exact ⟨i, b, g2, h2, by rw [← P.le.ρ i (hdom i b g2)]; exact h3⟩
    · exact hownUp k (P.cover k hk ⟨i, b, g2, h2, h3⟩)
  · show h.get k = st1.heap.get k
    cases hr : hidden Rs k with
    | true => exact hyes k hr
    | false => rw [hno k hr]; exact P.keep k hk hl

/-- The tail, with what the late loads read as it was. -/
theorem tail_held {C : Cfg} (hC : C.Ok) {w0 : World} {ih : CallF} (hF : SndF C w0 ih) (hg : GrwF ih) (nt : Nat) (ops : Array Oper) (Q : Exit → Act → World → Prop) {S : World → Prop} {Z : Nat → Prop} (hZ : ∀ w w' : World, S w → (∀ z, Z z → w'.heap[z]? = w.heap[z]?) → S w') : ∀ (l : List Oper) (k : Nat) (listed : Array Bool) (fr : Fr) (st : St) (fr' : Fr) (st' : St), opsA C ih nt ops.toList l fr st = some (fr', st') →
    (∀ j, l[j]? = ops[k + j]?) → Region.seqB .any ops l.length k listed = true → ∀ E w a, Sim w0 E st w → GEnv C E → FRel E fr a.tmps → a.tmps.size = nt → Fresh E st st' → S w → (∀ z, Z z → z < w.heap.size ∧ ¬ Own E st z) →
    (∀ a' w', Done C w0 E st w nt a.defers fr' st' a' w' → Q .normal a' w') → wpAnyH C.P .any ops Q S l.length listed a w := by
  intro l
  induction l with
  | nil =>
    intro k listed fr st fr' st' h hl hB E w a hS hG hf hn _ hSw hz hQ
    simp only [opsA, Option.some.injEq, Prod.mk.injEq] at h
    obtain ⟨rfl, rfl⟩ := h
    simp only [List.length_nil, Region.seqB, List.isEmpty_iff] at hB
    exact ⟨hB, hQ a w ⟨E, .refl hS, hG, hf, hn, rfl⟩⟩
  | cons o rest ihl =>
    intro k listed fr st fr' st' h hl hB E w a hS hG hf hn hfr hSw hz hQ
    simp only [opsA] at h
    cases hs : stepA C ih ops.toList fr st o with
    | none => simp only [hs, reduceCtorEq] at h
    | some q =>
      obtain ⟨x, st1⟩ := q
      simp only [hs] at h
      cases hp : putA nt fr o.dst x with
      | none => simp only [hp, reduceCtorEq] at h
      | some fr1 =>
        simp only [hp] at h
        have hrest := opsA_grow hg rest fr1 st1 fr' st' h
        simp only [List.length_cons, Region.seqB, Bool.and_eq_true, decide_eq_true_eq] at hB
        refine wpAnyH_all hB.1 (by simp) fun i hi => ?_
        rw [List.mem_singleton] at hi
        subst hi
        have ho : ops[i]? = some o := by have := hl 0; simpa using this.symm
        unfold wpOp
        rw [ho]
        refine stepA_sound hC hF hs hS hG hf (hfr.left hrest.next) fun E1 w1 v h2 h3 => ?_
        obtain ⟨p1, p2, p3⟩ := putA_sound (v := v) hp (hf.mono h2.le) hn h3
        have hSw1 : S w1 := hZ w w1 hSw fun z hzz => h2.frame z (hz z hzz).1 (hz z hzz).2
        refine ⟨hSw1, ihl (i + 1) _ fr1 st1 fr' st' h (fun j => by have := hl (j + 1); simpa [Nat.add_assoc, Nat.add_comm 1 j] using this) hB.2 E1 w1 _ h2.sim (hG.mono h2.le) p1 p2 (hfr.right h2) hSw1 (fun z hzz => ⟨Nat.lt_of_lt_of_le (hz z hzz).1 h2.size, fun hn => (hz z hzz).2 (h2.cover z (hz z hzz).1 hn)⟩) fun a' w' hd => hQ a' w' ?_⟩
        rw [p3] at hd
        exact hd.pre h2

theorem drawA_any {C : Cfg} (hC : C.Ok) {w0 : World} {ih : CallF} (hF : SndF C w0 ih) (hg : GrwF ih) (nt : Nat) (ops : Array Oper) (Q : Exit → Act → World → Prop) {fr : Fr} {st : St} {fr' : Fr} {st' : St} (h : drawA C ih nt ops fr st = some (fr', st'))
    {E : Env} {w : World} {a : Act} (hS : Sim w0 E st w) (hG : GEnv C E) (hf : FRel E fr a.tmps) (hn : a.tmps.size = nt) (hfr : Fresh E st st') (hQ : ∀ a' w', Done C w0 E st w nt a.defers fr' st' a' w' → Q .normal a' w') (hQp : ∀ c a w, ¬ Q (.panic c) a w) :
    ∀ t, wpOps C.P ops Q (Region.schedule (C.P.follows .mixedOrders) ops t) a { w with drawn := w.drawn + 1 } := by
  unfold drawA at h
  have hplan := planA_spec ops.toList
  have hsub := planA_sub ops.toList
  generalize (planA ops.toList).1 = N at h
  generalize (planA ops.toList).2.1 = fl at h hplan hsub
  generalize (planA ops.toList).2.2 = lt at h hplan hsub
  simp only at h
  cases hRs : lateBs fr lt ops.toList with
  | none => simp only [hRs, reduceCtorEq] at h
  | some Rs =>
  simp only [hRs] at h
  have hone := lateBs_one hRs
  cases hb : (shapeOkA ops N fl && (Nat.ble N ops.size && (hidOkA st.next st.hid && hidOkA st.next Rs))) with
  | false => simp only [hb, cond_false, reduceCtorEq] at h
  | true =>
    simp only [hb, cond_true] at h
    simp only [Bool.and_eq_true, shapeOkA] at hb
    obtain ⟨⟨b1, b2, b3⟩, b4, b5, b6⟩ := hb
    have b4' := Nat.le_of_ble_eq_true b4
    cases hh : headA C ih nt ops.toList lt Rs (ops.toList.take N) (masks ops.toList []) 0 [] fr st with
    | none => simp only [hh, reduceCtorEq] at h
    | some q =>
      obtain ⟨fr1, st1⟩ := q
      simp only [hh] at h
      cases hto : opsA C ih nt ops.toList (ops.toList.drop N) fr1 { st1 with hid := Rs ++ st1.hid } with
      | none => simp only [hto, reduceCtorEq] at h
      | some q2 =>
      obtain ⟨fr2, st2⟩ := q2
      simp only [hto] at h
      cases hbk : backR st1.heap Rs st2.heap with
      | none => simp only [hbk, reduceCtorEq] at h
      | some hp =>
      simp only [hbk, Option.some.injEq, Prod.mk.injEq] at h
      obtain ⟨rfl, rfl⟩ := h
      obtain ⟨T, t1, t2, t3⟩ := headA_trace (ops.toList.take N) (masks ops.toList []) 0 (fun _ => ⟨fr, st⟩) fr1 st1 hh
      have hT0 : T 0 = ⟨fr, st⟩ := t1 0 (Nat.le_refl _)
      have hlenN : (ops.toList.take N).length = N := by rw [List.length_take, Array.length_toList]; omega
      rw [Nat.zero_add, hlenN] at t2
      have htr : ∀ j, j < N → ∃ o m, ops.toList[j]? = some o ∧ (masks ops.toList [])[j]? = some m ∧ Step C ih nt ops.toList lt Rs T j o m := by
        intro j hj
        obtain ⟨o, m, q1, q2, q3⟩ := t3 j (by omega)
        rw [Nat.zero_add] at q3
        rw [List.getElem?_take] at q1
        rw [if_pos hj] at q1
        exact ⟨o, m, q1, q2, q3⟩
      have hrest := opsA_grow hg _ _ _ _ _ hto
      have hspec := headOkA_spec _ _ _ _ b1
      have X : Ctx C w0 ih nt ops N lt Rs T E { w with drawn := w.drawn + 1 } a.defers := by
        refine ⟨hC, hF, hg, htr, fun j o hj ho => ?_, fun j o m hj ho hm => ?_, by rw [hT0]; exact b5, by rw [hT0]; exact b6, by rw [hT0]; exact hS.drawn _, hG, ?_, trivial⟩
        · obtain ⟨o', m', q1, q2, q3, q4⟩ := hspec j hj
          rw [Nat.zero_add] at q3
          rw [ho] at q1; cases q1; exact q3
        · obtain ⟨o', m', q1, q2, q3, q4⟩ := hspec j hj
          rw [Nat.zero_add] at q4
          rw [ho] at q1; cases q1
          rw [hm] at q2; cases q2
          exact q4
        · rw [hT0, t2]
          exact hfr.left hrest.next
      refine wpOps_held (S := Stays Rs T E { w with drawn := w.drawn + 1 }) hC.mixed ?_
      have hstart : Inv C w0 nt ops N T E { w with drawn := w.drawn + 1 } a.defers (fun j => (Array.replicate ops.size false).getD j false) E a { w with drawn := w.drawn + 1 } := by
        have hz : ∀ j, (Array.replicate ops.size false).getD j false = false := fun j => getD_replicate_false _ _
        have hv : ∀ k b, VisS N T (fun j => (Array.replicate ops.size false).getD j false) k b → (T 0).st.vis k = some b := by
          intro k b hk
          rcases hk with hk | ⟨j, _, j2, _⟩
          · exact hk
          · have j2' : (Array.replicate ops.size false).getD j false = true := j2
            rw [hz] at j2'; cases j2'
        have hsl : ∀ t n, slotS ops T (fun j => (Array.replicate ops.size false).getD j false) t n = (T 0).fr.get t := by
          intro t n
          induction n with
          | zero => rfl
          | succ n ihn => simp only [slotS]; rw [if_neg (fun h' => by have h2 : (Array.replicate ops.size false).getD n false = true := h'.1; rw [hz] at h2; cases h2)]; exact ihn
        refine ⟨fun i o _ h2 => (by have h3 : (Array.replicate ops.size false).getD i false = true := h2; rw [hz] at h3; cases h3), fun i _ => hz i, Env.le.refl E, fun k hk => .inl hk, X.sim.below, fun k b hk => X.sim.live k b (hv k b hk), fun i j bi bj hi hj => X.sim.inj i j bi bj (hv i bi hi) (hv j bj hj), Nat.le_refl _, fun _ _ _ => rfl, fun q _ ⟨k, b, h1, h2, h3⟩ => ⟨k, b, hv k b h1, h2, h3⟩, fun t r ht => ?_, hn, rfl, fun _ r h => ⟨r, h⟩⟩
        rw [hsl, hT0] at ht
        exact hf t r ht
      have hcN : cnt (fun j => (Array.replicate ops.size false).getD j false) N + (ops.size - N) = ops.size := by
        have hc : ∀ k, cnt (fun j => (Array.replicate ops.size false).getD j false) k = k := by
          intro k
          induction k with
          | zero => rfl
          | succ k ihk =>
            have hz : (Array.replicate ops.size false).getD k false = false := getD_replicate_false _ _
            simp only [cnt, hz]
            rw [ihk]
            simp
        rw [hc]; omega
      have hgo := head_any X b4' b2 hplan hsub Q hQp (fun listed E1 a1 w1 hsz hl hI hSt => ?_) _ (Array.replicate ops.size false) E a _ (by simp) hstart (fun _ _ _ _ => rfl) rfl
      · rw [hcN] at hgo; exact hgo
      -- the head is done
      have hlist : listed = (Array.range ops.size).map fun i => decide (i < N) := by
        apply Array.ext
        · simp [hsz]
        · intro i h1 h2
          have := hl i
          rw [Array.getD_eq_getD_getElem?, Array.getElem?_eq_getElem h1, Option.getD_some] at this
          rw [this]
          simp
      have hll : ∀ j, j < N → listed.getD j false = true := fun j hj => by rw [hl]; simpa using hj
      have hvis : ∀ k b, (T N).st.vis k = some b → VisS N T (fun j => listed.getD j false) k b := by
        intro k b hk
        obtain ⟨g1, g2⟩ := Sim.vis_of hk
        have hlt := X.bnd (j := N) (Nat.le_refl _) k b g2
        by_cases hk0 : k < (T 0).st.next
        · left
          rw [St.vis_eq, if_neg (by rw [← X.hidE (Nat.le_refl _)]; simpa using g1), ← X.heap (i := 0) (j := N) (by omega) (Nat.le_refl _) hk0]
          exact g2
        · right
          obtain ⟨j, j1, j2, j3⟩ := Ctx.range (N := N) (T := T) N (Nat.le_refl _) k (by omega) hlt
          exact ⟨j, j1, hll j j1, j2, j3, g2⟩
      have hSim : Sim w0 E1 (T N).st w1 := ⟨hI.below, fun k b hk => hI.live k b (hvis k b hk), fun i j bi bj hi hj => hI.inj i j bi bj (hvis i bi hi) (hvis j bj hj), X.bnd (Nat.le_refl _)⟩
      have hch := X.chain N (Nat.le_refl _) 0 (by omega)
      have hPost0 : Post w0 E (T 0).st { w with drawn := w.drawn + 1 } E1 (T N).st w1 := by
        refine ⟨hI.le, fun k hk => ?_, hch.1.next, hSim, hI.size, hI.frame, fun k hk ho => ?_, by rw [hch.2.1]; exact Nat.le_refl _, fun k hk _ => hch.2.2 k hk, hch.1.hid, hI.loops⟩
        · rcases hI.dom k hk with h' | ⟨j, j1, j2, j3, j4⟩
          · exact .inl h'
          · have q1 := X.next (i := 0) (j := j) (by omega) (by omega)
            have q2 := X.next (i := j + 1) (j := N) (by omega) (Nat.le_refl _)
            exact .inr ⟨by omega, by omega⟩
        · obtain ⟨i, b, h1, h2, h3⟩ := ho
          exact hI.cover k hk ⟨i, b, hvis i b h1, h2, h3⟩
      have hPost : Post w0 E st w E1 st1 w1 := by
        have := (Post.drawn hS (w.drawn + 1)).trans (by rw [hT0] at hPost0; exact hPost0)
        rw [t2] at this
        exact this
      have hFR : FRel E1 fr1 a1.tmps := by
        intro t r ht
        refine hI.tm t r ?_
        rw [X.slot_before N (Nat.le_refl _) fun j hj _ => hll j hj, t2]
        exact ht
      have hSim1 : Sim w0 E1 st1 w1 := by rw [t2] at hSim; exact hSim
      -- a block that a late load reads is seen at the head's end
      have hseen : ∀ k b, hidden Rs k = true → (T 0).st.vis k = some b → st1.vis k = some b ∧ E1.ρ k = E.ρ k := by
        intro k b hk hv
        obtain ⟨g1, g2⟩ := Sim.vis_of hv
        have hlt : k < (T 0).st.next := X.sim.bnd k b g2
        refine ⟨?_, hI.le.ρ k (X.sim.live k b hv).1⟩
        have : (T N).st.vis k = some b := by
          rw [St.vis_eq, if_neg (by rw [X.hidE (Nat.le_refl _), g1]; simp), X.heap (i := 0) (j := N) (by omega) (Nat.le_refl _) hlt]
          exact g2
        rw [t2] at this
        exact this
      have hsz1 : ∀ k b, st1.vis k = some b → E1.ρ k < w1.heap.size := by
        intro k b hk
        obtain ⟨_, q⟩ := hSim1.live k b hk
        cases b with
        | cells ro el fr sh cs => obtain ⟨_, _, q1, _⟩ := q; exact (Array.getElem?_eq_some_iff.1 q1).1
        | mapb es c => obtain ⟨_, q1, _⟩ := q; exact (Array.getElem?_eq_some_iff.1 q1).1
        | iter s p => exact (Array.getElem?_eq_some_iff.1 q.1).1
        | loop fr nt ps asg body s pe => obtain ⟨_, _, _, q, _⟩ := q; exact (Array.getElem?_eq_some_iff.1 q).1
      have hlen : (ops.toList.drop N).length = ops.size - N := by simp
      rw [← hlen]
      refine tail_held hC hF hg nt ops Q (Z := fun z => ∃ k b, hidden Rs k = true ∧ (T 0).st.vis k = some b ∧ E.ρ k = z) (fun w w' hS hz k b hk hv => by rw [hz _ ⟨k, b, hk, hv, rfl⟩]; exact hS k b hk hv) (ops.toList.drop N) N listed fr1 { st1 with hid := Rs ++ st1.hid } fr2 st2 hto (fun j => by simp) (by
        rw [hlen, hlist]
        refine seqB_of_chain (ops.size - N) N _ (by simp) (by omega) (fun j => ?_) fun q o q1 q2 => ?_
        · rw [← hlist]; exact hl j
        · obtain ⟨c1, c2⟩ := chainA_spec b3 (q - N) o (by rw [List.getElem?_drop, show N + (q - N) = q by omega, Array.getElem?_toList]; exact q2)
          rw [show N + (q - N) = q by omega] at c1 c2
          exact ⟨c1, fun q3 => c2 (.inr (by omega))⟩) E1 w1 a1 (hSim1.hide Rs) (hG.mono hI.le) hFR hI.nt ?_ hSt ?_ ?_
      · exact fun i h1 h2 => (hfr.right hPost) i h1 h2
      · rintro z ⟨k, b, h1, h2, h3⟩
        obtain ⟨g1, g2⟩ := hseen k b h1 h2
        rw [← h3, ← g2]
        exact ⟨hsz1 k b g1, hSim1.hidden_notOwn h1 g1⟩
      · rintro a' w' ⟨E2, q1, q2, q3, q4, q5⟩
        have hd : Done C w0 E1 st1 w1 nt a1.defers fr2 { st2 with heap := hp, hid := st1.hid } a' w' := ⟨E2, q1.unhide hSim1 hone hbk, q2, q3, q4, q5⟩
        rw [hI.defers] at hd
        exact hQ a' w' (hd.pre hPost)
theorem drawA_sound {C : Cfg} (hC : C.Ok) {w0 : World} {ih : CallF} (hF : SndF C w0 ih) (hg : GrwF ih) (nt : Nat) (id : Nat) (ops : Array Oper) (Q : Exit → Act → World → Prop) {fr : Fr} {st : St} {fr' : Fr} {st' : St} (h : drawA C ih nt ops fr st = some (fr', st'))
    {E : Env} {w : World} {a : Act} (hS : Sim w0 E st w) (hG : GEnv C E) (hf : FRel E fr a.tmps) (hn : a.tmps.size = nt) (hfr : Fresh E st st') (hQ : ∀ a' w', Done C w0 E st w nt a.defers fr' st' a' w' → Q .normal a' w') (hQp : ∀ c a w, ¬ Q (.panic c) a w) :
    (Code.region id ops true).wp C.P Q a w := wp_region_draw (drawA_any hC hF hg nt ops Q h hS hG hf hn hfr hQ hQp)
end Go.Proofs.YtfamacgopcfhhaaGreatDoor.Ax
