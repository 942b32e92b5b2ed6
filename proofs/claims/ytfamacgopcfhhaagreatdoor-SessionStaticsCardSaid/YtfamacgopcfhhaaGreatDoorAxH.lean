/-
  AN EXECUTOR OVER AN ABSTRACT MEMORY, PART H: equality.
-/
import Derived.Test.YtfamacgopcfhhaaGreatDoorAxG
namespace Go.Proofs.YtfamacgopcfhhaaGreatDoor.Ax
open Go.RowKit

mutual
/-- '==' of two values of a type; none: not decided here. -/
def eqA (C : Cfg) : Nat → Nat → AV → AV → Option Bool
  | 0, _, _, _ => none
  | n + 1, t, x, y =>
    match C.ty t with
    | none => none
    | some (_, d) =>
      match d, x, y with
      | .bool, .bool a, .bool b => some (bif a then b else !b)
      | .int _, .int k a, .int k' b => bif decide (k = k') then some (ieq a b) else none
      | .string, .str a, .str b => some (strBin.beqL a.data.toList b.data.toList)
      | .pointer _, .nilp, .nilp => some true
      | .pointer _, .nilp, .ptr _ _ => some false
      | .pointer _, .ptr _ _, .nilp => some false
      | .pointer e, .ptr i o, .ptr j o' => (match C.ty e with
        | some (ei, _) => bif Nat.beq ei.size 0 then none else bif Nat.beq i j then some (Nat.beq o o') else none
        | none => none)
      | .interface _, .nili, .nili => some true
      | .interface _, .nili, .iface _ _ => some false
      | .interface _, .iface _ _, .nili => some false
      | .interface _, .iface tx vx, .iface ty vy => bif Nat.beq tx ty then (match C.ty tx with
          | some (ti, _) => bif ti.comparable then eqA C n tx vx vy else none
          | none => none) else some false
      | .struct fields, .agg xs, .agg ys => bif C.eqOk t then eqFieldsA C n xs ys fields.toList else none
      | .slice _, .nils, .nils => some true
      | .slice _, .nils, .sl _ _ _ _ => some false
      | .slice _, .nils, .slu _ _ _ _ _ => some false
      | .slice _, .sl _ _ _ _, .nils => some false
      | .slice _, .slu _ _ _ _ _, .nils => some false
      | .map _ _, .nilm, .nilm => some true
      | .map _ _, .nilm, .mp _ => some false
      | .map _ _, .mp _, .nilm => some false
      | .func _ _ _, .nilf, .nilf => some true
      | .func _ _ _, .nilf, .fn _ _ _ => some false
      | .func _ _ _, .fn _ _ _, .nilf => some false
      | _, _, _ => none
def eqFieldsA (C : Cfg) : Nat → List AV → List AV → List Field → Option Bool
  | 0, _, _, _ => none
  | _ + 1, _, _, [] => some true
  | n + 1, xs, ys, f :: fs =>
    bif f.name == "_" then eqFieldsA C n xs ys fs else
    match partA C f.type xs f.offset, partA C f.type ys f.offset with
    | some a, some b => (match eqA C n f.type a b with
      | none => none
      | some false => some false
      | some true => eqFieldsA C n xs ys fs)
    | _, _ => none
end

theorem fieldsOf_eq {P : Program} {t : Nat} {fs : Array Field} (h : P.underlying t = some (.struct fs)) : P.fieldsOf t = fs := by
  simp [Program.fieldsOf, h]

theorem eqA_sound {C : Cfg} (hC : C.Ok) {E : Env} (w : World) : ∀ (n : Nat),
    (∀ (d t : Nat) (x y : AV) (v u : Value) (b : Bool), n ≤ d → eqA C n t x y = some b → VRel E x v → VRel E y u → (Op.equalIn d t v u).run C.P w = .ok b w) ∧
    (∀ (d : Nat) (fs : List Field) (xs ys : List AV) (vs us : Array Value) (b : Bool), n ≤ d → eqFieldsA C n xs ys fs = some b → VsRel E xs vs.toList → VsRel E ys us.toList → (Op.eqFields d vs us fs).run C.P w = .ok b w) := by
  intro n
  induction n with
  | zero =>
    constructor
    · intro d t x y v u b _ h; simp [eqA] at h
    · intro d fs xs ys vs us b _ h; simp [eqFieldsA] at h
  | succ n ih =>
    obtain ⟨ih1, ih2⟩ := ih
    constructor
    · intro d t x y v u b hd h hv hu
      obtain ⟨d, rfl⟩ : ∃ e, d = e + 1 := ⟨d - 1, by omega⟩
      simp only [eqA] at h
      cases hty : C.ty t with
      | none => simp [hty] at h
      | some p =>
        obtain ⟨ti, de⟩ := p
        simp only [hty] at h
        have hun := (run_ty hC hty w).2.1
        have hun' := (hC.ty _ _ _ hty).2
        split at h
        · cases h; cases hv; cases hu
          rename_i a b
          simp only [Op.equalIn, Sem.run_bind, hun, Result.andThen_ok, Sem.run_pure]
          cases a <;> cases b <;> rfl
        · rename_i k0 k a k' b'
          by_cases hk : k = k'
          · subst hk
            simp only [decide_true, cond_true, Option.some.injEq, ieq_eq] at h
            cases hv; cases hu
            simp only [Op.equalIn, Sem.run_bind, hun, Result.andThen_ok, if_true, Sem.run_pure]
            rw [← h]; rfl
          · simp [hk] at h
        · cases h; cases hv; cases hu
          rw [run_equalIn_string w d t _ _ hun', beqL_eq, Lib.toList_data, Lib.toList_data]
        · cases h; cases hv; cases hu
          simp only [Op.equalIn, Sem.run_bind, hun, Result.andThen_ok, Sem.run_pure, Option.isNone]
        · cases h; cases hv; cases hu
          simp only [Op.equalIn, Sem.run_bind, hun, Result.andThen_ok, Sem.run_pure, Option.isNone]
        · cases h; cases hv; cases hu
          simp only [Op.equalIn, Sem.run_bind, hun, Result.andThen_ok, Sem.run_pure]
        · rename_i e i o j o'
          cases hety : C.ty e with
          | none => simp [hety] at h
          | some q =>
            obtain ⟨ei, ed⟩ := q
            simp only [hety, Tr.cbeq] at h
            by_cases hz : ei.size = 0
            · simp [hz] at h
            · rw [if_neg hz] at h
              by_cases hij : i = j
              · subst hij
                rw [if_pos rfl] at h
                simp only [Option.some.injEq, nbeq] at h
                cases hv; cases hu
                simp only [Op.equalIn, Sem.run_bind, hun, Result.andThen_ok, (run_ty hC hety w).2.2]
                rw [if_pos hz]
                simp only [sameAddr, beq_self_eq_true, if_true, Sem.run_pure]
                rw [← h]
                congr 1
                by_cases ho : o = o'
                · subst ho; simp
                · simp [ho]
              · rw [if_neg hij] at h; cases h
        · cases h; cases hv; cases hu
          simp only [Op.equalIn, Sem.run_bind, hun, Result.andThen_ok, Sem.run_pure]
        · cases h; cases hv; cases hu
          simp only [Op.equalIn, Sem.run_bind, hun, Result.andThen_ok, Sem.run_pure]
        · cases h; cases hv; cases hu
          simp only [Op.equalIn, Sem.run_bind, hun, Result.andThen_ok, Sem.run_pure]
        · rename_i ms tx vx ty vy
          rw [Tr.cbeq] at h
          cases hv with
          | iface _ _ v1 hv1 =>
            cases hu with
            | iface _ _ u1 hu1 =>
              by_cases htt : tx = ty
              · subst htt
                rw [if_pos rfl] at h
                cases htx : C.ty tx with
                | none => simp [htx] at h
                | some q =>
                  obtain ⟨xi, xd⟩ := q
                  simp only [htx] at h
                  cases hcmp : xi.comparable with
                  | false => simp [hcmp] at h
                  | true =>
                    simp only [hcmp, cond_true] at h
                    have := ih1 d tx vx vy v1 u1 b (by omega) h hv1 hu1
                    simp [Op.equalIn, hun, (run_ty hC htx w).1, hcmp, this]
              · rw [if_neg htt] at h
                cases h
                simp [Op.equalIn, hun, htt]
        · rename_i fields xs ys
          cases hok : C.eqOk t with
          | false => simp [hok] at h
          | true =>
            simp only [hok, cond_true] at h
            cases hv with
            | agg _ vs hvs =>
              cases hu with
              | agg _ us hus =>
                have hf := fieldsOf_eq hun'
                rw [run_equalIn_struct w d t vs us (by rw [hf]; exact hun') (hC.eqOk t hok).1, hf]
                exact ih2 d fields.toList xs ys vs us b (by omega) h hvs hus
        all_goals first
          | (cases h; cases hv; cases hu; simp only [Op.equalIn, Sem.run_bind, hun, Result.andThen_ok, Sem.run_pure, Option.isNone]; done)
          | cases h
    · intro d fs xs ys vs us b hd h hv hu
      cases fs with
      | nil =>
        simp only [eqFieldsA, Option.some.injEq] at h
        subst h
        rfl
      | cons f fs =>
        simp only [eqFieldsA] at h
        by_cases hn : f.name = "_"
        · simp only [hn, beq_self_eq_true, cond_true] at h
          simp only [Op.eqFields, ne_eq, hn, not_true_eq_false, if_false]
          exact ih2 d fs xs ys vs us b (by omega) h hv hu
        · have hn' : (f.name == "_") = false := by simpa using hn
          simp only [hn', cond_false] at h
          split at h
          · rename_i a c ha hc
            obtain ⟨v1, r1, q1⟩ := partA_sound hC ha hv w
            obtain ⟨u1, r2, q2⟩ := partA_sound hC hc hu w
            cases he : eqA C n f.type a c with
            | none => simp [he] at h
            | some r =>
              have e1 := ih1 d f.type a c v1 u1 r (by omega) he q1 q2
              simp only [Op.eqFields, ne_eq, hn, not_false_eq_true, if_true, Sem.run_bind, r1, r2, e1, Result.andThen_ok]
              cases r with
              | false => simp only [he, Option.some.injEq] at h; subst h; rfl
              | true =>
                simp only [he] at h
                exact ih2 d fs xs ys vs us b (by omega) h hv hu
          · cases h
end Go.Proofs.YtfamacgopcfhhaaGreatDoor.Ax
