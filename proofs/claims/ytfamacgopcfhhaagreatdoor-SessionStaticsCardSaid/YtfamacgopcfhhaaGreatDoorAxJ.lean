/-
  AN EXECUTOR OVER AN ABSTRACT MEMORY, PART J: append, copy.
-/
import Derived.Test.YtfamacgopcfhhaaGreatDoorAxI
namespace Go.Proofs.YtfamacgopcfhhaaGreatDoor.Ax
open Go.RowKit

theorem row_off {w0 : World} {E : Env} {st : St} {w : World} (P : Program) (h : Sim w0 E st w) {i off off' n : Nat} {cs : Tr AV} (hc : st.cellsOf i = some cs) {as : List AV} (hr : cs.row n off = some as) (ho : off' = off ∨ n = 0) :
    ∃ vs : List Value, (loadCells ⟨E.ρ i, off', none⟩ n).run P w = .ok vs.toArray w ∧ VsRel E as vs := by
  obtain ⟨vs, h1, h2, h3, _⟩ := row_load P h hc hr
  rcases ho with rfl | rfl
  · exact ⟨vs, h1, h2⟩
  · have : vs = [] := List.length_eq_zero_iff.1 h3
    subst this
    exact ⟨[], rfl, h2⟩

/-- What is appended or copied: how many elements, and their cells. -/
def srcA (st : St) (size : Nat) (x : AV) : Option (Nat × List AV) :=
  match x with
  | .nils => some (0, [])
  | .str s => bif Nat.beq size 1 then some (s.data.toList.length, s.data.toList.map byteA) else none
  | .sl i off len _ => (match st.cellsOf i with
    | some cs => (match cs.row (len * size) off with | some as => some (len, as) | none => none)
    | none => none)
  | .slu i off len _ _ => (match st.cellsOf i with
    | some cs => (match cs.row (len * size) off with | some as => some (len, as) | none => none)
    | none => none)
  | _ => none

theorem srcA_sound {w0 : World} {E : Env} {st : St} {w : World} (P : Program) (h : Sim w0 E st w) {size n : Nat} {x : AV} {v : Value} {as : List AV} (hs : srcA st size x = some (n, as)) (hv : VRel E x v) :
    (Builtin.lenOf v).run P w = .ok n w ∧ ∃ vs : List Value, (Builtin.firstCells size n v).run P w = .ok vs.toArray w ∧ VsRel E as vs := by
  unfold srcA at hs
  split at hs
  · cases hs; cases hv
    exact ⟨rfl, [], rfl, .nil⟩
  · rename_i s
    rw [Tr.cbeq] at hs
    by_cases hsz : size = 1
    case neg => rw [if_neg hsz] at hs; cases hs
    rw [if_pos hsz] at hs
    cases hs; cases hv
    refine ⟨rfl, s.data.toList.map byteV, ?_, bytes_rel E _⟩
    have : s.extract 0 s.data.toList.length = s := by
      apply ByteArray.ext
      apply Array.ext'
      rw [Lib.extract_data, List.drop_zero, List.take_of_length_le (by omega)]
    simp only [Builtin.firstCells, this, Sem.run_pure]
    congr 1
    apply Array.ext'
    simp [byteV]
  · rename_i i off len cap
    split at hs
    · rename_i cs hcs
      split at hs
      · rename_i l hl
        cases hs
        cases hv with
        | sl _ _ _ _ hd =>
          obtain ⟨vs, h1, h2, _⟩ := row_load P h hcs hl
          exact ⟨rfl, vs, by simp only [Builtin.firstCells]; exact h1, h2⟩
      · cases hs
    · cases hs
  · rename_i i off len sz
    split at hs
    · rename_i cs hcs
      split at hs
      · rename_i l hl
        cases hs
        cases hv with
        | slu _ _ _ _ _ off' c hd hlc ho hsz _ =>
          obtain ⟨vs, h1, h2⟩ := row_off P h (off' := off') hcs hl (by rcases ho with ho | ⟨ho, _⟩
                                                                       · exact .inl ho
                                                                       · right; rw [ho]; simp)
          exact ⟨rfl, vs, by simp only [Builtin.firstCells]; exact h1, h2⟩
      · cases hs
    · cases hs
  · cases hs

theorem srcA_len {st : St} {size n : Nat} {x : AV} {as : List AV} (hs : srcA st size x = some (n, as)) : as.length = n * size := by
  unfold srcA at hs
  split at hs
  · cases hs; simp
  · rw [Tr.cbeq] at hs
    by_cases hsz : size = 1
    · rw [if_pos hsz] at hs
      cases hs
      rw [hsz, List.length_map, Nat.mul_one]
    · rw [if_neg hsz] at hs; cases hs
  · split at hs
    · split at hs
      · rename_i hr
        cases hs
        exact (Tr.row_spec _ _ _ _ hr).1
      · cases hs
    · cases hs
  · split at hs
    · split at hs
      · rename_i hr
        cases hs
        exact (Tr.row_spec _ _ _ _ hr).1
      · cases hs
    · cases hs
  · cases hs

section
variable {C : Cfg} (hC : C.Ok) {w : World} {t0 t1 elem : Nat} {ei : TypeInfo} {ed : TypeDesc} {ti ti1 : TypeInfo} {d1 : TypeDesc} {ty : TypeId}
include hC

theorem run_append_in (hty : C.ty t0 = some (ti, .slice elem)) (hety : C.ty elem = some (ei, ed)) (hty1 : C.ty t1 = some (ti1, d1)) (hni : ∀ k, d1 ≠ .int k) {base : Option Addr} {sLen sCap n : Nat} {x : Value} {new : Array Value} {w' : World}
    (hn : (Builtin.lenOf x).run C.P w = .ok n w) (hnew : (Builtin.firstCells ei.size n x).run C.P w = .ok new w) (hfit : sLen + n ≤ sCap)
    (hst : (match base with | some a => storeCells (a.add (sLen * ei.size)) new.toList | none => pure ()).run C.P w = .ok () w') :
    (Builtin.append_ #[t0, t1] ty #[.slice base sLen sCap, x]).run C.P w = .ok (.slice base (sLen + n) sCap) w' := by
  unfold Builtin.append_
  simp only [List.getElem?_toArray, List.getElem?_cons_zero, List.getElem?_cons_succ, Sem.run_bind, (run_ty hC hty w).2.1, Result.andThen_ok, (run_ty hC hety w).2.2, (run_ty hC hty1 w).2.1, Sem.run_pure, Bool.false_eq_true, if_false, hn, hfit, if_true, Bool.not_false, hnew]
  cases base with
  | none =>
    simp only [Sem.run_pure, Result.ok.injEq, true_and] at hst
    subst hst
    rfl
  | some a => simp only at hst; simp only [Sem.run_bind, hst, Result.andThen_ok, Sem.run_pure]

theorem run_append_grow (hty : C.ty t0 = some (ti, .slice elem)) (hety : C.ty elem = some (ei, ed)) (hty1 : C.ty t1 = some (ti1, d1)) (hni : ∀ k, d1 ≠ .int k) {z : Value} (hz : ei.zero = some z) (hzs : z.cells.size = ei.size) {base : Option Addr} {sLen sCap n : Nat} {x : Value} {old new : Array Value}
    (hn : (Builtin.lenOf x).run C.P w = .ok n w) (hold : (Builtin.firstCells ei.size sLen (.slice base sLen sCap)).run C.P { w with drawn := w.drawn + 1 } = .ok old { w with drawn := w.drawn + 1 })
    (hnew : (Builtin.firstCells ei.size n x).run C.P { w with drawn := w.drawn + 1 } = .ok new { w with drawn := w.drawn + 1 }) (hfit : ¬ sLen + n ≤ sCap) (hb1 : 1 ≤ ei.bytes) (hb : (sLen + n) * ei.bytes ≤ 1099511627776) :
    ∃ (cap : Nat) (rest : Array Value), sLen + n ≤ cap ∧ rest.size = (cap - (sLen + n)) * ei.size ∧
    (Builtin.append_ #[t0, t1] ty #[.slice base sLen sCap, x]).run C.P w = .ok (.slice (some ⟨w.heap.size, 0, none⟩) (sLen + n) cap) (World.alloc { w with drawn := w.drawn + 1 } (.cells (old ++ new ++ rest) elem)) := by
  have hneed : sLen + n ≤ 1099511627776 := by
    have := Nat.mul_le_mul_left (sLen + n) hb1
    omega
  have hmax : IntKind.i64.max = 9223372036854775807 := rfl
  have h1 : ¬ (((sLen + n : Nat) : Int) > IntKind.i64.max ∧ (False ∨ ei.bytes = 0)) := by
    rintro ⟨_, h | h⟩
    · exact h
    · omega
  have h2 : ¬ Builtin.nextslicecap (sLen + n) sCap * ei.bytes > 2 ^ 48 := by
    have := growslice_fits (need := sLen + n) (old := sCap) (bytes := ei.bytes) (by omega) (by omega)
    have e : (2 : Nat) ^ 48 = 281474976710656 := rfl
    omega
  let cap := Question.cut (.appendCap (sLen + n) sCap elem) (w.tape w.drawn (.appendCap (sLen + n) sCap elem))
  have hcap : sLen + n ≤ cap := by simp only [cap, Question.cut]; omega
  have hcut : Question.cut (.appendCap (sLen + n) sCap elem) (w.tape w.drawn (.appendCap (sLen + n) sCap elem)) = cap := rfl
  refine ⟨cap, Builtin.zeroCells z.cells (cap - (sLen + n)), hcap, by simp [Builtin.zeroCells, hzs], ?_⟩
  have hzr := fun w => run_zero hC hety hz w
  have hti := fun w => (run_ty hC hety w).1
  unfold Builtin.append_
  simp only [List.getElem?_toArray, List.getElem?_cons_zero, List.getElem?_cons_succ, Sem.run_bind, (run_ty hC hty w).2.1, Result.andThen_ok, (run_ty hC hety w).2.2, (run_ty hC hty1 w).2.1, Sem.run_pure, Bool.false_eq_true, if_false, hn, hfit, hti, h1, h2,
    run_choose, Question.forced, hcut, run_askRoom, hold, Bool.not_false, if_true, hnew, hzr, Go.newRow, run_newObj]
  rfl
end

def isIntD : TypeDesc → Bool
  | .int _ => true
  | _ => false

def appendA (C : Cfg) (tys : List Nat) (args : List AV) (st : St) : Option (AV × St) :=
  match tys, args with
  | [t0, t1], [s, x] =>
    (match C.ty t0, C.ty t1 with
    | some (_, .slice elem), some (_, d1) => bif isIntD d1 then none else (match C.ty elem, zeroA C elem with
      | some (ei, _), some z =>
        (match srcA st ei.size x with
        | none => none
        | some (n, new) =>
          bif Nat.beq z.length ei.size && (Nat.ble 1 ei.bytes && Nat.ble 1 ei.size) then
            (match s with
            | .nils => bif Nat.beq n 0 then some (.nils, st) else
              bif Nat.ble (n * ei.bytes) 1099511627776 then
                (match newRow elem new st with | some (i, st') => some (.slu i 0 n ei.size n, st') | none => none)
              else none
            | .sl i off len cap =>
              bif Nat.ble (len + n) cap then
                bif Nat.beq n 0 then some (.sl i off len cap, st) else
                (match wrCells st i (off + len * ei.size) new with | some st' => some (.sl i off (len + n) cap, st') | none => none)
              else bif Nat.ble ((len + n) * ei.bytes) 1099511627776 then
                (match srcA st ei.size (.sl i off len cap) with
                | some (_, old) => (match newRow elem (old ++ new) st with | some (j, st') => some (.slu j 0 (len + n) ei.size (len + n), st') | none => none)
                | none => none)
              else none
            | .slu i off len sz lb =>
              bif Nat.beq n 0 then some (.slu i off len sz lb, st) else
              match (bif Nat.ble (len + n) lb && Nat.beq sz ei.size then wrCells st i (off + len * ei.size) new else none) with
              | some st' => some (.slu i off (len + n) sz lb, st')
              | none =>
              bif Nat.beq off 0 && (Nat.beq sz ei.size && (Nat.ble ((len + n) * ei.bytes) 1099511627776 && new.all AV.isCell)) then
                (match st.vis i with
                | some (.cells false e fr sh cs) =>
                  bif Nat.beq e elem && Nat.ble fr (len * ei.size) then
                    (match cs.row (len * ei.size) 0 with
                    | some old => (match newBlk (st.kill i) (.cells false elem fr sh (Tr.ofList (old ++ new) 0 .leaf)) with
                      | some (j, st') => some (.slu j 0 (len + n) ei.size (len + n), st')
                      | none => none)
                    | none => none)
                  else none
                | _ => none)
              else none
            | _ => none)
          else none)
      | _, _ => none)
    | _, _ => none)
  | _, _ => none

theorem newRow_more {w0 : World} {E : Env} {st st' : St} {w : World} (h : Sim w0 E st w) {i : Nat} {elem : TypeId} {as : List AV} (hn : newRow elem as st = some (i, st')) (hf : Fresh E st st') {vs : List Value} (hr : VsRel E as vs) (rest : Array Value) :
    ∃ E', Post w0 E st w E' st' (World.alloc { w with drawn := w.drawn + 1 } (.cells (vs.toArray ++ rest) elem)) ∧ E'.ρ i = w.heap.size ∧ E'.dom i ∧ E'.σ i = vs.length + rest.size := by
  obtain ⟨E', hp, hρ, hd, hσ⟩ := newBlk_cells (Post.drawn h (w.drawn + 1)).sim (w := { w with drawn := w.drawn + 1 }) hn hf hr (vs.toArray ++ rest) (0, 0) (fun j v hv => by
    have hj : j < vs.length := by
      rcases Nat.lt_or_ge j vs.length with h' | h'
      · exact h'
      · rw [List.getElem?_eq_none h'] at hv; cases hv
    rw [Array.getElem?_append_left (by simpa using hj)]
    simpa using hv) (fun o _ _ => by simp) (fun _ => .inl rfl) (World.alloc { w with drawn := w.drawn + 1 } (.cells (vs.toArray ++ rest) elem)) rfl rfl rfl rfl
  exact ⟨E', (Post.drawn h (w.drawn + 1)).trans hp, hρ, hd, by rw [hσ]; simp⟩

theorem appendA_sound {C : Cfg} (hC : C.Ok) {w0 : World} {E : Env} {st st' : St} {w : World} (h : Sim w0 E st w) {tys : Array TypeId} {ty : TypeId} {args : List AV} {vs : Array Value} {a : AV} (hs : appendA C tys.toList args st = some (a, st')) (hv : VsRel E args vs.toList) (hf : Fresh E st st') :
    Gives C w0 E st w (Builtin.append_ tys ty vs) a st' := by
  unfold appendA at hs
  split at hs
  · rename_i t0 t1 s x htys
    have htys' : tys = #[t0, t1] := by apply Array.ext'; simpa using htys
    obtain ⟨sv, xv, rfl, hsv, hxv⟩ : ∃ sv xv, vs = #[sv, xv] ∧ VRel E s sv ∧ VRel E x xv := by
      obtain ⟨vl⟩ := vs
      cases hv with
      | cons h1 hr => cases hr with
        | cons h2 hr2 => cases hr2; exact ⟨_, _, rfl, h1, h2⟩
    subst htys'
    split at hs
    · rename_i ti elem ti1 d1 hty hty1
      cases hid : isIntD d1 with
      | true => simp only [hid, cond_true, reduceCtorEq] at hs
      | false =>
      simp only [hid, cond_false] at hs
      have hni' : ∀ k, d1 ≠ .int k := fun k hk => by rw [hk] at hid; cases hid
      split at hs
      · rename_i ei ed z hety hz
        split at hs
        · cases hs
        · rename_i n new hsrc
          cases hk : (Nat.beq z.length ei.size && (Nat.ble 1 ei.bytes && Nat.ble 1 ei.size)) with
          | false => simp only [hk, cond_false, reduceCtorEq] at hs
          | true =>
            simp only [hk, cond_true] at hs
            simp only [Bool.and_eq_true] at hk
            have k1 := Nat.eq_of_beq_eq_true hk.1
            have k2 := Nat.le_of_ble_eq_true hk.2.1
            have k3 := Nat.le_of_ble_eq_true hk.2.2
            obtain ⟨ti', d', zv, hty', hzz, _, hzrel⟩ := zeroA_sound hC E hz w
            rw [hety] at hty'; cases hty'
            have hzs : zv.cells.size = ei.size := by have := hzrel.length; simp only [Array.length_toList] at this; omega
            obtain ⟨hlen, nv, hnv, hnrel⟩ := srcA_sound C.P h hsrc hxv
            obtain ⟨hlen1, nv1, hnv1, hnrel1⟩ := srcA_sound C.P (Sim.drawn h (w.drawn + 1)) hsrc hxv
            have hl1 := hnrel1.length
            split at hs
            · cases hsv
              rw [Tr.cbeq] at hs
              by_cases hn0 : n = 0
              · rw [if_pos hn0] at hs
                cases hs
                subst hn0
                exact Gives.pure h (run_append_in hC hty hety hty1 hni' (base := none) (sLen := 0) (sCap := 0) (w' := w) hlen hnv (by omega) rfl) .nils
              · rw [if_neg hn0] at hs
                cases hbb : Nat.ble (n * ei.bytes) 1099511627776 with
                | false => simp only [hbb, cond_false, reduceCtorEq] at hs
                | true =>
                  simp only [hbb, cond_true] at hs
                  have hbb' := Nat.le_of_ble_eq_true hbb
                  split at hs
                  · rename_i i st1 hnr
                    cases hs
                    obtain ⟨cap, rest, hc1, hc2, hrun⟩ := run_append_grow hC (ty := ty) hty hety hty1 hni' hzz hzs (base := none) (sLen := 0) (sCap := 0) (old := #[]) hlen rfl hnv1 (by omega) k2 (by simpa using hbb')
                    obtain ⟨E', hp, hρ, hd, hσ⟩ := newRow_more h hnr hf hnrel1 rest
                    refine ⟨E', _, _, hrun, by simpa using hp, ?_⟩
                    rw [← hρ]
                    simp only [Nat.zero_add] at hc1 hc2 ⊢
                    refine .slu _ _ _ _ _ _ _ hd hc1 (.inl rfl) ?_ hc1
                    rw [hσ, hc2]
                    have hnl : nv1.length = n * ei.size := by
                      have := srcA_len hsrc
                      omega
                    rw [hnl, ← Nat.add_mul]
                    have : n + (cap - n) = cap := by omega
                    rw [this]; omega
                  · cases hs
            · rename_i i off len cap
              have hsl := hsv
              cases hsv with
              | sl _ _ _ _ hd0 =>
              cases hfit : Nat.ble (len + n) cap with
              | true =>
                have hfit' := Nat.le_of_ble_eq_true hfit
                simp only [hfit, cond_true, Tr.cbeq] at hs
                by_cases hn0 : n = 0
                · rw [if_pos hn0] at hs
                  cases hs
                  subst hn0
                  have hnv0 : nv = [] := List.length_eq_zero_iff.1 (by have := hnrel.length; have := srcA_len hsrc; omega)
                  subst hnv0
                  exact Gives.pure h (run_append_in hC hty hety hty1 hni' (base := some _) (w' := w) hlen hnv hfit' rfl) (.sl _ _ _ _ hd0)
                · rw [if_neg hn0] at hs
                  split at hs
                  · rename_i st1 hw
                    cases hs
                    obtain ⟨w', hr, hp⟩ := wrCells_sound C.P h hw hnrel
                    refine ⟨E, w', _, run_append_in hC hty hety hty1 hni' (base := some _) (w' := w') hlen hnv hfit' ?_, hp, .sl _ _ _ _ hd0⟩
                    simp only [add_addr]
                    exact hr
                  · cases hs
              | false =>
                have hfit' : ¬ len + n ≤ cap := fun h' => by rw [Nat.ble_eq_true_of_le h'] at hfit; cases hfit
                simp only [hfit, cond_false] at hs
                cases hbb : Nat.ble ((len + n) * ei.bytes) 1099511627776 with
                | false => simp only [hbb, cond_false, reduceCtorEq] at hs
                | true =>
                  simp only [hbb, cond_true] at hs
                  have hbb' := Nat.le_of_ble_eq_true hbb
                  split at hs
                  · rename_i n2 old hold
                    split at hs
                    · rename_i j st1 hnr
                      cases hs
                      obtain ⟨ho1, ov, ho2, ho3⟩ := srcA_sound C.P (Sim.drawn h (w.drawn + 1)) hold hsl
                      have hn2 : n2 = len := by
                        simp only [Builtin.lenOf, Sem.run_pure, Result.ok.injEq, and_true] at ho1
                        exact ho1.symm
                      subst hn2
                      obtain ⟨cap', rest, hc1, hc2, hrun⟩ := run_append_grow hC (ty := ty) hty hety hty1 hni' hzz hzs hlen ho2 hnv1 hfit' k2 hbb'
                      obtain ⟨E', hp, hρ, hd, hσ⟩ := newRow_more h hnr hf (ho3.append hnrel1) rest
                      refine ⟨E', _, _, hrun, by simpa using hp, ?_⟩
                      rw [← hρ]
                      refine .slu _ _ _ _ _ _ _ hd hc1 (.inl rfl) ?_ hc1
                      rw [hσ, hc2, List.length_append]
                      have h3 : nv1.length = n * ei.size := by have := srcA_len hsrc; omega
                      have h4 : ov.length = n2 * ei.size := by have := srcA_len hold; have := ho3.length; omega
                      rw [h3, h4, ← Nat.add_mul, ← Nat.add_mul]
                      have : n2 + n + (cap' - (n2 + n)) = cap' := by omega
                      rw [this]; omega
                    · cases hs
                  · cases hs
            · rename_i i off len sz lb
              cases hsv with
              | slu _ _ _ _ _ off' c hd0 hlc ho hsz hlb =>
              rw [Tr.cbeq] at hs
              by_cases hn0 : n = 0
              · rw [if_pos hn0] at hs
                cases hs
                subst hn0
                have hnv0 : nv = [] := List.length_eq_zero_iff.1 (by have := hnrel.length; have := srcA_len hsrc; omega)
                subst hnv0
                exact Gives.pure h (run_append_in hC hty hety hty1 hni' (base := some _) (w' := w) hlen hnv (by omega) rfl) (.slu _ _ _ _ _ _ _ hd0 hlc ho hsz hlb)
              · rw [if_neg hn0] at hs
                cases hin : (bif Nat.ble (len + n) lb && Nat.beq sz ei.size then wrCells st i (off + len * ei.size) new else none) with
                | some st1 =>
                  simp only [hin] at hs
                  cases hin2 : (Nat.ble (len + n) lb && Nat.beq sz ei.size) with
                  | false => rw [hin2] at hin; cases hin
                  | true =>
                  rw [hin2, cond_true] at hin
                  simp only [Bool.and_eq_true] at hin2
                  have i1 := Nat.le_of_ble_eq_true hin2.1
                  have i2 := Nat.eq_of_beq_eq_true hin2.2
                  have hoff : off' = off := by rcases ho with ho | ⟨ho, ho'⟩ <;> omega
                  subst hoff
                  cases hs
                  obtain ⟨w', hr, hp⟩ := wrCells_sound C.P h hin hnrel
                  refine ⟨E, w', _, run_append_in hC hty hety hty1 hni' (base := some _) (w' := w') hlen hnv (by omega) ?_, hp, .slu _ _ _ _ _ _ _ hd0 (by omega) (.inl rfl) hsz hlb⟩
                  simp only [add_addr]
                  exact hr
                | none =>
                simp only [hin] at hs
                cases hbb : (Nat.beq off 0 && (Nat.beq sz ei.size && (Nat.ble ((len + n) * ei.bytes) 1099511627776 && new.all AV.isCell))) with
                | false => simp only [hbb, cond_false, reduceCtorEq] at hs
                | true =>
                  simp only [hbb, cond_true] at hs
                  simp only [Bool.and_eq_true] at hbb
                  have b1 := Nat.eq_of_beq_eq_true hbb.1
                  have b2 := Nat.eq_of_beq_eq_true hbb.2.1
                  have b3 := Nat.le_of_ble_eq_true hbb.2.2.1
                  have b4 := hbb.2.2.2
                  subst b1 b2
                  split at hs
                  · rename_i e fr sh cs hvis
                    cases hee : (Nat.beq e elem && Nat.ble fr (len * ei.size)) with
                    | false => simp only [hee, cond_false, reduceCtorEq] at hs
                    | true =>
                      simp only [hee, cond_true] at hs
                      simp only [Bool.and_eq_true] at hee
                      have e1 := Nat.eq_of_beq_eq_true hee.1
                      have e2 := Nat.le_of_ble_eq_true hee.2
                      subst e1
                      split at hs
                      · rename_i old hold
                        split at hs
                        · rename_i j st1 hnb
                          cases hs
                          have hcs : st.cellsOf i = some cs := by simp [St.cellsOf, hvis]
                          have hol := (Tr.row_spec _ _ _ _ hold).1
                          have hnl := srcA_len hsrc
                          by_cases hfit : len + n ≤ c
                          · -- in place
                            have hoff : off' = 0 := by rcases ho with ho | ⟨_, ho⟩ <;> omega
                            subst hoff
                            obtain ⟨hdi, D, fz, g1, g2, g3, g4, g5, g6, g7⟩ := h.live i _ hvis
                            have hnvl := hnrel.length
                            have hone : ∀ v ∈ nv, v.oneCell' = true := by
                              intro v hv
                              obtain ⟨q, hq, rfl⟩ := List.getElem_of_mem hv
                              have hqa : q < new.length := by omega
                              obtain ⟨u, hu, hru⟩ := hnrel.get q new[q] (List.getElem?_eq_getElem hqa)
                              rw [List.getElem?_eq_getElem hq] at hu
                              cases hu
                              exact hru.oneCell ((List.all_eq_true.1 b4) _ (List.getElem_mem hqa))
                            have hcs2 : (len + n) * ei.size ≤ E.σ i := by
                              have := Nat.mul_le_mul_right ei.size hfit
                              omega
                            rw [Nat.add_mul] at hcs2
                            obtain ⟨w', D', hrun, r1, r2, r3, r4, r5, r6, r7, r8⟩ := run_storeCells_block C.P (E.ρ i) (len * ei.size) nv 0 w D e fz g1 hone (by
                              intro o ho1 ho2
                              have hoc : o < D.size := by omega
                              exact ⟨hoc, g4 o (by omega) hoc⟩)
                            unfold newBlk at hnb
                            cases hh : hidden (st.kill i).hid (st.kill i).next with
                            | true => simp only [hh, cond_true, reduceCtorEq] at hnb
                            | false =>
                              simp only [hh, cond_false, Option.some.injEq, Prod.mk.injEq] at hnb
                              obtain ⟨rfl, rfl⟩ := hnb
                              have hnd : ¬ E.dom st.next := hf _ (Nat.le_refl _) (by simp [St.new, St.kill])
                              have hle := Env.le_add (E := E) (r := E.ρ i) (s := E.σ i) hnd
                              have hp := Post.alias h hvis rfl hnd hh w' r1 r2 r3 r4 r5 (b' := .cells false e fr sh (Tr.ofList (old ++ new) 0 .leaf)) (by
                                refine ⟨D', fz, by simpa [Env.add] using r6, by simp [Env.add, r7, g2], fun o a ho => ?_, fun o ho1 ho2 => g4 o ho1 (by omega), (fun he => by cases he), (fun _ => by simpa [Env.add] using g6 rfl), g7⟩
                                rw [Tr.get_ofList] at ho
                                split at ho
                                · rename_i hin
                                  rw [Nat.sub_zero, List.getElem?_append] at ho
                                  rw [r8]
                                  by_cases hlt : o < old.length
                                  · rw [if_pos hlt] at ho
                                    rw [if_neg (by omega)]
                                    have := (Tr.row_spec _ _ _ _ hold).2 o (by omega)
                                    rw [ho, Nat.zero_add] at this
                                    obtain ⟨v, q1, q2⟩ := g3 o a this.symm
                                    exact ⟨v, q1, q2.mono hle⟩
                                  · rw [if_neg hlt] at ho
                                    simp only [List.length_append] at hin
                                    rw [if_pos (by omega)]
                                    obtain ⟨v, q1, q2⟩ := hnrel.get _ a ho
                                    refine ⟨v, ?_, q2.mono hle⟩
                                    rw [← q1]
                                    congr 1; omega
                                · simp [Tr.get_leaf] at ho)
                              refine ⟨_, w', _, run_append_in hC hty hety hty1 hni' (base := some _) (w' := w') hlen hnv hfit ?_, hp, ?_⟩
                              · simp only [add_addr, Nat.zero_add]
                                exact hrun
                              · have hr := VRel.slu (E := E.add st.next (E.ρ i) (E.σ i)) st.next 0 (len + n) ei.size (len + n) 0 c (.inl rfl) hfit (.inl rfl) (by simpa [Env.add] using hsz) hfit
                                have e3 : (E.add st.next (E.ρ i) (E.σ i)).ρ st.next = E.ρ i := by simp [Env.add]
                                rw [e3] at hr
                                exact hr
                          · -- a new array
                            have h1 := Sim.drawn h (w.drawn + 1)
                            have hoo : off' = 0 ∨ len * ei.size = 0 := by
                              rcases ho with ho | ⟨ho, _⟩
                              · exact .inl ho
                              · right; rw [ho]; simp
                            obtain ⟨ov, ho2, ho3⟩ := row_off C.P h1 (off' := off') hcs hold hoo
                            obtain ⟨cap', rest, hc1, hc2, hrun⟩ := run_append_grow hC (ty := ty) hty hety hty1 hni' hzz hzs (base := some ⟨E.ρ i, off', none⟩) (sCap := c) hlen (old := ov.toArray) (by simp only [Builtin.firstCells]; exact ho2) hnv1 hfit k2 b3
                            have hkill := Post.kill h1 i
                            obtain ⟨E', hp, hρ, hd, hσ⟩ := newBlk_cells hkill.sim hnb (fun q hq1 hq2 => hf q (by simpa [St.kill] using hq1) hq2) (ho3.append hnrel1) ((ov ++ nv1).toArray ++ rest) (0, 0) (fun q v hq => by
                              have hj : q < (ov ++ nv1).length := by
                                rcases Nat.lt_or_ge q (ov ++ nv1).length with h' | h'
                                · exact h'
                                · rw [List.getElem?_eq_none h'] at hq; cases hq
                              rw [Array.getElem?_append_left (by simpa using hj)]
                              simpa using hq) (fun o _ _ => by simp) (fun _ => .inl rfl) (World.alloc { w with drawn := w.drawn + 1 } (.cells ((ov ++ nv1).toArray ++ rest) e)) rfl rfl rfl rfl
                            refine ⟨E', _, _, hrun, by simpa using ((Post.drawn h (w.drawn + 1)).trans hkill).trans hp, ?_⟩
                            have e3 : w.heap.size = E'.ρ j := hρ.symm
                            rw [e3]
                            refine .slu _ _ _ _ _ _ _ hd hc1 (.inl rfl) ?_ hc1
                            rw [hσ, Array.size_append, hc2]
                            have h3 : nv1.length = n * ei.size := by omega
                            have h4 : ov.length = len * ei.size := by have := ho3.length; omega
                            simp only [List.size_toArray, List.length_append]
                            rw [h3, h4, ← Nat.add_mul, ← Nat.add_mul]
                            have : len + n + (cap' - (len + n)) = cap' := by omega
                            rw [this]; omega
                        · cases hs
                      · cases hs
                  · cases hs
            · cases hs
      · cases hs
    · cases hs
  · cases hs
end Go.Proofs.YtfamacgopcfhhaaGreatDoor.Ax
