/-
  AN EXECUTOR OVER AN ABSTRACT MEMORY, PART L: unsafe strings, make, ranges over strings, calls.
-/
import Derived.Test.YtfamacgopcfhhaaGreatDoorAxK
namespace Go.Proofs.YtfamacgopcfhhaaGreatDoor.Ax
open Go.RowKit

def sliceDataA (args : List AV) : Option AV :=
  match args with
  | [.nils] => some .nilp
  | [.sl i off _ cap] => bif Nat.beq cap 0 then none else some (.ptr i off)
  | [.slu i off len _ _] => bif Nat.beq len 0 then none else some (.ptr i off)
  | _ => none

theorem sliceDataA_sound {C : Cfg} {w0 : World} {E : Env} {st : St} {w : World} (h : Sim w0 E st w) {tys : Array TypeId} {ty : TypeId} {args : List AV} {vs : Array Value} {a : AV} (hs : sliceDataA args = some a) (hv : VsRel E args vs.toList) :
    Gives C w0 E st w (Builtin.unsafeSliceData_ tys ty vs) a st := by
  unfold sliceDataA at hs
  split at hs
  · obtain ⟨u, rfl, hu⟩ := args1 hv
    cases hs; cases hu
    exact Gives.pure h rfl .nilp
  · rename_i i off len cap
    obtain ⟨u, rfl, hu⟩ := args1 hv
    simp only [Tr.cbeq] at hs
    cases hu with
    | sl _ _ _ _ hd =>
      by_cases hc : cap = 0
      · rw [if_pos hc] at hs; cases hs
      · rw [if_neg hc] at hs
        cases hs
        exact Gives.pure h (Lib.run_unsafeSliceData_row w tys ty _ len cap hc) (.ptr _ _ hd)
  · rename_i i off len sz lb
    obtain ⟨u, rfl, hu⟩ := args1 hv
    rw [Tr.cbeq] at hs
    cases hu with
    | slu _ _ _ _ _ off' c hd hl ho hsz _ =>
      by_cases hc : len = 0
      · rw [if_pos hc] at hs; cases hs
      · rw [if_neg hc] at hs
        cases hs
        have : off' = off := by rcases ho with ho | ⟨ho, _⟩ <;> omega
        subst this
        exact Gives.pure h (Lib.run_unsafeSliceData_row w tys ty _ len c (by omega)) (.ptr _ _ hd)
  · cases hs

def stringA (C : Cfg) (tys : List Nat) (args : List AV) (st : St) : Option (AV × St) :=
  match tys, args with
  | [pt, _], [p, .int .i64 (.ofNat n)] =>
    (match p with
    | .nilp => bif Nat.beq n 0 then some (.str .empty, st) else none
    | .ptr i off => bif Nat.beq n 0 then some (.str .empty, st) else
      bif Nat.beq off 0 && Nat.ble n 1099511627776 then
      (match C.ty pt with
      | some (_, .pointer e) => (match C.ty e, st.vis i with
        | some (ei, _), some (.cells false e' fr false cs) =>
          bif Nat.beq ei.size 1 && Nat.beq e' e then
            (match cs.row n 0 with
            | some as => (match asBytesA as with
              | some l => some (.str ⟨⟨l⟩⟩, st.put i (.cells false e' (bif Nat.ble fr n then n else fr) false cs))
              | none => none)
            | none => none)
          else none
        | _, _ => none)
      | _ => none) else none
    | _ => none)
  | _, _ => none

theorem stringA_sound {C : Cfg} (hC : C.Ok) {w0 : World} {E : Env} {st st' : St} {w : World} (h : Sim w0 E st w) {tys : Array TypeId} {ty : TypeId} {args : List AV} {vs : Array Value} {a : AV} (hs : stringA C tys.toList args st = some (a, st')) (hv : VsRel E args vs.toList) :
    Gives C w0 E st w (Builtin.unsafeString_ tys ty vs) a st' := by
  unfold stringA at hs
  split at hs
  · rename_i pt it p n htys
    obtain ⟨pv, nv, rfl, hp, hn⟩ := args2 hv
    have htys' : tys = #[pt, it] := by apply Array.ext'; simpa using htys
    subst htys'
    cases hn
    split at hs
    · rw [Tr.cbeq] at hs
      by_cases hn0 : n = 0
      · rw [if_pos hn0] at hs
        cases hs; cases hp
        subst hn0
        exact Gives.pure h (Lib.run_unsafeString_none w pt it ty none) (.str _)
      · rw [if_neg hn0] at hs; cases hs
    · rename_i i off
      rw [Tr.cbeq] at hs
      cases hp with
      | ptr _ _ hd =>
      by_cases hn0 : n = 0
      · rw [if_pos hn0] at hs
        cases hs
        subst hn0
        exact Gives.pure h (Lib.run_unsafeString_none w pt it ty _) (.str _)
      · rw [if_neg hn0] at hs
        cases hb : (Nat.beq off 0 && Nat.ble n 1099511627776) with
        | false => simp only [hb, cond_false, reduceCtorEq] at hs
        | true =>
          simp only [hb, cond_true] at hs
          simp only [Bool.and_eq_true] at hb
          have b1 := Nat.eq_of_beq_eq_true hb.1
          have b2 := Nat.le_of_ble_eq_true hb.2
          subst b1
          split at hs
          · rename_i pi e hpty
            split at hs
            · rename_i ei ed e' fr cs hety hvis
              cases hc : (Nat.beq ei.size 1 && Nat.beq e' e) with
              | false => simp only [hc, cond_false, reduceCtorEq] at hs
              | true =>
                simp only [hc, cond_true] at hs
                simp only [Bool.and_eq_true] at hc
                have c1 := Nat.eq_of_beq_eq_true hc.1
                have c2 := Nat.eq_of_beq_eq_true hc.2
                subst c2
                split at hs
                · rename_i as has
                  split at hs
                  · rename_i l hl
                    cases hs
                    obtain ⟨hdi, D, fz, g1, g2, g3, g4, g5, g6, g7⟩ := h.live i _ hvis
                    have hcs : st.cellsOf i = some cs := by simp [St.cellsOf, hvis]
                    obtain ⟨vs, h1, h2, h3, h4⟩ := row_load C.P h hcs has
                    have hvl := asBytesA_val as vs l hl h2
                    have hll : l.length = n := by rw [← h3, hvl, List.length_map]
                    obtain ⟨hty1, hu1⟩ := hC.ty _ _ _ hpty
                    have hcells : C.P.cellsOf e' = 1 := by simp [Program.cellsOf, (hC.ty _ _ _ hety).1, c1]
                    have hnD : l.length ≤ D.size := by
                      rcases Nat.lt_or_ge (l.length - 1) D.size with h' | h'
                      · omega
                      · have hj : l.length - 1 < l.length := by omega
                        have := h4 (l.length - 1) (byteV l[l.length - 1]) (by rw [hvl, List.getElem?_map, List.getElem?_eq_getElem hj]; rfl)
                        rw [cell_of g1, Array.getElem?_eq_none (by omega)] at this
                        cases this
                    have hrun := Lib.run_unsafeString_row (P := C.P) w pt it ty e' hu1 hcells (E.ρ i) D.size (by simp [World.shape?, g1]) l (by rintro rfl; simp at hll; omega) hnD (by omega) (fun j x hj => by
                      rw [add_addr]
                      exact h4 j (byteV x) (by rw [hvl, List.getElem?_map, hj]; rfl))
                    rw [hll] at hrun
                    have hblt : E.ρ i < w.heap.size := by
                      rcases Nat.lt_or_ge (E.ρ i) w.heap.size with h' | h'
                      · exact h'
                      · simp [Array.getElem?_eq_none h'] at g1
                    have hfz : (w.freeze ⟨E.ρ i, 0, none⟩ n).heap[E.ρ i]? = some (.cells D e' (if fz.1 == fz.2 then (0, n) else (0, max fz.2 n))) := by
                      obtain ⟨lo, hi⟩ := fz
                      simp only [World.freeze]
                      rw [if_neg hn0]
                      simp [Array.getElem?_modify, g1]
                    refine ⟨E, _, _, hrun, Post.upd h hvis rfl _ ?_ ?_ ?_ ?_ ?_ ⟨D, _, hfz, g2, g3, fun o ho1 ho2 => ?_, g5, g6, fun _ => ?_⟩, .str _⟩
                    · simp only [World.freeze]; rw [if_neg hn0]
                    · simp only [World.freeze]; rw [if_neg hn0]
                    · simp only [World.freeze]; rw [if_neg hn0]
                    · simp only [World.freeze]; rw [if_neg hn0]; simp
                    · intro k hk
                      simp only [World.freeze]; rw [if_neg hn0]
                      simp only [Array.getElem?_modify]
                      rw [if_neg (by omega)]
                    · have hmx : (bif Nat.ble fr n then n else fr) = max fr n := by
                        cases hq : Nat.ble fr n with
                        | true => have := Nat.le_of_ble_eq_true hq; simp; omega
                        | false =>
                          have : ¬ fr ≤ n := fun h' => by rw [Nat.ble_eq_true_of_le h'] at hq; cases hq
                          simp; omega
                      rw [hmx] at ho1
                      by_cases hlo : fz.1 = fz.2
                      · simp only [hlo, beq_self_eq_true, if_true]; omega
                      · have : (fz.1 == fz.2) = false := by simpa using hlo
                        simp only [this, Bool.false_eq_true, if_false]
                        rcases g7 rfl with g | g <;> omega
                    · have hmx : (bif Nat.ble fr n then n else fr) = max fr n := by
                        cases hq : Nat.ble fr n with
                        | true => have := Nat.le_of_ble_eq_true hq; simp; omega
                        | false =>
                          have : ¬ fr ≤ n := fun h' => by rw [Nat.ble_eq_true_of_le h'] at hq; cases hq
                          simp; omega
                      rw [hmx]
                      right
                      by_cases hlo : fz.1 = fz.2
                      · simp only [hlo, beq_self_eq_true, if_true]; omega
                      · have : (fz.1 == fz.2) = false := by simpa using hlo
                        simp only [this, Bool.false_eq_true, if_false]
                        rcases g7 rfl with g | g <;> omega
                  · cases hs
                · cases hs
            · cases hs
          · cases hs
    · cases hs
  · cases hs
end Go.Proofs.YtfamacgopcfhhaaGreatDoor.Ax
