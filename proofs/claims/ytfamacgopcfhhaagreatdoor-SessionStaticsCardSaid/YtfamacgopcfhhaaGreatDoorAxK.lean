/-
  AN EXECUTOR OVER AN ABSTRACT MEMORY, PART K: the other builtins, make, ranges over strings.
-/
import Derived.Test.YtfamacgopcfhhaaGreatDoorAxJ
namespace Go.Proofs.YtfamacgopcfhhaaGreatDoor.Ax
open Go.RowKit

def lenOfA : AV → Option Nat
  | .nils => some 0
  | .str s => some s.data.toList.length
  | .sl _ _ len _ => some len
  | .slu _ _ len _ _ => some len
  | _ => none

theorem lenOfA_sound {E : Env} {P : Program} {w : World} {x : AV} {v : Value} {n : Nat} (h : lenOfA x = some n) (hv : VRel E x v) : (Builtin.lenOf v).run P w = .ok n w := by
  unfold lenOfA at h
  split at h <;> cases h <;> cases hv <;> rfl

/-- The cells of the first n elements. -/
def srcN (st : St) (size n : Nat) (x : AV) : Option (List AV) :=
  match x with
  | .nils => some []
  | .str s => bif Nat.beq size 1 then some ((s.data.toList.take n).map byteA) else none
  | .sl i off _ _ => (match st.cellsOf i with
    | some cs => cs.row (n * size) off
    | none => none)
  | .slu i off len _ _ => bif Nat.ble n len then (match st.cellsOf i with
    | some cs => cs.row (n * size) off
    | none => none) else none
  | _ => none

theorem srcN_sound {w0 : World} {E : Env} {st : St} {w : World} (P : Program) (h : Sim w0 E st w) {size n : Nat} {x : AV} {v : Value} {as : List AV} (hs : srcN st size n x = some as) (hv : VRel E x v) :
    ∃ vs : List Value, (Builtin.firstCells size n v).run P w = .ok vs.toArray w ∧ VsRel E as vs := by
  unfold srcN at hs
  split at hs
  · cases hs; cases hv
    exact ⟨[], rfl, .nil⟩
  · rename_i s
    rw [Tr.cbeq] at hs
    by_cases hsz : size = 1
    case neg => rw [if_neg hsz] at hs; cases hs
    rw [if_pos hsz] at hs
    cases hs; cases hv
    refine ⟨(s.data.toList.take n).map byteV, ?_, bytes_rel E _⟩
    simp only [Builtin.firstCells, Sem.run_pure]
    congr 1
    apply Array.ext'
    have := Lib.extract_data s 0 n
    simp only [Nat.sub_zero, List.drop_zero] at this
    rw [Array.toList_map, this]
    rfl
  · split at hs
    · rename_i i off len cap cs hcs
      cases hv with
      | sl _ _ _ _ hd =>
        obtain ⟨vs, h1, h2, _⟩ := row_load P h hcs hs
        exact ⟨vs, by simp only [Builtin.firstCells]; exact h1, h2⟩
    · cases hs
  · rename_i i off len sz lb
    cases hb : Nat.ble n len with
    | false => simp only [hb, cond_false, reduceCtorEq] at hs
    | true =>
      simp only [hb, cond_true] at hs
      have hb' := Nat.le_of_ble_eq_true hb
      split at hs
      · rename_i cs hcs
        cases hv with
        | slu _ _ _ _ _ off' c hd hlc ho hsz _ =>
          have hoo : off' = off ∨ n * size = 0 := by
            rcases ho with ho | ⟨ho, _⟩
            · exact .inl ho
            · right
              have : n = 0 := by omega
              rw [this]; simp
          obtain ⟨vs, h1, h2⟩ := row_off P h (off' := off') hcs hs hoo
          exact ⟨vs, by simp only [Builtin.firstCells]; exact h1, h2⟩
      · cases hs
  · cases hs

def copyA (C : Cfg) (tys : List Nat) (args : List AV) (st : St) : Option (AV × St) :=
  match tys, args with
  | t0 :: _, [d, x] =>
    (match C.ty t0 with
    | some (_, .slice elem) => (match C.ty elem, lenOfA x with
      | some (ei, _), some n =>
          (match d with
          | .nils => some (.int .i64 0, st)
          | .sl i off len _ =>
            (match srcN st ei.size (Nat.min n len) x with
            | some cells => (match wrCells st i off cells with
              | some st' => some (.int .i64 (Int.ofNat (Nat.min n len)), st')
              | none => none)
            | none => none)
          | .slu i off len _ _ =>
            bif Nat.beq len 0 then some (.int .i64 0, st) else
            (match srcN st ei.size (Nat.min n len) x with
            | some cells => (match wrCells st i off cells with
              | some st' => some (.int .i64 (Int.ofNat (Nat.min n len)), st')
              | none => none)
            | none => none)
          | _ => none)
      | _, _ => none)
    | _ => none)
  | _, _ => none

theorem args2 {E : Env} {a b : AV} {vs : Array Value} (h : VsRel E [a, b] vs.toList) : ∃ u v, vs = #[u, v] ∧ VRel E a u ∧ VRel E b v := by
  obtain ⟨vl⟩ := vs
  cases h with
  | cons h1 hr => cases hr with
    | cons h2 hr2 => cases hr2; exact ⟨_, _, rfl, h1, h2⟩

theorem args1 {E : Env} {a : AV} {vs : Array Value} (h : VsRel E [a] vs.toList) : ∃ u, vs = #[u] ∧ VRel E a u := by
  obtain ⟨vl⟩ := vs
  cases h with
  | cons h1 hr => cases hr; exact ⟨_, rfl, h1⟩

theorem copyA_sound {C : Cfg} (hC : C.Ok) {w0 : World} {E : Env} {st st' : St} {w : World} (h : Sim w0 E st w) {tys : Array TypeId} {ty : TypeId} {args : List AV} {vs : Array Value} {a : AV} (hs : copyA C tys.toList args st = some (a, st')) (hv : VsRel E args vs.toList) :
    Gives C w0 E st w (Builtin.copy_ tys ty vs) a st' := by
  unfold copyA at hs
  split at hs
  · rename_i t0 rest d x htys
    obtain ⟨dv, xv, rfl, hd, hx⟩ := args2 hv
    have ht0 : tys[0]? = some t0 := by
      have : tys.toList[0]? = some t0 := by rw [htys]; rfl
      simpa using this
    split at hs
    · rename_i ti elem hty
      split at hs
      · rename_i ei ed n hety hlen
        have hl := lenOfA_sound (P := C.P) (w := w) hlen hx
        have key : ∀ (off : Nat) (i len c : Nat) (cells : List AV) (st1 : St), srcN st ei.size (Nat.min n len) x = some cells → wrCells st i off cells = some st1 → dv = .slice (some ⟨E.ρ i, off, none⟩) len c →
            Gives C w0 E st w (Builtin.copy_ tys ty #[dv, xv]) (.int .i64 (Int.ofNat (Nat.min n len))) st1 := by
          intro off i len c cells st1 h1 h2 h3
          obtain ⟨vs, r1, r2⟩ := srcN_sound C.P h h1 hx
          obtain ⟨w', r3, r4⟩ := wrCells_sound C.P h h2 r2
          refine ⟨E, w', goInt (Nat.min n len), ?_, r4, .int _ _⟩
          subst h3
          simp only [Builtin.copy_, ht0, List.getElem?_toArray, List.getElem?_cons_zero, List.getElem?_cons_succ, Sem.run_bind, (run_ty hC hty w).2.1, Result.andThen_ok, hl, (run_ty hC hety w).2.2, r1, r3, Sem.run_pure]
        split at hs
        · cases hs; cases hd
          refine Gives.pure h (v := goInt 0) ?_ (.int _ _)
          have r1 : (Builtin.firstCells ei.size 0 xv).run C.P w = .ok #[] w := by
            cases hx <;> first
              | (simp [lenOfA] at hlen; done)
              | (simp [Builtin.firstCells, loadCells, loadCellsFrom]; done)
          have hm : Nat.min n 0 = 0 := Nat.min_eq_right (Nat.zero_le n)
          simp only [Builtin.copy_, ht0, List.getElem?_toArray, List.getElem?_cons_zero, List.getElem?_cons_succ, Sem.run_bind, (run_ty hC hty w).2.1, Result.andThen_ok, hl, (run_ty hC hety w).2.2, hm, r1, Sem.run_pure]
          rfl
        · rename_i i off len cap
          split at hs
          · rename_i cells hc
            split at hs
            · rename_i st1 hw
              cases hs
              cases hd
              exact key _ _ _ _ _ _ hc hw rfl
            · cases hs
          · cases hs
        · rename_i i off len sz lb
          rw [Tr.cbeq] at hs
          by_cases hl0 : len = 0
          · rw [if_pos hl0] at hs
            cases hs
            subst hl0
            cases hd with
            | slu _ _ _ _ _ off' c hdd hlc ho hsz _ =>
            refine Gives.pure h (v := goInt 0) ?_ (.int _ _)
            have r1 : (Builtin.firstCells ei.size 0 xv).run C.P w = .ok #[] w := by
              cases hx <;> first
                | (simp [lenOfA] at hlen; done)
                | (simp [Builtin.firstCells, loadCells, loadCellsFrom]; done)
            have hm : Nat.min n 0 = 0 := Nat.min_eq_right (Nat.zero_le n)
            simp only [Builtin.copy_, ht0, List.getElem?_toArray, List.getElem?_cons_zero, List.getElem?_cons_succ, Sem.run_bind, (run_ty hC hty w).2.1, Result.andThen_ok, hl, (run_ty hC hety w).2.2, hm, r1, Sem.run_pure]
            rfl
          · rw [if_neg hl0] at hs
            split at hs
            · rename_i cells hc
              split at hs
              · rename_i st1 hw
                cases hs
                cases hd with
                | slu _ _ _ _ _ off' c hdd hlc ho hsz _ =>
                  have : off' = off := by rcases ho with ho | ⟨ho, _⟩ <;> omega
                  subst this
                  exact key _ _ _ _ _ _ hc hw rfl
              · cases hs
            · cases hs
        · cases hs
      · cases hs
    · cases hs
  · cases hs

/-! clear. -/
def clearA (C : Cfg) (tys : List Nat) (args : List AV) (st : St) : Option (AV × St) :=
  match tys, args with
  | t0 :: _, [x] =>
    (match C.ty t0 with
    | some (_, .slice elem) => (match zeroA C elem with
      | some z =>
          (match x with
          | .nils => some (.tup [], st)
          | .sl i off len _ => bif Nat.beq len 0 then some (.tup [], st) else
            (match wrCells st i off (rep z len) with
            | some st' => some (.tup [], st')
            | none => none)
          | .slu i off len _ _ => bif Nat.beq len 0 then some (.tup [], st) else
            (match wrCells st i off (rep z len) with
            | some st' => some (.tup [], st')
            | none => none)
          | _ => none)
      | none => none)
    | _ => none)
  | _, _ => none

theorem clearA_sound {C : Cfg} (hC : C.Ok) {w0 : World} {E : Env} {st st' : St} {w : World} (h : Sim w0 E st w) {tys : Array TypeId} {ty : TypeId} {args : List AV} {vs : Array Value} {a : AV} (hs : clearA C tys.toList args st = some (a, st')) (hv : VsRel E args vs.toList) :
    Gives C w0 E st w (Builtin.clear_ tys ty vs) a st' := by
  unfold clearA at hs
  split at hs
  · rename_i t0 rest x htys
    obtain ⟨xv, rfl, hx⟩ := args1 hv
    have ht0 : tys[0]? = some t0 := by
      have : tys.toList[0]? = some t0 := by rw [htys]; rfl
      simpa using this
    split at hs
    · rename_i ti elem hty
      split at hs
      · rename_i z hz
        obtain ⟨ei, ed, zv, hety, hzz, hzr, hzrel⟩ := zeroA_sound hC E hz w
        have e1 := (run_ty hC hty w).2.1
        have none0 : ∀ (p : Option Addr) (c : Nat), xv = .slice p 0 c → Gives C w0 E st w (Builtin.clear_ tys ty #[xv]) (.tup []) st := by
          rintro p c rfl
          refine Gives.pure h (v := .tuple #[]) ?_ (.tup _ _ .nil)
          simp only [Builtin.clear_, ht0, List.getElem?_toArray, List.getElem?_cons_zero, Sem.run_bind, e1, Result.andThen_ok]
          cases p <;> rfl
        have key : ∀ (i off len c : Nat) (st1 : St), len ≠ 0 → wrCells st i off (rep z len) = some st1 → xv = .slice (some ⟨E.ρ i, off, none⟩) len c →
            Gives C w0 E st w (Builtin.clear_ tys ty #[xv]) (.tup []) st1 := by
          rintro i off len c st1 hl hw rfl
          have hrr := rep_rel hzrel len
          have hlz : z.length = zv.cells.size := by have := hzrel.length; simpa using this
          rw [hlz] at hrr
          obtain ⟨w', r3, r4⟩ := wrCells_sound C.P h hw hrr
          refine ⟨E, w', .tuple #[], ?_, r4, .tup _ _ .nil⟩
          obtain ⟨n, rfl⟩ : ∃ n, len = n + 1 := ⟨len - 1, by omega⟩
          simp only [Builtin.clear_, ht0, List.getElem?_toArray, List.getElem?_cons_zero, Sem.run_bind, e1, Result.andThen_ok, hzr, Builtin.zeroCells]
          rw [r3]
          rfl
        split at hs
        · cases hs; cases hx; exact none0 none 0 rfl
        · rename_i i off len cap
          rw [Tr.cbeq] at hs
          by_cases hl0 : len = 0
          · rw [if_pos hl0] at hs
            cases hs; subst hl0; cases hx
            exact none0 _ _ rfl
          · rw [if_neg hl0] at hs
            split at hs
            · rename_i st1 hw
              cases hs; cases hx
              exact key _ _ _ _ _ hl0 hw rfl
            · cases hs
        · rename_i i off len sz lb
          rw [Tr.cbeq] at hs
          by_cases hl0 : len = 0
          · rw [if_pos hl0] at hs
            cases hs; subst hl0
            cases hx with
            | slu _ _ _ _ _ off' c hdd hlc ho hsz _ => exact none0 _ _ rfl
          · rw [if_neg hl0] at hs
            split at hs
            · rename_i st1 hw
              cases hs
              cases hx with
              | slu _ _ _ _ _ off' c hdd hlc ho hsz _ =>
                have : off' = off := by rcases ho with ho | ⟨ho, _⟩ <;> omega
                subst this
                exact key _ _ _ _ _ hl0 hw rfl
            · cases hs
        · cases hs
      · cases hs
    · cases hs
  · cases hs

/-! len, cap. -/
def lenA (C : Cfg) (tys : List Nat) (args : List AV) (st : St) : Option AV :=
  match tys, args with
  | t0 :: _, [x] =>
    (match C.ty t0, x with
    | some (_, .string), .str s => some (.int .i64 (Int.ofNat s.data.toList.length))
    | some (_, .array n _), _ => some (.int .i64 (Int.ofNat n))
    | some (_, .pointer arr), _ => (match C.ty arr with | some (_, .array n _) => some (.int .i64 (Int.ofNat n)) | _ => none)
    | some (_, .slice _), .nils => some (.int .i64 0)
    | some (_, .slice _), .sl _ _ n _ => some (.int .i64 (Int.ofNat n))
    | some (_, .slice _), .slu _ _ n _ _ => some (.int .i64 (Int.ofNat n))
    | some (_, .map _ _), .nilm => some (.int .i64 0)
    | some (_, .map _ _), .mp i => (match st.vis i with | some (.mapb es _) => some (.int .i64 (Int.ofNat es.length)) | _ => none)
    | _, _ => none)
  | _, _ => none

theorem EsRel.length {E : Env} : ∀ {es : List (AV × AV × Nat)} {fs : List MapEntry}, EsRel E es fs → es.length = fs.length
  | _, _, .nil => rfl
  | _, _, .cons _ _ hs => by simp [EsRel.length hs]

theorem lenA_sound {C : Cfg} (hC : C.Ok) {w0 : World} {E : Env} {st : St} {w : World} (h : Sim w0 E st w) {tys : Array TypeId} {ty : TypeId} {args : List AV} {vs : Array Value} {a : AV} (hs : lenA C tys.toList args st = some a) (hv : VsRel E args vs.toList) :
    Gives C w0 E st w (Builtin.len_ tys ty vs) a st := by
  unfold lenA at hs
  split at hs
  · rename_i t0 rest x htys
    obtain ⟨xv, rfl, hx⟩ := args1 hv
    have ht0 : tys[0]? = some t0 := by
      have : tys.toList[0]? = some t0 := by rw [htys]; rfl
      simpa using this
    split at hs
    · rename_i ti s hty
      cases hs; cases hx
      exact Gives.pure h (v := goInt s.size) (by simp [Builtin.len_, ht0, (run_ty hC hty w).2.1]) (.int _ _)
    · rename_i ti n e hty
      cases hs
      exact Gives.pure h (v := goInt n) (by simp [Builtin.len_, ht0, (run_ty hC hty w).2.1]) (.int _ _)
    · rename_i ti arr hty
      split at hs
      · rename_i ai n e haty
        cases hs
        exact Gives.pure h (v := goInt n) (by simp [Builtin.len_, ht0, (run_ty hC hty w).2.1, (run_ty hC haty w).2.1]) (.int _ _)
      · cases hs
    · rename_i ti e hty
      cases hs; cases hx
      exact Gives.pure h (v := goInt (0 : Nat)) (by simp [Builtin.len_, ht0, (run_ty hC hty w).2.1]) (.int _ _)
    · rename_i ti e i off n cap hty
      cases hs; cases hx
      exact Gives.pure h (v := goInt n) (by simp [Builtin.len_, ht0, (run_ty hC hty w).2.1]) (.int _ _)
    · rename_i ti e i off n sz lb hty
      cases hs; cases hx
      exact Gives.pure h (v := goInt n) (by simp [Builtin.len_, ht0, (run_ty hC hty w).2.1]) (.int _ _)
    · rename_i ti k e hty
      cases hs; cases hx
      exact Gives.pure h (v := goInt 0) (by simp [Builtin.len_, ht0, (run_ty hC hty w).2.1]) (.int _ _)
    · rename_i ti k e i hty
      split at hs
      · rename_i es clock hvis
        cases hs; cases hx
        obtain ⟨_, D, h1, h2, _⟩ := h.live i _ hvis
        have hl := h2.length
        simp only [Array.length_toList] at hl
        have hg : (getObj (E.ρ i)).run C.P w = .ok (.map D clock) w := by simp [getObj, Sem.run, h1]
        exact Gives.pure h (v := goInt D.size) (by simp [Builtin.len_, ht0, (run_ty hC hty w).2.1, hg]) (by rw [hl]; exact .int _ _)
      · cases hs
    · cases hs
  · cases hs

def capA (C : Cfg) (tys : List Nat) (args : List AV) : Option AV :=
  match tys, args with
  | t0 :: _, [x] =>
    (match C.ty t0, x with
    | some (_, .slice _), .nils => some (.int .i64 0)
    | some (_, .slice _), .sl _ _ _ c => some (.int .i64 (Int.ofNat c))
    | _, _ => none)
  | _, _ => none

theorem capA_sound {C : Cfg} (hC : C.Ok) {w0 : World} {E : Env} {st : St} {w : World} (h : Sim w0 E st w) {tys : Array TypeId} {ty : TypeId} {args : List AV} {vs : Array Value} {a : AV} (hs : capA C tys.toList args = some a) (hv : VsRel E args vs.toList) :
    Gives C w0 E st w (Builtin.cap_ tys ty vs) a st := by
  unfold capA at hs
  split at hs
  · rename_i t0 rest x htys
    obtain ⟨xv, rfl, hx⟩ := args1 hv
    have ht0 : tys[0]? = some t0 := by
      have : tys.toList[0]? = some t0 := by rw [htys]; rfl
      simpa using this
    split at hs
    · rename_i ti e hty
      cases hs; cases hx
      exact Gives.pure h (v := goInt (0 : Nat)) (by simp [Builtin.cap_, ht0, (run_ty hC hty w).2.1]) (.int _ _)
    · rename_i ti e i off n cap hty
      cases hs; cases hx
      exact Gives.pure h (v := goInt cap) (by simp [Builtin.cap_, ht0, (run_ty hC hty w).2.1]) (.int _ _)
    · cases hs
  · cases hs

/-! min, max of whole numbers. -/
def minA : AV → List AV → Option AV
  | x, [] => some x
  | .int k x, .int _ y :: l => minA (.int k (bif ilt y x then y else x)) l
  | _, _ => none

def maxA : AV → List AV → Option AV
  | x, [] => some x
  | .int k x, .int _ y :: l => maxA (.int k (bif ilt x y then y else x)) l
  | _, _ => none

theorem minA_sound {E : Env} {P : Program} {w : World} : ∀ (l : List AV) (x a : AV) (v : Value) (vs : List Value), minA x l = some a → VRel E x v → VsRel E l vs → ∃ u, (vs.foldlM Builtin.min2 v : Sem Value).run P w = .ok u w ∧ VRel E a u
  | [], x, a, v, vs, h, hv, hs => by
    cases hs
    cases x <;> simp only [minA, Option.some.injEq] at h <;> subst h <;> exact ⟨v, rfl, hv⟩
  | y :: l, x, a, v, vs, h, hv, hs => by
    cases hs with
    | cons hy hs =>
      cases x <;> try (simp only [minA, reduceCtorEq] at h; done)
      cases y <;> try (simp only [minA, reduceCtorEq] at h; done)
      cases hv; cases hy
      rename_i us k n k' m
      simp only [minA] at h
      obtain ⟨u, h1, h2⟩ := minA_sound l _ a (.int k (if m < n then m else n)) _ h (.ofInt (by rw [ilt_eq]; by_cases hmn : m < n <;> simp [hmn])) hs
      exact ⟨u, by simp only [List.foldlM_cons, Builtin.min2, Sem.run_bind, Sem.run_pure, Result.andThen_ok]; exact h1, h2⟩

theorem maxA_sound {E : Env} {P : Program} {w : World} : ∀ (l : List AV) (x a : AV) (v : Value) (vs : List Value), maxA x l = some a → VRel E x v → VsRel E l vs → ∃ u, (vs.foldlM Builtin.max2 v : Sem Value).run P w = .ok u w ∧ VRel E a u
  | [], x, a, v, vs, h, hv, hs => by
    cases hs
    cases x <;> simp only [maxA, Option.some.injEq] at h <;> subst h <;> exact ⟨v, rfl, hv⟩
  | y :: l, x, a, v, vs, h, hv, hs => by
    cases hs with
    | cons hy hs =>
      cases x <;> try (simp only [maxA, reduceCtorEq] at h; done)
      cases y <;> try (simp only [maxA, reduceCtorEq] at h; done)
      cases hv; cases hy
      rename_i us k n k' m
      simp only [maxA] at h
      obtain ⟨u, h1, h2⟩ := maxA_sound l _ a (.int k (if n < m then m else n)) _ h (.ofInt (by rw [ilt_eq]; by_cases hmn : n < m <;> simp [hmn])) hs
      exact ⟨u, by simp only [List.foldlM_cons, Builtin.max2, Sem.run_bind, Sem.run_pure, Result.andThen_ok]; exact h1, h2⟩
end Go.Proofs.YtfamacgopcfhhaaGreatDoor.Ax
