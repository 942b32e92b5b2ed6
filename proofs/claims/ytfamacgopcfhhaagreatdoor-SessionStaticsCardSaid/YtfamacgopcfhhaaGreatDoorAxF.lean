/-
  AN EXECUTOR OVER AN ABSTRACT MEMORY, PART F: fields, indexes, slices of slices and strings, conversions.
-/
import Derived.Test.YtfamacgopcfhhaaGreatDoorAxE
namespace Go.Proofs.YtfamacgopcfhhaaGreatDoor.Ax
open Go.RowKit

def natOf : AV → Option Nat
  | .int _ (.ofNat n) => some n
  | _ => none

theorem natOf_spec {E : Env} {a : AV} {v : Value} {n : Nat} (h : natOf a = some n) (hv : VRel E a v) : ∃ k, a = .int k n ∧ v = .int k n := by
  unfold natOf at h
  split at h
  · rename_i k m
    simp only [Option.some.injEq] at h
    subst h
    cases hv
    exact ⟨k, rfl, rfl⟩
  · cases h

def partA (C : Cfg) (t : Nat) (cs : List AV) (off : Nat) : Option AV :=
  match C.ty t with
  | none => none
  | some (ti, d) => bif isAggD d then some (.agg ((cs.drop off).take ti.size)) else nth cs off

theorem partA_sound {C : Cfg} (hC : C.Ok) {E : Env} {t off : Nat} {cs : List AV} {vs : Array Value} {a : AV} (hp : partA C t cs off = some a) (hv : VsRel E cs vs.toList) (w : World) :
    ∃ v, (part t vs off).run C.P w = .ok v w ∧ VRel E a v := by
  unfold partA at hp
  cases hty : C.ty t with
  | none => simp [hty] at hp
  | some p =>
    obtain ⟨ti, d⟩ := p
    simp only [hty] at hp
    cases hd : isAggD d with
    | true =>
      simp only [hd, cond_true, Option.some.injEq] at hp
      subst hp
      refine ⟨_, by simp [part, run_isAgg hC hty, hd, (run_ty hC hty w).2.2]; rfl, .agg _ _ ?_⟩
      have : (vs.extract off (off + ti.size)).toList = (vs.toList.drop off).take ti.size := by
        rw [Array.toList_extract, List.extract_eq_take_drop]
        congr 1; omega
      rw [this]
      exact (hv.drop off).take ti.size
    | false =>
      simp only [hd, cond_false, nth_eq] at hp
      obtain ⟨v, h1, h2⟩ := hv.get _ _ hp
      rw [Array.getElem?_toList] at h1
      exact ⟨v, by simp [part, run_isAgg hC hty, hd, h1], h2⟩

def fieldA (C : Cfg) (t : Nat) (x : AV) (n : Nat) : Option AV :=
  match C.ty t with
  | some (_, .struct fields) => (match nth fields.toList n, x with
    | some f, .agg cs => partA C f.type cs f.offset
    | _, _ => none)
  | _ => none

theorem fieldA_sound {C : Cfg} (hC : C.Ok) {w0 : World} {E : Env} {st : St} {w : World} (h : Sim w0 E st w) {t n : Nat} {x a : AV} {v : Value} (hf : fieldA C t x n = some a) (hv : VRel E x v) : Gives C w0 E st w (Instr.field t v n) a st := by
  unfold fieldA at hf
  split at hf
  · rename_i ti fields hty
    split at hf
    · rename_i f cs hn
      cases hv with
      | agg _ vs hvs =>
        obtain ⟨u, hr, hrel⟩ := partA_sound hC hf hvs w
        rw [nth_eq, Array.getElem?_toList] at hn
        exact Gives.pure h (by simp [Instr.field, (run_ty hC hty w).2.1, hn, asAgg, hr]) hrel
    · cases hf
  · cases hf

def fieldAtA (C : Cfg) (t : Nat) (x : AV) (n : Nat) : Option AV :=
  match C.ty t with
  | some (_, .struct fields) => (match nth fields.toList n, x with
    | some f, .ptr i off => (match C.ty f.type with
      | some (ti, _) => bif Nat.beq ti.size 0 then none else some (.ptr i (off + f.offset))
      | none => none)
    | _, _ => none)
  | _ => none

theorem fieldAtA_sound {C : Cfg} (hC : C.Ok) {w0 : World} {E : Env} {st : St} {w : World} (h : Sim w0 E st w) {t n : Nat} {x a : AV} {v : Value} (hf : fieldAtA C t x n = some a) (hv : VRel E x v) : Gives C w0 E st w (Instr.fieldAt t v n) a st := by
  unfold fieldAtA at hf
  split at hf
  · rename_i ti fields hty
    split at hf
    · rename_i f i off hn
      cases hv with
      | ptr _ _ hd =>
        split at hf
        · rename_i fi fd hfty
          rw [Tr.cbeq] at hf
          by_cases hz : fi.size = 0
          · rw [if_pos hz] at hf; cases hf
          · rw [if_neg hz] at hf
            cases hf
            rw [nth_eq, Array.getElem?_toList] at hn
            refine Gives.pure h (v := .pointer (some ⟨E.ρ i, off + f.offset, none⟩)) ?_ (.ptr _ _ hd)
            simp [Instr.fieldAt, (run_ty hC hty w).2.1, hn, Instr.sureAddr, fieldPlace, (run_ty hC hfty w).2.2, hz, add_addr]
        · cases hf
    · cases hf
  · cases hf

def indexA (C : Cfg) (t : Nat) (x i : AV) : Option AV :=
  match natOf i with
  | none => none
  | some n => match C.ty t, x with
    | some (_, .array len elem), .agg cs => (match C.ty elem with
      | some (ei, _) => bif Nat.blt n len then partA C elem cs (n * ei.size) else none
      | none => none)
    | some (_, .string), .str s => (match nth s.data.toList n with
      | some b => some (.int .u8 (Int.ofNat b.toNat))
      | none => none)
    | _, _ => none

theorem indexA_sound {C : Cfg} (hC : C.Ok) {w0 : World} {E : Env} {st : St} {w : World} (h : Sim w0 E st w) {t : Nat} {x i a : AV} {v j : Value} (hf : indexA C t x i = some a) (hv : VRel E x v) (hj : VRel E i j) : Gives C w0 E st w (Instr.index t v j) a st := by
  unfold indexA at hf
  cases hn : natOf i with
  | none => simp [hn] at hf
  | some n =>
    obtain ⟨k, rfl, rfl⟩ := natOf_spec hn hj
    simp only [hn] at hf
    split at hf
    · rename_i ti len elem cs hty
      split at hf
      · rename_i ei ed hety
        cases hb : Nat.blt n len with
        | false => simp [hb] at hf
        | true =>
          have hlt := Nat.blt_eq.mp hb
          simp only [hb, cond_true] at hf
          cases hv with
          | agg _ vs hvs =>
            obtain ⟨u, hr, hrel⟩ := partA_sound hC hf hvs w
            refine Gives.pure h (v := u) ?_ hrel
            simp [Instr.index, asIntOf, (run_ty hC hty w).2.1, (run_ty hC hety w).2.2, hlt, hr]
      · cases hf
    · rename_i ti s hty
      split at hf
      · rename_i b hb
        cases hf
        cases hv
        rw [nth_eq] at hb
        refine Gives.pure h (v := .int .u8 b.toNat) ?_ (.int _ _)
        have hb' : s[n]? = some b := by
          have h3 : s.data[n]? = some b := by simpa using hb
          have hlt : n < s.data.size := by
            rcases Nat.lt_or_ge n s.data.size with h' | h'
            · exact h'
            · rw [Array.getElem?_eq_none h'] at h3; cases h3
          rw [Array.getElem?_eq_getElem hlt] at h3
          rw [getElem?_pos s n hlt]
          exact h3
        simp [Instr.index, asIntOf, (run_ty hC hty w).2.1, hb']
      · cases hf
    · cases hf

def indexAtA (C : Cfg) (t : Nat) (x i : AV) : Option AV :=
  match natOf i with
  | none => none
  | some n => match C.ty t with
    | some (_, .array len elem) => (match C.ty elem, x with
      | some (ei, _), .ptr b off => bif Nat.blt n len then some (.ptr b (off + n * ei.size)) else none
      | _, _ => none)
    | some (_, .slice elem) => (match C.ty elem, x with
      | some (ei, _), .sl b off len _ => bif Nat.blt n len then some (.ptr b (off + n * ei.size)) else none
      | some (ei, _), .slu b off len _ _ => bif Nat.blt n len then some (.ptr b (off + n * ei.size)) else none
      | _, _ => none)
    | _ => none

theorem indexAtA_sound {C : Cfg} (hC : C.Ok) {w0 : World} {E : Env} {st : St} {w : World} (h : Sim w0 E st w) {t : Nat} {x i a : AV} {v j : Value} (hf : indexAtA C t x i = some a) (hv : VRel E x v) (hj : VRel E i j) : Gives C w0 E st w (Instr.indexAt t v j) a st := by
  unfold indexAtA at hf
  cases hn : natOf i with
  | none => simp [hn] at hf
  | some n =>
    obtain ⟨k, rfl, rfl⟩ := natOf_spec hn hj
    simp only [hn] at hf
    split at hf
    · rename_i ti len elem hty
      split at hf
      · rename_i ei ed b off hety
        cases hb : Nat.blt n len with
        | false => simp [hb] at hf
        | true =>
          have hlt := Nat.blt_eq.mp hb
          simp only [hb, cond_true, Option.some.injEq] at hf
          subst hf
          cases hv with
          | ptr _ _ hd =>
            refine Gives.pure h (v := .pointer (some ⟨E.ρ b, off + n * ei.size, none⟩)) ?_ (.ptr _ _ hd)
            simp [Instr.indexAt, asIntOf, (run_ty hC hty w).2.1, (run_ty hC hety w).2.2, hlt, Instr.sureAddr, add_addr]
      · cases hf
    · rename_i ti elem hty
      split at hf
      · rename_i ei ed b off len cap hety
        cases hb : Nat.blt n len with
        | false => simp [hb] at hf
        | true =>
          have hlt := Nat.blt_eq.mp hb
          simp only [hb, cond_true, Option.some.injEq] at hf
          subst hf
          cases hv with
          | sl _ _ _ _ hd =>
            refine Gives.pure h (v := .pointer (some ⟨E.ρ b, off + n * ei.size, none⟩)) ?_ (.ptr _ _ hd)
            simp [Instr.indexAt, asIntOf, (run_ty hC hty w).2.1, (run_ty hC hety w).2.2, hlt, add_addr]
      · rename_i ei ed b off len sz lb hety
        cases hb : Nat.blt n len with
        | false => simp [hb] at hf
        | true =>
          have hlt := Nat.blt_eq.mp hb
          simp only [hb, cond_true, Option.some.injEq] at hf
          subst hf
          cases hv with
          | slu _ _ _ _ _ off' c hd hl ho hs _ =>
            have : off' = off := by rcases ho with ho | ⟨ho, _⟩ <;> omega
            subst this
            refine Gives.pure h (v := .pointer (some ⟨E.ρ b, off' + n * ei.size, none⟩)) ?_ (.ptr _ _ hd)
            simp [Instr.indexAt, asIntOf, (run_ty hC hty w).2.1, (run_ty hC hety w).2.2, hlt, add_addr]
      · cases hf
    · cases hf

/-! Slicing. -/
def boundA (x : Option AV) (dflt y : Nat) : Option Nat :=
  match x with
  | none => some dflt
  | some a => match natOf a with
    | none => none
    | some n => bif Nat.ble n y then some n else none

inductive OptRel (E : Env) : Option AV → Option Value → Prop
  | none : OptRel E none none
  | some {a : AV} {v : Value} (h : VRel E a v) : OptRel E (some a) (some v)

theorem bound_run {E : Env} {x : AV} {u : Value} {d y n : Nat} (h : boundA (some x) d y = some n) (hr : VRel E x u) (P : Program) (w : World) (code : BoundsCode) : (Instr.sliceBound u y code).run P w = .ok n w ∧ n ≤ y := by
  unfold boundA at h
  cases hn : natOf x with
  | none => simp [hn] at h
  | some m =>
    simp only [hn] at h
    cases hb : Nat.ble m y with
    | false => simp [hb] at h
    | true =>
      simp only [hb, cond_true, Option.some.injEq] at h
      subst h
      obtain ⟨k, rfl, rfl⟩ := natOf_spec hn hr
      have hle := Nat.le_of_ble_eq_true hb
      exact ⟨by rw [run_sliceBound _ _ _ _ _ (by omega) (by omega)]; simp, hle⟩

/-- low, high, max within len and cap. -/
def boundsA (len cap : Nat) (lo hi mx : Option AV) : Option (Nat × Nat × Nat) :=
  match boundA mx cap cap with
  | none => none
  | some m => match mx, hi with
    | some _, none => none
    | _, _ => match boundA hi len m with
      | none => none
      | some h => match boundA lo 0 h with
        | none => none
        | some l => some (l, h, m)

theorem boundsA_sound {E : Env} {len cap : Nat} {lo hi mx : Option AV} {ul uh um : Option Value} {l h m : Nat} (hb : boundsA len cap lo hi mx = some (l, h, m)) (hlc : len ≤ cap) (h1 : OptRel E lo ul) (h2 : OptRel E hi uh) (h3 : OptRel E mx um) (isSlice : Bool) (P : Program) (w : World) :
    (Instr.sliceBounds isSlice len cap ul uh um).run P w = .ok (l, h, m) w ∧ l ≤ h ∧ h ≤ m ∧ m ≤ cap := by
  unfold boundsA at hb
  cases hm : boundA mx cap cap with
  | none => simp [hm] at hb
  | some m' =>
    simp only [hm] at hb
    have key : ∀ hh ll, boundA hi len m' = some hh → boundA lo 0 hh = some ll → (ll, hh, m') = (l, h, m) → (mx = none ∨ hi ≠ none) → (Instr.sliceBounds isSlice len cap ul uh um).run P w = .ok (l, h, m) w ∧ l ≤ h ∧ h ≤ m ∧ m ≤ cap := by
      intro hh ll e1 e2 e3 e4
      cases e3
      have hmc : m ≤ cap ∧ ∀ code, (match um with | some v => Instr.sliceBound v cap code | none => pure cap).run P w = .ok m w := by
        cases h3 with
        | none => simp only [boundA, Option.some.injEq] at hm; subst hm; exact ⟨Nat.le_refl _, fun _ => rfl⟩
        | some hr => exact ⟨(bound_run hm hr P w .index).2, fun code => (bound_run hm hr P w code).1⟩
      have hhm : h ≤ m ∧ ∀ c1 c2, (match uh, um with | some v, some _ => Instr.sliceBound v m c1 | some v, none => Instr.sliceBound v cap c2 | none, none => pure len | none, some _ => stuck "Slice: max without high").run P w = .ok h w := by
        cases h2 with
        | none =>
          simp only [boundA, Option.some.injEq] at e1
          subst e1
          cases h3 with
          | none => simp only [boundA, Option.some.injEq] at hm; subst hm; exact ⟨hlc, fun _ _ => rfl⟩
          | some hr => rcases e4 with e4 | e4 <;> simp at e4
        | some hr =>
          refine ⟨(bound_run e1 hr P w .index).2, fun c1 c2 => ?_⟩
          cases h3 with
          | none => simp only [boundA, Option.some.injEq] at hm; subst hm; exact (bound_run e1 hr P w c2).1
          | some _ => exact (bound_run e1 hr P w c1).1
      have hll : l ≤ h ∧ ∀ code, (match ul with | some v => Instr.sliceBound v h code | none => pure 0).run P w = .ok l w := by
        cases h1 with
        | none => simp only [boundA, Option.some.injEq] at e2; subst e2; exact ⟨Nat.zero_le _, fun _ => rfl⟩
        | some hr => exact ⟨(bound_run e2 hr P w .index).2, fun code => (bound_run e2 hr P w code).1⟩
      refine ⟨?_, hll.1, hhm.1, hmc.1⟩
      unfold Instr.sliceBounds
      cases um <;> cases uh <;> cases ul <;> simp_all
    split at hb
    · cases hb
    · rename_i hne
      cases hh : boundA hi len m' with
      | none => simp [hh] at hb
      | some h' =>
        cases hl : boundA lo 0 h' with
        | none => simp [hh, hl] at hb
        | some l' =>
          simp only [hh, hl, Option.some.injEq] at hb
          refine key h' l' hh hl hb ?_
          cases hi with
          | none => cases mx with
            | none => exact .inl rfl
            | some x => exact absurd rfl (hne x rfl)
          | some x => exact .inr (by simp)

def sliceA (C : Cfg) (t : Nat) (x : AV) (lo hi mx : Option AV) : Option AV :=
  match C.ty t with
  | some (_, .array n elem) => (match C.ty elem, x, boundsA n n lo hi mx with
    | some (ei, _), .ptr i off, some (l, h, m) => some (.sl i (bif Nat.beq m l then off else off + l * ei.size) (h - l) (m - l))
    | _, _, _ => none)
  | some (_, .string) => (match x, mx with
    | .str s, none => (match boundsA s.data.toList.length s.data.toList.length lo hi none with
      | some (l, h, _) => some (.str ⟨⟨(s.data.toList.drop l).take (h - l)⟩⟩)
      | none => none)
    | _, _ => none)
  | some (_, .slice elem) => (match C.ty elem with
    | none => none
    | some (ei, _) => match x with
      | .nils => (match boundsA 0 0 lo hi mx with
        | some _ => some .nils
        | none => none)
      | .sl i off len cap => bif Nat.ble len cap then (match boundsA len cap lo hi mx with
        | some (l, h, m) => some (.sl i (bif Nat.beq m l then off else off + l * ei.size) (h - l) (m - l))
        | none => none) else none
      | .slu i off len sz lb => (match mx with
        | none => (match boundsA len (Nat.max len lb) lo hi none with
          | some (l, h, _) => bif Nat.beq sz ei.size then some (.slu i (off + l * ei.size) (h - l) sz (lb - l)) else none
          | none => none)
        | some _ => (match boundsA len len lo hi mx with
          | some (l, h, m) => bif Nat.beq len 0 then none else some (.sl i (bif Nat.beq m l then off else off + l * ei.size) (h - l) (m - l))
          | none => none))
      | _ => none)
  | _ => none

theorem boundA_mono {x : Option AV} {d y c n : Nat} (h : boundA x d y = some n) (hc : y ≤ c) : boundA x d c = some n := by
  cases x with
  | none => exact h
  | some a =>
    simp only [boundA] at h ⊢
    cases hn : natOf a with
    | none => simp only [hn, reduceCtorEq] at h
    | some m =>
      simp only [hn] at h ⊢
      cases hb : Nat.ble m y with
      | false => simp only [hb, cond_false, reduceCtorEq] at h
      | true =>
        have := Nat.le_of_ble_eq_true hb
        simp only [hb, cond_true] at h
        rw [Nat.ble_eq_true_of_le (show m ≤ c by omega), cond_true]
        exact h

theorem boundsA_none (len c : Nat) (lo hi : Option AV) : boundsA len c lo hi none = (match boundA hi len c with | none => none | some h => match boundA lo 0 h with | none => none | some l => some (l, h, c)) := by
  unfold boundsA
  simp only [show boundA none c c = some c from rfl]

theorem boundsA_le {E : Env} {len d c : Nat} {lo hi : Option AV} {ul uh : Option Value} {l h m : Nat} (hb : boundsA len d lo hi none = some (l, h, m)) (hld : len ≤ d) (hc : d ≤ c) (h1 : OptRel E lo ul) (h2 : OptRel E hi uh) (isSlice : Bool) (P : Program) (w : World) :
    (Instr.sliceBounds isSlice len c ul uh none).run P w = .ok (l, h, c) w ∧ l ≤ h ∧ h ≤ d := by
  have hb' : boundsA len c lo hi none = some (l, h, c) := by
    rw [boundsA_none] at hb ⊢
    cases hh : boundA hi len d with
    | none => simp only [hh, reduceCtorEq] at hb
    | some h' =>
      simp only [hh] at hb
      rw [boundA_mono hh hc]
      simp only
      cases hl : boundA lo 0 h' with
      | none => simp only [hl, reduceCtorEq] at hb
      | some l' =>
        simp only [hl, Option.some.injEq, Prod.mk.injEq] at hb ⊢
        exact ⟨hb.1, hb.2.1, trivial⟩
  obtain ⟨r1, r2, r3, r4⟩ := boundsA_sound hb' (Nat.le_trans hld hc) h1 h2 .none isSlice P w
  obtain ⟨s1, s2, s3, s4⟩ := boundsA_sound hb hld h1 h2 .none isSlice P w
  exact ⟨r1, r2, by omega⟩

theorem boundsA_le3 {len c : Nat} {lo hi : Option AV} {x : AV} {r : Nat × Nat × Nat} (hb : boundsA len len lo hi (some x) = some r) (hc : len ≤ c) : boundsA len c lo hi (some x) = some r := by
  unfold boundsA at hb ⊢
  cases hm : boundA (some x) len len with
  | none => simp only [hm, reduceCtorEq] at hb
  | some m =>
    have h1 : boundA (some x) c len = some m := hm
    have h2 := boundA_mono h1 hc
    simp only [hm] at hb
    simp only [h2]
    exact hb

theorem sliceA_sound {C : Cfg} (hC : C.Ok) {w0 : World} {E : Env} {st : St} {w : World} (h : Sim w0 E st w) {t : Nat} {x a : AV} {lo hi mx : Option AV} {v : Value} {ul uh um : Option Value} (hs : sliceA C t x lo hi mx = some a) (hv : VRel E x v) (h1 : OptRel E lo ul) (h2 : OptRel E hi uh) (h3 : OptRel E mx um) :
    Gives C w0 E st w (Instr.sliceAt t v ul uh um) a st := by
  unfold sliceA at hs
  split at hs
  · rename_i ti n elem hty
    split at hs
    · rename_i ei ed i off l hh m hety hb
      cases hs
      cases hv with
      | ptr _ _ hd =>
        obtain ⟨hr, _⟩ := boundsA_sound hb (Nat.le_refl _) h1 h2 h3 false C.P w
        refine Gives.pure h (v := .slice (some ⟨E.ρ i, if m = l then off else off + l * ei.size, none⟩) (hh - l) (m - l)) ?_ (by rw [Tr.cbeq]; exact .sl _ _ _ _ hd)
        simp only [Instr.sliceAt, Sem.run_bind, (run_ty hC hty w).2.1, Result.andThen_ok, Instr.sureAddr, Sem.run_pure, hr, (run_ty hC hety w).2.2, add_addr]
        congr 4
        split <;> rfl
    · cases hs
  · rename_i ti hty
    split at hs
    · rename_i s
      cases hv
      cases h3
      cases hb : boundsA s.data.toList.length s.data.toList.length lo hi none with
      | none => simp only [hb, reduceCtorEq] at hs
      | some p =>
        obtain ⟨l, hh, m⟩ := p
        simp only [hb, Option.some.injEq] at hs
        subst hs
        obtain ⟨hr, _⟩ := boundsA_sound hb (Nat.le_refl _) h1 h2 .none false C.P w
        have hr' : (Instr.sliceBounds false s.size s.size ul uh none).run C.P w = .ok (l, hh, m) w := hr
        refine Gives.pure h (v := .string (s.extract l hh)) ?_ (by rw [Lib.extract_eq]; exact .str _)
        simp [Instr.sliceAt, (run_ty hC hty w).2.1, Instr.slice, hr']
    · cases hs
  · rename_i ti elem hty
    split at hs
    · cases hs
    · rename_i ei ed hety
      split at hs
      · cases hv
        split at hs
        · rename_i b hb
          cases hs
          obtain ⟨l, hh, m⟩ := b
          obtain ⟨hr, r1, r2, r3⟩ := boundsA_sound hb (Nat.le_refl _) h1 h2 h3 true C.P w
          have e1 : m = 0 := by omega
          have e2 : l = 0 := by omega
          have e3 : hh = 0 := by omega
          subst e1 e2 e3
          refine Gives.pure h (v := .slice none 0 0) ?_ .nils
          simp [Instr.sliceAt, (run_ty hC hty w).2.1, Instr.slice, hr, (run_ty hC hety w).2.2]
        · cases hs
      · rename_i i off len cap
        cases hv with
        | sl _ _ _ _ hd =>
          cases hbl : Nat.ble len cap with
          | false => simp [hbl] at hs
          | true =>
            simp only [hbl, cond_true] at hs
            split at hs
            · rename_i l hh m hb
              cases hs
              obtain ⟨hr, _⟩ := boundsA_sound hb (Nat.le_of_ble_eq_true hbl) h1 h2 h3 true C.P w
              refine Gives.pure h (v := .slice (some ⟨E.ρ i, if m = l then off else off + l * ei.size, none⟩) (hh - l) (m - l)) ?_ (by rw [Tr.cbeq]; exact .sl _ _ _ _ hd)
              simp only [Instr.sliceAt, Sem.run_bind, (run_ty hC hty w).2.1, Result.andThen_ok, Instr.slice, hr, (run_ty hC hety w).2.2, Option.map_some, add_addr, Sem.run_pure]
              congr 2
              split <;> rfl
            · cases hs
      · rename_i i off len sz lb
        cases hv with
        | slu _ _ _ _ _ off' c hd hl ho hsz hlb =>
          split at hs
          · split at hs
            case h_2 => cases hs
            rename_i l hh m hb
            cases h3
            rw [Tr.cbeq] at hs
            by_cases hsize : sz = ei.size
            · rw [if_pos hsize] at hs
              cases hs
              obtain ⟨hr, r1, r2⟩ := boundsA_le hb (Nat.le_max_left _ _) (Nat.max_le.2 ⟨hl, hlb⟩) h1 h2 true C.P w
              have hmc : Nat.max len lb ≤ c := Nat.max_le.2 ⟨hl, hlb⟩
              refine Gives.pure h (v := .slice (some ⟨E.ρ i, if c = l then off' else off' + l * ei.size, none⟩) (hh - l) (c - l)) ?_ ?_
              · simp only [Instr.sliceAt, Sem.run_bind, (run_ty hC hty w).2.1, Result.andThen_ok, Instr.slice, hr, (run_ty hC hety w).2.2, Option.map_some, add_addr, Sem.run_pure]
                congr 2
                split <;> rfl
              · refine .slu _ _ _ _ _ _ _ hd (by omega) ?_ ?_ (by omega)
                · by_cases hcl : c = l
                  · right; omega
                  · left
                    rw [if_neg hcl]
                    rcases ho with ho | ⟨ho1, ho2⟩ <;> omega
                · by_cases hcl : c = l
                  · rw [if_pos hcl]
                    have : c - l = 0 := by omega
                    rw [this, Nat.zero_mul]
                    have := Nat.le_add_right off' (c * sz)
                    omega
                  · rw [if_neg hcl, ← hsize, Nat.add_assoc, ← Nat.add_mul]
                    have : l + (c - l) = c := by omega
                    rw [this]; exact hsz
            · rw [if_neg hsize] at hs; cases hs
          · rename_i mxv
            split at hs
            case h_2 => cases hs
            rename_i l hh m hb
            rw [Tr.cbeq] at hs
            by_cases hl0 : len = 0
            · rw [if_pos hl0] at hs; cases hs
            · rw [if_neg hl0] at hs
              cases hs
              have : off' = off := by rcases ho with ho | ⟨ho, _⟩ <;> omega
              subst this
              obtain ⟨hr, _⟩ := boundsA_sound (boundsA_le3 hb hl) hl h1 h2 h3 true C.P w
              refine Gives.pure h (v := .slice (some ⟨E.ρ i, if m = l then off' else off' + l * ei.size, none⟩) (hh - l) (m - l)) ?_ (by rw [Tr.cbeq]; exact .sl _ _ _ _ hd)
              simp only [Instr.sliceAt, Sem.run_bind, (run_ty hC hty w).2.1, Result.andThen_ok, Instr.slice, hr, (run_ty hC hety w).2.2, Option.map_some, add_addr, Sem.run_pure]
              congr 2
              split <;> rfl
      · cases hs
  · cases hs
end Go.Proofs.YtfamacgopcfhhaaGreatDoor.Ax
