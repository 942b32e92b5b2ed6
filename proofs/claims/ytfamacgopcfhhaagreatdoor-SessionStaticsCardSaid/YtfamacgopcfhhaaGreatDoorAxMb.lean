/-
  AN EXECUTOR OVER AN ABSTRACT MEMORY, PART Mb: maps whose keys are whole numbers, texts or truth values.
-/
import Derived.Test.YtfamacgopcfhhaaGreatDoorAxM
namespace Go.Proofs.YtfamacgopcfhhaaGreatDoor.Ax
open Go.RowKit

def keqA (k k' : AV) : Option Bool :=
  match k, k' with
  | .int a n, .int b m => bif decide (a = b) then some (ieq n m) else none
  | .str a, .str b => some (strBin.beqL a.data.toList b.data.toList)
  | .bool a, .bool b => some (a == b)
  | _, _ => none

/-- The key's type is of the plain kind that the key has. -/
def keyOkA (d : TypeDesc) (k : AV) : Bool :=
  match d, k with
  | .int _, .int _ _ => true
  | .string, .str _ => true
  | .bool, .bool _ => true
  | _, _ => false

def findA (k : AV) : List (AV × AV × Nat) → Nat → Option (Option (Nat × AV))
  | [], _ => some none
  | (k', v, _) :: es, i => match keqA k k' with
    | some true => some (some (i, v))
    | some false => findA k es (i + 1)
    | none => none

theorem ba_refl (a : ByteArray) : (a == a) = true := by
  show (a.data == a.data) = true
  simp
theorem ba_eq {a b : ByteArray} (h : (a == b) = true) : a = b := by
  have h' : (a.data == b.data) = true := h
  have h2 : a.data = b.data := by simpa using h'
  cases a; cases b; simp_all
theorem beq_toList (a b : ByteArray) : (a.data.toList == b.data.toList) = (a == b) := by
  rw [Bool.eq_iff_iff]
  constructor
  · intro h
    have h2 : a.data.toList = b.data.toList := by simpa using h
    have : a = b := by
      cases a; cases b
      rename_i x y
      cases x; cases y
      simp only at h2
      subst h2; rfl
    rw [this]; exact ba_refl b
  · intro h
    rw [ba_eq h]; simp

theorem keqA_sound {E : Env} {d : TypeDesc} {k k' : AV} {v v' : Value} {b : Bool} (hk : keyOkA d k = true) (h : keqA k k' = some b) (hv : VRel E k v) (hv' : VRel E k' v') :
    Instr.sameNow d v v' = some b ∧ (b = true → Instr.sameBits 10000 v v' = true ∧ Instr.sameBits 10000 v' v = true) := by
  unfold keqA at h
  split at h
  · rename_i a n b' m
    cases hv; cases hv'
    have hd : ∃ kd, d = .int kd := by
      cases d <;> first | exact ⟨_, rfl⟩ | cases hk
    obtain ⟨kd, rfl⟩ := hd
    by_cases hab : a = b'
    · subst hab
      simp only [decide_true, cond_true, Option.some.injEq, ieq_eq] at h
      subst h
      refine ⟨by simp [Instr.sameNow]; by_cases h : n = m <;> simp [h], fun h => ?_⟩
      simp only [decide_eq_true_eq] at h
      subst h
      simp [Instr.sameBits]
    · simp [hab] at h
  · rename_i a b'
    cases hv; cases hv'
    have hd : d = .string := by
      cases d <;> first | rfl | cases hk
    subst hd
    simp only [Option.some.injEq, beqL_eq, beq_toList] at h
    subst h
    refine ⟨rfl, fun h => ?_⟩
    have : a = b' := ba_eq h
    subst this
    exact ⟨h, h⟩
  · rename_i a b'
    cases hv; cases hv'
    have hd : d = .bool := by
      cases d <;> first | rfl | cases hk
    subst hd
    simp only [Option.some.injEq] at h
    subst h
    refine ⟨rfl, fun h => ?_⟩
    have : a = b' := by simpa using h
    subst this
    simp [Instr.sameBits]
  · cases h

theorem findA_sound {E : Env} {d : TypeDesc} {k : AV} {v : Value} (hk : keyOkA d k = true) (hv : VRel E k v) : ∀ (es : List (AV × AV × Nat)) (fs : List MapEntry) (i : Nat) (r : Option (Nat × AV)), EsRel E es fs → findA k es i = some r →
    match r with
    | none => Instr.findNow d v fs i = some none
    | some (j, a) => ∃ u f, Instr.findNow d v fs i = some (some (j, u)) ∧ VRel E a u ∧ i ≤ j ∧ fs[j - i]? = some f ∧ Instr.sameBits 10000 f.key v = true := by
  intro es
  induction es with
  | nil => intro fs i r hr h; cases hr; cases h; rfl
  | cons e es ih =>
    intro fs i r hr h
    cases hr with
    | cons hk' hv' hs =>
      rename_i k' v' n kk vv fs'
      simp only [findA] at h
      cases hq : keqA k k' with
      | none => simp [hq] at h
      | some b =>
        obtain ⟨h1, h2⟩ := keqA_sound hk hq hv hk'
        cases b with
        | true =>
          simp only [hq, Option.some.injEq] at h
          subst h
          exact ⟨vv, ⟨kk, vv, n⟩, by simp [Instr.findNow, h1], hv', Nat.le_refl _, by simp, (h2 rfl).2⟩
        | false =>
          simp only [hq] at h
          have := ih fs' (i + 1) r hs h
          cases r with
          | none => simpa [Instr.findNow, h1] using this
          | some p =>
            obtain ⟨j, a⟩ := p
            obtain ⟨u, f, q1, q2, q3, q4, q5⟩ := this
            refine ⟨u, f, by simpa [Instr.findNow, h1] using q1, q2, by omega, ?_, q5⟩
            rw [show j - i = (j - (i + 1)) + 1 by omega, List.getElem?_cons_succ]; exact q4

theorem run_checkKey {C : Cfg} (hC : C.Ok) {t : Nat} {ti : TypeInfo} {d : TypeDesc} (hty : C.ty t = some (ti, d)) {E : Env} {k : AV} {v : Value} (hk : keyOkA d k = true) (hv : VRel E k v) (e : Bool) (w : World) : (Instr.checkKey e 10000 t v).run C.P w = .ok () w := by
  have key : ∀ n, (Instr.checkKey e (n + 1) t v).run C.P w = .ok () w := by
    intro n
    simp only [Instr.checkKey, Sem.run_bind, (run_ty hC hty w).2.1, Result.andThen_ok]
    cases hv <;> cases d <;> first | rfl | (cases hk; done)
  exact key 9999

theorem run_findKey {C : Cfg} (hC : C.Ok) {t : Nat} {ti : TypeInfo} {d : TypeDesc} (hty : C.ty t = some (ti, d)) {v : Value} {fs : List MapEntry} {r : Option (Nat × Value)} (h : Instr.findNow d v fs 0 = some r) (w : World) : (Instr.findKey t v fs).run C.P w = .ok r w := by
  simp only [Instr.findKey, Sem.run_bind, (run_ty hC hty w).2.1, Result.andThen_ok, h, Sem.run_pure]

def makeMapA (st : St) : Option (AV × St) :=
  match newBlk st (.mapb [] 0) with
  | some (i, st') => some (.mp i, st')
  | none => none

theorem makeMapA_sound {C : Cfg} {w0 : World} {E : Env} {st st' : St} {w : World} (h : Sim w0 E st w) {t : Nat} {a : AV} (hs : makeMapA st = some (a, st')) (hf : Fresh E st st') :
    Gives C w0 E st w (Instr.makeMap t none) a st' := by
  unfold makeMapA at hs
  split at hs
  · rename_i i st1 hn
    cases hs
    unfold newBlk at hn
    cases hh : hidden st.hid st.next with
    | true => simp only [hh, cond_true, reduceCtorEq] at hn
    | false =>
      simp only [hh, cond_false, Option.some.injEq, Prod.mk.injEq] at hn
      obtain ⟨rfl, rfl⟩ := hn
      have hnd : ¬ E.dom st.next := hf _ (Nat.le_refl _) (by simp [St.new])
      have hp := Post.alloc h hnd hh (.mapb [] 0) (.map #[] 0) 0 (w.alloc (.map #[] 0)) rfl rfl rfl rfl (by
        refine ⟨#[], by simp [Env.add, -World.alloc_eq, World.alloc], .nil, ?_⟩
        simp only [Env.add, if_true]; exact h.below.size)
      refine ⟨_, _, .map (some w.heap.size), by simp [Instr.makeMap], hp, ?_⟩
      have hr := VRel.mp (E := E.add st.next w.heap.size 0) st.next (.inl rfl)
      simpa [Env.add] using hr
  · cases hs

def zeroVA (C : Cfg) (t : Nat) : Option AV :=
  match C.ty t with
  | some (ti, _) => (match ti.zero with | some z => ofV z | none => none)
  | none => none

def esOf (x : AV) (st : St) : Option (List (AV × AV × Nat)) :=
  match x with
  | .nilm => some []
  | .mp i => (match st.vis i with
    | some (.mapb es _) => some es
    | _ => none)
  | _ => none

def lookupA (C : Cfg) (t : Nat) (x k : AV) (ok : Bool) (st : St) : Option AV :=
  match C.ty t with
  | some (_, .map kt et) => (match C.ty kt, esOf x st with
    | some (_, d), some es => bif keyOkA d k then
        (match findA k es 0 with
        | some (some (_, v)) => some (bif ok then .tup [v, .bool true] else v)
        | some none => (match zeroVA C et with
          | some z => some (bif ok then .tup [z, .bool false] else z)
          | none => none)
        | none => none) else none
    | _, _ => none)
  | _ => none

theorem lookupA_sound {C : Cfg} (hC : C.Ok) {w0 : World} {E : Env} {st : St} {w : World} (h : Sim w0 E st w) {t : Nat} {x k a : AV} {ok : Bool} {v u : Value} (hs : lookupA C t x k ok st = some a) (hv : VRel E x v) (hu : VRel E k u) :
    ∃ r, (Instr.lookup t v u ok).run C.P w = .ok r w ∧ VRel E a r := by
  unfold lookupA at hs
  split at hs
  · rename_i ti kt et hty
    split at hs
    · rename_i kti d es hkt hes
      cases hk : keyOkA d k with
      | false => simp [hk] at hs
      | true =>
        simp only [hk, cond_true] at hs
        obtain ⟨fs, hfs, hrun⟩ : ∃ fs : Array MapEntry, EsRel E es fs.toList ∧ ((v = .map none ∧ fs = #[]) ∨ ∃ r cl, v = .map (some r) ∧ (getObj r).run C.P w = .ok (.map fs cl) w) := by
          unfold esOf at hes
          split at hes
          · cases hv; cases hes; exact ⟨#[], .nil, .inl ⟨rfl, rfl⟩⟩
          · cases hv
            split at hes
            · rename_i es' cl hvis
              cases hes
              obtain ⟨hd, M, g1, g2, g3⟩ := h.live _ _ hvis
              exact ⟨M, g2, .inr ⟨_, cl, rfl, by simp [getObj, Sem.run, g1]⟩⟩
            · cases hes
          · cases hes
        have hck := run_checkKey hC hkt hk hu fs.isEmpty w
        have hpre : (Instr.lookup t v u ok).run C.P w = (do
            let (v, o) ← (match ← Instr.findKey kt u fs.toList with
              | some (_, v) => pure (v, true)
              | none => (do let z ← zeroValue et; pure (z, false)) : Sem (Value × Bool))
            pure (if ok then .tuple #[v, .bool o] else v) : Sem Value).run C.P w := by
          unfold Instr.lookup
          simp only [Sem.run_bind, (run_ty hC hty w).2.1, Result.andThen_ok]
          rcases hrun with ⟨rfl, rfl⟩ | ⟨r, cl, rfl, hg⟩
          · simp only [Sem.run_bind, Sem.run_pure, Result.andThen_ok, hck]
            cases ((Instr.findKey kt u #[].toList).run C.P w) with
            | halt e w => rfl
            | ok q w =>
              cases q with
              | some p => rfl
              | none =>
                simp only [Result.andThen_ok, Sem.run_bind, Sem.run_pure]
                cases (zeroValue et).run C.P w <;> rfl
          · simp only [Sem.run_bind, hg, Sem.run_pure, Result.andThen_ok, hck]
            cases ((Instr.findKey kt u fs.toList).run C.P w) with
            | halt e w => rfl
            | ok q w =>
              cases q with
              | some p => rfl
              | none =>
                simp only [Result.andThen_ok, Sem.run_bind, Sem.run_pure]
                cases (zeroValue et).run C.P w <;> rfl
        rw [hpre]
        cases hfd : findA k es 0 with
        | none => simp [hfd] at hs
        | some r =>
          have hsnd := findA_sound hk hu es fs.toList 0 r hfs hfd
          cases r with
          | some p =>
            obtain ⟨j, b⟩ := p
            obtain ⟨y, f, q1, q2, _⟩ := hsnd
            simp only [hfd, Option.some.injEq] at hs
            simp only [Sem.run_bind, run_findKey hC hkt q1 w, Result.andThen_ok, Sem.run_pure]
            subst hs
            cases ok with
            | true => exact ⟨_, rfl, .tup _ _ (.cons q2 (.cons (.bool _) .nil))⟩
            | false => exact ⟨_, rfl, q2⟩
          | none =>
            simp only [hfd] at hs
            unfold zeroVA at hs
            cases het : C.ty et with
            | none => simp [het] at hs
            | some pe =>
              obtain ⟨eti, ed⟩ := pe
              cases hz : eti.zero with
              | none => simp [het, hz] at hs
              | some z =>
                cases hoz : ofV z with
                | none => simp [het, hz, hoz] at hs
                | some b =>
                  simp only [het, hz, hoz, Option.some.injEq] at hs
                  simp only [Sem.run_bind, run_findKey hC hkt hsnd w, Result.andThen_ok, Sem.run_pure, run_zero hC het hz]
                  subst hs
                  have hb := ofV_rel E z b hoz
                  cases ok with
                  | true => exact ⟨_, rfl, .tup _ _ (.cons hb (.cons (.bool _) .nil))⟩
                  | false => exact ⟨_, rfl, hb⟩
    · cases hs
  · cases hs

def setAt (k v : AV) : List (AV × AV × Nat) → Nat → List (AV × AV × Nat)
  | [], _ => []
  | (_, _, n) :: es, 0 => (k, v, n) :: es
  | e :: es, i + 1 => e :: setAt k v es i

def updateA (C : Cfg) (t : Nat) (x k v : AV) (st : St) : Option St :=
  match C.ty t, x with
  | some (_, .map kt _), .mp i => (match C.ty kt, st.vis i with
    | some (_, d), some (.mapb es cl) => bif keyOkA d k then
        (match findA k es 0 with
        | some (some (j, _)) => some (st.put i (.mapb (setAt k v es j) cl))
        | some none => some (st.put i (.mapb (es ++ [(k, v, cl)]) (cl + 1)))
        | none => none) else none
    | _, _ => none)
  | _, _ => none

theorem setAt_rel {E : Env} {k v : AV} {k' v' : Value} (hk : VRel E k k') (hv : VRel E v v') : ∀ {es : List (AV × AV × Nat)} {fs : List MapEntry} (i : Nat), EsRel E es fs → EsRel E (setAt k v es i) (fs.modify i fun e => { e with key := k', val := v' })
  | _, _, 0, .nil => .nil
  | _, _, _ + 1, .nil => .nil
  | _, _, 0, .cons _ _ hs => .cons hk hv hs
  | _, _, i + 1, .cons h1 h2 hs => .cons h1 h2 (setAt_rel hk hv i hs)

theorem EsRel.snoc {E : Env} {k v : AV} {n : Nat} {k' v' : Value} (hk : VRel E k k') (hv : VRel E v v') : ∀ {es : List (AV × AV × Nat)} {fs : List MapEntry}, EsRel E es fs → EsRel E (es ++ [(k, v, n)]) (fs ++ [⟨k', v', n⟩])
  | _, _, .nil => .cons hk hv .nil
  | _, _, .cons h1 h2 hs => .cons h1 h2 (EsRel.snoc hk hv hs)

theorem updateA_sound {C : Cfg} (hC : C.Ok) {w0 : World} {E : Env} {st st' : St} {w : World} (h : Sim w0 E st w) {t : Nat} {x k a : AV} {v u y : Value} (hs : updateA C t x k a st = some st') (hv : VRel E x v) (hu : VRel E k u) (hy : VRel E a y) :
    ∃ w', (Instr.mapUpdate t v u y).run C.P w = .ok () w' ∧ Post w0 E st w E st' w' := by
  unfold updateA at hs
  split at hs
  · rename_i ti kt et i hty
    cases hv with
    | mp _ hd =>
    split at hs
    · rename_i kti d es cl hkt hvis
      cases hk : keyOkA d k with
      | false => simp [hk] at hs
      | true =>
        simp only [hk, cond_true] at hs
        obtain ⟨_, M, g1, g2, g3⟩ := h.live _ _ hvis
        have hck := run_checkKey hC hkt hk hu false w
        have hlt : E.ρ i < w.heap.size := (Array.getElem?_eq_some_iff.1 g1).1
        have hget : (getObj (E.ρ i)).run C.P w = .ok (.map M cl) w := by simp [getObj, Sem.run, g1]
        have hset : ∀ M' cl', (setObj (E.ρ i) (.map M' cl')).run C.P w = .ok () { w with heap := w.heap.setIfInBounds (E.ρ i) (.map M' cl') } := fun M' cl' => by simp [setObj, Sem.run, g1]
        have hpost : ∀ es' M' cl', EsRel E es' M'.toList → Post w0 E st w E (st.put i (.mapb es' cl')) { w with heap := w.heap.setIfInBounds (E.ρ i) (.map M' cl') } := by
          intro es' M' cl' hr
          refine Post.upd h hvis rfl _ rfl rfl rfl (by simp) (fun z hz => ?_) ⟨M', ?_, hr, g3⟩
          · rw [Array.getElem?_setIfInBounds, if_neg (by omega)]
          · rw [Array.getElem?_setIfInBounds, if_pos rfl, if_pos hlt]
        cases hfd : findA k es 0 with
        | none => simp [hfd] at hs
        | some r =>
          have hsnd := findA_sound hk hu es M.toList 0 r g2 hfd
          cases r with
          | some p =>
            obtain ⟨j, b⟩ := p
            obtain ⟨z, f, q1, q2, q3, q4, q5⟩ := hsnd
            simp only [hfd, Option.some.injEq] at hs
            subst hs
            have q4' : M[j]? = some f := by simpa using q4
            refine ⟨_, ?_, hpost (setAt k a es j) (M.modify j fun e => { e with key := u, val := y }) cl (by
              have := setAt_rel hu hy j g2
              simpa [Array.toList_modify] using this)⟩
            simp only [Instr.mapUpdate, Sem.run_bind, (run_ty hC hty w).2.1, Result.andThen_ok, hget, hck, run_findKey hC hkt q1 w, q4', Option.map_some, Option.getD_some, Instr.keyThatStays, q5, if_true, Sem.run_pure, hset]
          | none =>
            simp only [hfd, Option.some.injEq] at hs
            subst hs
            refine ⟨_, ?_, hpost (es ++ [(k, a, cl)]) (M.push ⟨u, y, cl⟩) (cl + 1) (by
              have := EsRel.snoc (n := cl) hu hy g2
              simpa using this)⟩
            simp only [Instr.mapUpdate, Sem.run_bind, (run_ty hC hty w).2.1, Result.andThen_ok, hget, hck, run_findKey hC hkt hsnd w, hset]
    · cases hs
  · cases hs
end Go.Proofs.YtfamacgopcfhhaaGreatDoor.Ax
