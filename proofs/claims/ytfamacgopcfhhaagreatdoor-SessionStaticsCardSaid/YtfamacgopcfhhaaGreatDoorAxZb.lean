/-
  AN EXECUTOR OVER AN ABSTRACT MEMORY, PART Zb: from the listed package-level variables to the state that a run begins with; closed calls; calls answered from a table.
-/
import Derived.Test.YtfamacgopcfhhaaGreatDoorAxZa
import Derived.ChangeArms
import Derived.OpenShut
import Derived.FnData
namespace Go.Proofs.YtfamacgopcfhhaaGreatDoor.Ax
open Go.RowKit

/-! What a datum lays, cell by cell. -/
def layA (P : Program) : Nat → TypeId → DataW Unit → Nat → Option (List (Nat × AV))
  | 0, _, _, _ => none
  | n + 1, t, d, off =>
    match P.underlying t, d with
    | some .bool, .lit (.bool b) => some [(off, .bool b)]
    | some (.int _), .lit (.int k m) => some [(off, .int k m)]
    | some .string, .lit (.string s) => some [(off, .str ⟨⟨s⟩⟩)]
    | some (.struct fs), .agg xs => (match (fs.toList.zip xs).mapM fun p => layA P n p.1.type p.2 (off + p.1.offset) with | some l => some l.flatten | none => none)
    | some (.array _ e), .agg xs => (match (xs.zipIdx).mapM fun p => layA P n e p.1 (off + p.2 * P.cellsOf e) with | some l => some l.flatten | none => none)
    | _, _ => none

theorem mapM_mem {α β : Type} {f : α → Option β} : ∀ {l : List α} {r : List β}, l.mapM f = some r → ∀ b ∈ r, ∃ a ∈ l, f a = some b
  | [], r, h, b, hb => by simp at h; subst h; cases hb
  | a :: l, r, h, b, hb => by
    rw [List.mapM_cons] at h
    cases ha : f a with
    | none => simp [ha] at h
    | some x =>
      cases hl : l.mapM f with
      | none => simp [ha, hl] at h
      | some xs =>
        simp [ha, hl] at h
        subst h
        rcases List.mem_cons.1 hb with rfl | hb
        · exact ⟨a, List.mem_cons_self .., ha⟩
        · obtain ⟨a', h1, h2⟩ := mapM_mem hl b hb
          exact ⟨a', List.mem_cons_of_mem _ h1, h2⟩

theorem layA_sound {P : Program} {w : World} {enc : TypeId × Value → Unit} {base : Nat} {spare : Nat → Bool} {held : Bool} : ∀ (n : Nat) (t : TypeId) (d : DataW Unit) (off : Nat) (l : List (Nat × AV)), layA P n t d off = some l →
    ∀ {cs : List Value} {fuel : Nat} {ps : List MemPlace}, DataW.trod enc P w base spare held fuel t cs = some (d, ps) → ∀ o a, (o, a) ∈ l → ∃ j v, o = off + j ∧ cs[j]? = some v ∧ ∀ E, VRel E a v := by
  intro n
  induction n with
  | zero => intro t d off l h; simp [layA] at h
  | succ n ih =>
    intro t d off l h cs fuel ps ht o a hm
    unfold layA at h
    split at h
    · rename_i b hu
      cases h
      obtain ⟨b', rfl, h2⟩ := DataW.trod_bool hu ht
      cases h2
      simp at hm
      exact ⟨0, .bool b, by omega, rfl, fun E => by rw [hm.2]; exact .bool b⟩
    · rename_i k' k m hu
      cases h
      obtain ⟨m', rfl, h2, _⟩ := DataW.trod_int hu ht
      cases h2
      simp at hm
      exact ⟨0, _, by omega, rfl, fun E => by rw [hm.2]; exact .int _ _⟩
    · rename_i s hu
      cases h
      obtain ⟨s', rfl, h2, _⟩ := DataW.trod_string hu ht
      cases h2
      simp at hm
      exact ⟨0, .string s', by omega, rfl, fun E => by rw [hm.2]; exact .str s'⟩
    · rename_i fs xs hu
      cases hq : (fs.toList.zip xs).mapM fun p => layA P n p.1.type p.2 (off + p.1.offset) with
      | none => simp only [hq, reduceCtorEq] at h
      | some ls =>
        simp only [hq, Option.some.injEq] at h
        subst h
        obtain ⟨l', hl', hml⟩ := List.mem_flatten.1 hm
        obtain ⟨⟨f, x⟩, hz, hf⟩ := mapM_mem hq l' hl'
        obtain ⟨ys, m, rfl, hx, hlen, hsz, hel⟩ := DataW.trod_struct hu ht
        simp only [Prod.mk.injEq, DataW.agg.injEq] at hx
        obtain ⟨i, hi⟩ := List.getElem?_of_mem hz
        rw [List.getElem?_zip_eq_some] at hi
        have he := hel i f (by simpa using hi.1)
        have hxi := hi.2
        rw [hx.1] at hxi
        simp only [List.getElem?_map, Option.map_eq_some_iff] at hxi
        obtain ⟨y, hy, hyx⟩ := hxi
        rw [hy] at he
        obtain ⟨yd, yp⟩ := y
        simp only at hyx
        subst hyx
        obtain ⟨j, v, h1, h2, h3⟩ := ih f.type yd _ l' hf he o a hml
        dsimp only at h1
        refine ⟨f.offset + j, v, by omega, ?_, h3⟩
        rw [List.getElem?_take] at h2
        split at h2
        · rw [List.getElem?_drop] at h2; exact h2
        · cases h2
    · rename_i k e xs hu
      cases hq : (xs.zipIdx).mapM fun p => layA P n e p.1 (off + p.2 * P.cellsOf e) with
      | none => simp only [hq, reduceCtorEq] at h
      | some ls =>
        simp only [hq, Option.some.injEq] at h
        subst h
        obtain ⟨l', hl', hml⟩ := List.mem_flatten.1 hm
        obtain ⟨⟨x, i⟩, hz, hf⟩ := mapM_mem hq l' hl'
        obtain ⟨ys, m, rfl, hx, hlen, hsz, hel⟩ := DataW.trod_array hu ht
        simp only [Prod.mk.injEq, DataW.agg.injEq] at hx
        have hxi := List.mem_zipIdx_iff_getElem?.1 hz
        simp only at hxi
        rw [hx.1] at hxi
        simp only [List.getElem?_map, Option.map_eq_some_iff] at hxi
        obtain ⟨y, hy, hyx⟩ := hxi
        have hlt : i < k := by
          have := (List.getElem?_eq_some_iff.1 hy).1
          omega
        have he := hel i hlt
        rw [hy] at he
        obtain ⟨yd, yp⟩ := y
        simp only at hyx
        subst hyx
        obtain ⟨j, v, h1, h2, h3⟩ := ih e yd _ l' hf he o a hml
        dsimp only at h1
        refine ⟨i * P.cellsOf e + j, v, by omega, ?_, h3⟩
        rw [List.getElem?_take] at h2
        split at h2
        · rw [List.getElem?_drop] at h2; exact h2
        · cases h2
    · cases h

/-! Tables: what the package-level variables read as. -/
abbrev Tab := List (Nat × List (Nat × AV))

def TabAt (W : World) (g : Nat) (l : List (Nat × AV)) : Prop := ∃ C e fz, W.heap[g]? = some (.cells C e fz) ∧ ∀ o a, (o, a) ∈ l → ∃ v, C[o]? = some v ∧ ∀ E, VRel E a v

def TabOk (W : World) (T : Tab) : Prop := ∀ g l, (g, l) ∈ T → TabAt W g l

theorem TabAt.below {W w : World} {g : Nat} {l : List (Nat × AV)} (h : TabAt W g l) (hb : Below W.heap.size W w) : TabAt w g l := by
  obtain ⟨C, e, fz, h1, h2⟩ := h
  refine ⟨C, e, fz, ?_, h2⟩
  rw [hb.block g ((Array.getElem?_eq_some_iff.1 h1).1)]
  exact h1
theorem TabOk.below {W w : World} {T : Tab} (h : TabOk W T) (hb : Below W.heap.size W w) : TabOk w T := fun g l hm => (h g l hm).below hb

theorem laid_reads {P : Program} {w : World} : ∀ {l : List (String × DataW Unit)} {ps : List MemPlace}, DataW.LaidVars P w l ps → ∀ n d, (n, d) ∈ l →
    ∃ g t cs fuel p, P.globalNamed n = some g ∧ (P.globals[g]?).map (·.type) = some t ∧ w.var? P n = some cs ∧ DataW.trod (fun _ => ()) P w 0 (fun _ => true) false fuel t cs.toList = some (d, p)
  | [], _, _, _, _, hm => by cases hm
  | (n', d') :: r, ps, h, n, d, hm => by
    obtain ⟨g, t, cs, fuel, p, q, h1, h2, h3, h4, h5, _⟩ := h
    rcases List.mem_cons.1 hm with e | e
    · cases e
      exact ⟨g, t, cs, fuel, p, h1, h2, h3, h4⟩
    · exact laid_reads h5 n d e

theorem tabAt_of_laid {P : Program} {w : World} {laid : List (String × DataW Unit)} (h : laidMet P laid w) {n : String} {d : DataW Unit} (hm : (n, d) ∈ laid) {g t : Nat} (hg : P.globalNamed n = some g) (ht : (P.globals[g]?).map (·.type) = some t) {l : List (Nat × AV)} (hl : layA P 8 t d 0 = some l) :
    TabAt w g l := by
  obtain ⟨ps, hv, _⟩ := h
  obtain ⟨g', t', cs, fuel, p, h1, h2, h3, h4⟩ := laid_reads hv n d hm
  rw [hg] at h1
  cases h1
  rw [ht] at h2
  cases h2
  unfold World.var? at h3
  rw [hg] at h3
  simp only [Option.bind_some] at h3
  split at h3
  · rename_i C e fz hc
    cases h3
    refine ⟨cs, e, fz, hc, fun o a ho => ?_⟩
    obtain ⟨j, v, q1, q2, q3⟩ := layA_sound 8 t d 0 l hl h4 o a ho
    rw [Nat.zero_add] at q1
    subst q1
    exact ⟨v, by simpa using q2, q3⟩
  · cases h3

/-- The table of what is listed. -/
def tabOf (P : Program) : List (String × DataW Unit) → Tab
  | [] => []
  | (n, d) :: r => match P.globalNamed n with
    | none => tabOf P r
    | some g => match (P.globals[g]?).map (·.type) with
      | none => tabOf P r
      | some t => match layA P 8 t d 0 with
        | none => tabOf P r
        | some l => (g, l) :: tabOf P r

theorem tabOf_ok {P : Program} {w : World} {laid : List (String × DataW Unit)} (h : laidMet P laid w) : TabOk w (tabOf P laid) := by
  have key : ∀ r : List (String × DataW Unit), (∀ x ∈ r, x ∈ laid) → TabOk w (tabOf P r) := by
    intro r
    induction r with
    | nil => intro _ g l hm; cases hm
    | cons x r ih =>
      obtain ⟨n, d⟩ := x
      intro hr
      have ih' := ih fun x hx => hr x (List.mem_cons_of_mem _ hx)
      unfold tabOf
      split
      · exact ih'
      · rename_i g hg
        split
        · exact ih'
        · rename_i t ht
          split
          · exact ih'
          · rename_i l hl
            intro g' l' hm
            rcases List.mem_cons.1 hm with e | hm
            · cases e
              exact tabAt_of_laid h (hr _ (List.mem_cons_self ..)) hg ht hl
            · exact ih' g' l' hm
  exact key laid fun x hx => hx

def tabLt (n : Nat) : Tab → Bool
  | [] => true
  | (g, _) :: r => Nat.blt g n && tabLt n r
theorem tabLt_spec {n : Nat} : ∀ {T : Tab}, tabLt n T = true → ∀ g l, (g, l) ∈ T → g < n
  | [], _, _, _, hm => by cases hm
  | (g', l') :: r, h, g, l, hm => by
    simp only [tabLt, Bool.and_eq_true] at h
    rcases List.mem_cons.1 hm with e | hm
    · cases e; exact Nat.blt_eq.mp h.1
    · exact tabLt_spec h.2 g l hm

/-! The state that a run begins with. -/
noncomputable section
def cellsT (l : List (Nat × AV)) : Tr AV := @List.rec (Nat × AV) (fun _ => Tr AV) .leaf (fun p _ ih => prF (fun o a => setF ih o a) p) l
theorem cellsT_get : ∀ (l : List (Nat × AV)) (o : Nat) (a : AV), (cellsT l).get o = some a → (o, a) ∈ l
  | [], o, a, h => by simp [cellsT, Tr.get_leaf] at h
  | (o', a') :: l, o, a, h => by
    have h' : (setF (cellsT l) o' a').get o = some a := h
    rw [setF_eq, Tr.get_set] at h'
    by_cases ho : o = o'
    · rw [if_pos ho] at h'; cases h'; subst ho; exact List.mem_cons_self ..
    · rw [if_neg ho] at h'; exact List.mem_cons_of_mem _ (cellsT_get l o a h')

def heapT (el fr : Nat → Nat) (T : Tab) : Tr Blk := @List.rec (Nat × List (Nat × AV)) (fun _ => Tr Blk) .leaf (fun p _ ih => prF (fun g l => setF ih g (.cells true (el g) (fr g) true (cellsT l))) p) T
theorem heapT_get {el fr : Nat → Nat} : ∀ (T : Tab) (g : Nat) (b : Blk), (heapT el fr T).get g = some b → ∃ l, (g, l) ∈ T ∧ b = .cells true (el g) (fr g) true (cellsT l)
  | [], g, b, h => by simp [heapT, Tr.get_leaf] at h
  | (g', l') :: T, g, b, h => by
    have h' : (setF (heapT el fr T) g' (.cells true (el g') (fr g') true (cellsT l'))).get g = some b := h
    rw [setF_eq, Tr.get_set] at h'
    by_cases hg : g = g'
    · rw [if_pos hg] at h'; cases h'; subst hg; exact ⟨l', List.mem_cons_self .., rfl⟩
    · rw [if_neg hg] at h'
      obtain ⟨l, h1, h2⟩ := heapT_get T g b h'
      exact ⟨l, List.mem_cons_of_mem _ h1, h2⟩

def startT (el fr : Nat → Nat) (T : Tab) (n : Nat) : St := ⟨heapT el fr T, n, n, []⟩

def elemOf (W : World) (g : Nat) : Nat := match W.heap[g]? with | some (.cells _ e _) => e | _ => 0
def sizeOf' (W : World) (g : Nat) : Nat := match W.heap[g]? with | some (.cells C _ _) => C.size | _ => 0
def envOf (W : World) (n : Nat) : Env := ⟨fun g => g, sizeOf' W, fun g => g < n⟩

theorem start_sim {W : World} {T : Tab} {n : Nat} (h : TabOk W T) (hn : ∀ g l, (g, l) ∈ T → g < n) : Sim W (envOf W n) (startT (elemOf W) (sizeOf' W) T n) W := by
  have hv : ∀ i b, (startT (elemOf W) (sizeOf' W) T n).vis i = some b → ∃ l, (i, l) ∈ T ∧ b = .cells true (elemOf W i) (sizeOf' W i) true (cellsT l) := fun i b hi => heapT_get T i b hi
  refine ⟨Below.refl _ _, fun i b hi => ?_, fun i j bi bj hi _ hro => ?_, fun i b hi => ?_⟩
  · obtain ⟨l, hl, rfl⟩ := hv i b hi
    obtain ⟨C, e, fz, h1, h2⟩ := h i l hl
    refine ⟨hn i l hl, C, fz, ?_, ?_, fun o a ho => ?_, fun o h3 h4 => ?_, fun _ => (Array.getElem?_eq_some_iff.1 h1).1, (fun hr => (by cases hr)), (fun hr => (by cases hr))⟩
    · show W.heap[i]? = _
      rw [h1]; simp [elemOf, h1]
    · show C.size = sizeOf' W i
      simp [sizeOf', h1]
    · obtain ⟨v, q1, q2⟩ := h2 o a (cellsT_get l o a ho)
      exact ⟨v, q1, q2 _⟩
    · simp [sizeOf', h1] at h3
      omega
  · obtain ⟨l, hl, rfl⟩ := hv i bi hi
    cases hro
  · obtain ⟨l, hl, _⟩ := heapT_get T i b hi
    exact hn i l hl

/-- A closed call: what the executor says of it, in whatever world whose variables read so. -/
theorem closed_call {C : Cfg} (hC : C.Ok) {W : World} {X : CallF} (hX : SndF C W X) (hg : GrwF X) {T : Tab} (hT : TabOk W T) {n : Nat} (hn : ∀ g l, (g, l) ∈ T → g < n) (hglob : C.glob ≤ n) {k f : Nat} {args : List AV} {vs : Array Value} {r : AV}
    (hrun : ∀ el fr, ∃ st', runF C X k f args (startT el fr T n) = some (r, st')) (hargs : ∀ E, VsRel E args vs.toList)
    (hy : f ≠ yno := by decide) : Calls C.P f vs W fun e W' => ∃ E v, e = .returned v ∧ VRel E r v ∧ Below W.heap.size W W' := by
  obtain ⟨st', h⟩ := hrun (elemOf W) (sizeOf' W)
  refine (runF_sound hC hX hg k f args _ r st' h hy (envOf W n) W vs (start_sim hT hn) (fun g hgl => ⟨Nat.lt_of_lt_of_le hgl hglob, rfl⟩) (hargs _) (fun i h1 _ h3 => ?_)).mono ?_
  · have h1' : n ≤ i := h1
    have h3' : i < n := h3
    omega
  · rintro e W' ⟨E', v, rfl, P, hv⟩
    exact ⟨E', v, rfl, hv, P.sim.below⟩

/-- The run says true. -/
def saysF (r : Option (AV × St)) : Bool := optF false (prF fun a _ => boolD false id a) r
theorem saysF_true {r : Option (AV × St)} (h : saysF r = true) : ∃ st', r = some (.bool true, st') := by
  cases r with
  | none => cases h
  | some p =>
    obtain ⟨a, st'⟩ := p
    cases a with
    | bool b =>
      cases b with
      | true => exact ⟨st', rfl⟩
      | false => cases h
    | _ => cases h

theorem closed_true {C : Cfg} (hC : C.Ok) {W : World} {X : CallF} (hX : SndF C W X) (hg : GrwF X) {T : Tab} (hT : TabOk W T) {n : Nat} (hn : ∀ g l, (g, l) ∈ T → g < n) (hglob : C.glob ≤ n) {k f : Nat} {args : List AV} {vs : Array Value}
    (hrun : ∀ el fr, saysF (runF C X k f args (startT el fr T n)) = true) (hargs : ∀ E, VsRel E args vs.toList)
    (hy : f ≠ yno := by decide) : Calls C.P f vs W fun e W' => e = .returned (.bool true) ∧ Below W.heap.size W W' := by
  refine (closed_call hC hX hg hT hn hglob (fun el fr => saysF_true (hrun el fr)) hargs hy).mono ?_
  rintro e W' ⟨E, v, rfl, hv, hb⟩
  cases hv
  exact ⟨rfl, hb⟩

/-! Calls answered from a table: functions without arguments whose answer leads to no block. -/
def noneX : CallF := fun _ _ _ => none
theorem noneX_snd (C : Cfg) (w0 : World) : SndF C w0 noneX := fun _ _ _ _ _ h => by cases h
theorem noneX_grw : GrwF noneX := fun _ _ _ _ _ h => by cases h

theorem Post.still {w0 : World} {E : Env} {st : St} {w w' : World} (h : Sim w0 E st w) (hb : Below w.heap.size w w') : Post w0 E st w E st w' := by
  have hsz : w0.heap.size ≤ w.heap.size := h.below.size
  refine ⟨.refl E, fun _ h => .inl h, Nat.le_refl _, ⟨h.below.trans (hb.mono hsz), fun i b hi => ?_, h.inj, h.bnd⟩, hb.size, fun k hk _ => hb.block k hk, fun _ _ h => h, Nat.le_refl _, fun _ _ _ => rfl, rfl, fun k r hk => ⟨r, by rw [hb.block k (Array.getElem?_eq_some_iff.1 hk).1]; exact hk⟩⟩
  obtain ⟨h1, h2⟩ := h.live i b hi
  exact ⟨h1, h2.mono (.refl E) h1 (hb.block _ h2.lt)⟩

def constX (f0 : Nat) (b : Bool) (X : CallF) : CallF := fun f args st => ifF (Nat.beq f f0) (@List.rec AV (fun _ => Option (AV × St)) (some (.bool b, st)) (fun _ _ _ => none) args) (X f args st)

theorem constX_grw {f0 : Nat} {b : Bool} {X : CallF} (h : GrwF X) : GrwF (constX f0 b X) := by
  intro f args st r st' hr
  unfold constX at hr
  rw [ifF_eq] at hr
  cases hf : Nat.beq f f0 with
  | false => rw [hf] at hr; exact h _ _ _ _ _ hr
  | true =>
    rw [hf] at hr
    cases args with
    | nil => cases hr; exact .refl _
    | cons a l => cases hr

theorem constX_snd {C : Cfg} {w0 : World} {f0 : Nat} {b : Bool} {X : CallF} {T : Tab} (h : SndF C w0 X) (hT : TabOk w0 T) (hf : ∀ W, TabOk W T → Calls C.P f0 #[] W fun e W' => e = .returned (.bool b) ∧ Below W.heap.size W W') : SndF C w0 (constX f0 b X) := by
  intro f args st r st' hr hy E w vs hS hG hv hfr
  unfold constX at hr
  rw [ifF_eq] at hr
  cases hb : Nat.beq f f0 with
  | false => rw [hb] at hr; exact h _ _ _ _ _ hr hy E w vs hS hG hv hfr
  | true =>
    rw [hb] at hr
    have := Nat.eq_of_beq_eq_true hb
    subst this
    cases args with
    | cons a l => cases hr
    | nil =>
      cases hr
      have hvs : vs = #[] := by
        obtain ⟨l⟩ := vs
        cases hv
        rfl
      subst hvs
      refine (hf w (hT.below hS.below)).mono ?_
      rintro e w' ⟨rfl, hbw⟩
      exact ⟨E, _, rfl, Post.still hS hbw, .bool b⟩
end
end Go.Proofs.YtfamacgopcfhhaaGreatDoor.Ax
