/-
  AN EXECUTOR OVER AN ABSTRACT MEMORY, PART V: one operation of a drawing region's head keeps the invariant.
-/
import Derived.Test.YtfamacgopcfhhaaGreatDoorAxU
namespace Go.Proofs.YtfamacgopcfhhaaGreatDoor.Ax
open Go.RowKit

theorem visS_fun {N : Nat} {T : Nat → HS} {L : Nat → Bool} (hb : ∀ k b, (T 0).st.heap.get k = some b → k < (T 0).st.next) (hn : ∀ j, j < N → (T 0).st.next ≤ (T j).st.next) {k : Nat} {b b' : Blk} (h : VisS N T L k b) (h' : VisS N T L k b') : b = b' := by
  rcases h with h | ⟨j, h1, h2, h3, h4, h5⟩
  · rcases h' with h' | ⟨j', g1, g2, g3, g4, g5⟩
    · rw [h] at h'; cases h'; rfl
    · have := hb k b (Sim.vis_of h).2
      have := hn j' g1
      omega
  · rcases h' with h' | ⟨j', g1, g2, g3, g4, g5⟩
    · have := hb k b' (Sim.vis_of h').2
      have := hn j h1
      omega
    · rw [h5] at g5; cases g5; rfl

/-- The slots that an operation looks at are as they were told. -/
theorem Ctx.frel {C : Cfg} {w0 : World} {ih : CallF} {nt : Nat} {ops : Array Oper} {N : Nat} {lt : Nat} {Rs : List (Nat × Nat)} {T : Nat → HS} {E0 : Env} {ws : World} {d0 : List Deferred} (X : Ctx C w0 ih nt ops N lt Rs T E0 ws d0)
    {L : Nat → Bool} {E : Env} {a : Act} {w : World} (hI : Inv C w0 nt ops N T E0 ws d0 L E a w) {i : Nat} (hi : i < N) (hLi : L i = false) {o : Oper} (ho : ops.toList[i]? = some o) (hready : ∀ e ∈ o.after.toList, bindsAny e = true → L e.on = true) :
    FRel E (restr (T i).fr (looksA ops.toList o)) a.tmps := by
  obtain ⟨o', m, ho', hm, hstep⟩ := X.tr i hi
  rw [ho] at ho'
  cases ho'
  -- what comes before this operation is listed
  have hmask : ∀ k, k ≠ i → m.testBit k = true → L k = true := by
    intro k hk hb
    have := masks_spec (fun j => L j = true ∨ j = i) ops.toList [] (fun i m h => by simp at h) (fun t o1 h1 h2 e he hbe => by
      simp only [List.length_nil, Nat.zero_add] at h2
      rcases h2 with h2 | h2
      · exact .inl (hI.down t o1 h1 h2 e he hbe)
      · subst h2
        rw [ho] at h1
        cases h1
        exact .inl (hready e he hbe)) i m hm (.inr rfl) k hb
    rcases this with h | h
    · exact h
    · exact absurd h hk
  -- what is listed has this one not behind it
  have hlater : ∀ j mj, j < N → (masks ops.toList [])[j]? = some mj → mj.testBit i = true → L j = false := by
    intro j mj hj hmj hb
    cases hLj : L j with
    | false => rfl
    | true =>
      have := masks_spec (fun j => L j = true) ops.toList [] (fun i m h => by simp at h) (fun t o1 h1 h2 e he hbe => by
        simp only [List.length_nil, Nat.zero_add] at h2
        exact hI.down t o1 h1 h2 e he hbe) j mj hmj hLj i hb
      rw [hLi] at this; cases this
  intro t r ht
  obtain ⟨t1, t2⟩ := restr_get _ _ t r ht
  refine hI.tm t r ?_
  rw [slot_after (i := i) N (by omega) (fun j j1 j2 jd => ?_), X.slot_before i (by omega) (fun j j1 jd => ?_)]
  · exact t2
  · -- earlier writers are listed
    obtain ⟨oj, mj, q1, q2, _⟩ := X.tr j (by omega)
    have hp := pairA_spec _ _ _ (X.pairs i o m hi ho hm) j oj (by omega) q1
    rw [Nat.zero_add] at hp
    rcases hp with hp | hp
    · have := ((freeA_spec hp).1 t (by simpa [dstAt, q1] using jd)).1
      exact absurd t1 this
    · exact hmask j (by omega) hp
  · -- later writers are not
    by_cases hji : j = i
    · subst hji; exact hLi
    · obtain ⟨oj, mj, q1, q2, _⟩ := X.tr j (by omega)
      have hp := pairA_spec _ _ _ (X.pairs j oj mj (by omega) q1 q2) i o (by omega) ho
      rw [Nat.zero_add] at hp
      rcases hp with hp | hp
      · have := (freeA_spec hp).2 t (by simpa [dstAt, q1] using jd)
        exact absurd t1 this
      · exact hlater j mj (by omega) q2 hp

theorem Ctx.step {C : Cfg} {w0 : World} {ih : CallF} {nt : Nat} {ops : Array Oper} {N : Nat} {lt : Nat} {Rs : List (Nat × Nat)} {T : Nat → HS} {E0 : Env} {ws : World} {d0 : List Deferred} (X : Ctx C w0 ih nt ops N lt Rs T E0 ws d0)
    {L : Nat → Bool} {E : Env} {a : Act} {w : World} (hI : Inv C w0 nt ops N T E0 ws d0 L E a w) {i : Nat} (hi : i < N) (hLi : L i = false) {o : Oper} (ho : ops.toList[i]? = some o) (hready : ∀ e ∈ o.after.toList, bindsAny e = true → L e.on = true)
    {Q : Exit → Act → World → Prop} {K : Act → World → Prop} (hK : ∀ E' a' w', Inv C w0 nt ops N T E0 ws d0 (fun j => decide (j = i) || L j) E' a' w' → (lt.testBit i = false → ∀ k b, hidden Rs k = true → (T 0).st.vis k = some b → w'.heap[E0.ρ k]? = w.heap[E0.ρ k]?) → K a' w') :
    if Region.wanted o (yielded ops a.tmps) then o.wp C.P a w K Q ∨ (o.asks C.P a w ∧ LetsOut Q) else K (a.put o.dst undef) w := by
  obtain ⟨o', m, ho', hm, hstep⟩ := X.tr i hi
  rw [ho] at ho'
  cases ho'
  -- what comes before this operation is listed
  have hmask : ∀ k, k ≠ i → m.testBit k = true → L k = true := by
    intro k hk hb
    have := masks_spec (fun j => L j = true ∨ j = i) ops.toList [] (fun i m h => by simp at h) (fun t o1 h1 h2 e he hbe => by
      simp only [List.length_nil, Nat.zero_add] at h2
      rcases h2 with h2 | h2
      · exact .inl (hI.down t o1 h1 h2 e he hbe)
      · subst h2
        rw [ho] at h1
        cases h1
        exact .inl (hready e he hbe)) i m hm (.inr rfl) k hb
    rcases this with h | h
    · exact h
    · exact absurd h hk
  -- what is listed has this one not behind it
  have hlater : ∀ j mj, j < N → (masks ops.toList [])[j]? = some mj → mj.testBit i = true → L j = false := by
    intro j mj hj hmj hb
    cases hLj : L j with
    | false => rfl
    | true =>
      have := masks_spec (fun j => L j = true) ops.toList [] (fun i m h => by simp at h) (fun t o1 h1 h2 e he hbe => by
        simp only [List.length_nil, Nat.zero_add] at h2
        exact hI.down t o1 h1 h2 e he hbe) j mj hmj hLj i hb
      rw [hLi] at this; cases this
  have hstep' := hstep
  obtain ⟨x, stx, h1, h2, h3, h4, _⟩ := hstep
  have hn0 : ∀ j, j < N → (T 0).st.next ≤ (T j).st.next := fun j hj => X.next (by omega) (by omega)
  have hfun : ∀ k b b', VisS N T L k b → VisS N T L k b' → b = b' := fun k b b' => visS_fun X.sim.bnd hn0
  have hnx : (T (i + 1)).st.next = stx.next := by rw [h4]
  have hhx : (T (i + 1)).st.heap = stx.heap := by rw [h4]
  -- what is seen by the operation is told of
  let sti : St := { (T i).st with hid := exH lt i Rs (hidA m (rng T i) (T i).st.hid), low := (T i).st.next }
  have hidE := X.hidE (j := i) (by omega)
  have hvis : ∀ k b, sti.vis k = some b → VisS N T L k b ∧ k < (T i).st.next := by
    intro k b hk
    obtain ⟨g1, g2⟩ := Sim.vis_of hk
    have g2' : (T i).st.heap.get k = some b := g2
    have hlt := X.bnd (j := i) (by omega) k b g2'
    refine ⟨?_, hlt⟩
    have hnh : ¬ (hidden (T i).st.hid k = true ∨ ∃ p ∈ rng T i, m.testBit p.1 = false ∧ p.2.1 ≤ k ∧ k < p.2.2) := by
      rw [← hidA_spec]
      intro h'
      have : hidden (exH lt i Rs (hidA m (rng T i) (T i).st.hid)) k = false := g1
      rw [(exH_spec lt i Rs _ k).2 (.inl h')] at this; cases this
    by_cases hk0 : k < (T 0).st.next
    · left
      rw [St.vis_eq, if_neg (fun h' => hnh (.inl (by rw [hidE]; exact h')))]
      rw [← X.heap (i := 0) (j := i) (by omega) (by omega) hk0]
      exact g2'
    · right
      obtain ⟨j, j1, j2, j3⟩ := Ctx.range (N := N) (T := T) i (by omega) k (by omega) hlt
      refine ⟨j, (show j < N by omega), hmask j (show j ≠ i by omega) ?_, j2, j3, by rw [X.heap (i := i) (j := N) (by omega) (Nat.le_refl _) hlt]; exact g2'⟩
      cases hb : m.testBit j with
      | true => rfl
      | false => exact absurd (.inr ⟨_, rng_mem j1, hb, j2, j3⟩) hnh
  have hSim : Sim w0 E sti w := by
    refine ⟨hI.below, fun k b hk => hI.live k b (hvis k b hk).1, fun k j bk bj hk hj => hI.inj k j bk bj (hvis k bk hk).1 (hvis j bj hj).1, fun k b hk => X.bnd (j := i) (by omega) k b hk⟩
  have hFresh : Fresh E sti stx := by
    intro k k1 k2 hd
    have k1' : (T i).st.next ≤ k := k1
    rcases hI.dom k hd with h' | ⟨j, j1, j2, j3, j4⟩
    · exact X.fresh k (by have := hn0 i hi; omega) (by have := X.next (i := i + 1) (j := N) (by omega) (Nat.le_refl _); omega) h'
    · have := X.oneRange hi j1 k1' (by omega) j3 j4
      subst this
      rw [hLi] at j2; cases j2
  have hFR : FRel E (restr (T i).fr (looksA ops.toList o)) a.tmps := X.frel hI hi hLi ho hready
  refine stepA_sound X.ok X.snd h1 hSim (X.genv.mono hI.le) hFR hFresh fun E' w' v P hxv => ?_
  -- the invariant behind it
  have V1 : ∀ k b, sti.vis k = some b → stx.vis k = some b := by
    intro k b hk
    obtain ⟨g1, g2⟩ := Sim.vis_of hk
    have hlt := (hvis k b hk).2
    have hkeep := P.keep k hlt (by omega)
    rw [St.vis_eq, P.hid, if_neg (by simpa using g1), hkeep]
    exact g2
  have V2 : ∀ k b, (T i).st.next ≤ k → k < (T (i + 1)).st.next → (T N).st.heap.get k = some b → stx.vis k = some b := by
    intro k b k1 k2 hk
    have hk' : stx.heap.get k = some b := by
      rw [← hhx, ← X.heap (i := i + 1) (j := N) (by omega) (Nat.le_refl _) k2]
      exact hk
    have hnh : ¬ hidden (exH lt i Rs (hidA m (rng T i) (T i).st.hid)) k = true := by
      rw [exH_spec, hidA_spec]
      rintro ((h' | ⟨p, p1, p2, p3, p4⟩) | ⟨_, h'⟩)
      · rw [hidE, hidOkA_spec X.hid (by have := hn0 i hi; omega)] at h'; cases h'
      · obtain ⟨q1, q2⟩ := rng_of p1
        rw [q2] at p4
        have := X.next (i := p.1 + 1) (j := i) (by omega) (by omega)
        simp only at p4
        omega
      · rw [hidOkA_spec X.hidR (by have := hn0 i hi; omega)] at h'; cases h'
    rw [St.vis_eq, P.hid, if_neg hnh]
    exact hk'
  have U : ∀ k b, VisS N T L k b → ¬ sti.vis k = some b → w'.heap[E.ρ k]? = w.heap[E.ρ k]? := by
    intro k b hk hnv
    obtain ⟨hd, hb⟩ := hI.live k b hk
    cases hro : b.ro with
    | true =>
      have hlt := hb.old.1 hro
      rw [P.sim.below.block _ hlt, hI.below.block _ hlt]
    | false =>
      refine P.frame _ hb.lt ?_
      rintro ⟨k', b', k1, k2, k3⟩
      have hk' := (hvis k' b' k1).1
      have := hI.inj k' k b' b hk' hk k2 hro k3
      subst this
      rw [hfun k' b b' hk hk'] at hnv
      exact hnv k1
  refine hK E' _ w' ?_ (fun hlt k b hr hv => ?_)
  case refine_2 =>
    have hk : VisS N T L k b := .inl hv
    have hE0 : E.ρ k = E0.ρ k := hI.le.ρ k (X.sim.live k b hv).1
    rw [← hE0]
    refine U k b hk fun hs => ?_
    have g1 := (Sim.vis_of hs).1
    have : hidden (exH lt i Rs (hidA m (rng T i) (T i).st.hid)) k = false := g1
    rw [(exH_spec lt i Rs _ k).2 (.inr ⟨hlt, hr⟩)] at this
    cases this
  have old : ∀ k b, VisS N T (fun j => decide (j = i) || L j) k b → VisS N T L k b ∨ ((T i).st.next ≤ k ∧ k < (T (i + 1)).st.next ∧ (T N).st.heap.get k = some b) := by
    intro k b hk
    rcases hk with hk | ⟨j, j1, j2, j3, j4, j5⟩
    · exact .inl (.inl hk)
    · by_cases hji : j = i
      · subst hji; exact .inr ⟨j3, j4, j5⟩
      · have : L j = true := by simpa [hji] using j2
        exact .inl (.inr ⟨j, j1, this, j3, j4, j5⟩)
  have seen : ∀ k b, VisS N T (fun j => decide (j = i) || L j) k b → stx.vis k = some b ∨ (VisS N T L k b ∧ ¬ sti.vis k = some b) := by
    intro k b hk
    rcases old k b hk with h' | ⟨k1, k2, k3⟩
    · by_cases hv : sti.vis k = some b
      · exact .inl (V1 k b hv)
      · exact .inr ⟨h', hv⟩
    · exact .inl (V2 k b k1 k2 k3)
  have Eρ : ∀ k b, VisS N T L k b → E'.ρ k = E.ρ k := fun k b hk => P.le.ρ k (hI.live k b hk).1
  have clash : ∀ k j bk bj, stx.vis k = some bk → VisS N T L j bj → ¬ sti.vis j = some bj → bk.ro = false → bj.ro = false → E'.ρ k = E'.ρ j → False := by
    intro k j bk bj hk hj hnj r1 r2 he
    rw [Eρ j bj hj] at he
    obtain ⟨k', b', q1, q2, q3⟩ := P.cover (E.ρ j) (hI.live j bj hj).2.lt ⟨k, bk, hk, r1, he⟩
    have hk' := (hvis k' b' q1).1
    have := hI.inj k' j b' bj hk' hj q2 r2 q3
    subst this
    rw [hfun k' bj b' hj hk'] at hnj
    exact hnj q1
  refine ⟨fun j oj q1 q2 e he hb => ?_, fun j hj => ?_, hI.le.trans P.le, fun k hd => ?_, P.sim.below, fun k b hk => ?_, fun k j bk bj hk hj r1 r2 he => ?_, Nat.le_trans hI.size P.size, fun k hk hno => ?_, fun q hq ho2 => ?_, fun t r ht => ?_, ?_, ?_, ?_⟩
  · by_cases hji : j = i
    · subst hji
      rw [ho] at q1; cases q1
      have := hready e he hb
      simp [this]
    · have : L j = true := by simpa [hji] using q2
      have := hI.down j oj q1 this e he hb
      simp [this]
  · have : j ≠ i := by omega
    simp [this, hI.tail j hj]
  · rcases P.dom k hd with h' | ⟨k1, k2⟩
    · rcases hI.dom k h' with h' | ⟨j, j1, j2, j3⟩
      · exact .inl h'
      · exact .inr ⟨j, j1, by simp [j2], j3⟩
    · exact .inr ⟨i, hi, by simp, k1, by omega⟩
  · rcases seen k b hk with h' | ⟨h', hnv⟩
    · exact P.sim.live k b h'
    · obtain ⟨hd, hb⟩ := hI.live k b h'
      exact ⟨P.le.dom k hd, BRel.mono P.le hd (U k b h' hnv) hb⟩
  · rcases seen k bk hk with hk' | ⟨hk', hnk⟩
    · rcases seen j bj hj with hj' | ⟨hj', hnj⟩
      · exact P.sim.inj k j bk bj hk' hj' r1 r2 he
      · exact (clash k j bk bj hk' hj' hnj r1 r2 he).elim
    · rcases seen j bj hj with hj' | ⟨hj', hnj⟩
      · exact (clash j k bj bk hj' hk' hnk r2 r1 he.symm).elim
      · rw [Eρ k bk hk', Eρ j bj hj'] at he
        exact hI.inj k j bk bj hk' hj' r1 r2 he
  · rw [P.frame k (Nat.lt_of_lt_of_le hk hI.size) ?_, hI.frame k hk hno]
    rintro ⟨k', b', q1, q2, q3⟩
    exact hno (hI.cover k hk ⟨k', b', (hvis k' b' q1).1, q2, q3⟩)
  · obtain ⟨k, b, hk, hro, he⟩ := ho2
    rcases seen k b hk with hk' | ⟨hk', _⟩
    · obtain ⟨k', b', q1, q2, q3⟩ := P.cover q (Nat.lt_of_lt_of_le hq hI.size) ⟨k, b, hk', hro, he⟩
      exact hI.cover q hq ⟨k', b', (hvis k' b' q1).1, q2, q3⟩
    · exact hI.cover q hq ⟨k, b, hk', hro, by rw [← he, Eρ k b hk']⟩
  · by_cases hd : o.dst = some t
    · have hdi : dstAt ops i = some t := by simp [dstAt, ho, hd]
      rw [slot_after (i := i + 1) N (by omega) (fun j j1 j2 jd => ?_)] at ht
      · simp only [slotS, decide_true, Bool.true_or, true_and, hdi, if_true] at ht
        rw [hd] at h3
        simp only [putA] at h3
        cases hb : Nat.blt t nt with
        | false => simp only [hb, cond_false, reduceCtorEq] at h3
        | true =>
          have hlt := Nat.blt_eq.mp hb
          simp only [hb, cond_true, Option.some.injEq] at h3
          rw [← h3, Fr.get_set, if_pos rfl] at ht
          cases ht
          have hn := hI.nt
          exact ⟨v, by rw [hd]; simp [Act.put, hn, hlt], hxv⟩
      · have hji : j ≠ i := by omega
        simp only [hji, decide_false, Bool.false_or]
        obtain ⟨oj, mj, q1, q2, _⟩ := X.tr j (by omega)
        have hp := pairA_spec _ _ _ (X.pairs j oj mj (by omega) q1 q2) i o (by omega) ho
        rw [Nat.zero_add] at hp
        rcases hp with hp | hp
        · have := ((freeA_spec hp).1 t hd).2
          exact absurd (by simpa [dstAt, q1] using jd) this
        · exact hlater j mj (by omega) q2 hp
    · have hdi : dstAt ops i ≠ some t := by simpa [dstAt, ho] using hd
      rw [slot_congr (L' := L) N (fun j _ => by
        by_cases hji : j = i
        · subst hji; exact .inr hdi
        · left; simp [hji])] at ht
      obtain ⟨u, u1, u2⟩ := hI.tm t r ht
      refine ⟨u, ?_, u2.mono P.le⟩
      cases hdo : o.dst with
      | none => exact u1
      | some d =>
        simp only [Act.put]
        rw [Array.getElem?_setIfInBounds, if_neg (fun h' => hd (by rw [hdo, h']))]
        exact u1
  · have hn := hI.nt
    cases hdo : o.dst with
    | none => exact hn
    | some d => simp [Act.put, hn]
  · have hdd := hI.defers
    cases hdo : o.dst with
    | none => exact hdd
    | some d => exact hdd
  · intro k r hk
    obtain ⟨r1, h1⟩ := hI.loops k r hk
    exact P.loops k r1 h1
end Go.Proofs.YtfamacgopcfhhaaGreatDoor.Ax
