/-
  AN EXECUTOR OVER AN ABSTRACT MEMORY, PART P: how a step changes the abstract state, without a world.
-/
import Derived.Test.YtfamacgopcfhhaaGreatDoorAxN
namespace Go.Proofs.YtfamacgopcfhhaaGreatDoor.Ax
open Go.RowKit

structure Grow (st st' : St) : Prop where
  next : st.next ≤ st'.next
  low : st'.low ≤ st.low
  keep : ∀ i, i < st.next → i < st'.low → st'.heap.get i = st.heap.get i
  hid : st'.hid = st.hid
  bnd : (∀ i b, st.heap.get i = some b → i < st.next) → ∀ i b, st'.heap.get i = some b → i < st'.next

theorem Grow.refl (st : St) : Grow st st := ⟨Nat.le_refl _, Nat.le_refl _, fun _ _ _ => rfl, rfl, fun h => h⟩

theorem Grow.trans {a b c : St} (h : Grow a b) (k : Grow b c) : Grow a c :=
  ⟨Nat.le_trans h.next k.next, Nat.le_trans k.low h.low, fun i h1 h2 => by rw [k.keep i (Nat.lt_of_lt_of_le h1 h.next) h2, h.keep i h1 (Nat.lt_of_lt_of_le h2 k.low)], k.hid.trans h.hid, fun hb => k.bnd (h.bnd hb)⟩

theorem Grow.new (st : St) (b : Blk) : Grow st (st.new b) := by
  refine ⟨by simp [St.new], Nat.le_refl _, fun i h1 _ => ?_, rfl, fun hb i c hi => ?_⟩
  · simp only [St.new, Tr.get_set]; rw [if_neg (by omega)]
  · simp only [St.new, Tr.get_set] at hi ⊢
    by_cases h : i = st.next
    · omega
    · rw [if_neg h] at hi; have := hb i c hi; omega

theorem Grow.put {st : St} {i : Nat} {c : Blk} (hv : st.heap.get i = some c) (b : Blk) : Grow st (st.put i b) := by
  refine ⟨Nat.le_refl _, (St.low_put st i b).1, fun j h1 h2 => ?_, rfl, fun hb j d hj => ?_⟩
  · have := (St.low_put st i b).2
    simp only [St.put, Tr.get_set]
    rw [if_neg (by omega)]
  · simp only [St.put, Tr.get_set] at hj ⊢
    by_cases h : j = i
    · subst h; exact hb j c hv
    · rw [if_neg h] at hj; exact hb j d hj

theorem Grow.kill (st : St) (i : Nat) : Grow st (st.kill i) := by
  refine ⟨Nat.le_refl _, (St.low_put st i (.iter .empty 0)).1, fun j h1 h2 => ?_, rfl, fun hb j d hj => ?_⟩
  · have := (St.low_put st i (.iter .empty 0)).2
    simp only [St.put] at this
    simp only [St.kill, Tr.get_del] at h2 ⊢
    rw [if_neg (by omega)]
  · simp only [St.kill, Tr.get_del] at hj ⊢
    by_cases h : j = i
    · rw [if_pos h] at hj; cases hj
    · rw [if_neg h] at hj; exact hb j d hj

theorem newBlk_grow {st st' : St} {b : Blk} {i : Nat} (h : newBlk st b = some (i, st')) : Grow st st' := by
  unfold newBlk at h
  simp only [Bool.cond_eq_ite] at h
  split at h
  · cases h
  · cases h; exact .new st b

theorem newRow_grow {st st' : St} {t : TypeId} {as : List AV} {i : Nat} (h : newRow t as st = some (i, st')) : Grow st st' := newBlk_grow h

theorem vis_get {st : St} {i : Nat} {b : Blk} (h : st.vis i = some b) : st.heap.get i = some b := (Sim.vis_of h).2

theorem allocA_grow {C : Cfg} {st st' : St} {t : Nat} {a : AV} (h : allocA C t st = some (a, st')) : Grow st st' := by
  unfold allocA at h
  split at h
  · cases h
  · split at h
    · cases h
    · rename_i hn; cases h; exact newRow_grow hn

theorem boxA_grow {st st' : St} {t : Nat} {x a : AV} (h : boxA t x st = some (a, st')) : Grow st st' := by
  unfold boxA at h
  split at h
  · cases h
  · rename_i hn; cases h; exact newRow_grow hn

theorem buildSliceA_grow {C : Cfg} {st st' : St} {t len : Nat} {ps : List (Nat × AV)} {a : AV} (h : buildSliceA C t len ps st = some (a, st')) : Grow st st' := by
  unfold buildSliceA buildNoneA buildSomeA at h
  simp only [Bool.cond_eq_ite] at h
  repeat' split at h
  all_goals first
    | (cases h; done)
    | (rename_i hn; cases h; exact newRow_grow hn)

theorem wrCells_grow {st st' : St} {i off : Nat} {as : List AV} (h : wrCells st i off as = some st') : Grow st st' := by
  unfold wrCells at h
  simp only [Bool.cond_eq_ite] at h
  split at h
  · rename_i hv
    split at h
    · split at h
      · cases h
      · cases h; exact .put (vis_get hv) _
    · cases h
  · cases h

theorem stVar_grow {C : Cfg} {st st' : St} {t i off : Nat} {a : AV} (h : stVar C st t i off a = some st') : Grow st st' := by
  unfold stVar at h
  simp only [Bool.cond_eq_ite] at h
  split at h
  · cases h
  · split at h
    · exact wrCells_grow h
    · cases h

theorem convPtrA_grow {C : Cfg} {st st' : St} {s d : Nat} {x a : AV} (h : convPtrA C s d x st = some (a, st')) : Grow st st' := by
  unfold convPtrA at h
  simp only [Bool.cond_eq_ite] at h
  repeat' split at h
  all_goals first
    | (cases h; done)
    | (cases h; exact .refl _)

theorem convertA_grow {C : Cfg} {st st' : St} {s d : Nat} {x a : AV} (h : convertA C s d x st = some (a, st')) : Grow st st' := by
  unfold convertA at h
  repeat' split at h
  all_goals first
    | (cases h; done)
    | (cases h; exact .refl _)
    | exact convPtrA_grow h
    | (rename_i hn; cases h; exact newBlk_grow hn)

theorem appendA_grow {C : Cfg} {st st' : St} {tys : List Nat} {args : List AV} {a : AV} (h : appendA C tys args st = some (a, st')) : Grow st st' := by
  unfold appendA at h
  simp only [Bool.cond_eq_ite] at h
  repeat' split at h
  all_goals first
    | (cases h; done)
    | (cases h; exact .refl _)
    | (rename_i hn; cases h; exact newRow_grow hn)
    | (rename_i hn; cases h; exact wrCells_grow hn)
    | (rename_i hn; cases h; exact (Grow.kill _ _).trans (newBlk_grow hn))
    | (rename_i hn; cases h; split at hn <;> first | exact wrCells_grow hn | (cases hn; done))

theorem copyA_grow {C : Cfg} {st st' : St} {tys : List Nat} {args : List AV} {a : AV} (h : copyA C tys args st = some (a, st')) : Grow st st' := by
  unfold copyA at h
  simp only [Bool.cond_eq_ite] at h
  repeat' split at h
  all_goals first
    | (cases h; done)
    | (cases h; exact .refl _)
    | (rename_i hn; cases h; exact wrCells_grow hn)

theorem clearA_grow {C : Cfg} {st st' : St} {tys : List Nat} {args : List AV} {a : AV} (h : clearA C tys args st = some (a, st')) : Grow st st' := by
  unfold clearA at h
  simp only [Bool.cond_eq_ite] at h
  repeat' split at h
  all_goals first
    | (cases h; done)
    | (cases h; exact .refl _)
    | (rename_i hn; cases h; exact wrCells_grow hn)

theorem stringA_grow {C : Cfg} {st st' : St} {tys : List Nat} {args : List AV} {a : AV} (h : stringA C tys args st = some (a, st')) : Grow st st' := by
  unfold stringA at h
  simp only [Bool.cond_eq_ite] at h
  repeat' split at h
  all_goals first
    | (cases h; done)
    | (cases h; exact .refl _)
    | (cases h; exact .put (vis_get (by assumption)) _)

theorem makeA_grow {C : Cfg} {st st' : St} {t : Nat} {l c a : AV} (h : makeA C t l c st = some (a, st')) : Grow st st' := by
  unfold makeA at h
  simp only [Bool.cond_eq_ite] at h
  repeat' split at h
  all_goals first
    | (cases h; done)
    | (rename_i hn; cases h; exact newRow_grow hn)

theorem rangeA_grow {C : Cfg} {st st' : St} {t : Nat} {x a : AV} (h : rangeA C t x st = some (a, st')) : Grow st st' := by
  unfold rangeA at h
  repeat' split at h
  all_goals first
    | (cases h; done)
    | (rename_i hn; cases h; exact newBlk_grow hn)

theorem nextA_grow {st st' : St} {x a : AV} {b : Bool} (h : nextA x b st = some (a, st')) : Grow st st' := by
  unfold nextA at h
  simp only [Bool.cond_eq_ite] at h
  repeat' split at h
  all_goals first
    | (cases h; done)
    | (cases h; exact .refl _)
    | (cases h; exact .put (vis_get (by assumption)) _)

theorem makeMapA_grow {st st' : St} {a : AV} (h : makeMapA st = some (a, st')) : Grow st st' := by
  unfold makeMapA at h
  split at h
  · rename_i hn; cases h; exact newBlk_grow hn
  · cases h

theorem updateA_grow {C : Cfg} {t : Nat} {x k v : AV} {st st' : St} (h : updateA C t x k v st = some st') : Grow st st' := by
  unfold updateA at h
  split at h
  · split at h
    · rename_i hvis
      simp only [Bool.cond_eq_ite] at h
      split at h
      · split at h
        · cases h; exact .put (vis_get (by assumption)) _
        · cases h; exact .put (vis_get (by assumption)) _
        · cases h
      · cases h
    · cases h
  · cases h

def AR.grow (st : St) : AR → Prop
  | .val _ st' => Grow st st'
  | .skip st' => Grow st st'
  | .enter _ _ => True

theorem grow_val {st : St} {x : Option AV} {r : AR} (h : AR.ofVal st x = some r) : r.grow st := by
  obtain ⟨a, _, rfl⟩ := ofVal_some h
  exact .refl st

theorem grow_pair {st : St} {x : Option (AV × St)} {r : AR} (h : AR.ofPair x = some r) (hx : ∀ a st', x = some (a, st') → Grow st st') : r.grow st := by
  obtain ⟨a, st', h1, rfl⟩ := ofPair_some h
  exact hx a st' h1

theorem builtinA_grow {C : Cfg} {b : Builtin} {tys : List Nat} {args : List AV} {st : St} {r : AR} (h : builtinA C b tys args st = some r) : r.grow st := by
  unfold builtinA at h
  split at h
  · exact grow_pair h fun _ _ h => appendA_grow h
  · exact grow_pair h fun _ _ h => copyA_grow h
  · exact grow_val h
  · exact grow_val h
  · split at h
    · exact grow_val h
    · cases h
  · split at h
    · exact grow_val h
    · cases h
  · exact grow_val h
  · exact grow_pair h fun _ _ h => stringA_grow h
  · exact grow_pair h fun _ _ h => clearA_grow h
  · cases h

theorem extSt_grow {e : Ext} {args : List AV} {st st' : St} {a : AV} (h : extSt e args st = some (a, st')) : Grow st st' := by
  unfold extSt at h
  simp only [Bool.cond_eq_ite] at h
  repeat' split at h
  all_goals first
    | (cases h; done)
    | (cases h; exact .refl _)
    | (rename_i hn; cases h; exact newBlk_grow hn)

theorem callA_grow {C : Cfg} {f : AV} {args : List AV} {st : St} {r : AR} (h : callA C f args st = some r) : r.grow st := by
  unfold callA at h
  split at h
  · split at h
    · cases h; trivial
    · split at h
      · exact grow_pair h fun _ _ h => extSt_grow h
      · cases h
  · cases h

theorem skipOf_grow {st : St} {x : Option St} {r : AR} (h : skipOf x = some r) (hx : ∀ st', x = some st' → Grow st st') : r.grow st := by
  cases x with
  | none => cases h
  | some st' => cases h; exact hx st' rfl

theorem mkMapA_grow {C : Cfg} {t : Nat} {x : AV} {st : St} {r : AR} (h : mkMapA C t x st = some r) : r.grow st := by
  unfold mkMapA at h
  split at h
  · exact grow_pair h fun _ _ h => makeMapA_grow h
  · cases h

theorem aop_grow {C : Cfg} {fr : Fr} {st : St} {o : Oper} {r : AR} (h : aop C fr st o = some r) : r.grow st := by
  unfold aop at h
  split at h
  all_goals first
    | (exact grow_pair h fun _ _ h => makeMapA_grow h; done)
    | (obtain ⟨_, _, h⟩ := e1_some h; exact mkMapA_grow h; done)
    | (obtain ⟨_, _, h⟩ := e1_some h; obtain ⟨_, _, h⟩ := e1_some h; obtain ⟨_, _, h⟩ := e1_some h; exact skipOf_grow h fun _ h => updateA_grow h; done)
    | (exact grow_val h; done)
    | (obtain ⟨_, _, h⟩ := e1_some h; exact grow_val h; done)
    | (obtain ⟨_, _, h⟩ := e1_some h; obtain ⟨_, _, h⟩ := e1_some h; exact grow_val h; done)
    | (exact grow_pair h fun _ _ h => allocA_grow h; done)
    | (obtain ⟨_, _, h⟩ := e1_some h; exact grow_pair h fun _ _ h => boxA_grow h; done)
    | (obtain ⟨_, _, h⟩ := e1_some h; exact grow_pair h fun _ _ h => convertA_grow h; done)
    | (obtain ⟨_, _, h⟩ := e1_some h; exact grow_pair h fun _ _ h => rangeA_grow h; done)
    | (obtain ⟨_, _, h⟩ := e1_some h; exact grow_pair h fun _ _ h => nextA_grow h; done)
    | (obtain ⟨_, _, h⟩ := e1_some h; obtain ⟨_, _, h⟩ := e1_some h; exact grow_pair h fun _ _ h => makeA_grow h; done)
    | (cases h; done)
    | skip
  · obtain ⟨_, _, h⟩ := e1_some h
    unfold pickA at h
    split at h
    · exact grow_val h
    · exact grow_val h
    · cases h
  · split at h
    · exact grow_val h
    · cases h
  · split at h
    · exact grow_pair h fun _ _ h => buildSliceA_grow h
    · cases h
  · obtain ⟨_, _, h⟩ := e1_some h
    unfold loadA at h
    split at h
    · exact grow_val h
    · cases h
  · obtain ⟨_, _, h⟩ := e1_some h
    obtain ⟨_, _, h⟩ := e1_some h
    unfold storeA at h
    split at h
    · split at h
      · rename_i hs; cases h; exact stVar_grow hs
      · cases h
    · cases h
  · obtain ⟨_, _, h⟩ := e1_some h
    unfold checkA at h
    split at h
    · cases h; exact .refl _
    · cases h; exact .refl _
    · cases h; exact .refl _
    · cases h
  · split at h
    · cases h; exact .refl _
    · cases h
  · obtain ⟨_, _, h⟩ := e1_some h
    split at h
    · exact grow_val h
    · cases h
  · split at h
    · cases h
    · split at h
      · exact builtinA_grow h
      · obtain ⟨_, _, h⟩ := e1_some h
        exact callA_grow h
      · cases h
/-! A call is entered only where a function with a body lies. -/
theorem noVal {st : St} {x : Option AV} {f : Nat} {l : List AV} (h : AR.ofVal st x = some (.enter f l)) : False := by
  obtain ⟨a, _, h2⟩ := ofVal_some h
  cases h2
theorem noPair {x : Option (AV × St)} {f : Nat} {l : List AV} (h : AR.ofPair x = some (.enter f l)) : False := by
  obtain ⟨a, st', _, h2⟩ := ofPair_some h
  cases h2

theorem noSkip {x : Option St} {f : Nat} {l : List AV} (h : skipOf x = some (.enter f l)) : False := by
  cases x <;> cases h
theorem noMk {C : Cfg} {t : Nat} {x : AV} {st : St} {f : Nat} {l : List AV} (h : mkMapA C t x st = some (.enter f l)) : False := by
  unfold mkMapA at h
  split at h
  · exact noPair h
  · cases h

theorem aop_enter {C : Cfg} {fr : Fr} {st : St} {o : Oper} {f : Nat} {l : List AV} (h : aop C fr st o = some (.enter f l)) : ∃ p, C.fn f = some p := by
  unfold aop at h
  split at h
  all_goals first
    | (obtain ⟨_, _, h⟩ := e1_some h; exact (noMk h).elim; done)
    | (obtain ⟨_, _, h⟩ := e1_some h; obtain ⟨_, _, h⟩ := e1_some h; obtain ⟨_, _, h⟩ := e1_some h; exact (noSkip h).elim; done)
    | (exact (noVal h).elim; done)
    | (exact (noPair h).elim; done)
    | (obtain ⟨_, _, h⟩ := e1_some h; exact (noVal h).elim; done)
    | (obtain ⟨_, _, h⟩ := e1_some h; exact (noPair h).elim; done)
    | (obtain ⟨_, _, h⟩ := e1_some h; obtain ⟨_, _, h⟩ := e1_some h; exact (noVal h).elim; done)
    | (obtain ⟨_, _, h⟩ := e1_some h; obtain ⟨_, _, h⟩ := e1_some h; exact (noPair h).elim; done)
    | (cases h; done)
    | skip
  · obtain ⟨_, _, h⟩ := e1_some h
    unfold pickA at h
    split at h
    · exact (noVal h).elim
    · exact (noVal h).elim
    · cases h
  · split at h
    · exact (noVal h).elim
    · cases h
  · split at h
    · exact (noPair h).elim
    · cases h
  · obtain ⟨_, _, h⟩ := e1_some h
    unfold loadA at h
    split at h
    · exact (noVal h).elim
    · cases h
  · obtain ⟨_, _, h⟩ := e1_some h
    obtain ⟨_, _, h⟩ := e1_some h
    unfold storeA at h
    split at h
    · split at h
      · cases h
      · cases h
    · cases h
  · obtain ⟨_, _, h⟩ := e1_some h
    unfold checkA at h
    split at h
    · cases h
    · cases h
    · cases h
    · cases h
  · split at h
    · cases h
    · cases h
  · obtain ⟨_, _, h⟩ := e1_some h
    split at h
    · exact (noVal h).elim
    · cases h
  · split at h
    · cases h
    · split at h
      · unfold builtinA at h
        split at h
        all_goals first
          | (exact (noVal h).elim; done)
          | (exact (noPair h).elim; done)
          | (split at h <;> first | exact (noVal h).elim | cases h; done)
          | (cases h; done)
      · obtain ⟨_, _, h⟩ := e1_some h
        unfold callA at h
        split at h
        · split at h
          · rename_i p hp; cases h; exact ⟨p, hp⟩
          · split at h
            · exact (noPair h).elim
            · cases h
        · cases h
      · cases h
end Go.Proofs.YtfamacgopcfhhaaGreatDoor.Ax
