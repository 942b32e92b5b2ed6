/-
  AN EXECUTOR OVER AN ABSTRACT MEMORY, PART S: what the looks at a drawing region say; the run of its head, place by place.
-/
import Derived.Test.YtfamacgopcfhhaaGreatDoorAxQ
namespace Go.Proofs.YtfamacgopcfhhaaGreatDoor.Ax
open Go.RowKit

/-- What is hidden while an operation of the head is carried out. -/
theorem hidden_append (a b : List (Nat × Nat)) (k : Nat) : hidden (a ++ b) k = (hidden a k || hidden b k) := by
  induction a with
  | nil => simp [hidden]
  | cons p a ih =>
    obtain ⟨lo, hi⟩ := p
    simp only [List.cons_append, hidden, ih]
    cases (Nat.ble lo k && Nat.blt k hi) <;> simp

theorem edgesA_spec {i : Nat} : ∀ {l : List Edge}, edgesA i l = true → ∀ e ∈ l, bindsAny e = true → e.on < i
  | [], _, e, he, _ => by cases he
  | d :: l, h, e, he, hb => by
    simp only [edgesA, Bool.and_eq_true, Bool.or_eq_true, Bool.not_eq_true'] at h
    rcases List.mem_cons.1 he with rfl | he
    · rcases h.1 with h1 | h1
      · rw [h1] at hb; cases hb
      · exact Nat.blt_eq.mp h1
    · exact edgesA_spec h.2 e he hb

theorem pairA_spec {all : List Oper} {m : Nat} {y : Oper} : ∀ (xs : List Oper) (j n : Nat), pairA all m y xs j n = true → ∀ t x, t < n → xs[t]? = some x → freeA all x y = true ∨ Nat.testBit m (j + t) = true
  | [], j, n, _, t, x, _, hx => by simp at hx
  | a :: xs, j, 0, _, t, x, ht, _ => by omega
  | a :: xs, j, n + 1, h, t, x, ht, hx => by
    simp only [pairA, Bool.and_eq_true, Bool.or_eq_true] at h
    cases t with
    | zero => simp at hx; subst hx; exact h.1
    | succ t =>
      have := pairA_spec xs (j + 1) n h.2 t x (by omega) (by simpa using hx)
      rw [show j + (t + 1) = j + 1 + t by omega]
      exact this

theorem headOkA_spec {all : List Oper} : ∀ (os : List Oper) (ms : List Nat) (i n : Nat), headOkA all os ms i n = true → ∀ t, t < n → ∃ o m, os[t]? = some o ∧ ms[t]? = some m ∧ edgesA (i + t) o.after.toList = true ∧ pairA all m o all 0 (i + t) = true
  | os, ms, i, 0, _, t, ht => by omega
  | [], ms, i, n + 1, h, t, ht => by simp [headOkA] at h
  | o :: os, [], i, n + 1, h, t, ht => by simp [headOkA] at h
  | o :: os, m :: ms, i, n + 1, h, t, ht => by
    simp only [headOkA, Bool.and_eq_true] at h
    cases t with
    | zero => exact ⟨o, m, rfl, rfl, h.1, h.2.1⟩
    | succ t =>
      obtain ⟨o', m', h1, h2, h3, h4⟩ := headOkA_spec os ms (i + 1) n h.2.2 t (by omega)
      rw [show i + (t + 1) = i + 1 + t by omega]
      exact ⟨o', m', by simpa using h1, by simpa using h2, h3, h4⟩

theorem freeA_spec {all : List Oper} {x y : Oper} (h : freeA all x y = true) :
    (∀ d, x.dst = some d → d ∉ looksA all y ∧ y.dst ≠ some d) ∧ (∀ d, y.dst = some d → d ∉ looksA all x) := by
  unfold freeA at h
  simp only [Bool.and_eq_true] at h
  constructor
  · intro d hd
    have h1 := h.1
    rw [hd] at h1
    simp only [Bool.and_eq_true, Bool.not_eq_true'] at h1
    refine ⟨fun hm => ?_, fun hy => ?_⟩
    · rw [(memN_iff d _).2 hm] at h1; exact absurd h1.1 (by simp)
    · rw [hy] at h1; simp at h1
  · intro d hd hm
    have h1 := h.2
    rw [hd] at h1
    simp only [Bool.not_eq_true'] at h1
    rw [(memN_iff d _).2 hm] at h1
    cases h1

theorem testBit_one (n k : Nat) : (Nat.shiftLeft 1 n).testBit k = decide (n = k) := by
  show ((1 <<< n) : Nat).testBit k = _
  rw [Nat.one_shiftLeft, Nat.testBit_two_pow]

theorem testBit_full (n k : Nat) : (Nat.pred (Nat.shiftLeft 1 n)).testBit k = decide (k < n) := by
  show (((1 <<< n) : Nat) - 1).testBit k = _
  rw [Nat.one_shiftLeft, Nat.testBit_two_pow_sub_one]

theorem maskE_spec {acc : List Nat} (L : Nat → Prop) (hacc : ∀ i m, acc[i]? = some m → L i → ∀ k, m.testBit k = true → L k) : ∀ (es : List Edge) (s : Nat), (∀ k, s.testBit k = true → L k) → (∀ e ∈ es, bindsAny e = true → L e.on) → ∀ k, (maskE acc es s).testBit k = true → L k
  | [], s, hs, _, k, hk => hs k hk
  | e :: es, s, hs, he, k, hk => by
    simp only [maskE] at hk
    cases hb : bindsAny e with
    | false =>
      rw [hb, cond_false] at hk
      exact maskE_spec L hacc es s hs (fun d hd => he d (List.mem_cons_of_mem _ hd)) k hk
    | true =>
      rw [hb, cond_true] at hk
      refine maskE_spec L hacc es _ (fun q hq => ?_) (fun d hd => he d (List.mem_cons_of_mem _ hd)) k hk
      have hon := he e (List.mem_cons_self ..) hb
      change (s ||| (Nat.shiftLeft 1 e.on ||| _)).testBit q = true at hq
      rw [Nat.testBit_or, Nat.testBit_or, testBit_one] at hq
      simp only [Bool.or_eq_true, decide_eq_true_eq] at hq
      rcases hq with hq | hq | hq
      · exact hs q hq
      · exact hq ▸ hon
      · rw [nth_eq] at hq
        cases hm : acc[e.on]? with
        | none => rw [hm] at hq; simp at hq
        | some m => rw [hm] at hq; exact hacc _ m hm hon q hq

/-- What comes before a listed operation is listed. -/
theorem masks_spec (L : Nat → Prop) : ∀ (l : List Oper) (acc : List Nat), (∀ i m, acc[i]? = some m → L i → ∀ k, m.testBit k = true → L k) → (∀ t o, l[t]? = some o → L (acc.length + t) → ∀ e ∈ o.after.toList, bindsAny e = true → L e.on) →
    ∀ i m, (masks l acc)[i]? = some m → L i → ∀ k, m.testBit k = true → L k
  | [], acc, hacc, _, i, m, hi, hL, k, hk => hacc i m hi hL k hk
  | o :: l, acc, hacc, hl, i, m, hi, hL, k, hk => by
    simp only [masks] at hi
    refine masks_spec L l (acc ++ [maskE acc o.after.toList 0]) (fun i m hi hL k hk => ?_) (fun t o' ho hL => ?_) i m hi hL k hk
    · rw [List.getElem?_append] at hi
      by_cases hlt : i < acc.length
      · rw [if_pos hlt] at hi; exact hacc i m hi hL k hk
      · rw [if_neg hlt] at hi
        have hi0 : i - acc.length = 0 := by
          rcases Nat.eq_zero_or_pos (i - acc.length) with h' | h'
          · exact h'
          · rw [List.getElem?_eq_none (by simp; omega)] at hi; cases hi
        rw [hi0] at hi
        simp only [List.getElem?_cons_zero, Option.some.injEq] at hi
        subst hi
        have hie : i = acc.length + 0 := by omega
        exact maskE_spec L hacc _ 0 (fun k hk => by simp at hk) (hl 0 o rfl (hie ▸ hL)) k hk
    · have := hl (t + 1) o' (by simpa using ho)
      rw [List.length_append, List.length_singleton] at hL
      exact this (by rw [show acc.length + (t + 1) = acc.length + 1 + t by omega]; exact hL)

theorem masks_length : ∀ (l : List Oper) (acc : List Nat), (masks l acc).length = acc.length + l.length
  | [], acc => by simp [masks]
  | o :: l, acc => by simp only [masks]; rw [masks_length l]; simp; omega

theorem tailOkA_spec {full fl : Nat} : ∀ {ms : List Nat}, tailOkA full fl ms = true → ∀ (t m : Nat), ms[t]? = some m → Nat.land (Nat.lor m fl) full = full
  | [], _, t, m, h => by simp at h
  | a :: ms, hk, t, m, h => by
    simp only [tailOkA, Bool.and_eq_true] at hk
    cases t with
    | zero => simp at h; subst h; exact Nat.eq_of_beq_eq_true hk.1
    | succ t => exact tailOkA_spec hk.2 t m (by simpa using h)

theorem linkA_spec {p : Nat} : ∀ {l : List Edge}, linkA l p = true → ∃ e ∈ l, bindsAny e = true ∧ e.on = p
  | [], h => by simp [linkA] at h
  | d :: l, h => by
    simp only [linkA, Bool.or_eq_true, Bool.and_eq_true] at h
    rcases h with h | h
    · exact ⟨d, List.mem_cons_self .., h.1, Nat.eq_of_beq_eq_true h.2⟩
    · obtain ⟨e, h1, h2⟩ := linkA_spec h; exact ⟨e, List.mem_cons_of_mem _ h1, h2⟩

theorem chainA_spec : ∀ {l : List Oper} {first : Bool} {k : Nat}, chainA first l k = true → ∀ t o, l[t]? = some o → edgesA (k + t) o.after.toList = true ∧ ((first = false ∨ 0 < t) → linkA o.after.toList (Nat.pred (k + t)) = true)
  | [], _, _, _, t, o, ho => by simp at ho
  | a :: l, first, k, h, t, o, ho => by
    simp only [chainA, Bool.and_eq_true, Bool.or_eq_true] at h
    cases t with
    | zero =>
      simp at ho; subst ho
      refine ⟨h.1, fun hf => ?_⟩
      rcases hf with hf | hf
      · rcases h.2.1 with h' | h'
        · rw [hf] at h'; cases h'
        · exact h'
      · omega
    | succ t =>
      obtain ⟨h1, h2⟩ := chainA_spec h.2.2 t o (by simpa using ho)
      rw [show k + (t + 1) = k + 1 + t by omega]
      exact ⟨h1, fun _ => h2 (.inl rfl)⟩

theorem apartAll_spec {all : List Oper} {i : Nat} {o : Oper} : ∀ (xs : List Oper) (j : Nat), apartAll all i o xs j = true → ∀ t x, xs[t]? = some x → j + t = i ∨ linkA o.after.toList (j + t) = true ∨ linkA x.after.toList i = true ∨ freeA all o x = true
  | [], j, _, t, x, hx => by simp at hx
  | a :: xs, j, h, t, x, hx => by
    simp only [apartAll, Bool.and_eq_true, Bool.or_eq_true] at h
    cases t with
    | zero =>
      simp at hx; subst hx
      rcases h.1 with h1 | h1 | h1 | h1
      · exact .inl (Nat.eq_of_beq_eq_true h1)
      · exact .inr (.inl h1)
      · exact .inr (.inr (.inl h1))
      · exact .inr (.inr (.inr h1))
    | succ t =>
      rw [show j + (t + 1) = j + 1 + t by omega]
      exact apartAll_spec xs (j + 1) h.2 t x (by simpa using hx)

/-- What is said of an operation that floats. -/
structure Floats (all : List Oper) (i : Nat) (o : Oper) : Prop where
  hands : handsOn o.op = true
  guard : o.guard = none
  apart : ∀ j x, all[j]? = some x → j = i ∨ linkA o.after.toList j = true ∨ linkA x.after.toList i = true ∨ freeA all o x = true

theorem flMask_spec {all : List Oper} : ∀ (os : List Oper) (i k : Nat), (flMask all os i).testBit k = true → ∃ t o, k = i + t ∧ os[t]? = some o ∧ Floats all k o
  | [], i, k, h => by simp [flMask] at h
  | a :: os, i, k, h => by
    simp only [flMask] at h
    have rest : (flMask all os (i + 1)).testBit k = true → ∃ t o, k = i + t ∧ (a :: os)[t]? = some o ∧ Floats all k o := by
      intro h'
      obtain ⟨t, o, h1, h2, h3⟩ := flMask_spec os (i + 1) k h'
      exact ⟨t + 1, o, by omega, by simpa using h2, h3⟩
    cases hf : floatA all i a with
    | false => rw [hf, cond_false] at h; exact rest h
    | true =>
      rw [hf, cond_true] at h
      change ((Nat.shiftLeft 1 i) ||| _).testBit k = true at h
      rw [Nat.testBit_or, testBit_one] at h
      simp only [Bool.or_eq_true, decide_eq_true_eq] at h
      rcases h with h | h
      · subst h
        simp only [floatA, Bool.and_eq_true, Option.isNone_iff_eq_none] at hf
        refine ⟨0, a, rfl, rfl, hf.1, hf.2.1, fun j x hx => ?_⟩
        have := apartAll_spec all 0 hf.2.2 j x hx
        rw [Nat.zero_add] at this
        exact this
      · exact rest h

theorem noSelA_spec : ∀ {l : List Oper}, noSelA l = true → ∀ o ∈ l, ∀ cs b, o.op ≠ .select cs b
  | [], _, o, ho, _, _ => by cases ho
  | a :: l, h, o, ho, cs, b => by
    simp only [noSelA, Bool.and_eq_true] at h
    rcases List.mem_cons.1 ho with rfl | ho
    · intro he
      have h1 := h.1
      rw [he] at h1
      cases h1
    · exact noSelA_spec h.2 o ho cs b

/-- What is said of a load that may come late. -/
structure Late (all : List Oper) (i : Nat) (o : Oper) (p : Nat) : Prop where
  op : ∃ t, o.op = .load t (.tmp p)
  guard : o.guard = none
  apart : ∀ j x, all[j]? = some x → j = i ∨ linkA o.after.toList j = true ∨ linkA x.after.toList i = true ∨ freeA all o x = true

theorem notDst_spec {p : Nat} : ∀ {l : List Oper}, notDst p l = true → ∀ x ∈ l, x.dst ≠ some p
  | [], _, x, hx => by cases hx
  | a :: l, h, x, hx => by
    simp only [notDst, Bool.and_eq_true] at h
    rcases List.mem_cons.1 hx with rfl | hx
    · intro he
      have h1 := h.1
      rw [he] at h1
      simp at h1
    · exact notDst_spec h.2 x hx

theorem lateA_spec {all : List Oper} {i : Nat} {o : Oper} (h : lateA all i o = true) : ∃ p, Late all i o p := by
  unfold lateA at h
  split at h
  · rename_i t p hop
    simp only [Bool.and_eq_true, Option.isNone_iff_eq_none] at h
    refine ⟨p, ⟨t, hop⟩, h.1, fun j x hx => ?_⟩
    have := apartAll_spec all 0 h.2 j x hx
    rw [Nat.zero_add] at this
    exact this
  · cases h

theorem ltMask_spec {all : List Oper} : ∀ (os : List Oper) (i k : Nat), (ltMask all os i).testBit k = true → ∃ t o p, k = i + t ∧ os[t]? = some o ∧ Late all k o p
  | [], i, k, h => by simp [ltMask] at h
  | a :: os, i, k, h => by
    simp only [ltMask] at h
    have rest : (ltMask all os (i + 1)).testBit k = true → ∃ t o p, k = i + t ∧ (a :: os)[t]? = some o ∧ Late all k o p := by
      intro h'
      obtain ⟨t, o, p, h1, h2, h3⟩ := ltMask_spec os (i + 1) k h'
      exact ⟨t + 1, o, p, by omega, by simpa using h2, h3⟩
    cases hf : lateA all i a with
    | false => rw [hf, cond_false] at h; exact rest h
    | true =>
      rw [hf, cond_true] at h
      change ((Nat.shiftLeft 1 i) ||| _).testBit k = true at h
      rw [Nat.testBit_or, testBit_one] at h
      simp only [Bool.or_eq_true, decide_eq_true_eq] at h
      rcases h with h | h
      · subst h
        obtain ⟨p, hp⟩ := lateA_spec hf
        exact ⟨0, a, p, rfl, rfl, hp⟩
      · exact rest h

/-- What the plan says of what it names. -/
structure PlanOk (ops : List Oper) (fl lt : Nat) : Prop where
  none : fl = 0 ∨ noSelA ops = true
  late : ∀ k, lt.testBit k = true → ∃ o p, ops[k]? = some o ∧ Late ops k o p
  fl : ∀ k, fl.testBit k = true → lt.testBit k = true ∨ ∃ o, ops[k]? = some o ∧ Floats ops k o

theorem planA_spec (ops : List Oper) : PlanOk ops (planA ops).2.1 (planA ops).2.2 := by
  have hfm : ∀ k, (flMask ops ops 0).testBit k = true → ∃ o, ops[k]? = some o ∧ Floats ops k o := by
    intro k hk
    obtain ⟨t, o, h1, h2, h3⟩ := flMask_spec _ _ _ hk
    rw [Nat.zero_add] at h1
    subst h1
    exact ⟨o, h2, h3⟩
  have hlm : ∀ k, (ltMask ops ops 0).testBit k = true → ∃ o p, ops[k]? = some o ∧ Late ops k o p := by
    intro k hk
    obtain ⟨t, o, p, h1, h2, h3⟩ := ltMask_spec _ _ _ hk
    rw [Nat.zero_add] at h1
    subst h1
    exact ⟨o, p, h2, h3⟩
  unfold planA
  cases hb : (anyWrites ops (ops.length - tailLen 0 (masks ops []) 0) && noSelA ops) with
  | false => exact ⟨.inl rfl, fun k hk => by simp at hk, fun k hk => by simp at hk⟩
  | true =>
    simp only [Bool.and_eq_true] at hb
    rw [cond_true]
    unfold planB
    cases anyWrites ops (ops.length - tailLenC (flMask ops ops 0) (masks ops []) ops 0) with
    | false => exact ⟨.inr hb.2, fun k hk => by simp at hk, fun k hk => .inr (hfm k hk)⟩
    | true =>
      rw [cond_true]
      generalize (ops.length - tailLenC (Nat.lor (flMask ops ops 0) (ltMask ops ops 0)) (masks ops []) ops 0) = n
      unfold planC
      cases (Nat.blt n (ops.length - tailLenC (flMask ops ops 0) (masks ops []) ops 0) && anyWrites (ops.drop n) (Nat.sub (ops.length - tailLenC (flMask ops ops 0) (masks ops []) ops 0) n)) with
      | false => exact ⟨.inr hb.2, fun k hk => by simp at hk, fun k hk => .inr (hfm k hk)⟩
      | true =>
        rw [cond_true]
        have hl : ∀ k, (Nat.land (ltMask ops ops 0) (ltSel ops (ltMask ops ops 0) (nSel ops (ltMask ops ops 0) n))).testBit k = true → ∃ o p, ops[k]? = some o ∧ Late ops k o p := by
          intro k hk
          change ((ltMask ops ops 0) &&& _).testBit k = true at hk
          rw [Nat.testBit_and, Bool.and_eq_true] at hk
          exact hlm k hk.1
        refine ⟨.inr hb.2, hl, fun k hk => ?_⟩
        change ((flMask ops ops 0) ||| _).testBit k = true at hk
        rw [Nat.testBit_or, Bool.or_eq_true] at hk
        rcases hk with hk | hk
        · exact .inr (hfm k hk)
        · exact .inl hk

theorem planA_sub (ops : List Oper) : ∀ k, (planA ops).2.2.testBit k = true → (planA ops).2.1.testBit k = true := by
  unfold planA
  cases (anyWrites ops (ops.length - tailLen 0 (masks ops []) 0) && noSelA ops) with
  | false => intro k hk; simp at hk
  | true =>
    rw [cond_true]
    unfold planB
    cases anyWrites ops (ops.length - tailLenC (flMask ops ops 0) (masks ops []) ops 0) with
    | false => intro k hk; simp at hk
    | true =>
      rw [cond_true]
      generalize (ops.length - tailLenC (Nat.lor (flMask ops ops 0) (ltMask ops ops 0)) (masks ops []) ops 0) = n
      unfold planC
      cases (Nat.blt n (ops.length - tailLenC (flMask ops ops 0) (masks ops []) ops 0) && anyWrites (ops.drop n) (Nat.sub (ops.length - tailLenC (flMask ops ops 0) (masks ops []) ops 0) n)) with
      | false => intro k hk; simp at hk
      | true =>
        rw [cond_true]
        intro k hk
        change ((flMask ops ops 0) ||| _).testBit k = true
        rw [Nat.testBit_or, Bool.or_eq_true]
        exact .inr hk

theorem lateR_one {fr : Fr} {lt : Nat} {all : List Oper} : ∀ {os : List Oper} {i : Nat} {Rs : List (Nat × Nat)}, lateR fr lt all os i = some Rs → ∀ p ∈ Rs, p.2 = p.1 + 1
  | [], i, Rs, h, p, hp => by simp only [lateR, Option.some.injEq] at h; subst h; cases hp
  | a :: os, i, Rs, h, p, hp => by
    simp only [lateR] at h
    cases hbit : Nat.testBit lt i with
    | false => rw [hbit, cond_false] at h; exact lateR_one h p hp
    | true =>
      rw [hbit, cond_true] at h
      repeat' split at h
      all_goals first
        | (cases h; done)
        | (cases h
           rcases List.mem_cons.1 hp with rfl | hp
           · rfl
           · exact lateR_one (by assumption) p hp)

theorem lateBs_one {fr : Fr} {lt : Nat} {ops : List Oper} {Rs : List (Nat × Nat)} (h : lateBs fr lt ops = some Rs) : ∀ p ∈ Rs, p.2 = p.1 + 1 := by
  intro p hp
  unfold lateBs at h
  rw [Tr.cbeq] at h
  by_cases hl : lt = 0
  · rw [if_pos hl] at h; cases h; cases hp
  · rw [if_neg hl] at h; exact lateR_one h p hp

theorem hidden_one {Rs : List (Nat × Nat)} (h : ∀ p ∈ Rs, p.2 = p.1 + 1) (k : Nat) : hidden Rs k = true ↔ ∃ p ∈ Rs, p.1 = k := by
  induction Rs with
  | nil => simp [hidden]
  | cons q l ih =>
    obtain ⟨lo, hi⟩ := q
    have hq : hi = lo + 1 := h (lo, hi) (List.mem_cons_self ..)
    have ih' := ih fun p hp => h p (List.mem_cons_of_mem _ hp)
    simp only [hidden]
    subst hq
    cases hc : (Nat.ble lo k && Nat.blt k (lo + 1)) with
    | true =>
      simp only [Bool.and_eq_true] at hc
      have h1 := Nat.le_of_ble_eq_true hc.1
      have h2 := Nat.blt_eq.mp hc.2
      simp only [cond_true, true_iff]
      exact ⟨_, List.mem_cons_self .., by omega⟩
    | false =>
      rw [cond_false, ih']
      constructor
      · rintro ⟨p, h1, h2⟩; exact ⟨p, List.mem_cons_of_mem _ h1, h2⟩
      · rintro ⟨p, h1, h2⟩
        rcases List.mem_cons.1 h1 with rfl | h1
        · exfalso
          simp only at h2
          subst h2
          rw [Nat.blt_eq.mpr (Nat.lt_succ_self _), Bool.and_true] at hc
          rw [Nat.ble_eq_true_of_le (Nat.le_refl _)] at hc
          cases hc
        · exact ⟨p, h1, h2⟩

theorem backR_spec {h : Tr Blk} : ∀ {Rs : List (Nat × Nat)} {t t' : Tr Blk}, backR h Rs t = some t' → ∀ k, ((∃ p ∈ Rs, p.1 = k) → t'.get k = h.get k) ∧ ((¬ ∃ p ∈ Rs, p.1 = k) → t'.get k = t.get k)
  | [], t, t', hb, k => by
    simp only [backR, Option.some.injEq] at hb
    subst hb
    exact ⟨fun ⟨p, h1, _⟩ => by simp at h1, fun _ => rfl⟩
  | (b, e) :: l, t, t', hb, k => by
    simp only [backR] at hb
    cases hg : h.get b with
    | none => simp only [hg, reduceCtorEq] at hb
    | some q =>
      simp only [hg] at hb
      obtain ⟨h1, h2⟩ := backR_spec hb k
      by_cases hl : ∃ p ∈ l, p.1 = k
      · exact ⟨fun _ => h1 hl, fun hn => absurd (by obtain ⟨p, q1, q2⟩ := hl; exact ⟨p, List.mem_cons_of_mem _ q1, q2⟩) hn⟩
      · have h3 := h2 hl
        rw [Tr.get_set] at h3
        constructor
        · rintro ⟨p, q1, q2⟩
          rcases List.mem_cons.1 q1 with rfl | q1
          · simp only at q2; subst q2; rw [h3, if_pos rfl, hg]
          · exact absurd ⟨p, q1, q2⟩ hl
        · intro hn
          rw [h3, if_neg]
          rintro rfl
          exact hn ⟨_, List.mem_cons_self .., rfl⟩

theorem exH_spec (lt j : Nat) (Rs h : List (Nat × Nat)) (k : Nat) : hidden (exH lt j Rs h) k = true ↔ (hidden h k = true ∨ (lt.testBit j = false ∧ hidden Rs k = true)) := by
  unfold exH
  cases lt.testBit j with
  | true => simp
  | false => simp [hidden_append, or_comm]

theorem filter_range_one {p : Nat → Bool} {k : Nat} : ∀ n, k < n → (∀ j, j < n → (p j = true ↔ j = k)) → (List.range n).filter p = [k]
  | 0, h, _ => by omega
  | n + 1, h, hp => by
    rw [List.range_succ, List.filter_append]
    by_cases hk : k = n
    · subst hk
      have h1 : (List.range k).filter p = [] := by
        rw [List.filter_eq_nil_iff]
        intro j hj hpj
        have := List.mem_range.1 hj
        have := (hp j (by omega)).1 hpj
        omega
      rw [h1]
      simp [(hp k (by omega)).2 rfl]
    · rw [filter_range_one n (by omega) fun j hj => hp j (by omega)]
      have : p n = false := by
        cases hpn : p n with
        | false => rfl
        | true => exact absurd ((hp n (by omega)).1 hpn) (by omega)
      simp [this]

theorem seqB_of_chain {ops : Array Oper} : ∀ (g k : Nat) (listed : Array Bool), listed.size = ops.size → k + g = ops.size → (∀ j, listed.getD j false = decide (j < k)) →
    (∀ q o, k ≤ q → ops[q]? = some o → edgesA q o.after.toList = true ∧ (k < q → linkA o.after.toList (Nat.pred q) = true)) → Region.seqB .any ops g k listed = true
  | 0, k, listed, hs, hk, hl, _ => by
    simp only [Region.seqB, List.isEmpty_iff]
    apply List.eq_nil_iff_forall_not_mem.2
    intro j hj
    rw [mem_ready] at hj
    obtain ⟨h1, o, h2, _⟩ := hj
    have hlt : j < ops.size := (Array.getElem?_eq_some_iff.1 h2).1
    have := hl j
    have hjl : j < listed.size := by omega
    rw [Array.getD_eq_getD_getElem?, Array.getElem?_eq_getElem hjl] at h1 this
    rw [Option.getD_some] at h1 this
    rw [h1] at this
    simp at this
    omega
  | g + 1, k, listed, hs, hk, hl, hc => by
    simp only [Region.seqB, Bool.and_eq_true, decide_eq_true_eq]
    have hget : ∀ j, j < ops.size → listed.getD j true = decide (j < k) := by
      intro j hj
      have := hl j
      have hjl : j < listed.size := by omega
      rw [Array.getD_eq_getD_getElem?, Array.getElem?_eq_getElem hjl] at this ⊢
      exact this
    refine ⟨filter_range_one ops.size (by omega) fun j hj => ?_, seqB_of_chain g (k + 1) _ (by simpa using hs) (by omega) (fun j => ?_) fun q o h1 h2 => ?_⟩
    · have hrd : (j ∈ Region.ready .any ops listed) ↔ j = k := by
        rw [mem_ready]
        constructor
        · rintro ⟨h1, o, h2, h3⟩
          rw [hget j hj] at h1
          have h1' : ¬ j < k := by simpa using h1
          by_cases hjk : j = k
          · exact hjk
          · obtain ⟨_, hlink⟩ := hc j o (by omega) h2
            obtain ⟨e, e1, e2, e3⟩ := linkA_spec (hlink (by omega))
            have := h3 e (by simpa using e1) (by rw [bindsAny_eq]; exact e2)
            rw [hl, e3] at this
            simp at this
            omega
        · rintro rfl
          have ho : ops[j]? = some ops[j] := Array.getElem?_eq_getElem hj
          refine ⟨by rw [hget j hj]; simp, ops[j], ho, fun e he hb => ?_⟩
          have := edgesA_spec (hc j _ (Nat.le_refl _) ho).1 e (by simpa using he) (by rw [← bindsAny_eq]; exact hb)
          rw [hl]
          simpa using this
      rw [← hrd]
      unfold Region.ready
      rw [List.mem_filter, List.mem_range]
      exact ⟨fun h => ⟨hj, h⟩, fun h => h.2⟩
    · by_cases hjk : j = k
      · subst hjk
        have : j < listed.size := by omega
        simp [this]
      · rw [getD_set_ne false (fun h => hjk h.symm), hl]
        have : (j < k) ↔ (j < k + 1) := by omega
        simp [this]
    · obtain ⟨c1, c2⟩ := hc q o (by omega) h2
      exact ⟨c1, fun h3 => c2 (by omega)⟩

/-! The head's run. -/
structure HS where
  fr : Fr
  st : St

def rng (T : Nat → HS) : Nat → List (Nat × Nat × Nat)
  | 0 => []
  | k + 1 => (k, (T k).st.next, (T (k + 1)).st.next) :: rng T k

theorem rng_congr {T T' : Nat → HS} : ∀ {i : Nat}, (∀ k, k ≤ i → T k = T' k) → rng T i = rng T' i
  | 0, _ => rfl
  | i + 1, h => by
    simp only [rng]
    rw [h i (by omega), h (i + 1) (by omega), rng_congr (i := i) fun k hk => h k (by omega)]

theorem rng_mem {T : Nat → HS} : ∀ {i j : Nat}, j < i → (j, (T j).st.next, (T (j + 1)).st.next) ∈ rng T i
  | 0, j, h => by omega
  | i + 1, j, h => by
    simp only [rng]
    by_cases hj : j = i
    · subst hj; exact List.mem_cons_self ..
    · exact List.mem_cons_of_mem _ (rng_mem (by omega))

theorem rng_of {T : Nat → HS} : ∀ {i : Nat} {p : Nat × Nat × Nat}, p ∈ rng T i → p.1 < i ∧ p.2 = ((T p.1).st.next, (T (p.1 + 1)).st.next)
  | 0, p, h => by cases h
  | i + 1, p, h => by
    simp only [rng] at h
    rcases List.mem_cons.1 h with rfl | h
    · exact ⟨by simp, rfl⟩
    · obtain ⟨h1, h2⟩ := rng_of h; exact ⟨by omega, h2⟩

def Step (C : Cfg) (ih : CallF) (nt : Nat) (all : List Oper) (lt : Nat) (Rs : List (Nat × Nat)) (T : Nat → HS) (j : Nat) (o : Oper) (m : Nat) : Prop :=
  ∃ x stx, stepA C ih all (restr (T j).fr (looksA all o)) { (T j).st with hid := exH lt j Rs (hidA m (rng T j) (T j).st.hid), low := (T j).st.next } o = some (x, stx) ∧ (T j).st.next ≤ stx.low ∧
    putA nt (T j).fr o.dst x = some (T (j + 1)).fr ∧ (T (j + 1)).st = { stx with hid := (T j).st.hid, low := (T j).st.low } ∧ lateChk lt j Rs (T j).fr o = true

theorem headA_trace {C : Cfg} {ih : CallF} {nt : Nat} {all : List Oper} {lt : Nat} {Rs : List (Nat × Nat)} : ∀ (os : List Oper) (ms : List Nat) (i : Nat) (T0 : Nat → HS) (fr1 : Fr) (st1 : St), headA C ih nt all lt Rs os ms i (rng T0 i) (T0 i).fr (T0 i).st = some (fr1, st1) →
    ∃ T : Nat → HS, (∀ k, k ≤ i → T k = T0 k) ∧ T (i + os.length) = ⟨fr1, st1⟩ ∧ ∀ t, t < os.length → ∃ o m, os[t]? = some o ∧ ms[t]? = some m ∧ Step C ih nt all lt Rs T (i + t) o m := by
  intro os
  induction os with
  | nil =>
    intro ms i T0 fr1 st1 h
    simp only [headA, Option.some.injEq, Prod.mk.injEq] at h
    exact ⟨T0, fun _ _ => rfl, by rw [List.length_nil, Nat.add_zero, ← h.1, ← h.2], fun t ht => by simp at ht⟩
  | cons o os ihos =>
    intro ms i T0 fr1 st1 h
    cases ms with
    | nil => simp [headA] at h
    | cons m ms =>
      simp only [headA] at h
      cases hs : stepA C ih all (restr (T0 i).fr (looksA all o)) { (T0 i).st with hid := exH lt i Rs (hidA m (rng T0 i) (T0 i).st.hid), low := (T0 i).st.next } o with
      | none => simp only [hs, reduceCtorEq] at h
      | some q =>
        obtain ⟨x, stx⟩ := q
        simp only [hs] at h
        cases hb : okL lt i Rs (T0 i).fr o (T0 i).st.next stx.low with
        | false => simp only [hb, cond_false, reduceCtorEq] at h
        | true =>
          simp only [hb, cond_true] at h
          cases hp : putA nt (T0 i).fr o.dst x with
          | none => simp only [hp, reduceCtorEq] at h
          | some fr' =>
            simp only [hp] at h
            let T1 : Nat → HS := fun k => if k ≤ i then T0 k else ⟨fr', { stx with hid := (T0 i).st.hid, low := (T0 i).st.low }⟩
            have hT1 : ∀ k, k ≤ i → T1 k = T0 k := fun k hk => by simp [T1, hk]
            have hT1i : T1 (i + 1) = ⟨fr', { stx with hid := (T0 i).st.hid, low := (T0 i).st.low }⟩ := by simp only [T1]; rw [if_neg (by omega)]
            have hr : rng T1 (i + 1) = (i, (T0 i).st.next, stx.next) :: rng T0 i := by
              simp only [rng]
              rw [hT1 i (Nat.le_refl _), hT1i, rng_congr hT1]
            obtain ⟨T, g1, g2, g3⟩ := ihos ms (i + 1) T1 fr1 st1 (by rw [hr, hT1i]; exact h)
            have gi : T i = T0 i := by rw [g1 i (by omega), hT1 i (Nat.le_refl _)]
            refine ⟨T, fun k hk => by rw [g1 k (by omega), hT1 k hk], by rw [← g2, List.length_cons]; congr 1; omega, fun t ht => ?_⟩
            cases t with
            | zero =>
              refine ⟨o, m, rfl, rfl, x, stx, ?_, ?_, ?_, ?_, ?_⟩
              · rw [Nat.add_zero, gi, rng_congr (T' := T0) fun k hk => by rw [g1 k (by omega), hT1 k hk]]
                exact hs
              · rw [Nat.add_zero, gi]; exact (okL_spec hb).1
              · rw [Nat.add_zero, gi, g1 (i + 1) (Nat.le_refl _), hT1i]; exact hp
              · show (T (i + 1)).st = { stx with hid := (T i).st.hid, low := (T i).st.low }
                rw [gi, g1 (i + 1) (Nat.le_refl _), hT1i]
              · rw [Nat.add_zero, gi]; exact (okL_spec hb).2
            | succ t =>
              obtain ⟨o', m', k1, k2, k3⟩ := g3 t (by simp only [List.length_cons] at ht; omega)
              rw [show i + (t + 1) = i + 1 + t by omega]
              exact ⟨o', m', by simpa using k1, by simpa using k2, k3⟩

theorem hidA_spec (m : Nat) (h0 : List (Nat × Nat)) (k : Nat) : ∀ (rs : List (Nat × Nat × Nat)), hidden (hidA m rs h0) k = true ↔ (hidden h0 k = true ∨ ∃ p ∈ rs, m.testBit p.1 = false ∧ p.2.1 ≤ k ∧ k < p.2.2)
  | [] => by simp [hidA]
  | (j, lo, hi) :: rs => by
    have ih := hidA_spec m h0 k rs
    simp only [hidA]
    cases hc : (Nat.testBit m j || Nat.beq lo hi) with
    | true =>
      simp only [cond_true, ih, List.mem_cons, exists_eq_or_imp]
      simp only [Bool.or_eq_true] at hc
      constructor
      · rintro (h | h)
        · exact .inl h
        · exact .inr (.inr h)
      · rintro (h | ⟨h1, h2, h3⟩ | h)
        · exact .inl h
        · rcases hc with hc | hc
          · rw [hc] at h1; cases h1
          · have := Nat.eq_of_beq_eq_true hc; omega
        · exact .inr h
    | false =>
      simp only [cond_false, hidden, List.mem_cons, exists_eq_or_imp]
      simp only [Bool.or_eq_false_iff] at hc
      cases hin : (Nat.ble lo k && Nat.blt k hi) with
      | true =>
        simp only [cond_true, true_iff]
        simp only [Bool.and_eq_true] at hin
        exact .inr (.inl ⟨hc.1, Nat.le_of_ble_eq_true hin.1, Nat.blt_eq.mp hin.2⟩)
      | false =>
        simp only [cond_false, ih]
        constructor
        · rintro (h | h)
          · exact .inl h
          · exact .inr (.inr h)
        · rintro (h | ⟨h1, h2, h3⟩ | h)
          · exact .inl h
          · have : (Nat.ble lo k && Nat.blt k hi) = true := by
              simp only [Bool.and_eq_true]; exact ⟨Nat.ble_eq_true_of_le h2, Nat.blt_eq.mpr h3⟩
            rw [this] at hin; cases hin
          · exact .inr h

theorem hidOkA_spec {n k : Nat} : ∀ {l : List (Nat × Nat)}, hidOkA n l = true → n ≤ k → hidden l k = false
  | [], _, _ => rfl
  | (lo, hi) :: l, h, hk => by
    simp only [hidOkA, Bool.and_eq_true] at h
    have h1 := Nat.le_of_ble_eq_true h.1
    have : (Nat.ble lo k && Nat.blt k hi) = false := by
      cases hb : Nat.blt k hi with
      | false => simp
      | true => have := Nat.blt_eq.mp hb; omega
    simp only [hidden, this, cond_false]
    exact hidOkA_spec h.2 hk

/-- What the trace gives. -/
theorem step_grow {C : Cfg} {ih : CallF} (hg : GrwF ih) {nt : Nat} {all : List Oper} {lt : Nat} {Rs : List (Nat × Nat)} {T : Nat → HS} {j : Nat} {o : Oper} {m : Nat} (h : Step C ih nt all lt Rs T j o m) : Grow (T j).st (T (j + 1)).st ∧ (T (j + 1)).st.low = (T j).st.low ∧ ∀ k, k < (T j).st.next → (T (j + 1)).st.heap.get k = (T j).st.heap.get k := by
  obtain ⟨x, stx, h1, h2, h3, h4, _⟩ := h
  have g := stepA_grow hg h1
  have hkeep : ∀ k, k < (T j).st.next → (T (j + 1)).st.heap.get k = (T j).st.heap.get k := by
    intro k hk
    rw [h4]
    exact g.keep k hk (by omega)
  refine ⟨⟨?_, ?_, fun k hk _ => hkeep k hk, ?_, ?_⟩, ?_, hkeep⟩
  · rw [h4]; exact g.next
  · rw [h4]; exact Nat.le_refl _
  · rw [h4]
  · rw [h4]; exact g.bnd
  · rw [h4]
end Go.Proofs.YtfamacgopcfhhaaGreatDoor.Ax
