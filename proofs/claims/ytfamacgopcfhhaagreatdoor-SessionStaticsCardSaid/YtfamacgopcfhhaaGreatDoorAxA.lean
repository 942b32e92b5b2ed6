/-
  AN EXECUTOR OVER AN ABSTRACT MEMORY, PART A: tries, abstract values, the relation between an abstract state and a world.
  It serves closed runs: what the executor computes is what the call does, in whatever world and on whatever tape.
-/
import Derived.Below
import Derived.Calls
namespace Go.Proofs.YtfamacgopcfhhaaGreatDoor.Ax
open Go.RowKit

/-! A map from numbers, by their bits. -/
inductive Tr (α : Type) where
  | leaf
  | node (v : Option α) (l r : Tr α)

namespace Tr
variable {α : Type}

def get : Tr α → Nat → Option α
  | .leaf, _ => none
  | .node v l r, k => bif Nat.beq k 0 then v else bif Nat.beq (k % 2) 1 then l.get (k / 2) else r.get (k / 2 - 1)

def one : Nat → Nat → α → Tr α
  | 0, _, v => .node (some v) .leaf .leaf
  | f + 1, k, v => bif Nat.beq k 0 then .node (some v) .leaf .leaf
      else bif Nat.beq (k % 2) 1 then .node none (one f (k / 2) v) .leaf else .node none .leaf (one f (k / 2 - 1) v)

def set : Tr α → Nat → α → Tr α
  | .leaf, k, v => one k k v
  | .node o l r, k, v => bif Nat.beq k 0 then .node (some v) l r
      else bif Nat.beq (k % 2) 1 then .node o (l.set (k / 2) v) r else .node o l (r.set (k / 2 - 1) v)

def del : Tr α → Nat → Tr α
  | .leaf, _ => .leaf
  | .node o l r, k => bif Nat.beq k 0 then .node none l r
      else bif Nat.beq (k % 2) 1 then .node o (l.del (k / 2)) r else .node o l (r.del (k / 2 - 1))

theorem cbeq {β : Type} (a b : Nat) (x y : β) : (bif Nat.beq a b then x else y) = if a = b then x else y := by
  by_cases h : a = b
  · subst h; simp
  · have : Nat.beq a b = false := by
      cases hb : Nat.beq a b
      · rfl
      · exact absurd (Nat.eq_of_beq_eq_true hb) h
    simp [h, this]

theorem get_leaf (k : Nat) : (leaf : Tr α).get k = none := rfl

theorem get_node (v : Option α) (l r : Tr α) (k : Nat) :
    (node v l r).get k = if k = 0 then v else if k % 2 = 1 then l.get (k / 2) else r.get (k / 2 - 1) := by
  simp only [get, cbeq]

theorem get_one : ∀ (f k : Nat) (v : α) (j : Nat), k ≤ f → (one f k v).get j = if j = k then some v else none := by
  intro f
  induction f with
  | zero =>
    intro k v j hk
    have : k = 0 := by omega
    subst this
    simp only [one, get_node, get_leaf]
    split <;> simp_all
  | succ f ih =>
    intro k v j hk
    simp only [one, cbeq]
    by_cases h0 : k = 0
    · subst h0
      simp only [if_true, get_node, get_leaf]
      split <;> simp_all
    · simp only [h0, if_false]
      by_cases h1 : k % 2 = 1
      · simp only [h1, if_true, get_node, get_leaf]
        rw [ih _ _ _ (by omega)]
        by_cases hj : j = k
        · subst hj; simp [h0, h1]
        · simp only [hj, if_false]
          split
          · rfl
          · split
            · rw [if_neg (by omega)]
            · rfl
      · simp only [h1, if_false, get_node, get_leaf]
        rw [ih _ _ _ (by omega)]
        by_cases hj : j = k
        · subst hj; simp [h0, h1]
        · simp only [hj, if_false]
          split
          · rfl
          · split
            · rfl
            · rw [if_neg (by omega)]

theorem get_set : ∀ (t : Tr α) (k : Nat) (v : α) (j : Nat), (t.set k v).get j = if j = k then some v else t.get j := by
  intro t
  induction t with
  | leaf => intro k v j; simp only [set, get_one _ _ _ _ (Nat.le_refl k), get_leaf]
  | node o l r ihl ihr =>
    intro k v j
    simp only [set, cbeq]
    by_cases h0 : k = 0
    · subst h0
      simp only [if_true, get_node]
      split <;> simp_all
    · simp only [h0, if_false]
      by_cases h1 : k % 2 = 1
      · simp only [h1, if_true, get_node, ihl]
        by_cases hj : j = k
        · subst hj; simp [h0, h1]
        · simp only [hj, if_false]
          split
          · rfl
          · split
            · rw [if_neg (by omega)]
            · rfl
      · simp only [h1, if_false, get_node, ihr]
        by_cases hj : j = k
        · subst hj; simp [h0, h1]
        · simp only [hj, if_false]
          split
          · rfl
          · split
            · rfl
            · rw [if_neg (by omega)]

theorem get_del : ∀ (t : Tr α) (k : Nat) (j : Nat), (t.del k).get j = if j = k then none else t.get j := by
  intro t
  induction t with
  | leaf => intro k j; simp [del, get_leaf]
  | node o l r ihl ihr =>
    intro k j
    simp only [del, cbeq]
    by_cases h0 : k = 0
    · subst h0
      simp only [if_true, get_node]
      split <;> simp_all
    · simp only [h0, if_false]
      by_cases h1 : k % 2 = 1
      · simp only [h1, if_true, get_node, ihl]
        by_cases hj : j = k
        · subst hj; simp [h0, h1]
        · simp only [hj, if_false]
          split
          · rfl
          · split
            · rw [if_neg (by omega)]
            · rfl
      · simp only [h1, if_false, get_node, ihr]
        by_cases hj : j = k
        · subst hj; simp [h0, h1]
        · simp only [hj, if_false]
          split
          · rfl
          · split
            · rfl
            · rw [if_neg (by omega)]

/-- A row of values from place k on. -/
def ofList : List α → Nat → Tr α → Tr α
  | [], _, t => t
  | v :: vs, k, t => ofList vs (k + 1) (t.set k v)

theorem get_ofList : ∀ (l : List α) (k : Nat) (t : Tr α) (j : Nat), (ofList l k t).get j = if k ≤ j ∧ j < k + l.length then l[j - k]? else t.get j := by
  intro l
  induction l with
  | nil => intro k t j; simp only [ofList, List.length_nil]; rw [if_neg (by omega)]
  | cons v vs ih =>
    intro k t j
    simp only [ofList, ih, get_set, List.length_cons]
    by_cases hj : j = k
    · subst hj
      rw [if_neg (by omega), if_pos rfl, if_pos (by omega)]
      simp
    · by_cases h2 : k + 1 ≤ j ∧ j < k + 1 + vs.length
      · rw [if_pos h2, if_pos (by omega)]
        have : j - k = (j - (k + 1)) + 1 := by omega
        rw [this]; simp
      · rw [if_neg h2, if_neg hj, if_neg (by omega)]

/-- The row of n values from place k on; none, if one lacks. -/
def row (t : Tr α) : Nat → Nat → Option (List α)
  | 0, _ => some []
  | n + 1, k => match t.get k with
    | none => none
    | some v => match row t n (k + 1) with
      | none => none
      | some vs => some (v :: vs)

theorem row_spec (t : Tr α) : ∀ (n k : Nat) (vs : List α), row t n k = some vs → vs.length = n ∧ ∀ j, j < n → vs[j]? = t.get (k + j) := by
  intro n
  induction n with
  | zero => intro k vs h; simp only [row, Option.some.injEq] at h; subst h; exact ⟨rfl, fun j hj => by omega⟩
  | succ n ih =>
    intro k vs h
    simp only [row] at h
    cases hg : t.get k with
    | none => simp [hg] at h
    | some v =>
      cases hr : row t n (k + 1) with
      | none => simp [hg, hr] at h
      | some ws =>
        simp only [hg, hr, Option.some.injEq] at h
        subst h
        obtain ⟨hl, hs⟩ := ih _ _ hr
        refine ⟨by simp [hl], fun j hj => ?_⟩
        cases j with
        | zero => simp [hg]
        | succ j => simp only [List.getElem?_cons_succ]; rw [hs j (by omega)]; congr 1; omega
end Tr

/-! Abstract values: addresses name abstract blocks. 'slu': a slice whose capacity is not known, but that it is at least 'lb'; 'sz' is the size of an element in cells. -/
inductive AV where
  | bool (b : Bool)
  | int (k : IntKind) (n : Int)
  | str (s : ByteArray)
  | nilp
  | ptr (i off : Nat)
  | nils
  | sl (i off len cap : Nat)
  | slu (i off len sz lb : Nat)
  | nilm
  | mp (i : Nat)
  | fn (f : Fn) (first captured : List AV)
  | nilf
  | iface (t : TypeId) (v : AV)
  | nili
  | agg (cs : List AV)
  | tup (vs : List AV)
  | yld (i : Nat)

/-- What an abstract block stands for: its number, its size in cells; 'dom': the blocks that stand for something. -/
structure Env where
  ρ : Nat → Nat
  σ : Nat → Nat
  dom : Nat → Prop

structure Env.le (E E' : Env) : Prop where
  dom : ∀ i, E.dom i → E'.dom i
  ρ : ∀ i, E.dom i → E'.ρ i = E.ρ i
  σ : ∀ i, E.dom i → E'.σ i = E.σ i

theorem Env.le.refl (E : Env) : E.le E := ⟨fun _ h => h, fun _ _ => rfl, fun _ _ => rfl⟩
theorem Env.le.trans {A B C : Env} (h : A.le B) (k : B.le C) : A.le C :=
  ⟨fun i hi => k.dom i (h.dom i hi), fun i hi => (k.ρ i (h.dom i hi)).trans (h.ρ i hi), fun i hi => (k.σ i (h.dom i hi)).trans (h.σ i hi)⟩

mutual
inductive VRel (E : Env) : AV → Value → Prop
  | bool (b : Bool) : VRel E (.bool b) (.bool b)
  | int (k : IntKind) (n : Int) : VRel E (.int k n) (.int k n)
  | str (s : ByteArray) : VRel E (.str s) (.string s)
  | nilp : VRel E .nilp (.pointer none)
  | ptr (i off : Nat) (h : E.dom i) : VRel E (.ptr i off) (.pointer (some ⟨E.ρ i, off, none⟩))
  | nils : VRel E .nils (.slice none 0 0)
  | sl (i off len cap : Nat) (h : E.dom i) : VRel E (.sl i off len cap) (.slice (some ⟨E.ρ i, off, none⟩) len cap)
  | slu (i off len sz lb off' c : Nat) (h : E.dom i) (hl : len ≤ c) (ho : off' = off ∨ (len = 0 ∧ c = 0)) (hs : off' + c * sz ≤ E.σ i) (hb : lb ≤ c) :
      VRel E (.slu i off len sz lb) (.slice (some ⟨E.ρ i, off', none⟩) len c)
  | nilm : VRel E .nilm (.map none)
  | mp (i : Nat) (h : E.dom i) : VRel E (.mp i) (.map (some (E.ρ i)))
  | fn (f : Fn) (first captured : List AV) (vs us : Array Value) (h1 : VsRel E first vs.toList) (h2 : VsRel E captured us.toList) : VRel E (.fn f first captured) (.func f vs us)
  | nilf : VRel E .nilf .nilFunc
  | iface (t : TypeId) (a : AV) (v : Value) (h : VRel E a v) : VRel E (.iface t a) (.iface t v)
  | nili : VRel E .nili .nilIface
  | agg (cs : List AV) (vs : Array Value) (h : VsRel E cs vs.toList) : VRel E (.agg cs) (.agg vs)
  | tup (cs : List AV) (vs : Array Value) (h : VsRel E cs vs.toList) : VRel E (.tup cs) (.tuple vs)
  | yld (i : Nat) (h : E.dom i) : VRel E (.yld i) (.func (.yield (E.ρ i)) #[] #[])
inductive VsRel (E : Env) : List AV → List Value → Prop
  | nil : VsRel E [] []
  | cons {a : AV} {v : Value} {as : List AV} {vs : List Value} (h : VRel E a v) (hs : VsRel E as vs) : VsRel E (a :: as) (v :: vs)
end

mutual
theorem VRel.mono {E E' : Env} (h : E.le E') : ∀ {a : AV} {v : Value}, VRel E a v → VRel E' a v
  | _, _, .bool b => .bool b
  | _, _, .int k n => .int k n
  | _, _, .str s => .str s
  | _, _, .nilp => .nilp
  | _, _, .ptr i off hd => by rw [← h.ρ i hd]; exact .ptr i off (h.dom i hd)
  | _, _, .nils => .nils
  | _, _, .sl i off len cap hd => by rw [← h.ρ i hd]; exact .sl i off len cap (h.dom i hd)
  | _, _, .slu i off len sz lb off' c hd hl ho hs hb => by rw [← h.ρ i hd]; exact .slu i off len sz lb off' c (h.dom i hd) hl ho (by rw [h.σ i hd]; exact hs) hb
  | _, _, .nilm => .nilm
  | _, _, .mp i hd => by rw [← h.ρ i hd]; exact .mp i (h.dom i hd)
  | _, _, .fn f first captured vs us h1 h2 => .fn f first captured vs us (VsRel.mono h h1) (VsRel.mono h h2)
  | _, _, .nilf => .nilf
  | _, _, .iface t a v hv => .iface t a v (VRel.mono h hv)
  | _, _, .nili => .nili
  | _, _, .agg cs vs hs => .agg cs vs (VsRel.mono h hs)
  | _, _, .tup cs vs hs => .tup cs vs (VsRel.mono h hs)
  | _, _, .yld i hd => by rw [← h.ρ i hd]; exact .yld i (h.dom i hd)
theorem VsRel.mono {E E' : Env} (h : E.le E') : ∀ {as : List AV} {vs : List Value}, VsRel E as vs → VsRel E' as vs
  | _, _, .nil => .nil
  | _, _, .cons hv hs => .cons (VRel.mono h hv) (VsRel.mono h hs)
end

theorem VsRel.length {E : Env} : ∀ {as : List AV} {vs : List Value}, VsRel E as vs → as.length = vs.length
  | _, _, .nil => rfl
  | _, _, .cons _ hs => by simp [VsRel.length hs]

theorem VsRel.get {E : Env} : ∀ {as : List AV} {vs : List Value}, VsRel E as vs → ∀ (j : Nat) (a : AV), as[j]? = some a → ∃ v, vs[j]? = some v ∧ VRel E a v
  | _, _, .nil, j, a, h => by simp at h
  | _, _, .cons hv hs, 0, a, h => by simp at h; subst h; exact ⟨_, by simp, hv⟩
  | _, _, .cons hv hs, j + 1, a, h => by simp at h; obtain ⟨v, h1, h2⟩ := VsRel.get hs j a h; exact ⟨v, by simpa using h1, h2⟩

theorem VsRel.append {E : Env} : ∀ {as bs : List AV} {vs us : List Value}, VsRel E as vs → VsRel E bs us → VsRel E (as ++ bs) (vs ++ us)
  | _, _, _, _, .nil, h => h
  | _, _, _, _, .cons hv hs, h => .cons hv (VsRel.append hs h)

theorem VsRel.ofGet {E : Env} : ∀ (as : List AV) (vs : List Value), as.length = vs.length → (∀ (j : Nat) (a : AV) (v : Value), as[j]? = some a → vs[j]? = some v → VRel E a v) → VsRel E as vs
  | [], [], _, _ => .nil
  | [], _ :: _, h, _ => by simp at h
  | _ :: _, [], h, _ => by simp at h
  | a :: as, v :: vs, h, hg => .cons (hg 0 a v rfl rfl) (VsRel.ofGet as vs (by simpa using h) fun j a v h1 h2 => hg (j + 1) a v (by simpa using h1) (by simpa using h2))

theorem VsRel.take {E : Env} {as : List AV} {vs : List Value} (h : VsRel E as vs) (n : Nat) : VsRel E (as.take n) (vs.take n) := by
  refine VsRel.ofGet _ _ (by simp [h.length]) fun j a v h1 h2 => ?_
  rw [List.getElem?_take] at h1 h2
  split at h1 <;> simp_all
  obtain ⟨v', h3, h4⟩ := h.get j a h1
  rw [h2] at h3; cases h3; exact h4

theorem VsRel.drop {E : Env} {as : List AV} {vs : List Value} (h : VsRel E as vs) (n : Nat) : VsRel E (as.drop n) (vs.drop n) := by
  refine VsRel.ofGet _ _ (by simp [h.length]) fun j a v h1 h2 => ?_
  rw [List.getElem?_drop] at h1 h2
  obtain ⟨v', h3, h4⟩ := h.get _ a h1
  rw [h2] at h3; cases h3; exact h4

theorem VsRel.set {E : Env} {as : List AV} {vs : List Value} (h : VsRel E as vs) {a : AV} {v : Value} (hv : VRel E a v) (n : Nat) : VsRel E (as.set n a) (vs.set n v) := by
  refine VsRel.ofGet _ _ (by simp [h.length]) fun j b u h1 h2 => ?_
  rw [List.getElem?_set] at h1 h2
  split at h1
  · rename_i hn
    rw [if_pos hn] at h2
    split at h1 <;> simp at h1
    split at h2 <;> simp at h2
    subst h1 h2; exact hv
  · rename_i hn
    rw [if_neg hn] at h2
    obtain ⟨v', h3, h4⟩ := h.get j b h1
    rw [h2] at h3; cases h3; exact h4

/-! Constants. -/
mutual
def ofV : Value → Option AV
  | .bool b => some (.bool b)
  | .int k n => some (.int k n)
  | .string s => some (.str s)
  | .pointer none => some .nilp
  | .slice none 0 0 => some .nils
  | .map none => some .nilm
  | .nilFunc => some .nilf
  | .nilIface => some .nili
  | .agg cs => match ofVsA cs with | some l => some (.agg l) | none => none
  | .tuple vs => match ofVsA vs with | some l => some (.tup l) | none => none
  | _ => none
def ofVsA : Array Value → Option (List AV)
  | ⟨l⟩ => ofVs l
def ofVs : List Value → Option (List AV)
  | [] => some []
  | v :: vs => match ofV v with
    | none => none
    | some a => match ofVs vs with
      | none => none
      | some as => some (a :: as)
end

mutual
theorem ofV_rel (E : Env) : ∀ (v : Value) (a : AV), ofV v = some a → VRel E a v
  | .bool b, a, h => by simp only [ofV, Option.some.injEq] at h; subst h; exact .bool b
  | .int k n, a, h => by simp only [ofV, Option.some.injEq] at h; subst h; exact .int k n
  | .string s, a, h => by simp only [ofV, Option.some.injEq] at h; subst h; exact .str s
  | .pointer none, a, h => by simp only [ofV, Option.some.injEq] at h; subst h; exact .nilp
  | .pointer (some _), a, h => by simp [ofV] at h
  | .slice none 0 0, a, h => by simp only [ofV, Option.some.injEq] at h; subst h; exact .nils
  | .slice none 0 (_ + 1), a, h => by simp [ofV] at h
  | .slice none (_ + 1) _, a, h => by simp [ofV] at h
  | .slice (some _) _ _, a, h => by simp [ofV] at h
  | .map none, a, h => by simp only [ofV, Option.some.injEq] at h; subst h; exact .nilm
  | .map (some _), a, h => by simp [ofV] at h
  | .nilFunc, a, h => by simp only [ofV, Option.some.injEq] at h; subst h; exact .nilf
  | .nilIface, a, h => by simp only [ofV, Option.some.injEq] at h; subst h; exact .nili
  | .agg cs, a, h => by
    simp only [ofV] at h
    cases hl : ofVsA cs with
    | none => simp [hl] at h
    | some l => simp only [hl, Option.some.injEq] at h; subst h; exact .agg l cs (ofVsA_rel E cs l hl)
  | .tuple cs, a, h => by
    simp only [ofV] at h
    cases hl : ofVsA cs with
    | none => simp [hl] at h
    | some l => simp only [hl, Option.some.injEq] at h; subst h; exact .tup l cs (ofVsA_rel E cs l hl)
  | .float .., a, h => by simp [ofV] at h
  | .complex .., a, h => by simp [ofV] at h
  | .chan .., a, h => by simp [ofV] at h
  | .func .., a, h => by simp [ofV] at h
  | .iface .., a, h => by simp [ofV] at h
theorem ofVsA_rel (E : Env) : ∀ (vs : Array Value) (as : List AV), ofVsA vs = some as → VsRel E as vs.toList
  | ⟨l⟩, as, h => ofVs_rel E l as h
theorem ofVs_rel (E : Env) : ∀ (vs : List Value) (as : List AV), ofVs vs = some as → VsRel E as vs
  | [], as, h => by simp only [ofVs, Option.some.injEq] at h; subst h; exact .nil
  | v :: vs, as, h => by
    simp only [ofVs] at h
    cases hv : ofV v with
    | none => simp [hv] at h
    | some a =>
      cases hs : ofVs vs with
      | none => simp [hv, hs] at h
      | some l =>
        simp only [hv, hs, Option.some.injEq] at h
        subst h
        exact .cons (ofV_rel E v a hv) (ofVs_rel E vs l hs)
end

def AV.cells : AV → List AV
  | .agg cs => cs
  | a => [a]

theorem VRel.cells {E : Env} {a : AV} {v : Value} (h : VRel E a v) : VsRel E a.cells v.cells.toList := by
  cases h <;> first
    | assumption
    | (simp only [AV.cells, Value.cells]; exact .cons (by constructor <;> assumption) .nil)
theorem nblt (a b : Nat) : Nat.blt a b = decide (a < b) := by
  by_cases h : a < b
  · simp [h, Nat.blt_eq.mpr h]
  · have : Nat.blt a b = false := by
      cases hb : Nat.blt a b
      · rfl
      · exact absurd (Nat.blt_eq.mp hb) h
    simp [h, this]

end Go.Proofs.YtfamacgopcfhhaaGreatDoor.Ax
