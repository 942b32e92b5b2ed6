/-
  AN EXECUTOR OVER AN ABSTRACT MEMORY, PART G: conversions, equality, the builtins.
-/
import Derived.Test.YtfamacgopcfhhaaGreatDoorAxF
import Derived.Laws.StructEq
import Derived.Laws.Append
import Derived.Lib.UnsafeStr
import Derived.Lib.ConvBytes
import Derived.Lib.Builder
namespace Go.Proofs.YtfamacgopcfhhaaGreatDoor.Ax
open Go.RowKit

/-! Bytes. -/
def byteA (b : UInt8) : AV := .int .u8 (Int.ofNat b.toNat)
def byteV (b : UInt8) : Value := .int .u8 b.toNat

theorem bytes_rel (E : Env) : ∀ (l : List UInt8), VsRel E (l.map byteA) (l.map byteV)
  | [] => .nil
  | _ :: l => .cons (.int _ _) (bytes_rel E l)

def asByteA : AV → Option UInt8
  | .int .u8 (.ofNat n) => bif Nat.ble n 255 then some (UInt8.ofNat n) else none
  | _ => none

def asBytesA : List AV → Option (List UInt8)
  | [] => some []
  | a :: as => match asByteA a with
    | none => none
    | some b => match asBytesA as with
      | none => none
      | some l => some (b :: l)

theorem asBytesA_sound {E : Env} : ∀ (as : List AV) (vs : List Value) (l : List UInt8), asBytesA as = some l → VsRel E as vs → ∃ ns : List Int, vs = ns.map (Value.int .u8) ∧ l = ns.map fun n => UInt8.ofNat n.toNat := by
  intro as
  induction as with
  | nil => intro vs l h hr; cases hr; simp only [asBytesA, Option.some.injEq] at h; subst h; exact ⟨[], rfl, rfl⟩
  | cons a as ih =>
    intro vs l h hr
    cases hr with
    | cons hv hs =>
      simp only [asBytesA] at h
      cases hb : asByteA a with
      | none => simp [hb] at h
      | some b =>
        cases hl : asBytesA as with
        | none => simp [hb, hl] at h
        | some l' =>
          simp only [hb, hl, Option.some.injEq] at h
          subst h
          obtain ⟨ns, h1, h2⟩ := ih _ _ hl hs
          unfold asByteA at hb
          split at hb
          · rename_i n
            cases hn : Nat.ble n 255 with
            | false => simp only [hn, cond_false, reduceCtorEq] at hb
            | true =>
            simp only [hn, cond_true, Option.some.injEq] at hb
            subst hb
            cases hv
            exact ⟨Int.ofNat n :: ns, by rw [h1]; rfl, by rw [h2]; rfl⟩
          · cases hb

theorem asBytesA_val {E : Env} : ∀ (as : List AV) (vs : List Value) (l : List UInt8), asBytesA as = some l → VsRel E as vs → vs = l.map byteV := by
  intro as
  induction as with
  | nil => intro vs l h hr; cases hr; simp only [asBytesA, Option.some.injEq] at h; subst h; rfl
  | cons a as ih =>
    intro vs l h hr
    cases hr with
    | cons hv hs =>
      simp only [asBytesA] at h
      cases hb : asByteA a with
      | none => simp [hb] at h
      | some b =>
        cases hl : asBytesA as with
        | none => simp [hb, hl] at h
        | some l' =>
          simp only [hb, hl, Option.some.injEq] at h
          subst h
          rw [ih _ _ hl hs]
          unfold asByteA at hb
          split at hb
          · rename_i n
            cases hn : Nat.ble n 255 with
            | false => simp only [hn, cond_false, reduceCtorEq] at hb
            | true =>
              simp only [hn, cond_true, Option.some.injEq] at hb
              subst hb
              cases hv
              have := Nat.le_of_ble_eq_true hn
              have e : (UInt8.ofNat n).toNat = n := by simp; omega
              simp only [List.map_cons, byteV, e]
              rfl
          · cases hb

theorem foldl_push : ∀ (ns : List Int) (s : ByteArray), ns.foldl (fun r n => r.push (UInt8.ofNat n.toNat)) s = ⟨⟨s.data.toList ++ ns.map fun n => UInt8.ofNat n.toNat⟩⟩ := by
  intro ns
  induction ns with
  | nil => intro s; simp
  | cons n ns ih => intro s; rw [List.foldl_cons, ih]; simp [ByteArray.push]

theorem heap_push {w w' : World} {o : Obj} (hs : w'.heap.size = w.heap.size + 1) (ho : ∀ k, k < w.heap.size → w'.heap[k]? = w.heap[k]?) (hn : w'.heap[w.heap.size]? = some o) : w'.heap = w.heap.push o := by
  apply Array.ext_getElem?
  intro i
  rw [Array.getElem?_push]
  by_cases h1 : i < w.heap.size
  · rw [ho i h1, if_neg (by omega)]
  · by_cases h2 : i = w.heap.size
    · subst h2; rw [hn, if_pos rfl]
    · rw [if_neg h2, Array.getElem?_eq_none (by omega), Array.getElem?_eq_none (by omega)]

/-! Pointers and unsafe.Pointer. -/
theorem rowAt_mono {P : Program} {fits : TypeId → Bool} {d : Nat} {e : TypeId} {c c' off n : Nat} (hc : c ≤ c') (h : rowAt P fits d e c off n = true) : rowAt P fits d e c' off n = true := by
  cases d with
  | zero => simp [rowAt] at h
  | succ d =>
    unfold rowAt at h ⊢
    by_cases hs : P.cellsOf e = 0
    · simp [hs] at h
    · simp only [hs, if_false, Bool.or_eq_true, Bool.and_eq_true, decide_eq_true_eq] at h ⊢
      rcases h with h | h
      · exact .inl ⟨⟨h.1.1, by omega⟩, h.2⟩
      · exact .inr ⟨by omega, h.2⟩

theorem liesAt_mono {P : Program} {c c' off : Nat} (hc : c ≤ c') {e : TypeId} : ∀ {d : Nat} {u : TypeId} {n : Nat}, liesAt P d e c off u n = true → liesAt P d e c' off u n = true
  | 0, _, _, h => by simp [liesAt] at h
  | d + 1, u, n, h => by
    unfold liesAt at h ⊢
    rw [Bool.or_eq_true] at h ⊢
    rcases h with h | h
    · exact .inl (rowAt_mono hc h)
    · right
      split at h
      · exact liesAt_mono hc h
      · cases h

/-- What the block shows at a place. -/
def seenA (st : St) (i off : Nat) : Option TypeId :=
  match st.vis i with
  | some (.cells _ e _ _ cs) => (match cs.get off with | some _ => some e | none => none)
  | _ => none

theorem seenA_sound {w0 : World} {E : Env} {st : St} {w : World} (h : Sim w0 E st w) {i off : Nat} {e : TypeId} (hs : seenA st i off = some e) : ∃ n, w.shape? (E.ρ i) = some (e, n) ∧ off < n := by
  unfold seenA at hs
  split at hs
  · rename_i ro e' fr sh cs hv
    split at hs
    · rename_i a ha
      cases hs
      obtain ⟨_, C, fz, h1, h2, h3, _⟩ := h.live i _ hv
      obtain ⟨v, hv, _⟩ := h3 off a ha
      refine ⟨C.size, by simp [World.shape?, h1], ?_⟩
      rcases Nat.lt_or_ge off C.size with h' | h'
      · exact h'
      · rw [Array.getElem?_eq_none h'] at hv; cases hv
    · cases hs
  · cases hs

def convPtrA (C : Cfg) (src dst : Nat) (x : AV) (st : St) : Option (AV × St) :=
  match C.ty src, C.ty dst with
  | some (_, .pointer t), some (_, .unsafePointer) => (match x with
    | .nilp => some (.nilp, st)
    | .ptr i off => (match C.ty t, seenA st i off with
      | some (ti, _), some _ => bif Nat.beq ti.size 0 then none else some (.ptr i off, st)
      | _, _ => none)
    | _ => none)
  | some (_, .unsafePointer), some (_, .pointer u) => (match x with
    | .nilp => some (.nilp, st)
    | .ptr i off => (match C.ty u with
      | some _ => (match seenA st i off with
        | some e => bif Nat.beq (C.P.cellsOf e) 0 then none else (match seenA st i ((off / C.P.cellsOf e + 1) * C.P.cellsOf e - 1) with
          | some e' => bif Nat.beq e e' then bif liesAt C.P C.P.depth e (off / C.P.cellsOf e + 1) off u 1 then some (.ptr i off, st) else none else none
          | none => none)
        | none => none)
      | none => none)
    | _ => none)
  | _, _ => none

theorem convPtrA_sound {C : Cfg} (hC : C.Ok) {w0 : World} {E : Env} {st st' : St} {w : World} (h : Sim w0 E st w) {src dst : Nat} {x a : AV} {v : Value} (hs : convPtrA C src dst x st = some (a, st')) (hv : VRel E x v) :
    Gives C w0 E st w (convert src dst v) a st' := by
  unfold convPtrA at hs
  split at hs
  · rename_i si t di hsrc hdst
    have s1 := (hC.ty _ _ _ hsrc).2
    have s2 := (hC.ty _ _ _ hdst).2
    split at hs
    · cases hs
      cases hv
      exact Gives.pure h (v := .pointer none) (by simp [convert, run_underlying s1, run_underlying s2, Conv.unsafePointer]) .nilp
    · rename_i i off
      split at hs
      · rename_i ti td e hty hsee
        rw [Tr.cbeq] at hs
        split at hs
        · cases hs
        · rename_i hz
          cases hs
          cases hv with
          | ptr _ _ hd =>
          obtain ⟨n, q1, q2⟩ := seenA_sound h hsee
          exact Gives.pure h (Lib.run_to_unsafe w ⟨E.ρ i, off, none⟩ s1 s2 (hC.ty _ _ _ hty).1 hz q1 q2) (.ptr _ _ hd)
      · cases hs
    · cases hs
  · rename_i si di u hsrc hdst
    have s1 := (hC.ty _ _ _ hsrc).2
    have s2 := (hC.ty _ _ _ hdst).2
    split at hs
    · cases hs
      cases hv
      exact Gives.pure h (v := .pointer none) (by simp [convert, run_underlying s1, run_underlying s2, Conv.unsafePointer]) .nilp
    · rename_i i off
      split at hs
      · rename_i uu hty
        split at hs
        · rename_i e hsee
          rw [Tr.cbeq] at hs
          split at hs
          · cases hs
          · rename_i hz
            split at hs
            · rename_i e' hsee'
              rw [Tr.cbeq] at hs
              split at hs
              · rename_i he
                subst he
                cases hl : liesAt C.P C.P.depth e (off / C.P.cellsOf e + 1) off u 1 with
                | false => simp only [hl, cond_false, reduceCtorEq] at hs
                | true =>
                  simp only [hl, cond_true, Option.some.injEq, Prod.mk.injEq] at hs
                  obtain ⟨rfl, rfl⟩ := hs
                  obtain ⟨ui, ud⟩ := uu
                  cases hv with
                  | ptr _ _ hd =>
                  obtain ⟨n, q1, q2⟩ := seenA_sound h hsee'
                  refine Gives.pure h (Lib.run_from_unsafe w ⟨E.ρ i, off, none⟩ s1 s2 (hC.ty _ _ _ hty).1 q1 (liesAt_mono ?_ hl)) (.ptr _ _ hd)
                  have hp : 0 < C.P.cellsOf e := by omega
                  refine (Nat.le_div_iff_mul_le hp).2 ?_
                  have : 0 < (off / C.P.cellsOf e + 1) * C.P.cellsOf e := Nat.mul_pos (Nat.succ_pos _) hp
                  omega
              · cases hs
            · cases hs
        · cases hs
      · cases hs
    · cases hs
  · cases hs

/-! Conversions. -/
def convertA (C : Cfg) (src dst : Nat) (x : AV) (st : St) : Option (AV × St) :=
  match C.ty src, C.ty dst, x with
  | some _, some (_, .int k), .int _ n => some (.int k (wrapQ k n), st)
  | some _, some (_, .string), .int _ n => some (.str (Utf8.encode n), st)
  | some _, some (_, .string), .str s => some (.str s, st)
  | some _, some (_, .slice e), .str s => (match C.ty e with
    | some (_, .int .u8) => (match newBlk st (.cells false e 0 true (Tr.ofList (s.data.toList.map byteA) 0 .leaf)) with
      | some (i, st') => some (.slu i 0 s.data.toList.length 1 s.data.toList.length, st')
      | none => none)
    | _ => none)
  | some (_, .slice e), some (_, .string), x => (match C.ty e with
    | some (_, .int .u8) => (match x with
      | .nils => some (.str ⟨⟨[]⟩⟩, st)
      | .sl i off len _ => (match st.cellsOf i with
        | some cs => (match cs.row len off with
          | some as => (match asBytesA as with | some l => some (.str ⟨⟨l⟩⟩, st) | none => none)
          | none => none)
        | none => none)
      | .slu i off len _ _ => (match st.cellsOf i with
        | some cs => (match cs.row len off with
          | some as => (match asBytesA as with | some l => some (.str ⟨⟨l⟩⟩, st) | none => none)
          | none => none)
        | none => none)
      | _ => none)
    | _ => none)
  | _, _, x => convPtrA C src dst x st

theorem row_len {w0 : World} {E : Env} {st : St} {w : World} (P : Program) (h : Sim w0 E st w) {i off off' len c : Nat} {cs : Tr AV} (hc : st.cellsOf i = some cs) {as : List AV} (hr : cs.row len off = some as) (ho : off' = off ∨ (len = 0 ∧ c = 0)) :
    ∃ vs : List Value, (loadCells ⟨E.ρ i, off', none⟩ len).run P w = .ok vs.toArray w ∧ VsRel E as vs := by
  obtain ⟨vs, h1, h2, h3, _⟩ := row_load P h hc hr
  rcases ho with rfl | ⟨rfl, _⟩
  · exact ⟨vs, h1, h2⟩
  · have : vs = [] := List.length_eq_zero_iff.1 h3
    subst this
    exact ⟨[], rfl, h2⟩

theorem run_bytesOut {P : Program} {w : World} {E : Env} {a : Addr} {len cap : Nat} {as : List AV} {vs : List Value} {l : List UInt8} (h : (loadCells a len).run P w = .ok vs.toArray w) (hr : VsRel E as vs) (hl : asBytesA as = some l) :
    (Conv.bytesToString (.slice (some a) len cap)).run P w = .ok (.string ⟨⟨l⟩⟩) w := by
  obtain ⟨ns, rfl, rfl⟩ := asBytesA_sound as vs l hl hr
  rw [run_bytesToString w a len cap ns h, foldl_push]
  simp

theorem convertA_sound {C : Cfg} (hC : C.Ok) {w0 : World} {E : Env} {st st' : St} {w : World} (h : Sim w0 E st w) {src dst : Nat} {x a : AV} {v : Value} (hs : convertA C src dst x st = some (a, st')) (hv : VRel E x v) (hf : Fresh E st st') :
    Gives C w0 E st w (convert src dst v) a st' := by
  unfold convertA at hs
  split at hs
  · rename_i p ti k n k' hsrc hdst
    cases hs
    cases hv
    obtain ⟨si, sd⟩ := p
    exact Gives.pure h (by simp [convert, (run_ty hC hsrc w).2.1, (run_ty hC hdst w).2.1, Conv.intToInt]) (.ofInt (wrapQ_eq _ _))
  · rename_i p ti n k hsrc hdst
    cases hs
    cases hv
    obtain ⟨si, sd⟩ := p
    exact Gives.pure h (by simp [convert, (run_ty hC hsrc w).2.1, (run_ty hC hdst w).2.1, Conv.intToString]) (.str _)
  · rename_i p ti s hsrc hdst
    cases hs
    cases hv
    obtain ⟨si, sd⟩ := p
    exact Gives.pure h (by simp [convert, (run_ty hC hsrc w).2.1, (run_ty hC hdst w).2.1]) (.str _)
  · rename_i p ti e s hsrc hdst
    obtain ⟨si, sd⟩ := p
    split at hs
    · rename_i ei hety
      split at hs
      · rename_i i st1 hn
        cases hs
        cases hv
        have hcap : s.size ≤ grownCap w s.size 0 e := by simp only [grownCap, Question.cut]; omega
        have hDs : (Lib.bytesCells w e s).size = grownCap w s.size 0 e := by
          simp only [Lib.bytesCells, Array.size_append, Array.size_map, Array.size_replicate]
          have : s.data.size = s.size := rfl
          omega
        obtain ⟨E', hp, hρ, hd, hσ⟩ := newBlk_cells h hn hf (bytes_rel E s.data.toList) (Lib.bytesCells w e s) ((Lib.bytesCells w e s).size, (Lib.bytesCells w e s).size + 1) (fun j v hv => by
            have hj : j < (s.data.map fun b => Value.int .u8 b.toNat).size := by
              rcases Nat.lt_or_ge j (s.data.map fun b => Value.int .u8 b.toNat).size with h' | h'
              · exact h'
              · rw [List.getElem?_eq_none (by simpa using h')] at hv; cases hv
            simp only [Lib.bytesCells]
            rw [Array.getElem?_append_left hj]
            simpa [byteV] using hv) (fun o _ ho => by simp; omega) (fun he => by cases he) (Lib.bytesWorld w e s) (by
              simp only [Lib.bytesWorld, World.freeze]; rw [if_neg (by omega)]; rfl) (by
              simp only [Lib.bytesWorld, World.freeze]; rw [if_neg (by omega)]; rfl) (by
              simp only [Lib.bytesWorld, World.freeze]; rw [if_neg (by omega)]; rfl)
            (heap_push (Lib.bytesWorld_size w e s) (fun k hk => Lib.bytesWorld_at_old w e s k hk) (Lib.bytesWorld_at_new w e s))
        refine ⟨E', _, _, Lib.run_convert_string_bytes w src dst e s (hC.ty _ _ _ hsrc).2 (hC.ty _ _ _ hdst).2 (hC.ty _ _ _ hety).2, hp, ?_⟩
        have e1 : (⟨w.heap.size, 0, none⟩ : Addr) = ⟨E'.ρ i, 0, none⟩ := by rw [hρ]
        rw [e1]
        exact .slu _ _ _ _ _ _ _ hd hcap (.inl rfl) (by rw [hσ, hDs]; omega) hcap
      · cases hs
    · cases hs
  · rename_i ti e tj hsrc hdst _ _
    split at hs
    · rename_i ei hety
      have hconv : ∀ (b : Option Addr) (l c : Nat), (convert src dst (.slice b l c)).run C.P w = (Conv.bytesToString (.slice b l c)).run C.P w :=
        fun b l c => run_convert_bytes_string w src dst e b l c (hC.ty _ _ _ hsrc).2 (hC.ty _ _ _ hety).2 (hC.ty _ _ _ hdst).2
      split at hs
      · cases hs
        cases hv
        exact Gives.pure h (v := .string .empty) (by rw [hconv]; simp [Conv.bytesToString]) (.str _)
      · split at hs
        · rename_i cs hcs
          split at hs
          · rename_i as has
            split at hs
            · rename_i l hl
              cases hs
              cases hv with
              | sl _ _ _ _ hd =>
                obtain ⟨vs, h1, h2, _⟩ := row_load C.P h hcs has
                exact Gives.pure h (by rw [hconv]; exact run_bytesOut h1 h2 hl) (.str _)
            · cases hs
          · cases hs
        · cases hs
      · split at hs
        · rename_i cs hcs
          split at hs
          · rename_i as has
            split at hs
            · rename_i l hl
              cases hs
              cases hv with
              | slu _ _ _ _ _ off' c hd hlc ho hsz _ =>
                obtain ⟨vs, h1, h2⟩ := row_len C.P h hcs has ho
                exact Gives.pure h (by rw [hconv]; exact run_bytesOut h1 h2 hl) (.str _)
            · cases hs
          · cases hs
        · cases hs
      · cases hs
    · cases hs
  · exact convPtrA_sound hC h hs hv

/-! Small ones. -/
def unaryA (op : UnOp) (x : AV) : Option AV :=
  match op, x with
  | .neg, .int k n => some (.int k (wrapQ k (0 - n)))
  | .not, .bool b => some (.bool (!b))
  | .xor, .int k n => (match bitsA .xor k (if k.signed then -1 else k.max) n with | some m => some (.int k m) | none => none)
  | _, _ => none

theorem unaryA_sound {C : Cfg} {w0 : World} {E : Env} {st : St} {w : World} (h : Sim w0 E st w) {op : UnOp} {x a : AV} {v : Value} (hs : unaryA op x = some a) (hv : VRel E x v) : Gives C w0 E st w (Op.unary op v) a st := by
  unfold unaryA at hs
  split at hs
  · cases hs; cases hv
    exact Gives.pure h (by simp only [Op.unary, Op.intArith]; rfl) (.ofInt (wrapQ_eq _ _))
  · cases hs; cases hv
    exact Gives.pure h (by simp only [Op.unary]; rfl) (.bool _)
  · rename_i k n
    simp only [bitsA, Option.some.injEq] at hs
    subst hs
    cases hv
    exact Gives.pure h (by simp only [Op.unary, Op.intBits]; rfl) (.ofInt (wrapQ_eq _ _))
  · cases hs

def extractA (x : AV) (n : Nat) : Option AV :=
  match x with
  | .tup vs => nth vs n
  | _ => none

theorem extractA_sound {C : Cfg} {w0 : World} {E : Env} {st : St} {w : World} (h : Sim w0 E st w) {n : Nat} {x a : AV} {v : Value} (hs : extractA x n = some a) (hv : VRel E x v) : Gives C w0 E st w (Instr.extract v n) a st := by
  unfold extractA at hs
  split at hs
  · rw [nth_eq] at hs
    cases hv with
    | tup _ vs hvs =>
      obtain ⟨u, h1, h2⟩ := hvs.get _ _ hs
      rw [Array.getElem?_toList] at h1
      exact Gives.pure h (by simp [Instr.extract, h1]) h2
  · cases hs

def ifaceA (C : Cfg) (t : Nat) (x : AV) : Option AV :=
  match C.ty t with
  | some (_, .interface _) => none
  | some _ => some (.iface t x)
  | none => none

theorem ifaceA_sound {C : Cfg} (hC : C.Ok) {w0 : World} {E : Env} {st : St} {w : World} (h : Sim w0 E st w) {t : Nat} {x a : AV} {v : Value} (hs : ifaceA C t x = some a) (hv : VRel E x v) : Gives C w0 E st w (Instr.makeInterface t v) a st := by
  unfold ifaceA at hs
  split at hs
  · cases hs
  · rename_i p hne hty
    cases hs
    obtain ⟨ti, d⟩ := p
    refine Gives.pure h (v := .iface t v) ?_ (.iface _ _ _ hv)
    simp only [Instr.makeInterface, Sem.run_bind, (run_ty hC hty w).2.1, Result.andThen_ok]
    cases d <;> first | rfl | exact absurd rfl (hne _ _)
  · cases hs
end Go.Proofs.YtfamacgopcfhhaaGreatDoor.Ax
