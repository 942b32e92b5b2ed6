/-
  AN EXECUTOR OVER AN ABSTRACT MEMORY, PART M: make, ranges over strings, rows of the library; the dispatch over operations.
-/
import Derived.Test.YtfamacgopcfhhaaGreatDoorAxL
import Derived.Lib.Bytealg
import Derived.Lib.MakeNoZero
namespace Go.Proofs.YtfamacgopcfhhaaGreatDoor.Ax
open Go.RowKit

def makeA (C : Cfg) (t : Nat) (l c : AV) (st : St) : Option (AV × St) :=
  match C.ty t, natOf l, natOf c with
  | some (_, .slice elem), some len, some cap => (match C.ty elem, zeroA C elem with
    | some (ei, _), some z =>
      bif Nat.ble len cap && (Nat.ble (ei.bytes * cap) 1099511627776 && (Nat.ble cap 1099511627776 && (Nat.beq z.length ei.size && Nat.ble 1 ei.size))) then
        (match newRow elem (rep z cap) st with
        | some (i, st') => some (.sl i 0 len cap, st')
        | none => none)
      else none
    | _, _ => none)
  | _, _, _ => none

theorem makeA_sound {C : Cfg} (hC : C.Ok) {w0 : World} {E : Env} {st st' : St} {w : World} (h : Sim w0 E st w) {t : Nat} {l c a : AV} {lv cv : Value} (hs : makeA C t l c st = some (a, st')) (hl : VRel E l lv) (hc : VRel E c cv) (hf : Fresh E st st') :
    Gives C w0 E st w (Instr.makeSlice t lv cv) a st' := by
  unfold makeA at hs
  split at hs
  · rename_i ti elem len cap hty hln hcn
    obtain ⟨k1, rfl, rfl⟩ := natOf_spec hln hl
    obtain ⟨k2, rfl, rfl⟩ := natOf_spec hcn hc
    split at hs
    · rename_i ei ed z hety hz
      cases hb : (Nat.ble len cap && (Nat.ble (ei.bytes * cap) 1099511627776 && (Nat.ble cap 1099511627776 && (Nat.beq z.length ei.size && Nat.ble 1 ei.size)))) with
      | false => simp only [hb, cond_false, reduceCtorEq] at hs
      | true =>
        simp only [hb, cond_true] at hs
        simp only [Bool.and_eq_true] at hb
        have b1 := Nat.le_of_ble_eq_true hb.1
        have b2 := Nat.le_of_ble_eq_true hb.2.1
        have b3 := Nat.le_of_ble_eq_true hb.2.2.1
        have b4 := Nat.eq_of_beq_eq_true hb.2.2.2.1
        have b5 := Nat.le_of_ble_eq_true hb.2.2.2.2
        split at hs
        · rename_i i st1 hn
          cases hs
          obtain ⟨ti', d', zv, hty', hzz, _, hzrel⟩ := zeroA_sound hC E hz w
          rw [hety] at hty'; cases hty'
          have hrr := rep_rel hzrel cap
          rw [b4] at hrr
          obtain ⟨E', w', hr, hp, hd, hσ⟩ := newRow_sound C.P h hn hf hrr
          refine ⟨E', w', .slice (some ⟨E'.ρ i, 0, none⟩) len cap, ?_, hp, .sl _ _ _ _ hd⟩
          have w1 : IntKind.i64.wrap (len : Int) = len := IntWalk.i64_in _ (by omega)
          have w2 : IntKind.i64.wrap (cap : Int) = cap := IntWalk.i64_in _ (by omega)
          have hb48 : ¬ ((ei.bytes : Int) * (cap : Int) > 2 ^ 48) := by
            have e1 : ((ei.bytes : Int) * (cap : Int)) = ((ei.bytes * cap : Nat) : Int) := by simp
            have e2 : (2 : Int) ^ 48 = 281474976710656 := rfl
            rw [e1, e2]; omega
          have hneg : ¬ ((cap : Int) < 0) := by omega
          have hneg2 : ¬ ((len : Int) < 0) := by omega
          have hlc : ¬ ((len : Int) > (cap : Int)) := by omega
          have hcond : ((decide ((cap : Int) < 0) || decide ((ei.bytes : Int) * (cap : Int) > 2 ^ 48)) || decide ((len : Int) < 0) || decide ((len : Int) > (cap : Int))) = false := by
            simp only [hneg, hb48, hneg2, hlc, decide_false, Bool.or_self]
          have hzr := fun w => run_zero hC hety hzz w
          have hti := fun w => (run_ty hC hety w).1
          have hsz := fun w => (run_ty hC hety w).2.2
          unfold Instr.makeSlice
          simp only [Sem.run_bind, (run_ty hC hty w).2.1, Result.andThen_ok, asInt, asIntOf, Sem.run_pure, hti, w1, w2, hcond, Bool.false_eq_true, if_false, Int.toNat_natCast, run_askRoom, hsz]
          by_cases hn0 : cap * ei.size = 0
          · have hc0 : cap = 0 := by
              rcases Nat.mul_eq_zero.1 hn0 with h' | h'
              · exact h'
              · omega
            subst hc0
            have e0 : ∀ f : Nat → Value, (Array.range 0).map f = #[] := fun f => by simp
            simp only [Nat.zero_mul, e0] at hr
            simp only [Nat.zero_mul, if_true, Sem.run_bind, Sem.run_pure, Result.andThen_ok, e0, hr]
          · simp only [hn0, if_false, Sem.run_bind, hzr, Result.andThen_ok, Sem.run_pure, hr]
        · cases hs
    · cases hs
  · cases hs

def rangeA (C : Cfg) (t : Nat) (x : AV) (st : St) : Option (AV × St) :=
  match C.ty t, x with
  | some (_, .string), .str s => (match newBlk st (.iter s 0) with
    | some (i, st') => some (.ptr i 0, st')
    | none => none)
  | _, _ => none

theorem rangeA_sound {C : Cfg} (hC : C.Ok) {w0 : World} {E : Env} {st st' : St} {w : World} (h : Sim w0 E st w) {t : Nat} {x a : AV} {v : Value} (hs : rangeA C t x st = some (a, st')) (hv : VRel E x v) (hf : Fresh E st st') :
    Gives C w0 E st w (Instr.range t v) a st' := by
  unfold rangeA at hs
  split at hs
  · rename_i ti s hty
    cases hv
    split at hs
    · rename_i i st1 hn
      cases hs
      unfold newBlk at hn
      cases hh : hidden st.hid st.next with
      | true => simp only [hh, cond_true, reduceCtorEq] at hn
      | false =>
        simp only [hh, cond_false, Option.some.injEq, Prod.mk.injEq] at hn
        obtain ⟨rfl, rfl⟩ := hn
        have hnd : ¬ E.dom st.next := hf _ (Nat.le_refl _) (by simp [St.new])
        have hp := Post.alloc h hnd hh (.iter s 0) (.stringIter s 0) 0 (w.alloc (.stringIter s 0)) rfl rfl rfl rfl (by
          refine ⟨by simp [Env.add, -World.alloc_eq, World.alloc], ?_⟩
          simp only [Env.add, if_true]; exact h.below.size)
        refine ⟨_, _, .pointer (some ⟨w.heap.size, 0, none⟩), by simp [Instr.range, (run_ty hC hty w).2.1], hp, ?_⟩
        have hr := VRel.ptr (E := E.add st.next w.heap.size 0) st.next 0 (.inl rfl)
        simpa [Env.add] using hr
    · cases hs
  · cases hs

def nextA (x : AV) (isString : Bool) (st : St) : Option (AV × St) :=
  match x, isString with
  | .ptr i 0, true => (match st.vis i with
    | some (.iter s pos) =>
      bif Nat.blt pos s.data.toList.length then
        some (.tup [.bool true, .int .i64 (Int.ofNat pos), .int .i32 (Int.ofNat (Utf8.decode s pos).1)], st.put i (.iter s (pos + (Utf8.decode s pos).2)))
      else some (.tup [.bool false], st)
    | _ => none)
  | _, _ => none

theorem nextA_sound {C : Cfg} {w0 : World} {E : Env} {st st' : St} {w : World} (h : Sim w0 E st w) {x a : AV} {v : Value} {b : Bool} {ty : TypeId} (hs : nextA x b st = some (a, st')) (hv : VRel E x v) :
    Gives C w0 E st w (Instr.next v b ty) a st' := by
  unfold nextA at hs
  split at hs
  · rename_i i
    cases hv with
    | ptr _ _ hd =>
    split at hs
    · rename_i s pos hvis
      obtain ⟨hdi, g1, g2⟩ := h.live i _ hvis
      have hg : (getObj (E.ρ i)).run C.P w = .ok (.stringIter s pos) w := by simp [getObj, Sem.run, g1]
      have hblt : E.ρ i < w.heap.size := (h.live i _ hvis).2.lt
      have hsz : s.data.toList.length = s.size := rfl
      rw [hsz] at hs
      cases hb : Nat.blt pos s.size with
      | false =>
        have hnot : ¬ pos < s.size := fun h' => by rw [Nat.blt_eq.mpr h'] at hb; cases hb
        simp only [hb, cond_false, Option.some.injEq, Prod.mk.injEq] at hs
        obtain ⟨rfl, rfl⟩ := hs
        refine Gives.pure h (v := .tuple #[.bool false]) ?_ (.tup _ _ (.cons (.bool _) .nil))
        simp only [Instr.next, Sem.run_bind, hg, Result.andThen_ok, hnot, if_false, Sem.run_pure]
      | true =>
        have hlt := Nat.blt_eq.mp hb
        simp only [hb, cond_true, Option.some.injEq, Prod.mk.injEq] at hs
        obtain ⟨rfl, rfl⟩ := hs
        let w1 : World := { w with heap := w.heap.setIfInBounds (E.ρ i) (.stringIter s (pos + (Utf8.decode s pos).2)) }
        have hset : (setObj (E.ρ i) (.stringIter s (pos + (Utf8.decode s pos).2))).run C.P w = .ok () w1 := by simp [setObj, Sem.run, g1, w1]
        refine ⟨E, w1, .tuple #[.bool true, goInt pos, .int .i32 (Utf8.decode s pos).1], ?_, Post.upd h hvis rfl w1 rfl rfl rfl (by simp [w1]) (fun k hk => ?_) ⟨?_, g2⟩, .tup _ _ (.cons (.bool _) (.cons (.int _ _) (.cons (.int _ _) .nil)))⟩
        · simp only [Instr.next, Sem.run_bind, hg, Result.andThen_ok, hlt, if_true, hset, Sem.run_pure]
        · simp only [w1]
          rw [Array.getElem?_setIfInBounds, if_neg (by omega)]
        · simp only [w1]
          rw [Array.getElem?_setIfInBounds, if_pos rfl, if_pos hblt]
    · cases hs
  · cases hs

/-! Rows of the library. -/
def findB (c : Nat) : List UInt8 → Nat → Option Nat
  | [], _ => none
  | b :: l, i => bif Nat.beq b.toNat c then some i else findB c l (i + 1)

def countB (c : Nat) : List UInt8 → Nat → Nat
  | [], n => n
  | b :: l, n => countB c l (bif Nat.beq b.toNat c then n + 1 else n)

def extA (e : Ext) (args : List AV) : Option AV :=
  match e, args with
  | .noEscape, [x] => some x
  | .indexByte, [.str s, .int .u8 (.ofNat c)] => bif Nat.ble c 255 then (match findB c s.data.toList 0 with
    | some i => some (.int .i64 (Int.ofNat i))
    | none => some (.int .i64 (-1))) else none
  | .count, [.str s, .int .u8 (.ofNat c)] => bif Nat.ble c 255 then some (.int .i64 (Int.ofNat (countB c s.data.toList 0))) else none
  | _, _ => none
theorem findB_spec (c : UInt8) : ∀ (l : List UInt8) (i : Nat), findB c.toNat l i = if Lib.indexByte l c = -1 then none else some (i + (Lib.indexByte l c).toNat) := by
  intro l
  induction l with
  | nil => intro i; rfl
  | cons b l ih =>
    intro i
    have hge := Lib.indexByte_ge l c
    have hix : Lib.indexByte (b :: l) c = if b = c then 0 else if Lib.indexByte l c = -1 then -1 else Lib.indexByte l c + 1 := by
      simp only [Lib.indexByte, beq_iff_eq]
    rw [hix]
    simp only [findB, Tr.cbeq, ih]
    by_cases hc : b = c
    · subst hc; simp
    · have h1 : ¬ b.toNat = c.toNat := fun h' => hc (UInt8.toNat_inj.1 h')
      simp only [if_neg h1, if_neg hc]
      by_cases h3 : Lib.indexByte l c = -1
      · simp [h3]
      · simp only [if_neg h3]
        have : ¬ Lib.indexByte l c + 1 = -1 := by omega
        simp only [if_neg this]
        congr 1; omega

theorem countB_spec (c : UInt8) : ∀ (l : List UInt8) (n : Nat), countB c.toNat l n = n + Lib.countByte l c := by
  intro l
  induction l with
  | nil => intro n; simp [countB, Lib.countByte]
  | cons b l ih =>
    intro n
    simp only [countB, Tr.cbeq, ih, Lib.countByte, List.count_cons]
    by_cases hc : b = c
    · subst hc; simp; omega
    · have h1 : ¬ b.toNat = c.toNat := fun h' => hc (UInt8.toNat_inj.1 h')
      have h2 : (b == c) = false := by simpa using hc
      simp [h1, h2]

theorem run_callFunc_ext {P : Program} {w : World} {f : FuncId} {x : Func} {e : Array Value → Sem Value} (h1 : P.funcs[f]? = some x) (h2 : (x.name == "runtime.NumGoroutine") = false) (h3 : x.body = none) (h4 : (Extern.findNext x).isNone = true) (h5 : Extern.find x = some e) (args : Array Value) :
    (callFunc f args).run P w = ((e args).run P w).andThen fun v w' => .ok (.value v) w' := by
  have h4' : Extern.findNext x = none := by simpa using h4
  simp only [callFunc, Sem.run_bind, run_program, Result.andThen_ok, h1, h2, h3, Bool.false_eq_true, if_false, Option.isNone_none, if_true, run_mark, h4', Sem.run_pure, h5]

theorem run_callFunc {P : Program} {w : World} {f : FuncId} {x : Func} {c : Code} (h1 : P.funcs[f]? = some x) (h2 : (x.name == "runtime.NumGoroutine") = false) (h3 : x.body = some c) (args : Array Value) :
    (callFunc f args).run P w = .ok (.enter f args) w := by
  simp only [callFunc, Sem.run_bind, run_program, Result.andThen_ok, h1, h2, h3, Bool.false_eq_true, if_false, Option.isNone_some, Sem.run_pure]

theorem extA_sound {C : Cfg} (hC : C.Ok) {E : Env} {w : World} {f : FuncId} {e : Ext} (he : C.ext f = some e) {args : List AV} {vs : Array Value} {a : AV} (hs : extA e args = some a) (hv : VsRel E args vs.toList) :
    ∃ v, (callFunc f vs).run C.P w = .ok (.value v) w ∧ VRel E a v := by
  unfold extA at hs
  split at hs
  · cases hs
    obtain ⟨u, rfl, hu⟩ := args1 hv
    obtain ⟨x, h1, h2, h3, h4, h5⟩ := hC.extSame f he
    exact ⟨u, by rw [run_callFunc_ext h1 h2 h3 h4 h5]; rfl, hu⟩
  · rename_i s c
    obtain ⟨u, v, rfl, hu, hw⟩ := args2 hv
    cases hu; cases hw
    obtain ⟨x, h1, h2, h3, h4, h5⟩ := hC.extByte f he
    cases hb : Nat.ble c 255 with
    | false => simp only [hb, cond_false, reduceCtorEq] at hs
    | true =>
      simp only [hb, cond_true] at hs
      have hc := Nat.le_of_ble_eq_true hb
      have hcb : ((Int.ofNat c).toNat.toUInt8).toNat = c := by simp; omega
      have hf := findB_spec (Int.ofNat c).toNat.toUInt8 s.data.toList 0
      rw [hcb] at hf
      have hge := Lib.indexByte_ge s.data.toList (Int.ofNat c).toNat.toUInt8
      refine ⟨.int .i64 (Lib.indexByte s.data.toList (Int.ofNat c).toNat.toUInt8), by rw [run_callFunc_ext h1 h2 h3 h4 h5, Lib.run_indexByteString]; rfl, ?_⟩
      by_cases h6 : Lib.indexByte s.data.toList (Int.ofNat c).toNat.toUInt8 = -1
      · rw [if_pos h6] at hf
        rw [hf] at hs
        cases hs
        exact .ofInt h6.symm
      · rw [if_neg h6] at hf
        rw [hf] at hs
        cases hs
        exact .ofInt (by show ((0 + _ : Nat) : Int) = _; omega)
  · rename_i s c
    obtain ⟨u, v, rfl, hu, hw⟩ := args2 hv
    cases hu; cases hw
    obtain ⟨x, h1, h2, h3, h4, h5⟩ := hC.extCount f he
    cases hb : Nat.ble c 255 with
    | false => simp only [hb, cond_false, reduceCtorEq] at hs
    | true =>
      simp only [hb, cond_true, Option.some.injEq] at hs
      subst hs
      have hc := Nat.le_of_ble_eq_true hb
      have hcb : ((Int.ofNat c).toNat.toUInt8).toNat = c := by simp; omega
      have hf := countB_spec (Int.ofNat c).toNat.toUInt8 s.data.toList 0
      rw [hcb] at hf
      refine ⟨.int .i64 (Lib.countByte s.data.toList (Int.ofNat c).toNat.toUInt8 : Nat), by rw [run_callFunc_ext h1 h2 h3 h4 h5, Lib.run_countString]; rfl, .ofInt ?_⟩
      rw [hf, Nat.zero_add]
      rfl
  · cases hs

/-- The same, where memory may be taken. -/
def extSt (e : Ext) (args : List AV) (st : St) : Option (AV × St) :=
  match e with
  | .noZero t => (match args with
    | [.int .i64 (.ofNat n)] => bif Nat.ble n 281474976710656 then (match newBlk st (.cells false t 0 false (Tr.ofList [] 0 .leaf)) with
      | some (i, st') => some (.slu i 0 n 1 n, st')
      | none => none) else none
    | _ => none)
  | e => match extA e args with
    | some a => some (a, st)
    | none => none

theorem extSt_sound {C : Cfg} (hC : C.Ok) {w0 : World} {E : Env} {st st' : St} {w : World} (h : Sim w0 E st w) {f : FuncId} {e : Ext} (he : C.ext f = some e) {args : List AV} {vs : Array Value} {a : AV} (hs : extSt e args st = some (a, st')) (hv : VsRel E args vs.toList) (hf : Fresh E st st') :
    ∃ E' w' v, (callFunc f vs).run C.P w = .ok (.value v) w' ∧ Post w0 E st w E' st' w' ∧ VRel E' a v := by
  unfold extSt at hs
  split at hs
  · rename_i t
    split at hs
    · rename_i n
      cases hb : Nat.ble n 281474976710656 with
      | false => simp only [hb, cond_false, reduceCtorEq] at hs
      | true =>
        simp only [hb, cond_true] at hs
        have hn := Nat.le_of_ble_eq_true hb
        split at hs
        · rename_i i st1 hnb
          cases hs
          obtain ⟨u, rfl, hu⟩ := args1 hv
          cases hu
          obtain ⟨x, ps, s, h1, h2, h3, h4, h5, h6⟩ := hC.extZero f t he
          obtain ⟨cs, r1, r2, _⟩ := Lib.run_makeNoZero (P := C.P) w ps s t h6 n hn
          have hdr : Sim w0 E st w.drew.drew := (h.drawn (w.drawn + 1)).drawn (w.drawn + 1 + 1)
          obtain ⟨E', hp, hρ, hd, hσ⟩ := newBlk_cells hdr hnb hf (vs := []) .nil cs (0, 0) (fun j v hv => by simp at hv) (fun o _ _ => by simp) (fun _ => .inl rfl) (w.drew.drew.alloc (.cells cs t)) rfl rfl rfl rfl
          have hpost : Post w0 E st w E' st' (w.drew.drew.alloc (.cells cs t)) := ((Post.drawn h (w.drawn + 1)).trans (Post.drawn (h.drawn (w.drawn + 1)) (w.drawn + 1 + 1))).trans hp
          refine ⟨E', _, _, by rw [run_callFunc_ext h1 h2 h3 h4 h5]; exact (congrArg (fun r => Result.andThen r fun v w => .ok (Next.value v) w) r1), hpost, ?_⟩
          have e1 : (⟨w.heap.size, 0, none⟩ : Addr) = ⟨E'.ρ i, 0, none⟩ := by rw [hρ]; rfl
          rw [e1]
          exact .slu _ _ _ _ _ _ _ hd r2 (.inl rfl) (by rw [hσ]; omega) r2
        · cases hs
    · cases hs
  · cases hx : extA e args with
    | none => simp only [hx, reduceCtorEq] at hs
    | some b =>
      simp only [hx, Option.some.injEq, Prod.mk.injEq] at hs
      obtain ⟨rfl, rfl⟩ := hs
      obtain ⟨v, h3, h4⟩ := extA_sound (w := w) hC he hx hv
      exact ⟨E, w, v, h3, .refl h, h4⟩
end Go.Proofs.YtfamacgopcfhhaaGreatDoor.Ax
