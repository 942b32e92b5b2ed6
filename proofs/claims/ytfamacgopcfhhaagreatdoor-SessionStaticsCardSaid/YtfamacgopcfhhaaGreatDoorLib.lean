/-
  strconv.Itoa and internal/stringslite.Index at this program (the kit's shelf, laid), and calls of them answered.
-/
import Derived.Shelf.Small.Utf8
import Derived.Shelf.Small.Strs
import Derived.Shelf.Utf8.RuneCount
import Derived.Shelf.Strconv.Itoa0
import Derived.Shelf.Strconv.Itoa1
import Derived.Shelf.LaysM
import Derived.Shelf.Strconv.Itoa2
import Derived.Shelf.Strconv.Itoa3
import Derived.Shelf.Strings.Search1
import Derived.Shelf.Strings.Search2
import Derived.Shelf.Strings.Search3
import Derived.Shelf.Strings.Cut
import Derived.Shelf.Strings.Count
import Derived.Shelf.Strings.Shaped
import Derived.Shelf.Strings.Runes
import Derived.Shelf.Strings.AsciiSet
import Derived.Shelf.Unicode.DecodeSlow
import Derived.Shelf.Unicode.DecodeAny
import Derived.Shelf.Unicode.DecodeLast
import Derived.Test.YtfamacgopcfhhaaGreatDoorProg
import Derived.Test.YtfamacgopcfhhaaGreatDoorBase
import Derived.Test.YtfamacgopcfhhaaGreatDoorAxZd
import Derived.Lib.AppendIntMem
set_option linter.all false
namespace Go.Proofs.YtfamacgopcfhhaaGreatDoor
open Go Go.Shelf
def laysM171_ren : Go.Shelf.Ren := ⟨fun | 171 => 50 | 243 => 92 | 246 => 133 | 283 => 160 | 284 => 161 | 285 => 162 | 286 => 163 | 129 => 178 | 317 => 177 | 318 => 179 | 319 => 180 | 320 => 181 | 337 => 186 | 338 => 187 | n => n, fun | 3 => 3 | 9 => 9 | 2 => 2 | 4 => 4 | 171 => 160 | 0 => 0 | 53 => 161 | 37 => 75 | 5 => 5 | 173 => 164 | 212 => 176 | 51 => 166 | 20 => 20 | 213 => 177 | 46 => 144 | 232 => 187 | 233 => 188 | n => n, fun | 17 => 3 | 18 => 6 | 19 => 7 | n => n⟩
theorem laysM171 : Go.Proofs.LaysM.n171 Tryz.prog laysM171_ren := {
  mixed := by kernel_rfl
  f129 := Tryz.func178.trans (congrArg some (by kernel_rfl))
  f171 := Tryz.func50.trans (congrArg some (by kernel_rfl))
  f243 := Tryz.func92.trans (congrArg some (by kernel_rfl))
  f246 := Tryz.func133.trans (congrArg some (by kernel_rfl))
  f283 := Tryz.func160.trans (congrArg some (by kernel_rfl))
  f284 := Tryz.func161.trans (congrArg some (by kernel_rfl))
  f285 := Tryz.func162.trans (congrArg some (by kernel_rfl))
  f286 := Tryz.func163.trans (congrArg some (by kernel_rfl))
  f317 := Tryz.func177.trans (congrArg some (by kernel_rfl))
  f318 := Tryz.func179.trans (congrArg some (by kernel_rfl))
  f319 := Tryz.func180.trans (congrArg some (by kernel_rfl))
  f320 := Tryz.func181.trans (congrArg some (by kernel_rfl))
  f337 := Tryz.func186.trans (congrArg some (by kernel_rfl))
  f338 := Tryz.func187.trans (congrArg some (by kernel_rfl))
  t0 := Tryz.underlying0
  a0 := Tryz.isAgg0
  z0 := Tryz.sizeOf0
  v0 := Tryz.zeroValue0
  t2 := Tryz.underlying2
  a2 := Tryz.isAgg2
  z2 := Tryz.sizeOf2
  v2 := Tryz.zeroValue2
  t3 := Tryz.underlying3
  a3 := Tryz.isAgg3
  z3 := Tryz.sizeOf3
  v3 := Tryz.zeroValue3
  t4 := Tryz.underlying4
  a4 := Tryz.isAgg4
  z4 := Tryz.sizeOf4
  v4 := Tryz.zeroValue4
  t5 := Tryz.underlying5
  a5 := Tryz.isAgg5
  z5 := Tryz.sizeOf5
  v5 := Tryz.zeroValue5
  t9 := Tryz.underlying9
  a9 := Tryz.isAgg9
  z9 := Tryz.sizeOf9
  v9 := Tryz.zeroValue9
  t20 := Tryz.underlying20
  a20 := Tryz.isAgg20
  z20 := Tryz.sizeOf20
  v20 := Tryz.zeroValue20
  t37 := Tryz.underlying75
  a37 := Tryz.isAgg75
  z37 := Tryz.sizeOf75
  v37 := Tryz.zeroValue75
  t46 := Tryz.underlying144
  a46 := Tryz.isAgg144
  z46 := Tryz.sizeOf144
  v46 := Tryz.zeroValue144
  t51 := Tryz.underlying166
  a51 := Tryz.isAgg166
  z51 := Tryz.sizeOf166
  v51 := Tryz.zeroValue166
  t53 := Tryz.underlying161
  a53 := Tryz.isAgg161
  z53 := Tryz.sizeOf161
  v53 := Tryz.zeroValue161
  t171 := Tryz.underlying160
  a171 := Tryz.isAgg160
  z171 := Tryz.sizeOf160
  v171 := Tryz.zeroValue160
  t173 := Tryz.underlying164
  a173 := Tryz.isAgg164
  z173 := Tryz.sizeOf164
  v173 := Tryz.zeroValue164
  t212 := Tryz.underlying176
  a212 := Tryz.isAgg176
  z212 := Tryz.sizeOf176
  v212 := Tryz.zeroValue176
  t213 := Tryz.underlying177
  a213 := Tryz.isAgg177
  z213 := Tryz.sizeOf177
  t232 := Tryz.underlying187
  a232 := Tryz.isAgg187
  z232 := Tryz.sizeOf187
  v232 := Tryz.zeroValue187
  t233 := Tryz.underlying188
  a233 := Tryz.isAgg188
  z233 := Tryz.sizeOf188
  v233 := Tryz.zeroValue188
  g17 := by kernel_rfl
  g18 := by kernel_rfl
  g19 := by kernel_rfl
  i0 := by kernel_rfl
  i2 := by kernel_rfl
  i3 := by kernel_rfl
  i4 := by kernel_rfl
  i5 := by kernel_rfl
  i9 := by kernel_rfl
  i20 := by kernel_rfl
  i37 := by kernel_rfl
  i46 := by kernel_rfl
  i51 := by kernel_rfl
  i53 := by kernel_rfl
  i171 := by kernel_rfl
  i173 := by kernel_rfl
  i212 := by kernel_rfl
  i232 := by kernel_rfl
  i233 := by kernel_rfl
  m17 := by kernel_rfl
  m18 := by kernel_rfl
  m19 := by kernel_rfl }
open Go.RowKit Go.Sort Go.Lib in
/-- strconv.Itoa: "Itoa is equivalent to FormatInt(int64(i), 10).": i's DECIMAL NUMERAL ('Lib.itoa': a '-' where i is negative, then the digits), FOR EVERY int. The world behind the call: the world before it, new blocks behind the heap (the library's 'var a [24]byte'), draws. (LAID: no walk: one application.) -/
theorem strconv_Itoa (n : Int) (h0 : -9223372036854775808 ≤ n) (h1 : n ≤ 9223372036854775807) (w : World) (htab : Lib.TabIs Tryz.prog w "internal/strconv.uint64pow10" .u64 Lib.pow10Tab) :
    Calls Tryz.prog 50 #[.int .i64 n] w fun e w' => e = .returned (.string ⟨(Lib.itoa n).toArray⟩) ∧ ∃ k os, w' = grow (w.drewN k) os := Any.strconv_Itoa laysM171 n h0 h1 w htab
def laysM219_ren : Go.Shelf.Ren := ⟨fun | 219 => 94 | 217 => 96 | 225 => 135 | 224 => 136 | 267 => 137 | 266 => 138 | 314 => 165 | n => n, fun | 9 => 9 | 3 => 3 | 4 => 4 | 5 => 5 | 46 => 144 | 146 => 167 | 51 => 166 | n => n, fun | 1 => 2 | n => n⟩
theorem laysM219 : Go.Proofs.LaysM.n219 Tryz.prog laysM219_ren := {
  mixed := by kernel_rfl
  f217 := Tryz.func96.trans (congrArg some (by kernel_rfl))
  f219 := Tryz.func94.trans (congrArg some (by kernel_rfl))
  f224 := Tryz.func136.trans (congrArg some (by kernel_rfl))
  f225 := Tryz.func135.trans (congrArg some (by kernel_rfl))
  f266 := Tryz.func138.trans (congrArg some (by kernel_rfl))
  f267 := Tryz.func137.trans (congrArg some (by kernel_rfl))
  f314 := Tryz.func165.trans (congrArg some (by kernel_rfl))
  t3 := Tryz.underlying3
  a3 := Tryz.isAgg3
  z3 := Tryz.sizeOf3
  v3 := Tryz.zeroValue3
  t4 := Tryz.underlying4
  a4 := Tryz.isAgg4
  z4 := Tryz.sizeOf4
  v4 := Tryz.zeroValue4
  t5 := Tryz.underlying5
  a5 := Tryz.isAgg5
  z5 := Tryz.sizeOf5
  v5 := Tryz.zeroValue5
  t9 := Tryz.underlying9
  a9 := Tryz.isAgg9
  z9 := Tryz.sizeOf9
  v9 := Tryz.zeroValue9
  t46 := Tryz.underlying144
  a46 := Tryz.isAgg144
  z46 := Tryz.sizeOf144
  v46 := Tryz.zeroValue144
  t51 := Tryz.underlying166
  a51 := Tryz.isAgg166
  z51 := Tryz.sizeOf166
  v51 := Tryz.zeroValue166
  t146 := Tryz.underlying167
  a146 := Tryz.isAgg167
  z146 := Tryz.sizeOf167
  v146 := Tryz.zeroValue167
  g1 := by kernel_rfl
  i3 := by kernel_rfl
  i4 := by kernel_rfl
  i5 := by kernel_rfl
  i9 := by kernel_rfl
  i46 := by kernel_rfl
  i51 := by kernel_rfl
  i146 := by kernel_rfl
  m1 := by kernel_rfl
  s1_3 := fun w h => Go.Proofs.cell_of_shapedOpen_int (zero := #[.int .i64 0]) (t := 3) h (of_decide_eq_true (by kernel_rfl)) (by kernel_rfl) rfl (by kernel_rfl) (by kernel_rfl) Tryz.underlying3 }

open Go.Proofs.YtfamacgopcfhhaaGreatDoor.Ax Go.RowKit
noncomputable section
/-- The decimal digits of a number below 10^fuel. -/
def digF (fuel : Nat) : Nat → List UInt8 := @Nat.rec (fun _ => Nat → List UInt8) (fun _ => []) (fun _ ih u => ifF (Nat.blt u 10) [UInt8.ofNat (48 + u)] (ih (u / 10) ++ [UInt8.ofNat (48 + u % 10)])) fuel
theorem digF_eq : ∀ (fuel u : Nat), u < 10 ^ fuel → 0 < fuel → digF fuel u = Lib.decDigits u
  | 0, u, _, h => by omega
  | fuel + 1, u, h, _ => by
    show ifF (Nat.blt u 10) [UInt8.ofNat (48 + u)] (digF fuel (u / 10) ++ [UInt8.ofNat (48 + u % 10)]) = _
    rw [Lib.decDigits, ifF_eq]
    by_cases hu : u < 10
    · rw [Nat.blt_eq.mpr hu, dif_pos hu]; rfl
    · have hb : Nat.blt u 10 = false := by cases hb : Nat.blt u 10 with
        | false => rfl
        | true => exact absurd (Nat.blt_eq.mp hb) hu
      rw [hb, dif_neg hu]
      have h10 : u / 10 < 10 ^ fuel := by rw [Nat.pow_succ] at h; omega
      have hf : 0 < fuel := by
        cases fuel with
        | zero => simp at h10; omega
        | succ n => omega
      rw [digF_eq fuel (u / 10) h10 hf]
      rfl

/-- What strconv.Itoa answers, for numbers that are not negative. -/
def itoaG : List AV → Option AV
  | [.int .i64 (.ofNat u)] => bif Nat.ble u 9223372036854775807 then some (.str ⟨(digF 20 u).toArray⟩) else none
  | _ => none

/-- What is known of the world before the call. -/
def G (W : World) : Prop := TabOk W tab ∧ Lib.TabIs Tryz.prog W "internal/strconv.uint64pow10" .u64 Lib.pow10Tab ∧ ∃ m, W.cell? ⟨2, 0, none⟩ = some (.int .i64 m)
theorem max_below {w w' : World} (h : ∃ m, w.cell? ⟨2, 0, none⟩ = some (.int .i64 m)) (hb : Below w.heap.size w w') : ∃ m, w'.cell? ⟨2, 0, none⟩ = some (.int .i64 m) := by
  obtain ⟨m, hm⟩ := h
  have hlt : 2 < w.heap.size := by
    rcases Nat.lt_or_ge 2 w.heap.size with h' | h'
    · exact h'
    · have : w.cell? ⟨2, 0, none⟩ = none := by
        unfold World.cell?
        rw [Array.getElem?_eq_none h']
      rw [this] at hm; cases hm
  refine ⟨m, ?_⟩
  unfold World.cell? at hm ⊢
  rw [hb.block _ hlt]
  exact hm
theorem pow_named : ∃ g, Tryz.prog.globalNamed "internal/strconv.uint64pow10" = some g := ⟨3, by kernel_rfl⟩
theorem pow_below {w w' : World} (h : Lib.TabIs Tryz.prog w "internal/strconv.uint64pow10" .u64 Lib.pow10Tab) (hb : Below w.heap.size w w') : Lib.TabIs Tryz.prog w' "internal/strconv.uint64pow10" .u64 Lib.pow10Tab := by
  obtain ⟨g, hg⟩ := pow_named
  unfold Lib.TabIs World.var? at h ⊢
  rw [hg] at h ⊢
  simp only [Option.bind_some] at h ⊢
  have hlt : g < w.heap.size := by
    rcases Nat.lt_or_ge g w.heap.size with h' | h'
    · exact h'
    · rw [Array.getElem?_eq_none h'] at h; cases h
  rw [hb.block g hlt]
  exact h
theorem G_ok : GOk G tab := ⟨fun _ h => h.1, fun _ _ h hb => ⟨TabOk.below h.1 hb, pow_below h.2.1 hb, max_below h.2.2 hb⟩⟩

theorem pow_data : (Rows.laid_internal_strconv_uint64pow10 : DataW Unit) = Lib.tabData .u64 Lib.pow10Tab := by kernel_rfl
theorem G_of {W : World} (h : laidMetH Tryz.prog laid W) (hs : W.ShapedOpen Tryz.prog) : G W := by
  refine ⟨tab_of h, ?_, laysM219.s1_3 W hs⟩
  have hp : (laid.filter fun x => x.2.handleName?.isSome) = [] := by kernel_rfl
  unfold laidMetH at h
  rw [hp] at h
  obtain ⟨ps, hl, _⟩ := h
  obtain ⟨g, t, cs, fuel, p, h1, h2, h3, h4⟩ := laid_reads hl "internal/strconv.uint64pow10" Rows.laid_internal_strconv_uint64pow10 (.tail _ (.tail _ (.head _)))
  have hg : Tryz.prog.globalNamed "internal/strconv.uint64pow10" = some 3 := by kernel_rfl
  obtain rfl := Option.some.inj (hg.symm.trans h1)
  have ht : (Tryz.prog.globals[3]?).map (·.type) = some 176 := by kernel_rfl
  obtain rfl := Option.some.inj (ht.symm.trans h2)
  unfold Lib.TabIs
  rw [pow_data] at h4
  have := Lib.cells_of_tab (n := 20) (e := 161) (by kernel_rfl) (by kernel_rfl) (by kernel_rfl) (by kernel_rfl) h4
  rw [h3, ← this]

theorem itoa_says (args : List AV) (a : AV) (h : itoaG args = some a) : Says C G 50 args a := by
  unfold itoaG at h
  split at h
  · rename_i u
    cases hu : Nat.ble u 9223372036854775807 with
    | false => rw [hu] at h; cases h
    | true =>
      rw [hu] at h
      cases h
      have hle := Nat.le_of_ble_eq_true hu
      intro W hG E vs hv
      have hvs : vs = #[.int .i64 (Int.ofNat u)] := by
        obtain ⟨l⟩ := vs
        cases hv with
        | cons hv hs =>
          cases hv
          cases hs
          rfl
      subst hvs
      refine (strconv_Itoa (Int.ofNat u) (by show (-9223372036854775808 : Int) ≤ (u : Int); omega) (by show ((u : Int) ≤ 9223372036854775807); omega) W hG.2.1).mono ?_
      rintro e W' ⟨rfl, k, os, rfl⟩
      refine ⟨_, rfl, fun E => ?_, Lib.below_grow _ W (Nat.le_refl _) k os⟩
      have : Lib.itoa (Int.ofNat u) = digF 20 u := by
        unfold Lib.itoa
        rw [if_neg (by show ¬ ((u : Int) < 0); omega), digF_eq 20 u (by omega) (by omega)]
        rfl
      rw [this]
      exact .str _
  · cases h

/-! The first place of a text in another one. -/
def preF (sub : List UInt8) : List UInt8 → Bool := @List.rec UInt8 (fun _ => List UInt8 → Bool) (fun _ => true) (fun b _ ih l => @List.rec UInt8 (fun _ => Bool) false (fun c t _ => @Bool.rec (fun _ => Bool) false (ih t) (Nat.beq b.toNat c.toNat)) l) sub
theorem preF_eq : ∀ (sub l : List UInt8), preF sub l = sub.isPrefixOf l
  | [], _ => by simp [preF]
  | b :: sub, [] => rfl
  | b :: sub, c :: l => by
    show @Bool.rec (fun _ => Bool) false (preF sub l) (Nat.beq b.toNat c.toNat) = _
    rw [preF_eq sub l]
    simp only [List.isPrefixOf]
    by_cases h : b = c
    · subst h; simp
    · have h1 : (b == c) = false := by simpa using h
      have h2 : Nat.beq b.toNat c.toNat = false := by
        cases hb : Nat.beq b.toNat c.toNat with
        | false => rfl
        | true => exact absurd (UInt8.toNat_inj.1 (Nat.eq_of_beq_eq_true hb)) h
      rw [h1, h2]; rfl
def idxF (sub s : List UInt8) : Nat → Option Nat := @List.rec UInt8 (fun _ => Nat → Option Nat) (fun n => ifF (preF sub []) (some n) none) (fun b l ih n => ifF (preF sub (b :: l)) (some n) (ih (Nat.succ n))) s
theorem idxF_eq (sub : List UInt8) : ∀ (s : List UInt8) (n : Nat), match idxF sub s n with
    | none => Lib.index s sub = -1
    | some m => n ≤ m ∧ Lib.index s sub = ((m - n : Nat) : Int)
  | [], n => by
    show match ifF (preF sub []) (some n) none with
      | none => Lib.index [] sub = -1
      | some m => n ≤ m ∧ Lib.index [] sub = ((m - n : Nat) : Int)
    rw [ifF_eq, preF_eq]
    cases sub with
    | nil => simp [Lib.index]
    | cons b t => simp [Lib.index]
  | b :: l, n => by
    have ih := idxF_eq sub l (n + 1)
    show match ifF (preF sub (b :: l)) (some n) (idxF sub l (n + 1)) with
      | none => Lib.index (b :: l) sub = -1
      | some m => n ≤ m ∧ Lib.index (b :: l) sub = ((m - n : Nat) : Int)
    rw [ifF_eq, preF_eq]
    cases hp : sub.isPrefixOf (b :: l) with
    | true => simp [Lib.index, hp]
    | false =>
      simp only [cond_false]
      cases hi : idxF sub l (n + 1) with
      | none =>
        rw [hi] at ih
        have ih : Lib.index l sub = -1 := ih
        simp [Lib.index, hp, ih]
      | some m =>
        rw [hi] at ih
        obtain ⟨h1, h2⟩ : n + 1 ≤ m ∧ Lib.index l sub = ((m - (n + 1) : Nat) : Int) := ih
        refine ⟨by omega, ?_⟩
        have hne : (Lib.index l sub == -1) = false := by rw [beq_eq_false_iff_ne]; omega
        simp only [Lib.index, hp, hne]
        simp only [Bool.false_eq_true, if_false]
        omega

/-- What internal/stringslite.Index answers. -/
def indexG : List AV → Option AV
  | [.str s, .str sub] => bif Nat.ble s.data.toList.length 4294967280 then some (.int .i64 (optF (-1) (fun n => Int.ofNat n) (idxF sub.data.toList s.data.toList (nat_lit 0)))) else none
  | _ => none

theorem index_says (args : List AV) (a : AV) (h : indexG args = some a) : Says C G 94 args a := by
  unfold indexG at h
  split at h
  · rename_i s sub
    cases hu : Nat.ble s.data.toList.length 4294967280 with
    | false => rw [hu] at h; cases h
    | true =>
      rw [hu] at h
      cases h
      have hle := Nat.le_of_ble_eq_true hu
      intro W hG E vs hv
      have hvs : vs = #[.string s, .string sub] := by
        obtain ⟨l⟩ := vs
        cases hv with
        | cons hv hs =>
          cases hv
          cases hs with
          | cons hv hs =>
            cases hv
            cases hs
            rfl
      subst hvs
      obtain ⟨m, hm⟩ := hG.2.2
      refine (Any.stringslite_Index { laysM219 with } s sub m W (by have : s.data.toList.length = s.size := rfl; omega) hm).mono ?_
      rintro e W' ⟨rfl, rfl⟩
      refine ⟨_, rfl, fun E => ?_, Below.refl _ _⟩
      have := idxF_eq sub.data.toList s.data.toList 0
      have he : Lib.index s.data.toList sub.data.toList = optF (-1) (fun n => Int.ofNat n) (idxF sub.data.toList s.data.toList (nat_lit 0)) := by
        show _ = optF (-1) (fun n => Int.ofNat n) (idxF sub.data.toList s.data.toList 0)
        cases hi : idxF sub.data.toList s.data.toList 0 with
        | none => rw [hi] at this; exact this
        | some m => rw [hi] at this; exact this.2
      rw [he]
      exact .int _ _
  · cases h

def XI : CallF := scalX 50 itoaG (scalX 94 indexG noneX)
theorem XI_snd : ∀ W, G W → SndF C W XI := scalX_snd G_ok (scalX_snd G_ok (fun W _ => noneX_snd C W) index_says) itoa_says
theorem XI_grw : GrwF XI := scalX_grw (scalX_grw noneX_grw)
end
end Go.Proofs.YtfamacgopcfhhaaGreatDoor
