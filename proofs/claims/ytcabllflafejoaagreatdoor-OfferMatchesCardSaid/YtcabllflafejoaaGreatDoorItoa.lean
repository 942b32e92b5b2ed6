/-
  strconv.Itoa at this program (the kit's shelf, laid), and calls of it answered.
-/
import Derived.Shelf.Strconv.Itoa0
import Derived.Shelf.Strconv.Itoa1
import Derived.Shelf.LaysM
import Derived.Shelf.Strconv.Itoa2
import Derived.Shelf.Strconv.Itoa3
import Derived.Test.YtcabllflafejoaaGreatDoorProg
import Derived.Test.YtcabllflafejoaaGreatDoorBase
import Derived.Test.YtcabllflafejoaaGreatDoorAxZd
import Derived.Lib.AppendIntMem
set_option linter.all false
namespace Go.Proofs.YtcabllflafejoaaGreatDoor
open Go Go.Shelf
def laysM171_ren : Go.Shelf.Ren := ⟨fun | 171 => 108 | 243 => 138 | 246 => 167 | 283 => 195 | 284 => 196 | 285 => 197 | 286 => 198 | 129 => 216 | 317 => 215 | 318 => 217 | 319 => 218 | 320 => 219 | 337 => 228 | 338 => 229 | n => n, fun | 3 => 3 | 9 => 9 | 2 => 2 | 4 => 4 | 171 => 176 | 0 => 0 | 53 => 177 | 37 => 106 | 5 => 5 | 173 => 180 | 212 => 193 | 51 => 194 | 20 => 20 | 213 => 195 | 46 => 197 | 232 => 208 | 233 => 209 | n => n, fun | 17 => 6 | 18 => 10 | 19 => 11 | n => n⟩
theorem laysM171 : Go.Proofs.LaysM.n171 Tryz.prog laysM171_ren := {
  mixed := by kernel_rfl
  f129 := Tryz.func216.trans (congrArg some (by kernel_rfl))
  f171 := Tryz.func108.trans (congrArg some (by kernel_rfl))
  f243 := Tryz.func138.trans (congrArg some (by kernel_rfl))
  f246 := Tryz.func167.trans (congrArg some (by kernel_rfl))
  f283 := Tryz.func195.trans (congrArg some (by kernel_rfl))
  f284 := Tryz.func196.trans (congrArg some (by kernel_rfl))
  f285 := Tryz.func197.trans (congrArg some (by kernel_rfl))
  f286 := Tryz.func198.trans (congrArg some (by kernel_rfl))
  f317 := Tryz.func215.trans (congrArg some (by kernel_rfl))
  f318 := Tryz.func217.trans (congrArg some (by kernel_rfl))
  f319 := Tryz.func218.trans (congrArg some (by kernel_rfl))
  f320 := Tryz.func219.trans (congrArg some (by kernel_rfl))
  f337 := Tryz.func228.trans (congrArg some (by kernel_rfl))
  f338 := Tryz.func229.trans (congrArg some (by kernel_rfl))
  t0 := Tryz.underlying0
  a0 := Tryz.isAgg0
  z0 := Tryz.sizeOf0
  v0 := Tryz.zeroValue0
  t2 := Tryz.underlying2
  a2 := Tryz.isAgg2
  z2 := Tryz.sizeOf2
  v2 := Tryz.zeroValue2
  t3 := Tryz.underlying3
  a3 := Tryz.isAgg3
  z3 := Tryz.sizeOf3
  v3 := Tryz.zeroValue3
  t4 := Tryz.underlying4
  a4 := Tryz.isAgg4
  z4 := Tryz.sizeOf4
  v4 := Tryz.zeroValue4
  t5 := Tryz.underlying5
  a5 := Tryz.isAgg5
  z5 := Tryz.sizeOf5
  v5 := Tryz.zeroValue5
  t9 := Tryz.underlying9
  a9 := Tryz.isAgg9
  z9 := Tryz.sizeOf9
  v9 := Tryz.zeroValue9
  t20 := Tryz.underlying20
  a20 := Tryz.isAgg20
  z20 := Tryz.sizeOf20
  v20 := Tryz.zeroValue20
  t37 := Tryz.underlying106
  a37 := Tryz.isAgg106
  z37 := Tryz.sizeOf106
  v37 := Tryz.zeroValue106
  t46 := Tryz.underlying197
  a46 := Tryz.isAgg197
  z46 := Tryz.sizeOf197
  v46 := Tryz.zeroValue197
  t51 := Tryz.underlying194
  a51 := Tryz.isAgg194
  z51 := Tryz.sizeOf194
  v51 := Tryz.zeroValue194
  t53 := Tryz.underlying177
  a53 := Tryz.isAgg177
  z53 := Tryz.sizeOf177
  v53 := Tryz.zeroValue177
  t171 := Tryz.underlying176
  a171 := Tryz.isAgg176
  z171 := Tryz.sizeOf176
  v171 := Tryz.zeroValue176
  t173 := Tryz.underlying180
  a173 := Tryz.isAgg180
  z173 := Tryz.sizeOf180
  v173 := Tryz.zeroValue180
  t212 := Tryz.underlying193
  a212 := Tryz.isAgg193
  z212 := Tryz.sizeOf193
  v212 := Tryz.zeroValue193
  t213 := Tryz.underlying195
  a213 := Tryz.isAgg195
  z213 := Tryz.sizeOf195
  t232 := Tryz.underlying208
  a232 := Tryz.isAgg208
  z232 := Tryz.sizeOf208
  v232 := Tryz.zeroValue208
  t233 := Tryz.underlying209
  a233 := Tryz.isAgg209
  z233 := Tryz.sizeOf209
  v233 := Tryz.zeroValue209
  g17 := by kernel_rfl
  g18 := by kernel_rfl
  g19 := by kernel_rfl
  i0 := by kernel_rfl
  i2 := by kernel_rfl
  i3 := by kernel_rfl
  i4 := by kernel_rfl
  i5 := by kernel_rfl
  i9 := by kernel_rfl
  i20 := by kernel_rfl
  i37 := by kernel_rfl
  i46 := by kernel_rfl
  i51 := by kernel_rfl
  i53 := by kernel_rfl
  i171 := by kernel_rfl
  i173 := by kernel_rfl
  i212 := by kernel_rfl
  i232 := by kernel_rfl
  i233 := by kernel_rfl
  m17 := by kernel_rfl
  m18 := by kernel_rfl
  m19 := by kernel_rfl }
open Go.RowKit Go.Sort Go.Lib in
/-- strconv.Itoa: "Itoa is equivalent to FormatInt(int64(i), 10).": i's DECIMAL NUMERAL ('Lib.itoa': a '-' where i is negative, then the digits), FOR EVERY int. The world behind the call: the world before it, new blocks behind the heap (the library's 'var a [24]byte'), draws. (LAID: no walk: one application.) -/
theorem strconv_Itoa (n : Int) (h0 : -9223372036854775808 ≤ n) (h1 : n ≤ 9223372036854775807) (w : World) (htab : Lib.TabIs Tryz.prog w "internal/strconv.uint64pow10" .u64 Lib.pow10Tab) :
    Calls Tryz.prog 108 #[.int .i64 n] w fun e w' => e = .returned (.string ⟨(Lib.itoa n).toArray⟩) ∧ ∃ k os, w' = grow (w.drewN k) os := Any.strconv_Itoa laysM171 n h0 h1 w htab

open Go.Proofs.YtcabllflafejoaaGreatDoor.Ax Go.RowKit
noncomputable section
/-- The decimal digits of a number below 10^fuel. -/
def digF (fuel : Nat) : Nat → List UInt8 := @Nat.rec (fun _ => Nat → List UInt8) (fun _ => []) (fun _ ih u => ifF (Nat.blt u 10) [UInt8.ofNat (48 + u)] (ih (u / 10) ++ [UInt8.ofNat (48 + u % 10)])) fuel
theorem digF_eq : ∀ (fuel u : Nat), u < 10 ^ fuel → 0 < fuel → digF fuel u = Lib.decDigits u
  | 0, u, _, h => by omega
  | fuel + 1, u, h, _ => by
    show ifF (Nat.blt u 10) [UInt8.ofNat (48 + u)] (digF fuel (u / 10) ++ [UInt8.ofNat (48 + u % 10)]) = _
    rw [Lib.decDigits, ifF_eq]
    by_cases hu : u < 10
    · rw [Nat.blt_eq.mpr hu, dif_pos hu]; rfl
    · have hb : Nat.blt u 10 = false := by cases hb : Nat.blt u 10 with
        | false => rfl
        | true => exact absurd (Nat.blt_eq.mp hb) hu
      rw [hb, dif_neg hu]
      have h10 : u / 10 < 10 ^ fuel := by rw [Nat.pow_succ] at h; omega
      have hf : 0 < fuel := by
        cases fuel with
        | zero => simp at h10; omega
        | succ n => omega
      rw [digF_eq fuel (u / 10) h10 hf]
      rfl

/-- What strconv.Itoa answers, for numbers that are not negative. -/
def itoaG : List AV → Option AV
  | [.int .i64 (.ofNat u)] => bif Nat.ble u 9223372036854775807 then some (.str ⟨(digF 20 u).toArray⟩) else none
  | _ => none

def G (W : World) : Prop := TabOk W tab ∧ Lib.TabIs Tryz.prog W "internal/strconv.uint64pow10" .u64 Lib.pow10Tab
theorem pow_named : ∃ g, Tryz.prog.globalNamed "internal/strconv.uint64pow10" = some g := ⟨6, by kernel_rfl⟩
theorem pow_below {w w' : World} (h : Lib.TabIs Tryz.prog w "internal/strconv.uint64pow10" .u64 Lib.pow10Tab) (hb : Below w.heap.size w w') : Lib.TabIs Tryz.prog w' "internal/strconv.uint64pow10" .u64 Lib.pow10Tab := by
  obtain ⟨g, hg⟩ := pow_named
  unfold Lib.TabIs World.var? at h ⊢
  rw [hg] at h ⊢
  simp only [Option.bind_some] at h ⊢
  have hlt : g < w.heap.size := by
    rcases Nat.lt_or_ge g w.heap.size with h' | h'
    · exact h'
    · rw [Array.getElem?_eq_none h'] at h; cases h
  rw [hb.block g hlt]
  exact h
theorem G_ok : GOk G tab := ⟨fun _ h => h.1, fun _ _ h hb => ⟨TabOk.below h.1 hb, pow_below h.2 hb⟩⟩

theorem pow_data : (Rows.laid_internal_strconv_uint64pow10 : DataW Unit) = Lib.tabData .u64 Lib.pow10Tab := by kernel_rfl
theorem G_of {W : World} (h : laidMetH Tryz.prog laid W) : G W := by
  refine ⟨tab_of h, ?_⟩
  have hp : (laid.filter fun x => x.2.handleName?.isSome) = [] := by kernel_rfl
  unfold laidMetH at h
  rw [hp] at h
  obtain ⟨ps, hl, _⟩ := h
  obtain ⟨g, t, cs, fuel, p, h1, h2, h3, h4⟩ := laid_reads hl "internal/strconv.uint64pow10" Rows.laid_internal_strconv_uint64pow10 (.tail _ (.tail _ (.head _)))
  have hg : Tryz.prog.globalNamed "internal/strconv.uint64pow10" = some 6 := by kernel_rfl
  obtain rfl := Option.some.inj (hg.symm.trans h1)
  have ht : (Tryz.prog.globals[6]?).map (·.type) = some 193 := by kernel_rfl
  obtain rfl := Option.some.inj (ht.symm.trans h2)
  unfold Lib.TabIs
  rw [pow_data] at h4
  have := Lib.cells_of_tab (n := 20) (e := 177) (by kernel_rfl) (by kernel_rfl) (by kernel_rfl) (by kernel_rfl) h4
  rw [h3, ← this]

theorem itoa_says (args : List AV) (a : AV) (h : itoaG args = some a) : Says C G 108 args a := by
  unfold itoaG at h
  split at h
  · rename_i u
    cases hu : Nat.ble u 9223372036854775807 with
    | false => rw [hu] at h; cases h
    | true =>
      rw [hu] at h
      cases h
      have hle := Nat.le_of_ble_eq_true hu
      intro W hG E vs hv
      have hvs : vs = #[.int .i64 (Int.ofNat u)] := by
        obtain ⟨l⟩ := vs
        cases hv with
        | cons hv hs =>
          cases hv
          cases hs
          rfl
      subst hvs
      refine (strconv_Itoa (Int.ofNat u) (by show (-9223372036854775808 : Int) ≤ (u : Int); omega) (by show ((u : Int) ≤ 9223372036854775807); omega) W hG.2).mono ?_
      rintro e W' ⟨rfl, k, os, rfl⟩
      refine ⟨_, rfl, fun E => ?_, Lib.below_grow _ W (Nat.le_refl _) k os⟩
      have : Lib.itoa (Int.ofNat u) = digF 20 u := by
        unfold Lib.itoa
        rw [if_neg (by show ¬ ((u : Int) < 0); omega), digF_eq 20 u (by omega) (by omega)]
        rfl
      rw [this]
      exact .str _
  · cases h
def XI : CallF := scalX 108 itoaG noneX
theorem XI_snd : ∀ W, G W → SndF C W XI := scalX_snd G_ok (fun W _ => noneX_snd C W) itoa_says
theorem XI_grw : GrwF XI := scalX_grw noneX_grw
end
end Go.Proofs.YtcabllflafejoaaGreatDoor
