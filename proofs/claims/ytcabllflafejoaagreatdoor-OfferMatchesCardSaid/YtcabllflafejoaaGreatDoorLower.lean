/-
  dialtoneref02.Lower and offer.lower: the letters A to Z become a to z.
-/
import Derived.Test.YtcabllflafejoaaGreatDoorProg
import Derived.WalkKit
import Derived.Laws.IdiomStrings
import Derived.Below
import Derived.Test.YtcabllflafejoaaGreatDoorAxC
set_option linter.unusedVariables false
namespace Go.Proofs.YtcabllflafejoaaGreatDoor
open Go Go.RowKit

def lowU (b : UInt8) : UInt8 := if 65 ≤ b.toNat ∧ b.toNat ≤ 90 then UInt8.ofNat (b.toNat + 32) else b
def lowS (s : ByteArray) : ByteArray := ⟨(s.data.toList.map lowU).toArray⟩
def lowAt (l : List UInt8) (k j : Nat) : Int := ((if j < k then lowU (l.getD j 0) else l.getD j 0).toNat : Int)

theorem lowAt_step {l : List UInt8} {k j : Nat} (h : j ≠ k) : lowAt l (k + 1) j = lowAt l k j := by
  unfold lowAt
  by_cases hj : j < k
  · rw [if_pos hj, if_pos (by omega)]
  · rw [if_neg hj, if_neg (by omega)]
theorem lowAt_self (l : List UInt8) (k : Nat) : lowAt l k k = ((l.getD k 0).toNat : Int) := by
  unfold lowAt
  rw [if_neg (Nat.lt_irrefl k)]
theorem lowAt_next (l : List UInt8) (k : Nat) : lowAt l (k + 1) k = ((lowU (l.getD k 0)).toNat : Int) := by
  unfold lowAt
  rw [if_pos (Nat.lt_succ_self k)]
theorem lowU_in {b : UInt8} (h1 : 65 ≤ (b.toNat : Int)) (h2 : (b.toNat : Int) ≤ 90) : ((lowU b).toNat : Int) = b.toNat + 32 := by
  unfold lowU
  rw [if_pos (by omega), UInt8.toNat_ofNat', Nat.mod_eq_of_lt (by omega)]
  omega
theorem lowU_out {b : UInt8} (h : ¬ (65 ≤ (b.toNat : Int) ∧ (b.toNat : Int) ≤ 90)) : lowU b = b := by
  unfold lowU
  rw [if_neg (by omega)]
theorem lowAt_in {l : List UInt8} {k : Nat} (h1 : 65 ≤ lowAt l k k) (h2 : lowAt l k k ≤ 90) : lowAt l (k + 1) k = lowAt l k k + 32 := by
  rw [lowAt_self] at *
  rw [lowAt_next, lowU_in h1 h2]
theorem lowAt_out {l : List UInt8} {k : Nat} (h : ¬ (65 ≤ lowAt l k k ∧ lowAt l k k ≤ 90)) : lowAt l (k + 1) k = lowAt l k k := by
  rw [lowAt_self] at *
  rw [lowAt_next, lowU_out h]
theorem lowAt_all {l : List UInt8} {n j : Nat} (hn : l.length = n) (hj : j < (l.map lowU).length) : lowAt l n j = ((l.map lowU)[j].toNat : Int) := by
  unfold lowAt
  rw [List.length_map] at hj
  rw [if_pos (by omega)]
  simp [List.getD, List.getElem?_eq_getElem hj]

/-- What a store of a round keeps. -/
theorem lower_set {s : ByteArray} {w wr : World} {k : Nat} (hk : k < s.size) (hc : ∀ j, j < s.size → wr.cell? ⟨w.heap.size, j, none⟩ = some (.int .u8 (lowAt s.data.toList k j))) (h1 : 65 ≤ lowAt s.data.toList k k) (h2 : lowAt s.data.toList k k ≤ 90) :
    ∀ j, j < s.size → (wr.setCell ⟨w.heap.size, k, none⟩ (.int .u8 (lowAt s.data.toList k k + 32))).cell? ⟨w.heap.size, j, none⟩ = some (.int .u8 (lowAt s.data.toList (k + 1) j)) := by
  intro j hj
  by_cases hjk : j = k
  · subst hjk
    rw [World.cell?_setCell_same' _ _ _ (by rw [hc j hj]; rfl), lowAt_in h1 h2]
  · rw [World.cell?_setCell_other _ _ _ _ (by intro h; injection h with _ h _; omega), hc j hj, lowAt_step hjk]
theorem lower_keep {s : ByteArray} {w wr : World} {k : Nat} (hc : ∀ j, j < s.size → wr.cell? ⟨w.heap.size, j, none⟩ = some (.int .u8 (lowAt s.data.toList k j))) (h : ¬ (65 ≤ lowAt s.data.toList k k ∧ lowAt s.data.toList k k ≤ 90)) :
    ∀ j, j < s.size → wr.cell? ⟨w.heap.size, j, none⟩ = some (.int .u8 (lowAt s.data.toList (k + 1) j)) := by
  intro j hj
  rw [hc j hj]
  by_cases hjk : j = k
  · subst hjk; rw [lowAt_out h]
  · rw [lowAt_step hjk]
theorem lower_start {s : ByteArray} {w : World} {cap : Nat} {j : Nat} (hj : j < s.size) : (w.drew.alloc (.cells (bytesRow s cap) 5 ((bytesRow s cap).size, (bytesRow s cap).size + 1))).cell? ⟨w.heap.size, j, none⟩ = some (.int .u8 (lowAt s.data.toList 0 j)) := by
  have := World.cell?_alloc_mark w.drew (bytesRow s cap) 5 ((bytesRow s cap).size, (bytesRow s cap).size + 1) j
  rw [show (w.drew.heap.size) = w.heap.size from rfl] at this
  have hj' : j < s.data.size := hj
  rw [this, bytesRow_at s cap j hj']
  unfold lowAt
  rw [if_neg (by omega)]
  simp [List.getD, List.getElem?_eq_getElem hj']
theorem lower_thaw {s : ByteArray} {w : World} {cap : Nat} {j : Nat} (hj : j < s.size) : (w.drew.alloc (.cells (bytesRow s cap) 5 ((bytesRow s cap).size, (bytesRow s cap).size + 1))).frozen? ⟨w.heap.size, j, none⟩ = false := by
  have := World.frozen?_alloc_mark w.drew (bytesRow s cap) 5 (bytesRow s cap).size ((bytesRow s cap).size + 1) j
  rw [show (w.drew.heap.size) = w.heap.size from rfl] at this
  rw [this]
  have : j < (bytesRow s cap).size := by
    unfold bytesRow
    have : s.data.size = s.size := rfl
    simp
    omega
  simp
  omega
theorem lower_back {s : ByteArray} {w wr : World} {cap : Nat} (hc : ∀ j, j < s.size → wr.cell? ⟨w.heap.size, j, none⟩ = some (.int .u8 (lowAt s.data.toList s.size j))) : (convert 106 9 (.slice (some ⟨w.heap.size, 0, none⟩) s.size cap)).run Tryz.prog wr = .ok (.string (lowS s)) wr := by
  have hl : (s.data.toList.map lowU).length = s.size := by simp
  have := run_convert_bytes_back (P := Tryz.prog) wr 106 9 5 ⟨w.heap.size, 0, none⟩ cap (s.data.toList.map lowU) Tryz.underlying106 Tryz.underlying5 Tryz.underlying9 (fun j hj => by
    rw [← lowAt_all (n := s.size) (by simp) hj, Go.Proofs.YtcabllflafejoaaGreatDoor.Ax.add_addr, Nat.zero_add]
    exact hc j (by omega))
  rw [hl] at this
  exact this

set_option maxRecDepth 100000 in
theorem lower67 (s : ByteArray) (w : World) (hs : s.size ≤ 9223372036854775807) :
    Calls Tryz.prog 67 #[.string s] w fun e w' => e = .returned (.string (lowS s)) ∧ Below w.heap.size w w' := by
  have hconv := run_bytes_of_string (P := Tryz.prog) w 9 106 5 s Tryz.underlying9 Tryz.underlying106 Tryz.underlying5
  go_enter Tryz.func67, Tryz.ntmps67
  go_wp2
  go_loopw [4] (fun i wr => ∃ k : Nat, k ≤ s.size ∧ i = .int .i64 k ∧ (∀ j, j < s.size → wr.cell? ⟨w.heap.size, j, none⟩ = some (.int .u8 (lowAt s.data.toList k j))) ∧ (∀ j, j < s.size → wr.frozen? ⟨w.heap.size, j, none⟩ = false) ∧ Below w.heap.size w wr)
    (fun i _ => s.size - (intOf i).toNat)
  case atStart => exact ⟨0, Nat.zero_le _, rfl, fun j hj => lower_start hj, fun j hj => lower_thaw hj, (Go.RowKit.Below.drew (Below.refl _ _)).alloc (Nat.le_refl _) _⟩
  case round =>
    obtain ⟨k, hk, rfl, hc, hf, hb⟩ := hrel
    by_cases hlt : k < s.size
    · have hck : wr.cell? ⟨w.heap.size, k, none⟩ = some (.int .u8 (lowAt s.data.toList k k)) := hc k hlt
      go_wp2
      · go_roundw
        case rel => exact ⟨k + 1, by omega, by go_num, lower_set hlt hc (by assumption) (by assumption), fun j hj => by rw [World.frozen?_setCell]; exact hf j hj, hb.setCell (Nat.le_refl _) _⟩
        case measure => simp [intOf]; omega
      · go_roundw
        case rel => exact ⟨k + 1, by omega, by go_num, lower_keep hc (by omega), hf, hb⟩
        case measure => simp [intOf]; omega
      · go_roundw
        case rel => exact ⟨k + 1, by omega, by go_num, lower_keep hc (by omega), hf, hb⟩
        case measure => simp [intOf]; omega
    · have hks : k = s.size := by omega
      subst hks
      have hback := lower_back (w := w) (wr := wr) (cap := grownCap w s.size 0 5) hc
      go_wp2
      go_ret
      exact ⟨rfl, hb⟩


set_option maxRecDepth 100000 in
theorem lower66 (s : ByteArray) (w : World) (hs : s.size ≤ 9223372036854775807) :
    Calls Tryz.prog 66 #[.string s] w fun e w' => e = .returned (.string (lowS s)) ∧ Below w.heap.size w w' := by
  have hconv := run_bytes_of_string (P := Tryz.prog) w 9 106 5 s Tryz.underlying9 Tryz.underlying106 Tryz.underlying5
  go_enter Tryz.func66, Tryz.ntmps66
  go_wp2
  go_loopw [10] (fun i wr => ∃ k : Nat, k ≤ s.size ∧ i = .int .i64 k ∧ (∀ j, j < s.size → wr.cell? ⟨w.heap.size, j, none⟩ = some (.int .u8 (lowAt s.data.toList k j))) ∧ (∀ j, j < s.size → wr.frozen? ⟨w.heap.size, j, none⟩ = false) ∧ Below w.heap.size w wr)
    (fun i _ => s.size - (intOf i).toNat)
  case atStart => exact ⟨0, Nat.zero_le _, rfl, fun j hj => lower_start hj, fun j hj => lower_thaw hj, (Go.RowKit.Below.drew (Below.refl _ _)).alloc (Nat.le_refl _) _⟩
  case round =>
    obtain ⟨k, hk, rfl, hc, hf, hb⟩ := hrel
    by_cases hlt : k < s.size
    · have hck : wr.cell? ⟨w.heap.size, k, none⟩ = some (.int .u8 (lowAt s.data.toList k k)) := hc k hlt
      go_wp2
      · go_roundw
        case rel => exact ⟨k + 1, by omega, by go_num, lower_set hlt hc (by assumption) (by assumption), fun j hj => by rw [World.frozen?_setCell]; exact hf j hj, hb.setCell (Nat.le_refl _) _⟩
        case measure => simp [intOf]; omega
      · go_roundw
        case rel => exact ⟨k + 1, by omega, by go_num, lower_keep hc (by omega), hf, hb⟩
        case measure => simp [intOf]; omega
      · go_roundw
        case rel => exact ⟨k + 1, by omega, by go_num, lower_keep hc (by omega), hf, hb⟩
        case measure => simp [intOf]; omega
    · have hks : k = s.size := by omega
      subst hks
      have hback := lower_back (w := w) (wr := wr) (cap := grownCap w s.size 0 5) hc
      go_wp2
      go_ret
      exact ⟨rfl, hb⟩
end Go.Proofs.YtcabllflafejoaaGreatDoor
