/-
  What the session timer's functions answer, in plain numbers.
-/
import Derived.Test.YtogdgamgpkbdaaaGreatDoorAxZd
import Derived.Test.YtogdgamgpkbdaaaGreatDoorWorks
namespace Go.Proofs.YtogdgamgpkbdaaaGreatDoor
open Go Go.Proofs.YtogdgamgpkbdaaaGreatDoor.Ax Go.RowKit

/-- What is known of the world: the listed variables read as the row says. -/
def G (W : World) : Prop := TabOk W tab
theorem G_ok : GOk G tab := ⟨fun _ h => h, fun _ _ h hb => TabOk.below h hb⟩

def secB (s : Int) : Bool := decide (s = 0 ∨ (90 ≤ s ∧ s ≤ 86400))
def timB (t : Int) : Bool := decide (0 ≤ t ∧ t ≤ 1099511627776)
def mayB (s : Int) (o : Bool) (t : Int) (p e : Bool) : Bool := secB s && timB t && (decide (s ≠ 0) || (!o && !p && !e)) && (!p || (o && !e))
def limN (s t : Int) : Int := t + 1000 * s - 1000 * (if s / 3 < 32 then s / 3 else 32)
/-- The same with Go's overflow. -/
def limW (s t : Int) : Int := IntKind.i64.wrap (t + 1000 * s - 1000 * (if IntKind.i64.wrap (s.tdiv 3) < 32 then IntKind.i64.wrap (s.tdiv 3) else 32))
theorem limW_eq {s t : Int} (h1 : 0 ≤ s ∧ s ≤ 86400) (h2 : 0 ≤ t ∧ t ≤ 1099511627776) : limW s t = limN s t := by
  have h3 : s.tdiv 3 = s / 3 := Int.tdiv_eq_ediv_of_nonneg h1.1
  unfold limW limN
  simp only [IntKind.wrap_i64, h3]
  by_cases h4 : s / 3 < 32
  · rw [if_pos (by omega), if_pos h4]; omega
  · rw [if_neg (by omega), if_neg h4]; omega
def nexB (s : Int) (o : Bool) (t : Int) (p e : Bool) : Bool := mayB s o t p e && decide (s ≠ 0) && !e
def nexN (s : Int) (o : Bool) (t : Int) (p e : Bool) : Int := if nexB s o t p e = true then (if (o && !p) = true then t + 500 * s else limN s t) else 0

def refA (s : Int) (o : Bool) (t : Int) (p e : Bool) : AV := .agg [.int .i64 s, .bool o, .int .i64 t, .bool p, .bool e]
def agrA (c m s : Int) (k : Bool) : AV := .agg [.int .i64 c, .int .i64 m, .int .i64 s, .bool k]

/-- Start: what is wrong, or nothing. -/
def staB (c s now : Int) : Bool := decide (c = 0) && secB s && timB now
def stS (c s now : Int) : Int := if (staB c s now && decide (s ≠ 0)) = true then s else 0
def stO (c s : Int) (k side : Bool) (now : Int) : Bool := staB c s now && decide (s ≠ 0) && (k == side)
def stT (c s now : Int) : Int := if (staB c s now && decide (s ≠ 0)) = true then now else 0
def stR (c s now : Int) : Int := if staB c s now = true then 0 else 2
def staA (c s : Int) (k : Bool) (side : Bool) (now : Int) : AV :=
  .tup [refA (stS c s now) (stO c s k side now) (stT c s now) false false, .int .u8 (stR c s now)]

/-- Fire: 0: not valid, 1: nothing, 2: the end, 3: a refresh. -/
def firK (s : Int) (o : Bool) (t : Int) (p e : Bool) (now : Int) : Nat :=
  if (mayB s o t p e && timB now) = false then 0 else if (nexB s o t p e = false ∨ now < nexN s o t p e) then 1 else if limN s t ≤ now then 2 else 3
def fiS (s : Int) (o : Bool) (t : Int) (p e : Bool) (now : Int) : Int := if firK s o t p e now = 0 then 0 else s
def fiO (s : Int) (o : Bool) (t : Int) (p e : Bool) (now : Int) : Bool := decide (firK s o t p e now ≠ 0) && o
def fiT (s : Int) (o : Bool) (t : Int) (p e : Bool) (now : Int) : Int := if firK s o t p e now = 0 then 0 else t
def fiP (s : Int) (o : Bool) (t : Int) (p e : Bool) (now : Int) : Bool := (decide (firK s o t p e now = 1) && p) || decide (firK s o t p e now = 3)
def fiE (s : Int) (o : Bool) (t : Int) (p e : Bool) (now : Int) : Bool := (decide (firK s o t p e now = 1 ∨ firK s o t p e now = 3) && e) || decide (firK s o t p e now = 2)
def fiA (s : Int) (o : Bool) (t : Int) (p e : Bool) (now : Int) : Int := if firK s o t p e now = 2 then 2 else if firK s o t p e now = 3 then 1 else 0
def fiR (s : Int) (o : Bool) (t : Int) (p e : Bool) (now : Int) : Int := if firK s o t p e now = 0 then 2 else 0
def firA (s : Int) (o : Bool) (t : Int) (p e : Bool) (now : Int) : AV :=
  .tup [refA (fiS s o t p e now) (fiO s o t p e now) (fiT s o t p e now) (fiP s o t p e now) (fiE s o t p e now), .int .u8 (fiA s o t p e now), .int .u8 (fiR s o t p e now)]

/-- Done: 0: not valid, 1: not in this state, 2: the end, 3: refreshed. -/
def donK (s : Int) (o : Bool) (t : Int) (p e ok : Bool) (now : Int) : Nat :=
  if (mayB s o t p e && timB now) = false then 0 else if (s = 0 ∨ e = true ∨ (ok = false ∧ p = false)) then 1 else if ok = false then 2 else 3
def doS (s : Int) (o : Bool) (t : Int) (p e ok : Bool) (now : Int) : Int := if 2 ≤ donK s o t p e ok now then s else 0
def doO (s : Int) (o : Bool) (t : Int) (p e ok : Bool) (now : Int) : Bool := decide (2 ≤ donK s o t p e ok now) && o
def doT (s : Int) (o : Bool) (t : Int) (p e ok : Bool) (now : Int) : Int := if donK s o t p e ok now = 3 then now else if donK s o t p e ok now = 2 then t else 0
def doE (s : Int) (o : Bool) (t : Int) (p e ok : Bool) (now : Int) : Bool := decide (donK s o t p e ok now = 2)
def doA (s : Int) (o : Bool) (t : Int) (p e ok : Bool) (now : Int) : Int := if donK s o t p e ok now = 2 then 2 else 0
def doR (s : Int) (o : Bool) (t : Int) (p e ok : Bool) (now : Int) : Int := if donK s o t p e ok now = 0 then 2 else if donK s o t p e ok now = 1 then 9 else 0
def donA (s : Int) (o : Bool) (t : Int) (p e ok : Bool) (now : Int) : AV :=
  .tup [refA (doS s o t p e ok now) (doO s o t p e ok now) (doT s o t p e ok now) false (doE s o t p e ok now), .int .u8 (doA s o t p e ok now), .int .u8 (doR s o t p e ok now)]
theorem mayB_bounds {s : Int} {o : Bool} {t : Int} {p e : Bool} (h : mayB s o t p e = true) : (0 ≤ s ∧ s ≤ 86400) ∧ (0 ≤ t ∧ t ≤ 1099511627776) := by
  simp only [mayB, secB, timB, Bool.and_eq_true, decide_eq_true_eq] at h
  omega
theorem mayB_lim {s : Int} {o : Bool} {t : Int} {p e : Bool} (h : mayB s o t p e = true) : limW s t = limN s t :=
  limW_eq (mayB_bounds h).1 (mayB_bounds h).2
theorem nexB_may {s : Int} {o : Bool} {t : Int} {p e : Bool} (h : nexB s o t p e = true) : mayB s o t p e = true := by
  simp only [nexB, Bool.and_eq_true] at h
  exact h.1.1
end Go.Proofs.YtogdgamgpkbdaaaGreatDoor
