/-
  NARROWER THAN 'FOR EVERY INPUT', by the rows' own cells (each row's printed sentence says how): RefreshSteps: laid · RefreshOne: laid · RefreshLives: laid · RefreshKnown: laid · RefreshTold: laid.
  DERIVED. THE GIVEN ROWS OF THIS SEAT. 5 by the template 'for every input the law returns true; each argument reads behind the call as it read before'; 0 by the template 'total and deterministic' (their statements: YtogdgamgpkbdaaaGreatDoorTotals.lean).
  GIVEN WITH THE SEED: the statements are not yours to turn. If you find one false, say at which input.
  Laid BY PROGRAM, IN A SANDBOX (cutbox-rows.mjs): the forced cells as the released guide's own fill.sh prints them over the translation e7f195b8e1f0a4a3… (all of the seat's roots in one cut). By AI agents, Wed Nov 11 2026. No macro, syntax, notation, axiom, sorry.
-/
import Derived.Test.YtogdgamgpkbdaaaGreatDoorChecked
import GoSem.PinnedTables
import GoSem.Claim
import GoSem.ClaimJoined
import GoSem.ClaimMapViews
import Derived.JoinedTies
import Derived.KernelRfl
namespace Go.Proofs.YtogdgamgpkbdaaaGreatDoor
/- THE CELL 'sum', in the pinned program and in every row, IS THE sha256 OF THE DUMP (.gsa) THAT YtogdgamgpkbdaaaGreatDoorProg.lean LOADS. Nothing in Lean hashes anything: it is a label: what it is worth is what the hold of that sum in a sandbox is worth. -/
noncomputable def Tryz.pinned : Pinned := { name := "ytogdgamgpkbdaaagreatdoor", sum := "e7f195b8e1f0a4a3003727ad70de585cba5227003b1d9859bffe1016ab236807", checked := Tryz.checked }
namespace Rows
def none {H : Type} : Left H := { results := [], args := [] }

/- WHAT THE LISTED PACKAGE-LEVEL VARIABLES READ AS WHEN THE CALL BEGINS. Each datum BY PROGRAM (the guide's laid-datum.mjs) off the statement by which the dump's own 'gosem.cut.vars' lays the variable. In a bare row this is a premise. The card (YtogdgamgpkbdaaaGreatDoorCards.lean) ties it to the program's text. -/
def laid_unicode_utf8_acceptRanges {H : Type} : DataW H := .agg [.agg [.lit (.int .u8 128), .lit (.int .u8 191)], .agg [.lit (.int .u8 160), .lit (.int .u8 191)], .agg [.lit (.int .u8 128), .lit (.int .u8 159)], .agg [.lit (.int .u8 144), .lit (.int .u8 191)], .agg [.lit (.int .u8 128), .lit (.int .u8 143)], .agg [.lit (.int .u8 0), .lit (.int .u8 0)], .agg [.lit (.int .u8 0), .lit (.int .u8 0)], .agg [.lit (.int .u8 0), .lit (.int .u8 0)], .agg [.lit (.int .u8 0), .lit (.int .u8 0)], .agg [.lit (.int .u8 0), .lit (.int .u8 0)], .agg [.lit (.int .u8 0), .lit (.int .u8 0)], .agg [.lit (.int .u8 0), .lit (.int .u8 0)], .agg [.lit (.int .u8 0), .lit (.int .u8 0)], .agg [.lit (.int .u8 0), .lit (.int .u8 0)], .agg [.lit (.int .u8 0), .lit (.int .u8 0)], .agg [.lit (.int .u8 0), .lit (.int .u8 0)]]
def laid_dialtone_header_shorts {H : Type} : DataW H := .agg [.lit (.string [98, 58, 82, 101, 102, 101, 114, 114, 101, 100, 45, 66, 121]), .lit (.string [99, 58, 67, 111, 110, 116, 101, 110, 116, 45, 84, 121, 112, 101]), .lit (.string [101, 58, 67, 111, 110, 116, 101, 110, 116, 45, 69, 110, 99, 111, 100, 105, 110, 103]), .lit (.string [102, 58, 70, 114, 111, 109]), .lit (.string [105, 58, 67, 97, 108, 108, 45, 73, 68]), .lit (.string [107, 58, 83, 117, 112, 112, 111, 114, 116, 101, 100]), .lit (.string [108, 58, 67, 111, 110, 116, 101, 110, 116, 45, 76, 101, 110, 103, 116, 104]), .lit (.string [109, 58, 67, 111, 110, 116, 97, 99, 116]), .lit (.string [111, 58, 69, 118, 101, 110, 116]), .lit (.string [114, 58, 82, 101, 102, 101, 114, 45, 84, 111]), .lit (.string [115, 58, 83, 117, 98, 106, 101, 99, 116]), .lit (.string [116, 58, 84, 111]), .lit (.string [117, 58, 65, 108, 108, 111, 119, 45, 69, 118, 101, 110, 116, 115]), .lit (.string [118, 58, 86, 105, 97]), .lit (.string [120, 58, 83, 101, 115, 115, 105, 111, 110, 45, 69, 120, 112, 105, 114, 101, 115])]
def laid_dialtone_header_specials {H : Type} : DataW H := .agg [.lit (.string [67, 97, 108, 108, 45, 73, 68]), .lit (.string [67, 83, 101, 113]), .lit (.string [77, 73, 77, 69, 45, 86, 101, 114, 115, 105, 111, 110]), .lit (.string [77, 105, 110, 45, 83, 69]), .lit (.string [82, 65, 99, 107]), .lit (.string [82, 83, 101, 113]), .lit (.string [87, 87, 87, 45, 65, 117, 116, 104, 101, 110, 116, 105, 99, 97, 116, 101])]
/-- One of Go's own tables, pinned by name: the form's constant. -/
def laid_unicode_utf8_first : DataW Unit := Go.Pinned.utf8First
def laid_math_bits_deBruijn32tab {H : Type} : DataW H := .agg [.lit (.int .u8 0), .lit (.int .u8 1), .lit (.int .u8 28), .lit (.int .u8 2), .lit (.int .u8 29), .lit (.int .u8 14), .lit (.int .u8 24), .lit (.int .u8 3), .lit (.int .u8 30), .lit (.int .u8 22), .lit (.int .u8 20), .lit (.int .u8 15), .lit (.int .u8 25), .lit (.int .u8 17), .lit (.int .u8 4), .lit (.int .u8 8), .lit (.int .u8 31), .lit (.int .u8 27), .lit (.int .u8 13), .lit (.int .u8 23), .lit (.int .u8 21), .lit (.int .u8 19), .lit (.int .u8 16), .lit (.int .u8 7), .lit (.int .u8 26), .lit (.int .u8 12), .lit (.int .u8 18), .lit (.int .u8 6), .lit (.int .u8 11), .lit (.int .u8 5), .lit (.int .u8 10), .lit (.int .u8 9)]
def laid_math_bits_deBruijn64tab {H : Type} : DataW H := .agg [.lit (.int .u8 0), .lit (.int .u8 1), .lit (.int .u8 56), .lit (.int .u8 2), .lit (.int .u8 57), .lit (.int .u8 49), .lit (.int .u8 28), .lit (.int .u8 3), .lit (.int .u8 61), .lit (.int .u8 58), .lit (.int .u8 42), .lit (.int .u8 50), .lit (.int .u8 38), .lit (.int .u8 29), .lit (.int .u8 17), .lit (.int .u8 4), .lit (.int .u8 62), .lit (.int .u8 47), .lit (.int .u8 59), .lit (.int .u8 36), .lit (.int .u8 45), .lit (.int .u8 43), .lit (.int .u8 51), .lit (.int .u8 22), .lit (.int .u8 53), .lit (.int .u8 39), .lit (.int .u8 33), .lit (.int .u8 30), .lit (.int .u8 24), .lit (.int .u8 18), .lit (.int .u8 12), .lit (.int .u8 5), .lit (.int .u8 63), .lit (.int .u8 55), .lit (.int .u8 48), .lit (.int .u8 27), .lit (.int .u8 60), .lit (.int .u8 41), .lit (.int .u8 37), .lit (.int .u8 16), .lit (.int .u8 46), .lit (.int .u8 35), .lit (.int .u8 44), .lit (.int .u8 21), .lit (.int .u8 52), .lit (.int .u8 32), .lit (.int .u8 23), .lit (.int .u8 11), .lit (.int .u8 54), .lit (.int .u8 26), .lit (.int .u8 40), .lit (.int .u8 15), .lit (.int .u8 34), .lit (.int .u8 20), .lit (.int .u8 31), .lit (.int .u8 10), .lit (.int .u8 25), .lit (.int .u8 14), .lit (.int .u8 19), .lit (.int .u8 9), .lit (.int .u8 13), .lit (.int .u8 8), .lit (.int .u8 7), .lit (.int .u8 6)]
def laid_internal_strconv_uint64pow10 {H : Type} : DataW H := .agg [.lit (.int .u64 1), .lit (.int .u64 10), .lit (.int .u64 100), .lit (.int .u64 1000), .lit (.int .u64 10000), .lit (.int .u64 100000), .lit (.int .u64 1000000), .lit (.int .u64 10000000), .lit (.int .u64 100000000), .lit (.int .u64 1000000000), .lit (.int .u64 10000000000), .lit (.int .u64 100000000000), .lit (.int .u64 1000000000000), .lit (.int .u64 10000000000000), .lit (.int .u64 100000000000000), .lit (.int .u64 1000000000000000), .lit (.int .u64 10000000000000000), .lit (.int .u64 100000000000000000), .lit (.int .u64 1000000000000000000), .lit (.int .u64 10000000000000000000)]

/-- 'dialtonelaw19.RefreshSteps': WHATEVER THE INPUT: true; the input reads as it did. -/
def refreshStepsSpec : ChangeSpec := { name := "refreshSteps", fn := fun _ => fun
  | [d1, d2, d3] => { results := [.lit (.bool true)], args := [d1, d2, d3] }
  | _ => none }
def refreshStepsRow : OpenClaim := { program := "ytogdgamgpkbdaaagreatdoor", sum := "e7f195b8e1f0a4a3003727ad70de585cba5227003b1d9859bffe1016ab236807", func := "dialtone/dialtonelaw19.RefreshSteps", spec := "refreshSteps", inPlace := ["internal/bytealg.IndexByteString", "internal/bytealg.IndexString", "internal/abi.NoEscape", "internal/bytealg.CountString", "internal/bytealg.MakeNoZero"], unfollowed := true, recurses := true, named := ["dialtone/header.shorts", "dialtone/header.specials", "unicode/utf8.first", "unicode/utf8.acceptRanges", "internal/bytealg.MaxLen"], apart := false, laid := [("unicode/utf8.acceptRanges", laid_unicode_utf8_acceptRanges), ("dialtone/header.shorts", laid_dialtone_header_shorts), ("dialtone/header.specials", laid_dialtone_header_specials), ("unicode/utf8.first", laid_unicode_utf8_first)] }
def RefreshStepsSaid : Prop := refreshStepsRow.holds Tryz.pinned (OpenSpec.ofChange refreshStepsSpec)

/-- ITS FALSE NEIGHBOUR: 'it returns false'. Refute it at one input. -/
def refreshStepsWrong : ChangeSpec := { name := "refreshSteps", fn := fun _ => fun
  | [d1, d2, d3] => { results := [.lit (.bool false)], args := [d1, d2, d3] }
  | _ => none }
def RefreshStepsWrongFalsely : Prop := refreshStepsRow.holds Tryz.pinned (OpenSpec.ofChange refreshStepsWrong)

/-- 'dialtonelaw19.RefreshOne': WHATEVER THE INPUT: true; the input reads as it did. -/
def refreshOneSpec : ChangeSpec := { name := "refreshOne", fn := fun _ => fun
  | [d1, d2, d3] => { results := [.lit (.bool true)], args := [d1, d2, d3] }
  | _ => none }
def refreshOneRow : OpenClaim := { program := "ytogdgamgpkbdaaagreatdoor", sum := "e7f195b8e1f0a4a3003727ad70de585cba5227003b1d9859bffe1016ab236807", func := "dialtone/dialtonelaw19.RefreshOne", spec := "refreshOne", inPlace := ["internal/bytealg.IndexByteString", "internal/bytealg.IndexString", "internal/abi.NoEscape", "internal/bytealg.CountString", "internal/bytealg.MakeNoZero"], unfollowed := true, recurses := true, named := ["dialtone/header.shorts", "dialtone/header.specials", "unicode/utf8.first", "unicode/utf8.acceptRanges", "internal/bytealg.MaxLen"], apart := false, laid := [("unicode/utf8.acceptRanges", laid_unicode_utf8_acceptRanges), ("dialtone/header.shorts", laid_dialtone_header_shorts), ("dialtone/header.specials", laid_dialtone_header_specials), ("unicode/utf8.first", laid_unicode_utf8_first)] }
def RefreshOneSaid : Prop := refreshOneRow.holds Tryz.pinned (OpenSpec.ofChange refreshOneSpec)

/-- ITS FALSE NEIGHBOUR: 'it returns false'. Refute it at one input. -/
def refreshOneWrong : ChangeSpec := { name := "refreshOne", fn := fun _ => fun
  | [d1, d2, d3] => { results := [.lit (.bool false)], args := [d1, d2, d3] }
  | _ => none }
def RefreshOneWrongFalsely : Prop := refreshOneRow.holds Tryz.pinned (OpenSpec.ofChange refreshOneWrong)

/-- 'dialtonelaw19.RefreshLives': WHATEVER THE INPUT: true; the input reads as it did. -/
def refreshLivesSpec : ChangeSpec := { name := "refreshLives", fn := fun _ => fun
  | [d1, d2] => { results := [.lit (.bool true)], args := [d1, d2] }
  | _ => none }
def refreshLivesRow : OpenClaim := { program := "ytogdgamgpkbdaaagreatdoor", sum := "e7f195b8e1f0a4a3003727ad70de585cba5227003b1d9859bffe1016ab236807", func := "dialtone/dialtonelaw19.RefreshLives", spec := "refreshLives", inPlace := ["internal/bytealg.IndexByteString", "internal/bytealg.IndexString", "internal/abi.NoEscape", "internal/bytealg.CountString", "internal/bytealg.MakeNoZero"], unfollowed := true, recurses := true, named := ["dialtone/header.shorts", "dialtone/header.specials", "unicode/utf8.first", "unicode/utf8.acceptRanges", "internal/bytealg.MaxLen"], apart := false, laid := [("unicode/utf8.acceptRanges", laid_unicode_utf8_acceptRanges), ("dialtone/header.shorts", laid_dialtone_header_shorts), ("dialtone/header.specials", laid_dialtone_header_specials), ("unicode/utf8.first", laid_unicode_utf8_first)] }
def RefreshLivesSaid : Prop := refreshLivesRow.holds Tryz.pinned (OpenSpec.ofChange refreshLivesSpec)

/-- ITS FALSE NEIGHBOUR: 'it returns false'. Refute it at one input. -/
def refreshLivesWrong : ChangeSpec := { name := "refreshLives", fn := fun _ => fun
  | [d1, d2] => { results := [.lit (.bool false)], args := [d1, d2] }
  | _ => none }
def RefreshLivesWrongFalsely : Prop := refreshLivesRow.holds Tryz.pinned (OpenSpec.ofChange refreshLivesWrong)

/-- 'dialtonelaw19.RefreshKnown': WHATEVER THE INPUT: true; the input reads as it did. -/
def refreshKnownSpec : ChangeSpec := { name := "refreshKnown", fn := fun _ => fun
  | [] => { results := [.lit (.bool true)], args := [] }
  | _ => none }
def refreshKnownRow : OpenClaim := { program := "ytogdgamgpkbdaaagreatdoor", sum := "e7f195b8e1f0a4a3003727ad70de585cba5227003b1d9859bffe1016ab236807", func := "dialtone/dialtonelaw19.RefreshKnown", spec := "refreshKnown", inPlace := ["internal/bytealg.IndexByteString", "internal/bytealg.IndexString", "internal/abi.NoEscape", "internal/bytealg.CountString", "internal/bytealg.MakeNoZero"], unfollowed := true, recurses := true, named := ["dialtone/header.shorts", "dialtone/header.specials", "unicode/utf8.first", "unicode/utf8.acceptRanges", "internal/bytealg.MaxLen"], apart := false, laid := [("unicode/utf8.acceptRanges", laid_unicode_utf8_acceptRanges), ("dialtone/header.shorts", laid_dialtone_header_shorts), ("dialtone/header.specials", laid_dialtone_header_specials), ("unicode/utf8.first", laid_unicode_utf8_first)] }
def RefreshKnownSaid : Prop := refreshKnownRow.holds Tryz.pinned (OpenSpec.ofChange refreshKnownSpec)

/-- ITS FALSE NEIGHBOUR: 'it returns false'. Refute it at one input. -/
def refreshKnownWrong : ChangeSpec := { name := "refreshKnown", fn := fun _ => fun
  | [] => { results := [.lit (.bool false)], args := [] }
  | _ => none }
def RefreshKnownWrongFalsely : Prop := refreshKnownRow.holds Tryz.pinned (OpenSpec.ofChange refreshKnownWrong)

/-- 'dialtonelaw19.RefreshTold': WHATEVER THE INPUT: true; the input reads as it did. -/
def refreshToldSpec : ChangeSpec := { name := "refreshTold", fn := fun _ => fun
  | [d1, d2, d3] => { results := [.lit (.bool true)], args := [d1, d2, d3] }
  | _ => none }
def refreshToldRow : OpenClaim := { program := "ytogdgamgpkbdaaagreatdoor", sum := "e7f195b8e1f0a4a3003727ad70de585cba5227003b1d9859bffe1016ab236807", func := "dialtone/dialtonelaw19.RefreshTold", spec := "refreshTold", inPlace := ["internal/bytealg.IndexByteString", "internal/bytealg.IndexString", "internal/abi.NoEscape", "internal/bytealg.CountString", "internal/bytealg.MakeNoZero"], unfollowed := true, recurses := true, named := ["internal/strconv.uint64pow10", "math/bits.deBruijn32tab", "math/bits.deBruijn64tab", "dialtone/header.shorts", "dialtone/header.specials", "unicode/utf8.first", "unicode/utf8.acceptRanges", "internal/bytealg.MaxLen"], apart := false, laid := [("math/bits.deBruijn32tab", laid_math_bits_deBruijn32tab), ("math/bits.deBruijn64tab", laid_math_bits_deBruijn64tab), ("internal/strconv.uint64pow10", laid_internal_strconv_uint64pow10), ("unicode/utf8.acceptRanges", laid_unicode_utf8_acceptRanges), ("dialtone/header.shorts", laid_dialtone_header_shorts), ("dialtone/header.specials", laid_dialtone_header_specials), ("unicode/utf8.first", laid_unicode_utf8_first)] }
def RefreshToldSaid : Prop := refreshToldRow.holds Tryz.pinned (OpenSpec.ofChange refreshToldSpec)

/-- ITS FALSE NEIGHBOUR: 'it returns false'. Refute it at one input. -/
def refreshToldWrong : ChangeSpec := { name := "refreshTold", fn := fun _ => fun
  | [d1, d2, d3] => { results := [.lit (.bool false)], args := [d1, d2, d3] }
  | _ => none }
def RefreshToldWrongFalsely : Prop := refreshToldRow.holds Tryz.pinned (OpenSpec.ofChange refreshToldWrong)

/- THE SECOND FORM. 'bulk': how many values and letters a reading holds, each counted each time it is reached (what is shared counts as often as it is met; a slice's spare places count too). A statement '..UptoSaid' is the law's where the arguments, and the package variables that the reading takes, are together of bulk at most 1048576: NARROWER than '..Said'. Prove '..Said' where nothing that the law and all that it calls make is longer than what came in: it says more and counts as full. Else prove '..UptoSaid'. A law counts once. -/
mutual
def uptoBulk {H : Type} : DataW H → Nat
  | .lit (.string bytes) => bytes.length + 1
  | .lit _ => 1
  | .nil => 1
  | .ptr d => uptoBulk d + 1
  | .slice elems spare => uptoBulkAll elems + uptoBulkAll spare + 1
  | .agg parts => uptoBulkAll parts + 1
  | .iface _ d => uptoBulk d + 1
  | .map entries => uptoBulkEntries entries + 1
  | .held _ => 1
def uptoBulkAll {H : Type} : List (DataW H) → Nat
  | [] => 0
  | d :: r => uptoBulk d + uptoBulkAll r
def uptoBulkEntries {H : Type} : List (Lit × DataW H) → Nat
  | [] => 0
  | x :: r => uptoBulkEntry x + uptoBulkEntries r
def uptoBulkEntry {H : Type} : Lit × DataW H → Nat
  | (.string bytes, d) => bytes.length + uptoBulk d + 1
  | (_, d) => uptoBulk d + 1
 end
def uptoSmall : (H : Type) → List (DataW H) → Bool := fun _ ds => decide (uptoBulkAll ds ≤ 1048576)
def OpenSpec.upto (s : _root_.Go.ChangeSpec) : _root_.Go.OpenSpec := { _root_.Go.OpenSpec.ofChange s with cond := some uptoSmall }

/-- 'dialtonelaw19.RefreshSteps', WHERE WHAT IT READS IS OF BULK AT MOST 1048576: true; the input reads as it did. -/
def refreshStepsUptoRow : OpenClaim := { program := "ytogdgamgpkbdaaagreatdoor", sum := "e7f195b8e1f0a4a3003727ad70de585cba5227003b1d9859bffe1016ab236807", func := "dialtone/dialtonelaw19.RefreshSteps", spec := "refreshSteps", inPlace := ["internal/bytealg.IndexByteString", "internal/bytealg.IndexString", "internal/abi.NoEscape", "internal/bytealg.CountString", "internal/bytealg.MakeNoZero"], unfollowed := true, recurses := true, named := ["dialtone/header.shorts", "dialtone/header.specials", "unicode/utf8.first", "unicode/utf8.acceptRanges", "internal/bytealg.MaxLen"], apart := false, laid := [("unicode/utf8.acceptRanges", laid_unicode_utf8_acceptRanges), ("dialtone/header.shorts", laid_dialtone_header_shorts), ("dialtone/header.specials", laid_dialtone_header_specials), ("unicode/utf8.first", laid_unicode_utf8_first)], narrowed := true }
def RefreshStepsUptoSaid : Prop := refreshStepsUptoRow.holds Tryz.pinned (OpenSpec.upto refreshStepsSpec)

/-- 'dialtonelaw19.RefreshOne', WHERE WHAT IT READS IS OF BULK AT MOST 1048576: true; the input reads as it did. -/
def refreshOneUptoRow : OpenClaim := { program := "ytogdgamgpkbdaaagreatdoor", sum := "e7f195b8e1f0a4a3003727ad70de585cba5227003b1d9859bffe1016ab236807", func := "dialtone/dialtonelaw19.RefreshOne", spec := "refreshOne", inPlace := ["internal/bytealg.IndexByteString", "internal/bytealg.IndexString", "internal/abi.NoEscape", "internal/bytealg.CountString", "internal/bytealg.MakeNoZero"], unfollowed := true, recurses := true, named := ["dialtone/header.shorts", "dialtone/header.specials", "unicode/utf8.first", "unicode/utf8.acceptRanges", "internal/bytealg.MaxLen"], apart := false, laid := [("unicode/utf8.acceptRanges", laid_unicode_utf8_acceptRanges), ("dialtone/header.shorts", laid_dialtone_header_shorts), ("dialtone/header.specials", laid_dialtone_header_specials), ("unicode/utf8.first", laid_unicode_utf8_first)], narrowed := true }
def RefreshOneUptoSaid : Prop := refreshOneUptoRow.holds Tryz.pinned (OpenSpec.upto refreshOneSpec)

/-- 'dialtonelaw19.RefreshLives', WHERE WHAT IT READS IS OF BULK AT MOST 1048576: true; the input reads as it did. -/
def refreshLivesUptoRow : OpenClaim := { program := "ytogdgamgpkbdaaagreatdoor", sum := "e7f195b8e1f0a4a3003727ad70de585cba5227003b1d9859bffe1016ab236807", func := "dialtone/dialtonelaw19.RefreshLives", spec := "refreshLives", inPlace := ["internal/bytealg.IndexByteString", "internal/bytealg.IndexString", "internal/abi.NoEscape", "internal/bytealg.CountString", "internal/bytealg.MakeNoZero"], unfollowed := true, recurses := true, named := ["dialtone/header.shorts", "dialtone/header.specials", "unicode/utf8.first", "unicode/utf8.acceptRanges", "internal/bytealg.MaxLen"], apart := false, laid := [("unicode/utf8.acceptRanges", laid_unicode_utf8_acceptRanges), ("dialtone/header.shorts", laid_dialtone_header_shorts), ("dialtone/header.specials", laid_dialtone_header_specials), ("unicode/utf8.first", laid_unicode_utf8_first)], narrowed := true }
def RefreshLivesUptoSaid : Prop := refreshLivesUptoRow.holds Tryz.pinned (OpenSpec.upto refreshLivesSpec)

/-- 'dialtonelaw19.RefreshKnown', WHERE WHAT IT READS IS OF BULK AT MOST 1048576: true; the input reads as it did. -/
def refreshKnownUptoRow : OpenClaim := { program := "ytogdgamgpkbdaaagreatdoor", sum := "e7f195b8e1f0a4a3003727ad70de585cba5227003b1d9859bffe1016ab236807", func := "dialtone/dialtonelaw19.RefreshKnown", spec := "refreshKnown", inPlace := ["internal/bytealg.IndexByteString", "internal/bytealg.IndexString", "internal/abi.NoEscape", "internal/bytealg.CountString", "internal/bytealg.MakeNoZero"], unfollowed := true, recurses := true, named := ["dialtone/header.shorts", "dialtone/header.specials", "unicode/utf8.first", "unicode/utf8.acceptRanges", "internal/bytealg.MaxLen"], apart := false, laid := [("unicode/utf8.acceptRanges", laid_unicode_utf8_acceptRanges), ("dialtone/header.shorts", laid_dialtone_header_shorts), ("dialtone/header.specials", laid_dialtone_header_specials), ("unicode/utf8.first", laid_unicode_utf8_first)], narrowed := true }
def RefreshKnownUptoSaid : Prop := refreshKnownUptoRow.holds Tryz.pinned (OpenSpec.upto refreshKnownSpec)

/-- 'dialtonelaw19.RefreshTold', WHERE WHAT IT READS IS OF BULK AT MOST 1048576: true; the input reads as it did. -/
def refreshToldUptoRow : OpenClaim := { program := "ytogdgamgpkbdaaagreatdoor", sum := "e7f195b8e1f0a4a3003727ad70de585cba5227003b1d9859bffe1016ab236807", func := "dialtone/dialtonelaw19.RefreshTold", spec := "refreshTold", inPlace := ["internal/bytealg.IndexByteString", "internal/bytealg.IndexString", "internal/abi.NoEscape", "internal/bytealg.CountString", "internal/bytealg.MakeNoZero"], unfollowed := true, recurses := true, named := ["internal/strconv.uint64pow10", "math/bits.deBruijn32tab", "math/bits.deBruijn64tab", "dialtone/header.shorts", "dialtone/header.specials", "unicode/utf8.first", "unicode/utf8.acceptRanges", "internal/bytealg.MaxLen"], apart := false, laid := [("math/bits.deBruijn32tab", laid_math_bits_deBruijn32tab), ("math/bits.deBruijn64tab", laid_math_bits_deBruijn64tab), ("internal/strconv.uint64pow10", laid_internal_strconv_uint64pow10), ("unicode/utf8.acceptRanges", laid_unicode_utf8_acceptRanges), ("dialtone/header.shorts", laid_dialtone_header_shorts), ("dialtone/header.specials", laid_dialtone_header_specials), ("unicode/utf8.first", laid_unicode_utf8_first)], narrowed := true }
def RefreshToldUptoSaid : Prop := refreshToldUptoRow.holds Tryz.pinned (OpenSpec.upto refreshToldSpec)

end Rows
end Go.Proofs.YtogdgamgpkbdaaaGreatDoor
