/-
  NARROWER THAN 'FOR EVERY INPUT', by the rows' own cells (each row's printed sentence says how): SemOperates: laid · SemAgrees: laid · GenNumbers: laid.
  DERIVED. THE GIVEN ROWS OF THIS SEAT. 3 by the template 'for every input the law returns true; each argument reads behind the call as it read before'; 0 by the template 'total and deterministic' (their statements: YtolebnomgllgaaaGreatDoorTotals.lean).
  GIVEN WITH THE SEED: the statements are not yours to turn. If you find one false, say at which input.
  Laid BY PROGRAM, IN A SANDBOX (cutbox-rows.mjs): the forced cells as the released guide's own fill.sh prints them over the translation 33e1da4c5dee653c… (all of the seat's roots in one cut). By AI agents, Wed Nov 11 2026. No macro, syntax, notation, axiom, sorry.
-/
import Derived.Test.YtolebnomgllgaaaGreatDoorChecked
import GoSem.Claim
import GoSem.ClaimJoined
import GoSem.ClaimMapViews
import Derived.JoinedTies
import Derived.KernelRfl
namespace Go.Proofs.YtolebnomgllgaaaGreatDoor
/- THE CELL 'sum', in the pinned program and in every row, IS THE sha256 OF THE DUMP (.gsa) THAT YtolebnomgllgaaaGreatDoorProg.lean LOADS. Nothing in Lean hashes anything: it is a label: what it is worth is what the hold of that sum in a sandbox is worth. -/
noncomputable def Tryz.pinned : Pinned := { name := "ytolebnomgllgaaagreatdoor", sum := "33e1da4c5dee653c1b6da8b428e41ab674ce8959a0f3f129a9f51087809730bc", checked := Tryz.checked }
namespace Rows
def none {H : Type} : Left H := { results := [], args := [] }

/- WHAT THE LISTED PACKAGE-LEVEL VARIABLES READ AS WHEN THE CALL BEGINS. Each datum BY PROGRAM (the guide's laid-datum.mjs) off the statement by which the dump's own 'gosem.cut.vars' lays the variable. In a bare row this is a premise. The card (YtolebnomgllgaaaGreatDoorCards.lean) ties it to the program's text. -/
def laid_cupel_syntax_keywords {H : Type} : DataW H := .slice [.lit (.string [103, 108, 111, 98, 97, 108]), .lit (.string [102, 117, 110, 99]), .lit (.string [108, 101, 116]), .lit (.string [105, 102]), .lit (.string [101, 108, 115, 101]), .lit (.string [119, 104, 105, 108, 101]), .lit (.string [117, 112, 116, 111]), .lit (.string [102, 111, 114]), .lit (.string [105, 110]), .lit (.string [98, 114, 101, 97, 107]), .lit (.string [99, 111, 110, 116, 105, 110, 117, 101]), .lit (.string [114, 101, 116, 117, 114, 110]), .lit (.string [112, 114, 105, 110, 116]), .lit (.string [116, 114, 97, 112]), .lit (.string [105, 110, 116]), .lit (.string [115, 109, 97, 108, 108]), .lit (.string [98, 111, 111, 108]), .lit (.string [116, 114, 117, 101]), .lit (.string [102, 97, 108, 115, 101])] []
def laid_cupel_syntax_shapes {H : Type} : DataW H := .agg [.agg [.lit (.bool false), .lit (.bool false), .lit (.bool false), .lit (.int .i64 0), .lit (.int .i64 0)], .agg [.lit (.bool true), .lit (.bool false), .lit (.bool false), .lit (.int .i64 0), .lit (.int .i64 1)], .agg [.lit (.bool true), .lit (.bool false), .lit (.bool false), .lit (.int .i64 1), .lit (.int .i64 1)], .agg [.lit (.bool true), .lit (.bool false), .lit (.bool false), .lit (.int .i64 2), .lit (.int .i64 2)], .agg [.lit (.bool false), .lit (.bool false), .lit (.bool false), .lit (.int .i64 1), .lit (.int .i64 1)], .agg [.lit (.bool false), .lit (.bool false), .lit (.bool false), .lit (.int .i64 1), .lit (.int .i64 1)], .agg [.lit (.bool false), .lit (.bool false), .lit (.bool false), .lit (.int .i64 0), .lit (.int .i64 0)], .agg [.lit (.bool false), .lit (.bool true), .lit (.bool true), .lit (.int .i64 1), .lit (.int .i64 1)], .agg [.lit (.bool false), .lit (.bool true), .lit (.bool false), .lit (.int .i64 1), .lit (.int .i64 1)], .agg [.lit (.bool true), .lit (.bool true), .lit (.bool false), .lit (.int .i64 2), .lit (.int .i64 2)], .agg [.lit (.bool false), .lit (.bool false), .lit (.bool false), .lit (.int .i64 0), .lit (.int .i64 0)], .agg [.lit (.bool false), .lit (.bool false), .lit (.bool false), .lit (.int .i64 0), .lit (.int .i64 0)], .agg [.lit (.bool false), .lit (.bool false), .lit (.bool false), .lit (.int .i64 0), .lit (.int .i64 1)]]
def laid_cupel_types_integer {H : Type} : DataW H := .agg [.lit (.int .i64 1), .lit (.int .i64 0)]
def laid_cupel_types_small {H : Type} : DataW H := .agg [.lit (.int .i64 2), .lit (.int .i64 0)]
def laid_cupel_types_truth {H : Type} : DataW H := .agg [.lit (.int .i64 3), .lit (.int .i64 0)]
def laid_math_bits_deBruijn32tab {H : Type} : DataW H := .agg [.lit (.int .u8 0), .lit (.int .u8 1), .lit (.int .u8 28), .lit (.int .u8 2), .lit (.int .u8 29), .lit (.int .u8 14), .lit (.int .u8 24), .lit (.int .u8 3), .lit (.int .u8 30), .lit (.int .u8 22), .lit (.int .u8 20), .lit (.int .u8 15), .lit (.int .u8 25), .lit (.int .u8 17), .lit (.int .u8 4), .lit (.int .u8 8), .lit (.int .u8 31), .lit (.int .u8 27), .lit (.int .u8 13), .lit (.int .u8 23), .lit (.int .u8 21), .lit (.int .u8 19), .lit (.int .u8 16), .lit (.int .u8 7), .lit (.int .u8 26), .lit (.int .u8 12), .lit (.int .u8 18), .lit (.int .u8 6), .lit (.int .u8 11), .lit (.int .u8 5), .lit (.int .u8 10), .lit (.int .u8 9)]
def laid_math_bits_deBruijn64tab {H : Type} : DataW H := .agg [.lit (.int .u8 0), .lit (.int .u8 1), .lit (.int .u8 56), .lit (.int .u8 2), .lit (.int .u8 57), .lit (.int .u8 49), .lit (.int .u8 28), .lit (.int .u8 3), .lit (.int .u8 61), .lit (.int .u8 58), .lit (.int .u8 42), .lit (.int .u8 50), .lit (.int .u8 38), .lit (.int .u8 29), .lit (.int .u8 17), .lit (.int .u8 4), .lit (.int .u8 62), .lit (.int .u8 47), .lit (.int .u8 59), .lit (.int .u8 36), .lit (.int .u8 45), .lit (.int .u8 43), .lit (.int .u8 51), .lit (.int .u8 22), .lit (.int .u8 53), .lit (.int .u8 39), .lit (.int .u8 33), .lit (.int .u8 30), .lit (.int .u8 24), .lit (.int .u8 18), .lit (.int .u8 12), .lit (.int .u8 5), .lit (.int .u8 63), .lit (.int .u8 55), .lit (.int .u8 48), .lit (.int .u8 27), .lit (.int .u8 60), .lit (.int .u8 41), .lit (.int .u8 37), .lit (.int .u8 16), .lit (.int .u8 46), .lit (.int .u8 35), .lit (.int .u8 44), .lit (.int .u8 21), .lit (.int .u8 52), .lit (.int .u8 32), .lit (.int .u8 23), .lit (.int .u8 11), .lit (.int .u8 54), .lit (.int .u8 26), .lit (.int .u8 40), .lit (.int .u8 15), .lit (.int .u8 34), .lit (.int .u8 20), .lit (.int .u8 31), .lit (.int .u8 10), .lit (.int .u8 25), .lit (.int .u8 14), .lit (.int .u8 19), .lit (.int .u8 9), .lit (.int .u8 13), .lit (.int .u8 8), .lit (.int .u8 7), .lit (.int .u8 6)]
def laid_cupel_ranges_full {H : Type} : DataW H := .agg [.agg [.lit (.int .i64 0), .lit (.int .i64 0)], .agg [.lit (.int .i64 (-9223372036854775808)), .lit (.int .i64 9223372036854775807)], .agg [.lit (.int .i64 0), .lit (.int .i64 255)], .agg [.lit (.int .i64 0), .lit (.int .i64 1)]]
def laid_cupel_ranges_none {H : Type} : DataW H := .agg [.lit (.int .i64 1), .lit (.int .i64 0)]
def laid_internal_strconv_uint64pow10 {H : Type} : DataW H := .agg [.lit (.int .u64 1), .lit (.int .u64 10), .lit (.int .u64 100), .lit (.int .u64 1000), .lit (.int .u64 10000), .lit (.int .u64 100000), .lit (.int .u64 1000000), .lit (.int .u64 10000000), .lit (.int .u64 100000000), .lit (.int .u64 1000000000), .lit (.int .u64 10000000000), .lit (.int .u64 100000000000), .lit (.int .u64 1000000000000), .lit (.int .u64 10000000000000), .lit (.int .u64 100000000000000), .lit (.int .u64 1000000000000000), .lit (.int .u64 10000000000000000), .lit (.int .u64 100000000000000000), .lit (.int .u64 1000000000000000000), .lit (.int .u64 10000000000000000000)]
def laid_cupel_syntax_operators {H : Type} : DataW H := .agg [.lit (.string []), .lit (.string [42]), .lit (.string [47]), .lit (.string [37]), .lit (.string [43]), .lit (.string [45]), .lit (.string [60, 60]), .lit (.string [62, 62]), .lit (.string [38]), .lit (.string [94]), .lit (.string [124]), .lit (.string [61, 61]), .lit (.string [33, 61]), .lit (.string [60]), .lit (.string [60, 61]), .lit (.string [62]), .lit (.string [62, 61]), .lit (.string [38, 38]), .lit (.string [124, 124])]
def laid_cupel_syntax_levels {H : Type} : DataW H := .agg [.lit (.int .i64 0), .lit (.int .i64 8), .lit (.int .i64 8), .lit (.int .i64 8), .lit (.int .i64 7), .lit (.int .i64 7), .lit (.int .i64 6), .lit (.int .i64 6), .lit (.int .i64 5), .lit (.int .i64 4), .lit (.int .i64 4), .lit (.int .i64 3), .lit (.int .i64 3), .lit (.int .i64 3), .lit (.int .i64 3), .lit (.int .i64 3), .lit (.int .i64 3), .lit (.int .i64 2), .lit (.int .i64 1)]
def laid_cupel_syntax_unary {H : Type} : DataW H := .agg [.lit (.string []), .lit (.string [45]), .lit (.string [33]), .lit (.string [126])]
def laid_cupel_syntax_scalars {H : Type} : DataW H := .agg [.lit (.string []), .lit (.string [105, 110, 116]), .lit (.string [115, 109, 97, 108, 108]), .lit (.string [98, 111, 111, 108])]
def laid_cupel_types_none {H : Type} : DataW H := .agg [.lit (.int .i64 0), .lit (.int .i64 0)]

/-- 'cupellaw03.SemOperates': WHATEVER THE INPUT: true; the input reads as it did. -/
def semOperatesSpec : ChangeSpec := { name := "semOperates", fn := fun _ => fun
  | [d] => { results := [.lit (.bool true)], args := [d] }
  | _ => none }
def semOperatesRow : OpenClaim := { program := "ytolebnomgllgaaagreatdoor", sum := "33e1da4c5dee653c1b6da8b428e41ab674ce8959a0f3f129a9f51087809730bc", func := "cupel/cupellaw03.SemOperates", spec := "semOperates", inPlace := ["slices.overlaps[int]"], unfollowed := true, recurses := true, named := ["cupel/syntax.keywords", "cupel/syntax.shapes", "cupel/types.integer", "cupel/types.small", "cupel/types.truth"], apart := false, laid := [("cupel/syntax.keywords", laid_cupel_syntax_keywords), ("cupel/syntax.shapes", laid_cupel_syntax_shapes), ("cupel/types.integer", laid_cupel_types_integer), ("cupel/types.small", laid_cupel_types_small), ("cupel/types.truth", laid_cupel_types_truth)] }
def SemOperatesSaid : Prop := semOperatesRow.holds Tryz.pinned (OpenSpec.ofChange semOperatesSpec)

/-- ITS FALSE NEIGHBOUR: 'it returns false'. Refute it at one input. -/
def semOperatesWrong : ChangeSpec := { name := "semOperates", fn := fun _ => fun
  | [d] => { results := [.lit (.bool false)], args := [d] }
  | _ => none }
def SemOperatesWrongFalsely : Prop := semOperatesRow.holds Tryz.pinned (OpenSpec.ofChange semOperatesWrong)

/-- 'cupellaw03.SemAgrees': WHATEVER THE INPUT: true; the input reads as it did. -/
def semAgreesSpec : ChangeSpec := { name := "semAgrees", fn := fun _ => fun
  | [d1, d2] => { results := [.lit (.bool true)], args := [d1, d2] }
  | _ => none }
def semAgreesRow : OpenClaim := { program := "ytolebnomgllgaaagreatdoor", sum := "33e1da4c5dee653c1b6da8b428e41ab674ce8959a0f3f129a9f51087809730bc", func := "cupel/cupellaw03.SemAgrees", spec := "semAgrees", inPlace := ["slices.overlaps[int]"], unfollowed := true, recurses := true, named := ["cupel/syntax.keywords", "cupel/syntax.shapes", "cupel/types.integer", "cupel/types.small", "cupel/types.truth"], apart := false, laid := [("cupel/syntax.keywords", laid_cupel_syntax_keywords), ("cupel/syntax.shapes", laid_cupel_syntax_shapes), ("cupel/types.integer", laid_cupel_types_integer), ("cupel/types.small", laid_cupel_types_small), ("cupel/types.truth", laid_cupel_types_truth)] }
def SemAgreesSaid : Prop := semAgreesRow.holds Tryz.pinned (OpenSpec.ofChange semAgreesSpec)

/-- ITS FALSE NEIGHBOUR: 'it returns false'. Refute it at one input. -/
def semAgreesWrong : ChangeSpec := { name := "semAgrees", fn := fun _ => fun
  | [d1, d2] => { results := [.lit (.bool false)], args := [d1, d2] }
  | _ => none }
def SemAgreesWrongFalsely : Prop := semAgreesRow.holds Tryz.pinned (OpenSpec.ofChange semAgreesWrong)

/-- 'cupellaw06.GenNumbers': WHATEVER THE INPUT: true; the input reads as it did. -/
def genNumbersSpec : ChangeSpec := { name := "genNumbers", fn := fun _ => fun
  | [d1, d2] => { results := [.lit (.bool true)], args := [d1, d2] }
  | _ => none }
def genNumbersRow : OpenClaim := { program := "ytolebnomgllgaaagreatdoor", sum := "33e1da4c5dee653c1b6da8b428e41ab674ce8959a0f3f129a9f51087809730bc", func := "cupel/cupellaw06.GenNumbers", spec := "genNumbers", inPlace := ["slices.overlaps[int]", "math/bits.Add64", "internal/abi.NoEscape", "internal/bytealg.MakeNoZero"], unfollowed := true, recurses := true, named := ["cupel/syntax.keywords", "cupel/syntax.shapes", "cupel/types.integer", "cupel/types.small", "cupel/types.truth", "cupel/ranges.full", "cupel/ranges.none", "cupel/syntax.scalars", "internal/strconv.uint64pow10", "math/bits.deBruijn32tab", "math/bits.deBruijn64tab", "cupel/syntax.levels", "cupel/syntax.unary", "cupel/syntax.operators", "cupel/types.none"], apart := false, laid := [("math/bits.deBruijn32tab", laid_math_bits_deBruijn32tab), ("math/bits.deBruijn64tab", laid_math_bits_deBruijn64tab), ("cupel/ranges.full", laid_cupel_ranges_full), ("cupel/ranges.none", laid_cupel_ranges_none), ("internal/strconv.uint64pow10", laid_internal_strconv_uint64pow10), ("cupel/syntax.keywords", laid_cupel_syntax_keywords), ("cupel/syntax.operators", laid_cupel_syntax_operators), ("cupel/syntax.levels", laid_cupel_syntax_levels), ("cupel/syntax.unary", laid_cupel_syntax_unary), ("cupel/syntax.scalars", laid_cupel_syntax_scalars), ("cupel/syntax.shapes", laid_cupel_syntax_shapes), ("cupel/types.none", laid_cupel_types_none), ("cupel/types.integer", laid_cupel_types_integer), ("cupel/types.small", laid_cupel_types_small), ("cupel/types.truth", laid_cupel_types_truth)] }
def GenNumbersSaid : Prop := genNumbersRow.holds Tryz.pinned (OpenSpec.ofChange genNumbersSpec)

/-- ITS FALSE NEIGHBOUR: 'it returns false'. Refute it at one input. -/
def genNumbersWrong : ChangeSpec := { name := "genNumbers", fn := fun _ => fun
  | [d1, d2] => { results := [.lit (.bool false)], args := [d1, d2] }
  | _ => none }
def GenNumbersWrongFalsely : Prop := genNumbersRow.holds Tryz.pinned (OpenSpec.ofChange genNumbersWrong)

/- THE SECOND FORM. 'bulk': how many values and letters a reading holds, each counted each time it is reached (what is shared counts as often as it is met; a slice's spare places count too). A statement '..UptoSaid' is the law's where the arguments, and the package variables that the reading takes, are together of bulk at most 1048576: NARROWER than '..Said'. Prove '..Said' where nothing that the law and all that it calls make is longer than what came in: it says more and counts as full. Else prove '..UptoSaid'. A law counts once. -/
mutual
def uptoBulk {H : Type} : DataW H → Nat
  | .lit (.string bytes) => bytes.length + 1
  | .lit _ => 1
  | .nil => 1
  | .ptr d => uptoBulk d + 1
  | .slice elems spare => uptoBulkAll elems + uptoBulkAll spare + 1
  | .agg parts => uptoBulkAll parts + 1
  | .iface _ d => uptoBulk d + 1
  | .map entries => uptoBulkEntries entries + 1
  | .held _ => 1
def uptoBulkAll {H : Type} : List (DataW H) → Nat
  | [] => 0
  | d :: r => uptoBulk d + uptoBulkAll r
def uptoBulkEntries {H : Type} : List (Lit × DataW H) → Nat
  | [] => 0
  | x :: r => uptoBulkEntry x + uptoBulkEntries r
def uptoBulkEntry {H : Type} : Lit × DataW H → Nat
  | (.string bytes, d) => bytes.length + uptoBulk d + 1
  | (_, d) => uptoBulk d + 1
 end
def uptoSmall : (H : Type) → List (DataW H) → Bool := fun _ ds => decide (uptoBulkAll ds ≤ 1048576)
def OpenSpec.upto (s : _root_.Go.ChangeSpec) : _root_.Go.OpenSpec := { _root_.Go.OpenSpec.ofChange s with cond := some uptoSmall }

/-- 'cupellaw03.SemOperates', WHERE WHAT IT READS IS OF BULK AT MOST 1048576: true; the input reads as it did. -/
def semOperatesUptoRow : OpenClaim := { program := "ytolebnomgllgaaagreatdoor", sum := "33e1da4c5dee653c1b6da8b428e41ab674ce8959a0f3f129a9f51087809730bc", func := "cupel/cupellaw03.SemOperates", spec := "semOperates", inPlace := ["slices.overlaps[int]"], unfollowed := true, recurses := true, named := ["cupel/syntax.keywords", "cupel/syntax.shapes", "cupel/types.integer", "cupel/types.small", "cupel/types.truth"], apart := false, laid := [("cupel/syntax.keywords", laid_cupel_syntax_keywords), ("cupel/syntax.shapes", laid_cupel_syntax_shapes), ("cupel/types.integer", laid_cupel_types_integer), ("cupel/types.small", laid_cupel_types_small), ("cupel/types.truth", laid_cupel_types_truth)], narrowed := true }
def SemOperatesUptoSaid : Prop := semOperatesUptoRow.holds Tryz.pinned (OpenSpec.upto semOperatesSpec)

/-- 'cupellaw03.SemAgrees', WHERE WHAT IT READS IS OF BULK AT MOST 1048576: true; the input reads as it did. -/
def semAgreesUptoRow : OpenClaim := { program := "ytolebnomgllgaaagreatdoor", sum := "33e1da4c5dee653c1b6da8b428e41ab674ce8959a0f3f129a9f51087809730bc", func := "cupel/cupellaw03.SemAgrees", spec := "semAgrees", inPlace := ["slices.overlaps[int]"], unfollowed := true, recurses := true, named := ["cupel/syntax.keywords", "cupel/syntax.shapes", "cupel/types.integer", "cupel/types.small", "cupel/types.truth"], apart := false, laid := [("cupel/syntax.keywords", laid_cupel_syntax_keywords), ("cupel/syntax.shapes", laid_cupel_syntax_shapes), ("cupel/types.integer", laid_cupel_types_integer), ("cupel/types.small", laid_cupel_types_small), ("cupel/types.truth", laid_cupel_types_truth)], narrowed := true }
def SemAgreesUptoSaid : Prop := semAgreesUptoRow.holds Tryz.pinned (OpenSpec.upto semAgreesSpec)

/-- 'cupellaw06.GenNumbers', WHERE WHAT IT READS IS OF BULK AT MOST 1048576: true; the input reads as it did. -/
def genNumbersUptoRow : OpenClaim := { program := "ytolebnomgllgaaagreatdoor", sum := "33e1da4c5dee653c1b6da8b428e41ab674ce8959a0f3f129a9f51087809730bc", func := "cupel/cupellaw06.GenNumbers", spec := "genNumbers", inPlace := ["slices.overlaps[int]", "math/bits.Add64", "internal/abi.NoEscape", "internal/bytealg.MakeNoZero"], unfollowed := true, recurses := true, named := ["cupel/syntax.keywords", "cupel/syntax.shapes", "cupel/types.integer", "cupel/types.small", "cupel/types.truth", "cupel/ranges.full", "cupel/ranges.none", "cupel/syntax.scalars", "internal/strconv.uint64pow10", "math/bits.deBruijn32tab", "math/bits.deBruijn64tab", "cupel/syntax.levels", "cupel/syntax.unary", "cupel/syntax.operators", "cupel/types.none"], apart := false, laid := [("math/bits.deBruijn32tab", laid_math_bits_deBruijn32tab), ("math/bits.deBruijn64tab", laid_math_bits_deBruijn64tab), ("cupel/ranges.full", laid_cupel_ranges_full), ("cupel/ranges.none", laid_cupel_ranges_none), ("internal/strconv.uint64pow10", laid_internal_strconv_uint64pow10), ("cupel/syntax.keywords", laid_cupel_syntax_keywords), ("cupel/syntax.operators", laid_cupel_syntax_operators), ("cupel/syntax.levels", laid_cupel_syntax_levels), ("cupel/syntax.unary", laid_cupel_syntax_unary), ("cupel/syntax.scalars", laid_cupel_syntax_scalars), ("cupel/syntax.shapes", laid_cupel_syntax_shapes), ("cupel/types.none", laid_cupel_types_none), ("cupel/types.integer", laid_cupel_types_integer), ("cupel/types.small", laid_cupel_types_small), ("cupel/types.truth", laid_cupel_types_truth)], narrowed := true }
def GenNumbersUptoSaid : Prop := genNumbersUptoRow.holds Tryz.pinned (OpenSpec.upto genNumbersSpec)

end Rows
end Go.Proofs.YtolebnomgllgaaaGreatDoor
