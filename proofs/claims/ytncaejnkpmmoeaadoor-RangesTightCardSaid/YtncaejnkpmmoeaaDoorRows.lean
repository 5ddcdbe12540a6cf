/-
  NARROWER THAN 'FOR EVERY INPUT', by the rows' own cells (each row's printed sentence says how): RangesAssume: laid · RangesLeft: laid · RangesContain: laid · RangesTight: laid · RangesSets: laid · RangesOperators: laid · RangesUnary: laid.
  DERIVED. THE GIVEN ROWS OF THIS SEAT. 7 by the template 'for every input the law returns true; each argument reads behind the call as it read before'; 0 by the template 'total and deterministic' (their statements: YtncaejnkpmmoeaaDoorTotals.lean).
  GIVEN WITH THE SEED: the statements are not yours to turn. If you find one false, say at which input.
  Laid BY PROGRAM, IN A SANDBOX (cutbox-rows.mjs): the forced cells as the released guide's own fill.sh prints them over the translation fdac0d6cfc35e1e7… (all of the seat's roots in one cut). By AI agents, Wed Nov 11 2026. No macro, syntax, notation, axiom, sorry.
-/
import Derived.Test.YtncaejnkpmmoeaaDoorChecked
import GoSem.Claim
import GoSem.ClaimJoined
import GoSem.ClaimMapViews
import Derived.JoinedTies
import Derived.KernelRfl
namespace Go.Proofs.YtncaejnkpmmoeaaDoor
/- THE CELL 'sum', in the pinned program and in every row, IS THE sha256 OF THE DUMP (.gsa) THAT YtncaejnkpmmoeaaDoorProg.lean LOADS. Nothing in Lean hashes anything: it is a label: what it is worth is what the hold of that sum in a sandbox is worth. -/
noncomputable def Tryd.pinned : Pinned := { name := "ytncaejnkpmmoeaadoor", sum := "fdac0d6cfc35e1e72ef017aa66847deeda42db23d5b34c9d00b443acbc18723d", checked := Tryd.checked }
namespace Rows
def none {H : Type} : Left H := { results := [], args := [] }

/- WHAT THE LISTED PACKAGE-LEVEL VARIABLES READ AS WHEN THE CALL BEGINS. Each datum BY PROGRAM (the guide's laid-datum.mjs) off the statement by which the dump's own 'gosem.cut.vars' lays the variable. In a bare row this is a premise. The card (YtncaejnkpmmoeaaDoorCards.lean) ties it to the program's text. -/
def laid_cupel_ranges_full {H : Type} : DataW H := .agg [.agg [.lit (.int .i64 0), .lit (.int .i64 0)], .agg [.lit (.int .i64 (-9223372036854775808)), .lit (.int .i64 9223372036854775807)], .agg [.lit (.int .i64 0), .lit (.int .i64 255)], .agg [.lit (.int .i64 0), .lit (.int .i64 1)]]
def laid_cupel_ranges_none {H : Type} : DataW H := .agg [.lit (.int .i64 1), .lit (.int .i64 0)]

/-- 'cupellaw04.RangesAssume': WHATEVER THE INPUT: true; the input reads as it did. -/
def rangesAssumeSpec : ChangeSpec := { name := "rangesAssume", fn := fun _ => fun
  | [d1, d2, d3] => { results := [.lit (.bool true)], args := [d1, d2, d3] }
  | _ => none }
def rangesAssumeRow : OpenClaim := { program := "ytncaejnkpmmoeaadoor", sum := "fdac0d6cfc35e1e72ef017aa66847deeda42db23d5b34c9d00b443acbc18723d", func := "cupel/cupellaw04.RangesAssume", spec := "rangesAssume", inPlace := ["math/bits.Add64"], unfollowed := true, recurses := true, named := ["cupel/ranges.full", "cupel/ranges.none"], apart := false, laid := [("cupel/ranges.full", laid_cupel_ranges_full), ("cupel/ranges.none", laid_cupel_ranges_none)] }
def RangesAssumeSaid : Prop := rangesAssumeRow.holds Tryd.pinned (OpenSpec.ofChange rangesAssumeSpec)

/-- ITS FALSE NEIGHBOUR: 'it returns false'. Refute it at one input. -/
def rangesAssumeWrong : ChangeSpec := { name := "rangesAssume", fn := fun _ => fun
  | [d1, d2, d3] => { results := [.lit (.bool false)], args := [d1, d2, d3] }
  | _ => none }
def RangesAssumeWrongFalsely : Prop := rangesAssumeRow.holds Tryd.pinned (OpenSpec.ofChange rangesAssumeWrong)

/-- 'cupellaw04.RangesLeft': WHATEVER THE INPUT: true; the input reads as it did. -/
def rangesLeftSpec : ChangeSpec := { name := "rangesLeft", fn := fun _ => fun
  | [d1, d2, d3] => { results := [.lit (.bool true)], args := [d1, d2, d3] }
  | _ => none }
def rangesLeftRow : OpenClaim := { program := "ytncaejnkpmmoeaadoor", sum := "fdac0d6cfc35e1e72ef017aa66847deeda42db23d5b34c9d00b443acbc18723d", func := "cupel/cupellaw04.RangesLeft", spec := "rangesLeft", inPlace := ["math/bits.Add64"], unfollowed := true, recurses := true, named := ["cupel/ranges.full", "cupel/ranges.none"], apart := false, laid := [("cupel/ranges.full", laid_cupel_ranges_full), ("cupel/ranges.none", laid_cupel_ranges_none)] }
def RangesLeftSaid : Prop := rangesLeftRow.holds Tryd.pinned (OpenSpec.ofChange rangesLeftSpec)

/-- ITS FALSE NEIGHBOUR: 'it returns false'. Refute it at one input. -/
def rangesLeftWrong : ChangeSpec := { name := "rangesLeft", fn := fun _ => fun
  | [d1, d2, d3] => { results := [.lit (.bool false)], args := [d1, d2, d3] }
  | _ => none }
def RangesLeftWrongFalsely : Prop := rangesLeftRow.holds Tryd.pinned (OpenSpec.ofChange rangesLeftWrong)

/-- 'cupellaw04.RangesContain': WHATEVER THE INPUT: true; the input reads as it did. -/
def rangesContainSpec : ChangeSpec := { name := "rangesContain", fn := fun _ => fun
  | [d1, d2, d3] => { results := [.lit (.bool true)], args := [d1, d2, d3] }
  | _ => none }
def rangesContainRow : OpenClaim := { program := "ytncaejnkpmmoeaadoor", sum := "fdac0d6cfc35e1e72ef017aa66847deeda42db23d5b34c9d00b443acbc18723d", func := "cupel/cupellaw04.RangesContain", spec := "rangesContain", inPlace := ["math/bits.Add64"], unfollowed := true, recurses := true, named := ["cupel/ranges.full", "cupel/ranges.none"], apart := false, laid := [("cupel/ranges.full", laid_cupel_ranges_full), ("cupel/ranges.none", laid_cupel_ranges_none)] }
def RangesContainSaid : Prop := rangesContainRow.holds Tryd.pinned (OpenSpec.ofChange rangesContainSpec)

/-- ITS FALSE NEIGHBOUR: 'it returns false'. Refute it at one input. -/
def rangesContainWrong : ChangeSpec := { name := "rangesContain", fn := fun _ => fun
  | [d1, d2, d3] => { results := [.lit (.bool false)], args := [d1, d2, d3] }
  | _ => none }
def RangesContainWrongFalsely : Prop := rangesContainRow.holds Tryd.pinned (OpenSpec.ofChange rangesContainWrong)

/-- 'cupellaw04.RangesTight': WHATEVER THE INPUT: true; the input reads as it did. -/
def rangesTightSpec : ChangeSpec := { name := "rangesTight", fn := fun _ => fun
  | [d1, d2, d3] => { results := [.lit (.bool true)], args := [d1, d2, d3] }
  | _ => none }
def rangesTightRow : OpenClaim := { program := "ytncaejnkpmmoeaadoor", sum := "fdac0d6cfc35e1e72ef017aa66847deeda42db23d5b34c9d00b443acbc18723d", func := "cupel/cupellaw04.RangesTight", spec := "rangesTight", inPlace := ["math/bits.Add64"], unfollowed := true, recurses := true, named := ["cupel/ranges.full", "cupel/ranges.none"], apart := false, laid := [("cupel/ranges.full", laid_cupel_ranges_full), ("cupel/ranges.none", laid_cupel_ranges_none)] }
def RangesTightSaid : Prop := rangesTightRow.holds Tryd.pinned (OpenSpec.ofChange rangesTightSpec)

/-- ITS FALSE NEIGHBOUR: 'it returns false'. Refute it at one input. -/
def rangesTightWrong : ChangeSpec := { name := "rangesTight", fn := fun _ => fun
  | [d1, d2, d3] => { results := [.lit (.bool false)], args := [d1, d2, d3] }
  | _ => none }
def RangesTightWrongFalsely : Prop := rangesTightRow.holds Tryd.pinned (OpenSpec.ofChange rangesTightWrong)

/-- 'cupellaw04.RangesSets': WHATEVER THE INPUT: true; the input reads as it did. -/
def rangesSetsSpec : ChangeSpec := { name := "rangesSets", fn := fun _ => fun
  | [d1, d2, d3] => { results := [.lit (.bool true)], args := [d1, d2, d3] }
  | _ => none }
def rangesSetsRow : OpenClaim := { program := "ytncaejnkpmmoeaadoor", sum := "fdac0d6cfc35e1e72ef017aa66847deeda42db23d5b34c9d00b443acbc18723d", func := "cupel/cupellaw04.RangesSets", spec := "rangesSets", inPlace := ["math/bits.Add64"], unfollowed := true, recurses := true, named := ["cupel/ranges.full", "cupel/ranges.none"], apart := false, laid := [("cupel/ranges.full", laid_cupel_ranges_full), ("cupel/ranges.none", laid_cupel_ranges_none)] }
def RangesSetsSaid : Prop := rangesSetsRow.holds Tryd.pinned (OpenSpec.ofChange rangesSetsSpec)

/-- ITS FALSE NEIGHBOUR: 'it returns false'. Refute it at one input. -/
def rangesSetsWrong : ChangeSpec := { name := "rangesSets", fn := fun _ => fun
  | [d1, d2, d3] => { results := [.lit (.bool false)], args := [d1, d2, d3] }
  | _ => none }
def RangesSetsWrongFalsely : Prop := rangesSetsRow.holds Tryd.pinned (OpenSpec.ofChange rangesSetsWrong)

/-- 'cupellaw04.RangesOperators': WHATEVER THE INPUT: true; the input reads as it did. -/
def rangesOperatorsSpec : ChangeSpec := { name := "rangesOperators", fn := fun _ => fun
  | [d1, d2, d3] => { results := [.lit (.bool true)], args := [d1, d2, d3] }
  | _ => none }
def rangesOperatorsRow : OpenClaim := { program := "ytncaejnkpmmoeaadoor", sum := "fdac0d6cfc35e1e72ef017aa66847deeda42db23d5b34c9d00b443acbc18723d", func := "cupel/cupellaw04.RangesOperators", spec := "rangesOperators", inPlace := ["math/bits.Add64"], unfollowed := true, recurses := true, named := ["cupel/ranges.full", "cupel/ranges.none"], apart := false, laid := [("cupel/ranges.full", laid_cupel_ranges_full), ("cupel/ranges.none", laid_cupel_ranges_none)] }
def RangesOperatorsSaid : Prop := rangesOperatorsRow.holds Tryd.pinned (OpenSpec.ofChange rangesOperatorsSpec)

/-- ITS FALSE NEIGHBOUR: 'it returns false'. Refute it at one input. -/
def rangesOperatorsWrong : ChangeSpec := { name := "rangesOperators", fn := fun _ => fun
  | [d1, d2, d3] => { results := [.lit (.bool false)], args := [d1, d2, d3] }
  | _ => none }
def RangesOperatorsWrongFalsely : Prop := rangesOperatorsRow.holds Tryd.pinned (OpenSpec.ofChange rangesOperatorsWrong)

/-- 'cupellaw04.RangesUnary': WHATEVER THE INPUT: true; the input reads as it did. -/
def rangesUnarySpec : ChangeSpec := { name := "rangesUnary", fn := fun _ => fun
  | [d1, d2, d3] => { results := [.lit (.bool true)], args := [d1, d2, d3] }
  | _ => none }
def rangesUnaryRow : OpenClaim := { program := "ytncaejnkpmmoeaadoor", sum := "fdac0d6cfc35e1e72ef017aa66847deeda42db23d5b34c9d00b443acbc18723d", func := "cupel/cupellaw04.RangesUnary", spec := "rangesUnary", inPlace := ["math/bits.Add64"], unfollowed := true, recurses := true, named := ["cupel/ranges.full", "cupel/ranges.none"], apart := false, laid := [("cupel/ranges.full", laid_cupel_ranges_full), ("cupel/ranges.none", laid_cupel_ranges_none)] }
def RangesUnarySaid : Prop := rangesUnaryRow.holds Tryd.pinned (OpenSpec.ofChange rangesUnarySpec)

/-- ITS FALSE NEIGHBOUR: 'it returns false'. Refute it at one input. -/
def rangesUnaryWrong : ChangeSpec := { name := "rangesUnary", fn := fun _ => fun
  | [d1, d2, d3] => { results := [.lit (.bool false)], args := [d1, d2, d3] }
  | _ => none }
def RangesUnaryWrongFalsely : Prop := rangesUnaryRow.holds Tryd.pinned (OpenSpec.ofChange rangesUnaryWrong)

/- THE SECOND FORM. 'bulk': how many values and letters a reading holds, each counted each time it is reached (what is shared counts as often as it is met; a slice's spare places count too). A statement '..UptoSaid' is the law's where the arguments, and the package variables that the reading takes, are together of bulk at most 1048576: NARROWER than '..Said'. Prove '..Said' where nothing that the law and all that it calls make is longer than what came in: it says more and counts as full. Else prove '..UptoSaid'. A law counts once. -/
mutual
def uptoBulk {H : Type} : DataW H → Nat
  | .lit (.string bytes) => bytes.length + 1
  | .lit _ => 1
  | .nil => 1
  | .ptr d => uptoBulk d + 1
  | .slice elems spare => uptoBulkAll elems + uptoBulkAll spare + 1
  | .agg parts => uptoBulkAll parts + 1
  | .iface _ d => uptoBulk d + 1
  | .map entries => uptoBulkEntries entries + 1
  | .held _ => 1
def uptoBulkAll {H : Type} : List (DataW H) → Nat
  | [] => 0
  | d :: r => uptoBulk d + uptoBulkAll r
def uptoBulkEntries {H : Type} : List (Lit × DataW H) → Nat
  | [] => 0
  | x :: r => uptoBulkEntry x + uptoBulkEntries r
def uptoBulkEntry {H : Type} : Lit × DataW H → Nat
  | (.string bytes, d) => bytes.length + uptoBulk d + 1
  | (_, d) => uptoBulk d + 1
 end
def uptoSmall : (H : Type) → List (DataW H) → Bool := fun _ ds => decide (uptoBulkAll ds ≤ 1048576)
def OpenSpec.upto (s : _root_.Go.ChangeSpec) : _root_.Go.OpenSpec := { _root_.Go.OpenSpec.ofChange s with cond := some uptoSmall }

/-- 'cupellaw04.RangesAssume', WHERE WHAT IT READS IS OF BULK AT MOST 1048576: true; the input reads as it did. -/
def rangesAssumeUptoRow : OpenClaim := { program := "ytncaejnkpmmoeaadoor", sum := "fdac0d6cfc35e1e72ef017aa66847deeda42db23d5b34c9d00b443acbc18723d", func := "cupel/cupellaw04.RangesAssume", spec := "rangesAssume", inPlace := ["math/bits.Add64"], unfollowed := true, recurses := true, named := ["cupel/ranges.full", "cupel/ranges.none"], apart := false, laid := [("cupel/ranges.full", laid_cupel_ranges_full), ("cupel/ranges.none", laid_cupel_ranges_none)], narrowed := true }
def RangesAssumeUptoSaid : Prop := rangesAssumeUptoRow.holds Tryd.pinned (OpenSpec.upto rangesAssumeSpec)

/-- 'cupellaw04.RangesLeft', WHERE WHAT IT READS IS OF BULK AT MOST 1048576: true; the input reads as it did. -/
def rangesLeftUptoRow : OpenClaim := { program := "ytncaejnkpmmoeaadoor", sum := "fdac0d6cfc35e1e72ef017aa66847deeda42db23d5b34c9d00b443acbc18723d", func := "cupel/cupellaw04.RangesLeft", spec := "rangesLeft", inPlace := ["math/bits.Add64"], unfollowed := true, recurses := true, named := ["cupel/ranges.full", "cupel/ranges.none"], apart := false, laid := [("cupel/ranges.full", laid_cupel_ranges_full), ("cupel/ranges.none", laid_cupel_ranges_none)], narrowed := true }
def RangesLeftUptoSaid : Prop := rangesLeftUptoRow.holds Tryd.pinned (OpenSpec.upto rangesLeftSpec)

/-- 'cupellaw04.RangesContain', WHERE WHAT IT READS IS OF BULK AT MOST 1048576: true; the input reads as it did. -/
def rangesContainUptoRow : OpenClaim := { program := "ytncaejnkpmmoeaadoor", sum := "fdac0d6cfc35e1e72ef017aa66847deeda42db23d5b34c9d00b443acbc18723d", func := "cupel/cupellaw04.RangesContain", spec := "rangesContain", inPlace := ["math/bits.Add64"], unfollowed := true, recurses := true, named := ["cupel/ranges.full", "cupel/ranges.none"], apart := false, laid := [("cupel/ranges.full", laid_cupel_ranges_full), ("cupel/ranges.none", laid_cupel_ranges_none)], narrowed := true }
def RangesContainUptoSaid : Prop := rangesContainUptoRow.holds Tryd.pinned (OpenSpec.upto rangesContainSpec)

/-- 'cupellaw04.RangesTight', WHERE WHAT IT READS IS OF BULK AT MOST 1048576: true; the input reads as it did. -/
def rangesTightUptoRow : OpenClaim := { program := "ytncaejnkpmmoeaadoor", sum := "fdac0d6cfc35e1e72ef017aa66847deeda42db23d5b34c9d00b443acbc18723d", func := "cupel/cupellaw04.RangesTight", spec := "rangesTight", inPlace := ["math/bits.Add64"], unfollowed := true, recurses := true, named := ["cupel/ranges.full", "cupel/ranges.none"], apart := false, laid := [("cupel/ranges.full", laid_cupel_ranges_full), ("cupel/ranges.none", laid_cupel_ranges_none)], narrowed := true }
def RangesTightUptoSaid : Prop := rangesTightUptoRow.holds Tryd.pinned (OpenSpec.upto rangesTightSpec)

/-- 'cupellaw04.RangesSets', WHERE WHAT IT READS IS OF BULK AT MOST 1048576: true; the input reads as it did. -/
def rangesSetsUptoRow : OpenClaim := { program := "ytncaejnkpmmoeaadoor", sum := "fdac0d6cfc35e1e72ef017aa66847deeda42db23d5b34c9d00b443acbc18723d", func := "cupel/cupellaw04.RangesSets", spec := "rangesSets", inPlace := ["math/bits.Add64"], unfollowed := true, recurses := true, named := ["cupel/ranges.full", "cupel/ranges.none"], apart := false, laid := [("cupel/ranges.full", laid_cupel_ranges_full), ("cupel/ranges.none", laid_cupel_ranges_none)], narrowed := true }
def RangesSetsUptoSaid : Prop := rangesSetsUptoRow.holds Tryd.pinned (OpenSpec.upto rangesSetsSpec)

/-- 'cupellaw04.RangesOperators', WHERE WHAT IT READS IS OF BULK AT MOST 1048576: true; the input reads as it did. -/
def rangesOperatorsUptoRow : OpenClaim := { program := "ytncaejnkpmmoeaadoor", sum := "fdac0d6cfc35e1e72ef017aa66847deeda42db23d5b34c9d00b443acbc18723d", func := "cupel/cupellaw04.RangesOperators", spec := "rangesOperators", inPlace := ["math/bits.Add64"], unfollowed := true, recurses := true, named := ["cupel/ranges.full", "cupel/ranges.none"], apart := false, laid := [("cupel/ranges.full", laid_cupel_ranges_full), ("cupel/ranges.none", laid_cupel_ranges_none)], narrowed := true }
def RangesOperatorsUptoSaid : Prop := rangesOperatorsUptoRow.holds Tryd.pinned (OpenSpec.upto rangesOperatorsSpec)

/-- 'cupellaw04.RangesUnary', WHERE WHAT IT READS IS OF BULK AT MOST 1048576: true; the input reads as it did. -/
def rangesUnaryUptoRow : OpenClaim := { program := "ytncaejnkpmmoeaadoor", sum := "fdac0d6cfc35e1e72ef017aa66847deeda42db23d5b34c9d00b443acbc18723d", func := "cupel/cupellaw04.RangesUnary", spec := "rangesUnary", inPlace := ["math/bits.Add64"], unfollowed := true, recurses := true, named := ["cupel/ranges.full", "cupel/ranges.none"], apart := false, laid := [("cupel/ranges.full", laid_cupel_ranges_full), ("cupel/ranges.none", laid_cupel_ranges_none)], narrowed := true }
def RangesUnaryUptoSaid : Prop := rangesUnaryUptoRow.holds Tryd.pinned (OpenSpec.upto rangesUnarySpec)

end Rows
end Go.Proofs.YtncaejnkpmmoeaaDoor
