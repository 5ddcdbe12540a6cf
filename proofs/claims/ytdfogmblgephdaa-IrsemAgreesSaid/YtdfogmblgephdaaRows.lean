/-
  No cell of these rows narrows 'for every input' (looked for: loops, veiled, ifaces, maps, wideKeys, modest, calm, conditions, laid).
  DERIVED. THE GIVEN ROWS OF THIS SEAT. 4 by the template 'for every input the law returns true; each argument reads behind the call as it read before'; 0 by the template 'total and deterministic' (their statements: YtdfogmblgephdaaTotals.lean).
  GIVEN WITH THE SEED: the statements are not yours to turn. If you find one false, say at which input.
  Laid BY PROGRAM, IN A SANDBOX (cutbox-rows.mjs): the forced cells as the released guide's own fill.sh prints them over the translation 3b474fd9c89bbfbd… (all of the seat's roots in one cut). By AI agents, Wed Nov 11 2026. No macro, syntax, notation, axiom, sorry.
-/
import Derived.Test.YtdfogmblgephdaaChecked
import GoSem.Claim
import GoSem.ClaimJoined
import GoSem.ClaimMapViews
import Derived.JoinedTies
import Derived.KernelRfl
namespace Go.Proofs.Ytdfogmblgephdaa
/- THE CELL 'sum', in the pinned program and in every row, IS THE sha256 OF THE DUMP (.gsa) THAT YtdfogmblgephdaaProg.lean LOADS. Nothing in Lean hashes anything: it is a label: what it is worth is what the hold of that sum in a sandbox is worth. -/
noncomputable def Try.pinned : Pinned := { name := "ytdfogmblgephdaa", sum := "3b474fd9c89bbfbd7236c692fb1e2672cc50fab2018df39dd85945d6b5d21521", checked := Try.checked }
namespace Rows
def none {H : Type} : Left H := { results := [], args := [] }

/-- 'cupellaw10.IrsemOperates': WHATEVER THE INPUT: true; the input reads as it did. -/
def irsemOperatesSpec : ChangeSpec := { name := "irsemOperates", fn := fun _ => fun
  | [d1, d2, d3] => { results := [.lit (.bool true)], args := [d1, d2, d3] }
  | _ => none }
def irsemOperatesRow : OpenClaim := { program := "ytdfogmblgephdaa", sum := "3b474fd9c89bbfbd7236c692fb1e2672cc50fab2018df39dd85945d6b5d21521", func := "cupel/cupellaw10.IrsemOperates", spec := "irsemOperates", unfollowed := true, recurses := true, apart := false }
def IrsemOperatesSaid : Prop := irsemOperatesRow.holds Try.pinned (OpenSpec.ofChange irsemOperatesSpec)

/-- ITS FALSE NEIGHBOUR: 'it returns false'. Refute it at one input. -/
def irsemOperatesWrong : ChangeSpec := { name := "irsemOperates", fn := fun _ => fun
  | [d1, d2, d3] => { results := [.lit (.bool false)], args := [d1, d2, d3] }
  | _ => none }
def IrsemOperatesWrongFalsely : Prop := irsemOperatesRow.holds Try.pinned (OpenSpec.ofChange irsemOperatesWrong)

/-- 'cupellaw10.IrsemAgrees': WHATEVER THE INPUT: true; the input reads as it did. -/
def irsemAgreesSpec : ChangeSpec := { name := "irsemAgrees", fn := fun _ => fun
  | [d1, d2] => { results := [.lit (.bool true)], args := [d1, d2] }
  | _ => none }
def irsemAgreesRow : OpenClaim := { program := "ytdfogmblgephdaa", sum := "3b474fd9c89bbfbd7236c692fb1e2672cc50fab2018df39dd85945d6b5d21521", func := "cupel/cupellaw10.IrsemAgrees", spec := "irsemAgrees", unfollowed := true, recurses := true, apart := false }
def IrsemAgreesSaid : Prop := irsemAgreesRow.holds Try.pinned (OpenSpec.ofChange irsemAgreesSpec)

/-- ITS FALSE NEIGHBOUR: 'it returns false'. Refute it at one input. -/
def irsemAgreesWrong : ChangeSpec := { name := "irsemAgrees", fn := fun _ => fun
  | [d1, d2] => { results := [.lit (.bool false)], args := [d1, d2] }
  | _ => none }
def IrsemAgreesWrongFalsely : Prop := irsemAgreesRow.holds Try.pinned (OpenSpec.ofChange irsemAgreesWrong)

/-- 'cupellaw10.IrsemGoesOn': WHATEVER THE INPUT: true; the input reads as it did. -/
def irsemGoesOnSpec : ChangeSpec := { name := "irsemGoesOn", fn := fun _ => fun
  | [d1, d2, d3] => { results := [.lit (.bool true)], args := [d1, d2, d3] }
  | _ => none }
def irsemGoesOnRow : OpenClaim := { program := "ytdfogmblgephdaa", sum := "3b474fd9c89bbfbd7236c692fb1e2672cc50fab2018df39dd85945d6b5d21521", func := "cupel/cupellaw10.IrsemGoesOn", spec := "irsemGoesOn", unfollowed := true, recurses := true, apart := false }
def IrsemGoesOnSaid : Prop := irsemGoesOnRow.holds Try.pinned (OpenSpec.ofChange irsemGoesOnSpec)

/-- ITS FALSE NEIGHBOUR: 'it returns false'. Refute it at one input. -/
def irsemGoesOnWrong : ChangeSpec := { name := "irsemGoesOn", fn := fun _ => fun
  | [d1, d2, d3] => { results := [.lit (.bool false)], args := [d1, d2, d3] }
  | _ => none }
def IrsemGoesOnWrongFalsely : Prop := irsemGoesOnRow.holds Try.pinned (OpenSpec.ofChange irsemGoesOnWrong)

/-- 'cupellaw10.IrsemTotals': WHATEVER THE INPUT: true; the input reads as it did. -/
def irsemTotalsSpec : ChangeSpec := { name := "irsemTotals", fn := fun _ => fun
  | [d1, d2] => { results := [.lit (.bool true)], args := [d1, d2] }
  | _ => none }
def irsemTotalsRow : OpenClaim := { program := "ytdfogmblgephdaa", sum := "3b474fd9c89bbfbd7236c692fb1e2672cc50fab2018df39dd85945d6b5d21521", func := "cupel/cupellaw10.IrsemTotals", spec := "irsemTotals", unfollowed := true, recurses := true, apart := false }
def IrsemTotalsSaid : Prop := irsemTotalsRow.holds Try.pinned (OpenSpec.ofChange irsemTotalsSpec)

/-- ITS FALSE NEIGHBOUR: 'it returns false'. Refute it at one input. -/
def irsemTotalsWrong : ChangeSpec := { name := "irsemTotals", fn := fun _ => fun
  | [d1, d2] => { results := [.lit (.bool false)], args := [d1, d2] }
  | _ => none }
def IrsemTotalsWrongFalsely : Prop := irsemTotalsRow.holds Try.pinned (OpenSpec.ofChange irsemTotalsWrong)

/- THE SECOND FORM. 'bulk': how many values and letters a reading holds, each counted each time it is reached (what is shared counts as often as it is met; a slice's spare places count too). A statement '..UptoSaid' is the law's where the arguments, and the package variables that the reading takes, are together of bulk at most 1048576: NARROWER than '..Said'. Prove '..Said' where nothing that the law and all that it calls make is longer than what came in: it says more and counts as full. Else prove '..UptoSaid'. A law counts once. -/
mutual
def uptoBulk {H : Type} : DataW H → Nat
  | .lit (.string bytes) => bytes.length + 1
  | .lit _ => 1
  | .nil => 1
  | .ptr d => uptoBulk d + 1
  | .slice elems spare => uptoBulkAll elems + uptoBulkAll spare + 1
  | .agg parts => uptoBulkAll parts + 1
  | .iface _ d => uptoBulk d + 1
  | .map entries => uptoBulkEntries entries + 1
  | .held _ => 1
def uptoBulkAll {H : Type} : List (DataW H) → Nat
  | [] => 0
  | d :: r => uptoBulk d + uptoBulkAll r
def uptoBulkEntries {H : Type} : List (Lit × DataW H) → Nat
  | [] => 0
  | x :: r => uptoBulkEntry x + uptoBulkEntries r
def uptoBulkEntry {H : Type} : Lit × DataW H → Nat
  | (.string bytes, d) => bytes.length + uptoBulk d + 1
  | (_, d) => uptoBulk d + 1
 end
def uptoSmall : (H : Type) → List (DataW H) → Bool := fun _ ds => decide (uptoBulkAll ds ≤ 1048576)
def OpenSpec.upto (s : _root_.Go.ChangeSpec) : _root_.Go.OpenSpec := { _root_.Go.OpenSpec.ofChange s with cond := some uptoSmall }

/-- 'cupellaw10.IrsemOperates', WHERE WHAT IT READS IS OF BULK AT MOST 1048576: true; the input reads as it did. -/
def irsemOperatesUptoRow : OpenClaim := { program := "ytdfogmblgephdaa", sum := "3b474fd9c89bbfbd7236c692fb1e2672cc50fab2018df39dd85945d6b5d21521", func := "cupel/cupellaw10.IrsemOperates", spec := "irsemOperates", unfollowed := true, recurses := true, apart := false, narrowed := true }
def IrsemOperatesUptoSaid : Prop := irsemOperatesUptoRow.holds Try.pinned (OpenSpec.upto irsemOperatesSpec)

/-- 'cupellaw10.IrsemAgrees', WHERE WHAT IT READS IS OF BULK AT MOST 1048576: true; the input reads as it did. -/
def irsemAgreesUptoRow : OpenClaim := { program := "ytdfogmblgephdaa", sum := "3b474fd9c89bbfbd7236c692fb1e2672cc50fab2018df39dd85945d6b5d21521", func := "cupel/cupellaw10.IrsemAgrees", spec := "irsemAgrees", unfollowed := true, recurses := true, apart := false, narrowed := true }
def IrsemAgreesUptoSaid : Prop := irsemAgreesUptoRow.holds Try.pinned (OpenSpec.upto irsemAgreesSpec)

/-- 'cupellaw10.IrsemGoesOn', WHERE WHAT IT READS IS OF BULK AT MOST 1048576: true; the input reads as it did. -/
def irsemGoesOnUptoRow : OpenClaim := { program := "ytdfogmblgephdaa", sum := "3b474fd9c89bbfbd7236c692fb1e2672cc50fab2018df39dd85945d6b5d21521", func := "cupel/cupellaw10.IrsemGoesOn", spec := "irsemGoesOn", unfollowed := true, recurses := true, apart := false, narrowed := true }
def IrsemGoesOnUptoSaid : Prop := irsemGoesOnUptoRow.holds Try.pinned (OpenSpec.upto irsemGoesOnSpec)

/-- 'cupellaw10.IrsemTotals', WHERE WHAT IT READS IS OF BULK AT MOST 1048576: true; the input reads as it did. -/
def irsemTotalsUptoRow : OpenClaim := { program := "ytdfogmblgephdaa", sum := "3b474fd9c89bbfbd7236c692fb1e2672cc50fab2018df39dd85945d6b5d21521", func := "cupel/cupellaw10.IrsemTotals", spec := "irsemTotals", unfollowed := true, recurses := true, apart := false, narrowed := true }
def IrsemTotalsUptoSaid : Prop := irsemTotalsUptoRow.holds Try.pinned (OpenSpec.upto irsemTotalsSpec)

end Rows
end Go.Proofs.Ytdfogmblgephdaa
