/- The symbolic executor SY, part F: the table of types, out of the program. -/
import Derived.Test.YtdfogmblgephdaaSyD
namespace Go.SY
open Go

def fieldsTD (P : Program) : List Field → Option (List (Nat × Nat × Nat))
  | [] => some []
  | f :: l => match P.info? f.type with
    | none => none
    | some i => match fieldsTD P l with
      | none => none
      | some r => some ((f.type, f.offset, i.size) :: r)
def namesOk : List Field → Bool
  | [] => true
  | f :: l => !(f.name == "_") && namesOk l
def mkTD (P : Program) (t : TypeId) : TypeDesc → Option TD
  | .bool => some .bool
  | .int k => some (.int k)
  | .string => some .str
  | .pointer e => some (.ptr e)
  | .slice e => match P.info? e with
    | some i => some (.slice e i.size)
    | none => none
  | .array n e => match P.info? e with
    | some i => some (.arr n e i.size)
    | none => none
  | .map k e => some (.map k e)
  | .struct fs => match fieldsTD P fs.toList with
    | some l => some (.struct l (!P.eqGuardType P.depth t && !P.stoodInHeld t && namesOk fs.toList))
    | none => none
  | .func _ _ _ => some .func
  | .interface _ => some .iface
  | _ => none
def zeroOf (td : TD) (z : Value) : Option (List SV) :=
  bif td.agg then (match z with
    | .agg cs => ofVals cs.toList
    | _ => none) else (match ofVal1 z with
    | some s => some [s]
    | none => none)
def mkTE (P : Program) (t : TypeId) : Option TE :=
  match P.underlying t, P.info? t with
  | some d, some i => match mkTD P t d with
    | some td => some ⟨td, i.size, i.bytes, match i.zero with
      | some z => zeroOf td z
      | none => none⟩
    | none => none
  | _, _ => none
def mkTy (P : Program) : List Nat → Ty
  | [] => .e
  | t :: l => match mkTE P t with
    | some e => (mkTy P l).put t e
    | none => mkTy P l

end Go.SY
