/- RANGES: shifts, masks and complements, as arithmetic. -/
import Derived.Test.YtncaejnkpmmoeaaDoorSxRL
set_option linter.unusedVariables false
set_option linter.unusedSimpArgs false
namespace Go.SXR
open Go Go.SX Go.Proofs Go.RowKit

theorem shr63 (x : Int) : Int.fdiv x (2 ^ (min (63 : Int).toNat IntKind.i64.bits)) = x / 9223372036854775808 := by
  have e : (2 : Int) ^ (min (63 : Int).toNat IntKind.i64.bits) = 9223372036854775808 := by decide
  rw [e, Int.fdiv_eq_ediv_of_nonneg _ (by decide)]
theorem shr8 (x : Int) : Int.fdiv x (2 ^ (min (8 : Int).toNat IntKind.i64.bits)) = x / 256 := by
  have e : (2 : Int) ^ (min (8 : Int).toNat IntKind.i64.bits) = 256 := by decide
  rw [e, Int.fdiv_eq_ediv_of_nonneg _ (by decide)]
theorem shr63' (x : Int) : Int.fdiv x (2 ^ (min 63 IntKind.i64.bits)) = x / 9223372036854775808 := shr63 x
theorem shr8' (x : Int) : Int.fdiv x (2 ^ (min 8 IntKind.i64.bits)) = x / 256 := shr8 x
theorem ofInt_toNat (x : Int) : (BitVec.ofInt 64 x).toNat = (x % 18446744073709551616).toNat := by
  rw [BitVec.toNat_ofInt]; rfl
theorem and255 (x : Int) : bitsOf .i64 (fun a b => a &&& b) x 255 = x % 256 := by
  show IntKind.wrap .i64 ((BitVec.ofInt 64 x &&& BitVec.ofInt 64 255).toNat : Int) = x % 256
  have e : (BitVec.ofInt 64 255).toNat = 2 ^ 8 - 1 := by decide
  rw [BitVec.toNat_and, e, Nat.and_two_pow_sub_one_eq_mod, ofInt_toNat, wrap64]
  unfold w64
  omega
theorem com64 (x : Int) : bitsOf .i64 (fun a b => a ^^^ b) (-1) x = w64 (-1 - x) := by
  show IntKind.wrap .i64 ((BitVec.ofInt 64 (-1) ^^^ BitVec.ofInt 64 x).toNat : Int) = w64 (-1 - x)
  have e : BitVec.ofInt 64 (-1) = BitVec.allOnes 64 := by decide
  rw [e, BitVec.allOnes_xor, BitVec.toNat_not, ofInt_toNat, wrap64]
  unfold w64
  have e2 : (2 : Nat) ^ 64 = 18446744073709551616 := by decide
  rw [e2]
  omega
theorem comU (x : Int) : bitsOf .u64 (fun a b => a ^^^ b) 18446744073709551615 x = (-1 - x) % 18446744073709551616 := by
  show IntKind.wrap .u64 ((BitVec.ofInt 64 18446744073709551615 ^^^ BitVec.ofInt 64 x).toNat : Int) = (-1 - x) % 18446744073709551616
  have e : BitVec.ofInt 64 18446744073709551615 = BitVec.allOnes 64 := by decide
  rw [e, BitVec.allOnes_xor, BitVec.toNat_not, ofInt_toNat, wrapU]
  have e2 : (2 : Nat) ^ 64 = 18446744073709551616 := by decide
  rw [e2]
  omega
theorem maxU : (if IntKind.u64.signed = true then (-1 : Int) else IntKind.u64.max) = 18446744073709551615 := by decide
theorem maxI : (if IntKind.i64.signed = true then (-1 : Int) else IntKind.i64.max) = -1 := by decide

/-! ### An interval of whole numbers, brought into a kind -/
def brL (k lo hi : Int) : Int := if ¬ (inI lo ∧ inI hi) then fullL k else if k = 1 then lo else if lo / 256 = hi / 256 then lo % 256 else fullL k
def brH (k lo hi : Int) : Int := if ¬ (inI lo ∧ inI hi) then fullH k else if k = 1 then hi else if lo / 256 = hi / 256 then hi % 256 else fullH k
/-! ### Unary, ToSmall -/
def unL (op k a b : Int) : Int := if ¬ okR k a b then 0 else if op = 2 ∧ k = 3 then 1 - b else if op = 1 ∧ (k = 1 ∨ k = 2) then brL k (-b) (-a) else if op = 3 ∧ k = 1 then -1 - b else if op = 3 ∧ k = 2 then 255 - b else 0
def unH (op k a b : Int) : Int := if ¬ okR k a b then 0 else if op = 2 ∧ k = 3 then 1 - a else if op = 1 ∧ (k = 1 ∨ k = 2) then brH k (-b) (-a) else if op = 3 ∧ k = 1 then -1 - a else if op = 3 ∧ k = 2 then 255 - a else 0
def unE (op k a b : Int) : Int := if okR k a b ∧ (op = 2 ∧ k = 3 ∨ (op = 1 ∨ op = 3) ∧ (k = 1 ∨ k = 2)) then 0 else 2
def unaryS : List Int → Option (List Int)
  | [op, k, a, b] => if inI a ∧ inI b then some [unL op k a b, unH op k a b, unE op k a b] else none
  | _ => none
def smL (a b : Int) : Int := if b < a then 0 else brL 2 a b
def smH (a b : Int) : Int := if b < a then 0 else brH 2 a b
def smE (a b : Int) : Int := if b < a then 2 else 0
def toSmallS : List Int → Option (List Int)
  | [a, b] => if inI a ∧ inI b then some [smL a b, smH a b, smE a b] else none
  | _ => none
end Go.SXR
