/- RANGES: how results are brought into a kind, by the program; bits of truths; the top of some bits. -/
import Derived.Test.YtncaejnkpmmoeaaDoorSxB3
set_option linter.unusedVariables false
set_option linter.unusedSimpArgs false
namespace Go.SXR
open Go Go.SX Go.Proofs Go.RowKit

def intoK (k lo hi : Int) (X : List Int) (rest : List Int) : List Int := br k lo hi ++ rest
theorem br_full {k lo hi : Int} (h : ¬ (inI lo ∧ inI hi)) : br k lo hi = [fullL k, fullH k] := by unfold br brL brH; rw [if_pos h, if_pos h]
theorem br_1 {lo hi : Int} (h : inI lo ∧ inI hi) : br 1 lo hi = [lo, hi] := by unfold br brL brH; simp [h]
theorem br_2 {lo hi : Int} (h : inI lo ∧ inI hi) : br 2 lo hi = if lo / 256 = hi / 256 then [lo % 256, hi % 256] else [0, 255] := by
  unfold br brL brH fullL fullH; simp [h]; split <;> rfl
theorem in4s {x y z t : Int} (h : inI x ∧ inI y ∧ inI z ∧ inI t) : inI (lo4 x y z t) ∧ inI (hi4 x y z t) := by unfold inI lo4 hi4 at *; omega
theorem out4 {x y z t : Int} (h : ¬ (inI x ∧ inI y ∧ inI z ∧ inI t)) : ¬ (inI (lo4 x y z t) ∧ inI (hi4 x y z t)) := by unfold inI lo4 hi4 at *; omega
theorem notD {p : Prop} [Decidable p] : ((!decide p) = true) = ¬ p := by simp
theorem into2_1 {x y : Int} (h : x ≤ y) : (if (!decide (inI x)) = true then some (0, [-9223372036854775808, 9223372036854775807, 1, 0, 0, 0]) else if (!decide (inI y)) = true then some (0, [-9223372036854775808, 9223372036854775807, 1, 0, 0, 0]) else some (0, [min (w64 (loW x)) (w64 (loW y)), max (w64 (loW x)) (w64 (loW y)), 1, 0, 0, 0])) = some ((0 : Nat), (br 1 x y ++ [1, 0, 0]) ++ [0]) := by
  by_cases i1 : inI x
  · by_cases i2 : inI y
    · rw [br_1 ⟨i1, i2⟩, w64_loW i1, w64_loW i2, show min x y = x by omega, show max x y = y by omega]; simp [i1, i2]
    · rw [br_full (fun q => i2 q.2)]; simp [i1, i2, fullL, fullH]
  · rw [br_full (fun q => i1 q.1)]; simp [i1, fullL, fullH]
theorem into2_2 {x y : Int} (h : x ≤ y) : (if (!decide (inI x)) = true then some (0, [0, 255, 1, 0, 0, 0]) else if (!decide (inI y)) = true then some (0, [0, 255, 1, 0, 0, 0]) else if (!(min (w64 (loW x)) (w64 (loW y)) / 256 == max (w64 (loW x)) (w64 (loW y)) / 256)) = true then some (0, [0, 255, 1, 0, 0, 0]) else some (0, [min (w64 (loW x)) (w64 (loW y)) % 256, max (w64 (loW x)) (w64 (loW y)) % 256, 1, 0, 0, 0])) = some ((0 : Nat), (br 2 x y ++ [1, 0, 0]) ++ [0]) := by
  by_cases i1 : inI x
  · by_cases i2 : inI y
    · rw [br_2 ⟨i1, i2⟩, w64_loW i1, w64_loW i2, show min x y = x by omega, show max x y = y by omega]
      by_cases e : x / 256 = y / 256 <;> simp [i1, i2, e]
    · rw [br_full (fun q => i2 q.2)]; simp [i1, i2, fullL, fullH]
  · rw [br_full (fun q => i1 q.1)]; simp [i1, fullL, fullH]
theorem into4r_1 {x y z t : Int} {r : List Int} : (if (!decide (inI x)) = true then some (0, -9223372036854775808 :: 9223372036854775807 :: r) else if (!decide (inI y)) = true then some (0, -9223372036854775808 :: 9223372036854775807 :: r) else if (!decide (inI z)) = true then some (0, -9223372036854775808 :: 9223372036854775807 :: r) else if (!decide (inI t)) = true then some (0, -9223372036854775808 :: 9223372036854775807 :: r) else
    some (0, min (min (min (w64 (loW x)) (w64 (loW y))) (w64 (loW z))) (w64 (loW t)) :: max (max (max (w64 (loW x)) (w64 (loW y))) (w64 (loW z))) (w64 (loW t)) :: r)) = some ((0 : Nat), br 1 (lo4 x y z t) (hi4 x y z t) ++ r) := by
  by_cases i1 : inI x
  · by_cases i2 : inI y
    · by_cases i3 : inI z
      · by_cases i4 : inI t
        · rw [br_1 (in4s ⟨i1, i2, i3, i4⟩), w64_loW i1, w64_loW i2, w64_loW i3, w64_loW i4]; simp only [i1, i2, i3, i4, decide_true, Bool.not_true, Bool.false_eq_true, if_false]; rfl
        · rw [br_full (out4 (fun q => i4 q.2.2.2))]; simp [i1, i2, i3, i4, fullL, fullH]
      · rw [br_full (out4 (fun q => i3 q.2.2.1))]; simp [i1, i2, i3, fullL, fullH]
    · rw [br_full (out4 (fun q => i2 q.2.1))]; simp [i1, i2, fullL, fullH]
  · rw [br_full (out4 (fun q => i1 q.1))]; simp [i1, fullL, fullH]
theorem into4r_2 {x y z t : Int} {r : List Int} : (if (!decide (inI x)) = true then some (0, 0 :: 255 :: r) else if (!decide (inI y)) = true then some (0, 0 :: 255 :: r) else if (!decide (inI z)) = true then some (0, 0 :: 255 :: r) else if (!decide (inI t)) = true then some (0, 0 :: 255 :: r) else
    if (!(min (min (min (w64 (loW x)) (w64 (loW y))) (w64 (loW z))) (w64 (loW t)) / 256 == max (max (max (w64 (loW x)) (w64 (loW y))) (w64 (loW z))) (w64 (loW t)) / 256)) = true then some (0, 0 :: 255 :: r) else
    some (0, min (min (min (w64 (loW x)) (w64 (loW y))) (w64 (loW z))) (w64 (loW t)) % 256 :: max (max (max (w64 (loW x)) (w64 (loW y))) (w64 (loW z))) (w64 (loW t)) % 256 :: r)) = some ((0 : Nat), br 2 (lo4 x y z t) (hi4 x y z t) ++ r) := by
  by_cases i1 : inI x
  · by_cases i2 : inI y
    · by_cases i3 : inI z
      · by_cases i4 : inI t
        · rw [br_2 (in4s ⟨i1, i2, i3, i4⟩), w64_loW i1, w64_loW i2, w64_loW i3, w64_loW i4]
          have e1 : min (min (min x y) z) t = lo4 x y z t := rfl
          have e2 : max (max (max x y) z) t = hi4 x y z t := rfl
          rw [e1, e2]
          by_cases e : lo4 x y z t / 256 = hi4 x y z t / 256 <;> simp [i1, i2, i3, i4, e]
        · rw [br_full (out4 (fun q => i4 q.2.2.2))]; simp [i1, i2, i3, i4, fullL, fullH]
      · rw [br_full (out4 (fun q => i3 q.2.2.1))]; simp [i1, i2, i3, fullL, fullH]
    · rw [br_full (out4 (fun q => i2 q.2.1))]; simp [i1, i2, fullL, fullH]
  · rw [br_full (out4 (fun q => i1 q.1))]; simp [i1, fullL, fullH]
theorem times_eq {x y : Int} (hx : inI x) (hy : inI y) : timesS [hiW x, loW x, y] = some [hiW (x * y), loW (x * y)] := by
  have h : timesS [hiW x, loW x, y] = some [hiW (w64 (loW x) * y), loW (w64 (loW x) * y)] := if_pos ⟨wideOk_of hx, hy⟩
  rw [h, w64_loW hx]
theorem shift_eq {x m : Int} (hx : inI x) (h0 : 0 ≤ m) (h1 : m ≤ 63) : shiftS [hiW x, loW x, m] = some [hiW (shlF x m), loW (shlF x m)] := by
  have h : shiftS [hiW x, loW x, m] = some [hiW (w64 (loW x) * p2 m), loW (w64 (loW x) * p2 m)] := if_pos ⟨wideOk_of hx, h0, h1⟩
  rw [h, w64_loW hx]; rfl
theorem amount_pos {k c d : Int} (h : shSome k c d) : amountS [k, c, d] = some [0, 0, 1, 0, shU k c d, max c 0, min d (topK k)] := by
  have e : amountS [k, c, d] = some (if shSome k c d then [0, 0, 1, 0, shU k c d, max c 0, min d (topK k)] else [0, 0, 0, 0, shU k c d, 0, 0]) := rfl
  rw [e, if_pos h]
theorem amount_neg {k c d : Int} (h : ¬ shSome k c d) : amountS [k, c, d] = some [0, 0, 0, 0, shU k c d, 0, 0] := by
  have e : amountS [k, c, d] = some (if shSome k c d then [0, 0, 1, 0, shU k c d, max c 0, min d (topK k)] else [0, 0, 0, 0, shU k c d, 0, 0]) := rfl
  rw [e, if_neg h]
theorem selI (p : Prop) [Decidable p] : (if (!((if p then (1 : Int) else 0) == 0)) = true then (1 : Int) else 0) = if p then 1 else 0 := by by_cases hp : p <;> simp [hp]
theorem selT (c d : Int) : (if (!(trapV c d == 0)) = true then (1 : Int) else 0) = trapV c d := selI _
theorem selU (k a b c d : Int) : (if (!(undV k a b c d == 0)) = true then (1 : Int) else 0) = undV k a b c d := selI _
theorem sel1 : (if (!((1 : Int) == 0)) = true then (1 : Int) else 0) = 1 := rfl
theorem sel0 : (if (!((0 : Int) == 0)) = true then (1 : Int) else 0) = 0 := rfl
theorem is1 : ((!((1 : Int) == 0)) = true) = True := by decide
theorem is0 : ((!((0 : Int) == 0)) = true) = False := by decide
theorem fdiv_shr (x : Int) {m : Int} (h0 : 0 ≤ m) (h1 : m ≤ 63) : Int.fdiv x (2 ^ (min m.toNat IntKind.i64.bits)) = shrF x m := by
  have e : min m.toNat IntKind.i64.bits = m.toNat := by
    have : IntKind.i64.bits = 64 := rfl
    omega
  have hp := Int.le_of_lt (p2_pos m)
  unfold p2 at hp
  rw [e, Int.fdiv_eq_ediv_of_nonneg _ hp]
  rfl
theorem and01 {x y : Int} (hx : x = 0 ∨ x = 1) (hy : y = 0 ∨ y = 1) : bitsOf .i64 (fun a b => a &&& b) x y = x * y := by
  rcases hx with rfl | rfl <;> rcases hy with rfl | rfl <;> decide
theorem or01 {x y : Int} (hx : x = 0 ∨ x = 1) (hy : y = 0 ∨ y = 1) : bitsOf .i64 (fun a b => a ||| b) x y = max x y := by
  rcases hx with rfl | rfl <;> rcases hy with rfl | rfl <;> decide
theorem lenV_le {m : Int} (h0 : 0 ≤ m) (hm : m ≤ 9223372036854775807) : 0 ≤ lenV m ∧ lenV m ≤ 63 := by
  by_cases h : m ≤ 0
  · unfold lenV; rw [if_pos h]; omega
  · obtain ⟨g1, g2, g3⟩ := len_spec (show 0 < m by omega)
    refine ⟨by omega, ?_⟩
    by_cases hc : 63 < lenV m
    · have := p2_mono (show 63 ≤ lenV m - 1 by omega)
      have e : p2 63 = 9223372036854775808 := by decide
      omega
    · omega
theorem top_eq {m : Int} (h0 : 0 ≤ m) (hm : m ≤ 9223372036854775807) : lenS [m] = some [lenV m] ∧ w64 ((2 ^ (min (lenV m).toNat IntKind.u64.bits) - 1) % 18446744073709551616) = topV m ∧ (0 ≤ lenV m ∧ lenV m ≤ 63) := by
  obtain ⟨h1, h2⟩ := lenV_le h0 hm
  refine ⟨if_pos (by unfold inL; omega), ?_, h1, h2⟩
  have e : min (lenV m).toNat IntKind.u64.bits = (lenV m).toNat := by
    have : IntKind.u64.bits = 64 := rfl
    omega
  rw [e]
  have hp := p2_pos (lenV m)
  have hq := p2_le63 h2
  unfold topV
  unfold p2 at *
  generalize (2 : Int) ^ (lenV m).toNat = P at *
  rw [show (P - 1) % 18446744073709551616 = P - 1 by omega]
  exact w64_id (by unfold inI; omega)
end Go.SXR
