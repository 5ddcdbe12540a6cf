/- RANGES: what an operator makes of two values, as the law reckons it. -/
import Derived.Test.YtncaejnkpmmoeaaDoorSxD3
import Derived.Test.YtncaejnkpmmoeaaDoorSxRL
set_option linter.unusedVariables false
set_option linter.unusedSimpArgs false
namespace Go.SXR
open Go Go.SX Go.Proofs Go.RowKit

def doneS : List Int → Option (List Int)
  | [op, k, v, w] => if inI v ∧ inI w ∧ fitsB op k then some (doneR op k v w) else none
  | _ => none
theorem mul_shl (v : Int) {w : Int} (h0 : 0 ≤ w) (h1 : w ≤ 63) : v * 2 ^ (min w.toNat IntKind.i64.bits) = shlF v w := by
  have e : min w.toNat IntKind.i64.bits = w.toNat := by
    have : IntKind.i64.bits = 64 := rfl
    omega
  rw [e]; rfl
theorem d_and (x y : Int) : bitsOf .i64 (fun a b => a &&& b) x y = andB x y := rfl
theorem d_xor (x y : Int) : bitsOf .i64 (fun a b => a ^^^ b) x y = xorB x y := rfl
theorem d_or (x y : Int) : bitsOf .i64 (fun a b => a ||| b) x y = orB x y := rfl
theorem and255a (x : Int) : andB x 255 = x % 256 := and255 x
def sg16 : Sig := ⟨[I, I, I, I], [(.agg [.int .i64, .bool, .bool])]⟩
def t16 : T := (.br (.cmp .eq (.v 1) (.n 2)) (.br (.cmp .eq (.v 0) (.n 1)) (.lt (.mul .i64 (.v 2) (.v 3)) (.lt (.band .i64 (.v 4) (.n 255)) (.ret [(.v 5), (.n 0), (.n 0)]))) (.br (.cmp .eq (.v 0) (.n 2)) (.br (.and (.not (.cmp .eq (.v 3) (.n 0))) (.not (.and (.and (.cmp .eq (.v 1) (.n 1)) (.cmp .eq (.v 2) (.n (-9223372036854775808)))) (.cmp .eq (.v 3) (.n (-1)))))) (.lt (.quo .i64 (.v 2) (.v 3)) (.br (.cmp .eq (.v 0) (.n 3)) (.lt (.rem (.v 2) (.v 3)) (.lt (.band .i64 (.v 5) (.n 255)) (.lt (.sel (.cmp .eq (.v 3) (.n 0)) (.n 1) (.n 0)) (.lt (.sel (.and (.and (.cmp .eq (.v 1) (.n 1)) (.cmp .eq (.v 2) (.n (-9223372036854775808)))) (.cmp .eq (.v 3) (.n (-1)))) (.n 1) (.n 0)) (.ret [(.v 6), (.v 7), (.v 8)]))))) (.lt (.band .i64 (.v 4) (.n 255)) (.lt (.sel (.cmp .eq (.v 3) (.n 0)) (.n 1) (.n 0)) (.lt (.sel (.and (.and (.cmp .eq (.v 1) (.n 1)) (.cmp .eq (.v 2) (.n (-9223372036854775808)))) (.cmp .eq (.v 3) (.n (-1)))) (.n 1) (.n 0)) (.ret [(.v 5), (.v 6), (.v 7)])))))) (.lt (.sel (.cmp .eq (.v 3) (.n 0)) (.n 1) (.n 0)) (.lt (.sel (.and (.and (.cmp .eq (.v 1) (.n 1)) (.cmp .eq (.v 2) (.n (-9223372036854775808)))) (.cmp .eq (.v 3) (.n (-1)))) (.n 1) (.n 0)) (.ret [(.n 0), (.v 4), (.v 5)])))) (.br (.cmp .eq (.v 0) (.n 3)) (.br (.and (.not (.cmp .eq (.v 3) (.n 0))) (.not (.and (.and (.cmp .eq (.v 1) (.n 1)) (.cmp .eq (.v 2) (.n (-9223372036854775808)))) (.cmp .eq (.v 3) (.n (-1)))))) (.lt (.quo .i64 (.v 2) (.v 3)) (.lt (.rem (.v 2) (.v 3)) (.lt (.band .i64 (.v 5) (.n 255)) (.lt (.sel (.cmp .eq (.v 3) (.n 0)) (.n 1) (.n 0)) (.lt (.sel (.and (.and (.cmp .eq (.v 1) (.n 1)) (.cmp .eq (.v 2) (.n (-9223372036854775808)))) (.cmp .eq (.v 3) (.n (-1)))) (.n 1) (.n 0)) (.ret [(.v 6), (.v 7), (.v 8)])))))) (.lt (.sel (.cmp .eq (.v 3) (.n 0)) (.n 1) (.n 0)) (.lt (.sel (.and (.and (.cmp .eq (.v 1) (.n 1)) (.cmp .eq (.v 2) (.n (-9223372036854775808)))) (.cmp .eq (.v 3) (.n (-1)))) (.n 1) (.n 0)) (.ret [(.n 0), (.v 4), (.v 5)])))) (.br (.cmp .eq (.v 0) (.n 4)) (.lt (.add .i64 (.v 2) (.v 3)) (.lt (.band .i64 (.v 4) (.n 255)) (.ret [(.v 5), (.n 0), (.n 0)]))) (.br (.cmp .eq (.v 0) (.n 5)) (.lt (.sub .i64 (.v 2) (.v 3)) (.lt (.band .i64 (.v 4) (.n 255)) (.ret [(.v 5), (.n 0), (.n 0)]))) (.br (.cmp .eq (.v 0) (.n 6)) (.br (.not (.or (.cmp .lt (.v 3) (.n 0)) (.not (.cmp .lt (.v 3) (.n 8))))) (.lt (.wrap .u64 (.v 3)) (.br (.cmp .lt (.v 4) (.n 0)) (.fail 151) (.lt (.shl .i64 (.v 2) (.v 4)) (.br (.cmp .eq (.v 0) (.n 7)) (.lt (.wrap .u64 (.v 3)) (.br (.cmp .lt (.v 6) (.n 0)) (.fail 152) (.lt (.shr .i64 (.v 2) (.v 6)) (.lt (.band .i64 (.v 7) (.n 255)) (.lt (.sel (.or (.cmp .lt (.v 3) (.n 0)) (.not (.cmp .lt (.v 3) (.n 8)))) (.n 1) (.n 0)) (.ret [(.v 8), (.n 0), (.v 9)])))))) (.lt (.band .i64 (.v 5) (.n 255)) (.lt (.sel (.or (.cmp .lt (.v 3) (.n 0)) (.not (.cmp .lt (.v 3) (.n 8)))) (.n 1) (.n 0)) (.ret [(.v 6), (.n 0), (.v 7)]))))))) (.lt (.sel (.or (.cmp .lt (.v 3) (.n 0)) (.not (.cmp .lt (.v 3) (.n 8)))) (.n 1) (.n 0)) (.ret [(.n 0), (.n 0), (.v 4)]))) (.br (.cmp .eq (.v 0) (.n 7)) (.br (.not (.or (.cmp .lt (.v 3) (.n 0)) (.not (.cmp .lt (.v 3) (.n 8))))) (.lt (.wrap .u64 (.v 3)) (.br (.cmp .lt (.v 4) (.n 0)) (.fail 151) (.lt (.shl .i64 (.v 2) (.v 4)) (.lt (.wrap .u64 (.v 3)) (.br (.cmp .lt (.v 6) (.n 0)) (.fail 152) (.lt (.shr .i64 (.v 2) (.v 6)) (.lt (.band .i64 (.v 7) (.n 255)) (.lt (.sel (.or (.cmp .lt (.v 3) (.n 0)) (.not (.cmp .lt (.v 3) (.n 8)))) (.n 1) (.n 0)) (.ret [(.v 8), (.n 0), (.v 9)]))))))))) (.lt (.sel (.or (.cmp .lt (.v 3) (.n 0)) (.not (.cmp .lt (.v 3) (.n 8)))) (.n 1) (.n 0)) (.ret [(.n 0), (.n 0), (.v 4)]))) (.br (.cmp .eq (.v 0) (.n 8)) (.lt (.band .i64 (.v 2) (.v 3)) (.lt (.band .i64 (.v 4) (.n 255)) (.ret [(.v 5), (.n 0), (.n 0)]))) (.br (.cmp .eq (.v 0) (.n 9)) (.lt (.bxor .i64 (.v 2) (.v 3)) (.lt (.band .i64 (.v 4) (.n 255)) (.ret [(.v 5), (.n 0), (.n 0)]))) (.br (.cmp .eq (.v 0) (.n 10)) (.lt (.bor .i64 (.v 2) (.v 3)) (.lt (.band .i64 (.v 4) (.n 255)) (.ret [(.v 5), (.n 0), (.n 0)]))) (.br (.cmp .eq (.v 0) (.n 17)) (.lt (.mul .i64 (.v 2) (.v 3)) (.lt (.band .i64 (.v 4) (.n 255)) (.ret [(.v 5), (.n 0), (.n 0)]))) (.br (.cmp .eq (.v 0) (.n 18)) (.lt (.mx (.v 2) (.v 3)) (.lt (.band .i64 (.v 4) (.n 255)) (.ret [(.v 5), (.n 0), (.n 0)]))) (.call 14 [(.v 0), (.v 2), (.v 3)] 1 (.br (.not (.cmp .eq (.v 4) (.n 0))) (.ret [(.n 1), (.n 0), (.n 0)]) (.ret [(.n 0), (.n 0), (.n 0)]))))))))))))))) (.br (.cmp .eq (.v 0) (.n 1)) (.lt (.mul .i64 (.v 2) (.v 3)) (.ret [(.v 4), (.n 0), (.n 0)])) (.br (.cmp .eq (.v 0) (.n 2)) (.br (.and (.not (.cmp .eq (.v 3) (.n 0))) (.not (.and (.and (.cmp .eq (.v 1) (.n 1)) (.cmp .eq (.v 2) (.n (-9223372036854775808)))) (.cmp .eq (.v 3) (.n (-1)))))) (.lt (.quo .i64 (.v 2) (.v 3)) (.br (.cmp .eq (.v 0) (.n 3)) (.lt (.rem (.v 2) (.v 3)) (.lt (.sel (.cmp .eq (.v 3) (.n 0)) (.n 1) (.n 0)) (.lt (.sel (.and (.and (.cmp .eq (.v 1) (.n 1)) (.cmp .eq (.v 2) (.n (-9223372036854775808)))) (.cmp .eq (.v 3) (.n (-1)))) (.n 1) (.n 0)) (.ret [(.v 5), (.v 6), (.v 7)])))) (.lt (.sel (.cmp .eq (.v 3) (.n 0)) (.n 1) (.n 0)) (.lt (.sel (.and (.and (.cmp .eq (.v 1) (.n 1)) (.cmp .eq (.v 2) (.n (-9223372036854775808)))) (.cmp .eq (.v 3) (.n (-1)))) (.n 1) (.n 0)) (.ret [(.v 4), (.v 5), (.v 6)]))))) (.lt (.sel (.cmp .eq (.v 3) (.n 0)) (.n 1) (.n 0)) (.lt (.sel (.and (.and (.cmp .eq (.v 1) (.n 1)) (.cmp .eq (.v 2) (.n (-9223372036854775808)))) (.cmp .eq (.v 3) (.n (-1)))) (.n 1) (.n 0)) (.ret [(.n 0), (.v 4), (.v 5)])))) (.br (.cmp .eq (.v 0) (.n 3)) (.br (.and (.not (.cmp .eq (.v 3) (.n 0))) (.not (.and (.and (.cmp .eq (.v 1) (.n 1)) (.cmp .eq (.v 2) (.n (-9223372036854775808)))) (.cmp .eq (.v 3) (.n (-1)))))) (.lt (.quo .i64 (.v 2) (.v 3)) (.lt (.rem (.v 2) (.v 3)) (.lt (.sel (.cmp .eq (.v 3) (.n 0)) (.n 1) (.n 0)) (.lt (.sel (.and (.and (.cmp .eq (.v 1) (.n 1)) (.cmp .eq (.v 2) (.n (-9223372036854775808)))) (.cmp .eq (.v 3) (.n (-1)))) (.n 1) (.n 0)) (.ret [(.v 5), (.v 6), (.v 7)]))))) (.lt (.sel (.cmp .eq (.v 3) (.n 0)) (.n 1) (.n 0)) (.lt (.sel (.and (.and (.cmp .eq (.v 1) (.n 1)) (.cmp .eq (.v 2) (.n (-9223372036854775808)))) (.cmp .eq (.v 3) (.n (-1)))) (.n 1) (.n 0)) (.ret [(.n 0), (.v 4), (.v 5)])))) (.br (.cmp .eq (.v 0) (.n 4)) (.lt (.add .i64 (.v 2) (.v 3)) (.ret [(.v 4), (.n 0), (.n 0)])) (.br (.cmp .eq (.v 0) (.n 5)) (.lt (.sub .i64 (.v 2) (.v 3)) (.ret [(.v 4), (.n 0), (.n 0)])) (.br (.cmp .eq (.v 0) (.n 6)) (.br (.not (.or (.cmp .lt (.v 3) (.n 0)) (.not (.cmp .lt (.v 3) (.n 64))))) (.lt (.wrap .u64 (.v 3)) (.br (.cmp .lt (.v 4) (.n 0)) (.fail 151) (.lt (.shl .i64 (.v 2) (.v 4)) (.br (.cmp .eq (.v 0) (.n 7)) (.lt (.wrap .u64 (.v 3)) (.br (.cmp .lt (.v 6) (.n 0)) (.fail 152) (.lt (.shr .i64 (.v 2) (.v 6)) (.lt (.sel (.or (.cmp .lt (.v 3) (.n 0)) (.not (.cmp .lt (.v 3) (.n 64)))) (.n 1) (.n 0)) (.ret [(.v 7), (.n 0), (.v 8)]))))) (.lt (.sel (.or (.cmp .lt (.v 3) (.n 0)) (.not (.cmp .lt (.v 3) (.n 64)))) (.n 1) (.n 0)) (.ret [(.v 5), (.n 0), (.v 6)])))))) (.lt (.sel (.or (.cmp .lt (.v 3) (.n 0)) (.not (.cmp .lt (.v 3) (.n 64)))) (.n 1) (.n 0)) (.ret [(.n 0), (.n 0), (.v 4)]))) (.br (.cmp .eq (.v 0) (.n 7)) (.br (.not (.or (.cmp .lt (.v 3) (.n 0)) (.not (.cmp .lt (.v 3) (.n 64))))) (.lt (.wrap .u64 (.v 3)) (.br (.cmp .lt (.v 4) (.n 0)) (.fail 151) (.lt (.shl .i64 (.v 2) (.v 4)) (.lt (.wrap .u64 (.v 3)) (.br (.cmp .lt (.v 6) (.n 0)) (.fail 152) (.lt (.shr .i64 (.v 2) (.v 6)) (.lt (.sel (.or (.cmp .lt (.v 3) (.n 0)) (.not (.cmp .lt (.v 3) (.n 64)))) (.n 1) (.n 0)) (.ret [(.v 7), (.n 0), (.v 8)])))))))) (.lt (.sel (.or (.cmp .lt (.v 3) (.n 0)) (.not (.cmp .lt (.v 3) (.n 64)))) (.n 1) (.n 0)) (.ret [(.n 0), (.n 0), (.v 4)]))) (.br (.cmp .eq (.v 0) (.n 8)) (.lt (.band .i64 (.v 2) (.v 3)) (.ret [(.v 4), (.n 0), (.n 0)])) (.br (.cmp .eq (.v 0) (.n 9)) (.lt (.bxor .i64 (.v 2) (.v 3)) (.ret [(.v 4), (.n 0), (.n 0)])) (.br (.cmp .eq (.v 0) (.n 10)) (.lt (.bor .i64 (.v 2) (.v 3)) (.ret [(.v 4), (.n 0), (.n 0)])) (.br (.cmp .eq (.v 0) (.n 17)) (.lt (.mul .i64 (.v 2) (.v 3)) (.ret [(.v 4), (.n 0), (.n 0)])) (.br (.cmp .eq (.v 0) (.n 18)) (.lt (.mx (.v 2) (.v 3)) (.ret [(.v 4), (.n 0), (.n 0)])) (.call 14 [(.v 0), (.v 2), (.v 3)] 1 (.br (.not (.cmp .eq (.v 4) (.n 0))) (.ret [(.n 1), (.n 0), (.n 0)]) (.ret [(.n 0), (.n 0), (.n 0)]))))))))))))))))
theorem q16 : sxFunc (Cf [p14] unAll) 200 16 sg16 = t16 := by kernel_rfl
theorem c16x1k1 {F : Nat → List Int → Option (List Int)} {v w : Int} (g14 : F 14 = holdsS) (hv : inI v) (hw : inI w) : t16.den F 0 [1, 1, v, w] = some (0, doneR 1 1 v w) := by
  have e : doneR 1 1 v w = [w64 (v * w), 0, 0] := by
    have h3 : doneV 1 1 v w = w64 (v * w) := by rw [done_plain (by omega) (by omega) (by omega) (by omega) (by omega)]; rfl
    unfold doneR
    rw [h3, if_neg (no_trap (by omega) (by omega)), if_neg (no_und (by omega) (by omega) (by omega) (by omega))]
  rw [e]
  simp [t16, T.den, B.den, A.den, E.den, Cm.den, wrap64, and255, and255a, d_and, d_xor, d_or, mx_eq]
theorem c16x1k2 {F : Nat → List Int → Option (List Int)} {v w : Int} (g14 : F 14 = holdsS) (hv : inI v) (hw : inI w) : t16.den F 0 [1, 2, v, w] = some (0, doneR 1 2 v w) := by
  have e : doneR 1 2 v w = [(w64 (v * w)) % 256, 0, 0] := by
    have h3 : doneV 1 2 v w = (w64 (v * w)) % 256 := by rw [done_plain (by omega) (by omega) (by omega) (by omega) (by omega)]; rfl
    unfold doneR
    rw [h3, if_neg (no_trap (by omega) (by omega)), if_neg (no_und (by omega) (by omega) (by omega) (by omega))]
  rw [e]
  simp [t16, T.den, B.den, A.den, E.den, Cm.den, wrap64, and255, and255a, d_and, d_xor, d_or, mx_eq]
theorem c16x2k1 {F : Nat → List Int → Option (List Int)} {v w : Int} (g14 : F 14 = holdsS) (hv : inI v) (hw : inI w) : t16.den F 0 [2, 1, v, w] = some (0, doneR 2 1 v w) := by
  by_cases h : w = 0
  · subst h
    have e : doneR 2 1 v 0 = [0, 1, 0] := by
      have h1 : trapD 2 0 := ⟨by omega, rfl⟩
      have h2 : ¬ undD 2 1 v 0 := by unfold undD; omega
      have h3 : doneV 2 1 v 0 = 0 := by unfold doneV; rw [if_neg (by omega), if_pos (.inl h1)]
      unfold doneR
      rw [h3, if_pos h1, if_neg h2]
    rw [e]
    simp [t16, T.den, B.den, A.den, E.den, Cm.den]
  · by_cases hu : v = -9223372036854775808 ∧ w = -1
    · have e : doneR 2 1 v w = [0, 0, 1] := by
        have h1 : ¬ trapD 2 w := fun q => h q.2
        have h2 : undD 2 1 v w := .inl ⟨by omega, rfl, hu.1, hu.2⟩
        have h3 : doneV 2 1 v w = 0 := by unfold doneV; rw [if_neg (by omega), if_pos (.inr h2)]
        unfold doneR
        rw [h3, if_neg h1, if_pos h2]
      rw [e]
      simp [t16, T.den, B.den, A.den, E.den, Cm.den, hu.1, hu.2]
    · have e : doneR 2 1 v w = [w64 (v.tdiv w), 0, 0] := by
        have h1 : ¬ trapD 2 w := fun q => h q.2
        have h2 : ¬ undD 2 1 v w := by unfold undD; omega
        have h3 : doneV 2 1 v w = w64 (v.tdiv w) := by rw [done_res (by omega) h1 h2]; rfl
        unfold doneR
        rw [h3, if_neg h1, if_neg h2]
      rw [e]
      by_cases u1 : v = -9223372036854775808
      · have u2 : ¬ w = -1 := fun q => hu ⟨u1, q⟩
        simp [t16, T.den, B.den, A.den, E.den, Cm.den, h, u1, u2, wrap64]
      · simp [t16, T.den, B.den, A.den, E.den, Cm.den, h, u1, wrap64]
theorem c16x2k2 {F : Nat → List Int → Option (List Int)} {v w : Int} (g14 : F 14 = holdsS) (hv : inI v) (hw : inI w) : t16.den F 0 [2, 2, v, w] = some (0, doneR 2 2 v w) := by
  by_cases h : w = 0
  · subst h
    have e : doneR 2 2 v 0 = [0, 1, 0] := by
      have h1 : trapD 2 0 := ⟨by omega, rfl⟩
      have h2 : ¬ undD 2 2 v 0 := by unfold undD; omega
      have h3 : doneV 2 2 v 0 = 0 := by unfold doneV; rw [if_neg (by omega), if_pos (.inl h1)]
      unfold doneR
      rw [h3, if_pos h1, if_neg h2]
    rw [e]
    simp [t16, T.den, B.den, A.den, E.den, Cm.den]
  · have e : doneR 2 2 v w = [(w64 (v.tdiv w)) % 256, 0, 0] := by
      have h1 : ¬ trapD 2 w := fun q => h q.2
      have h2 : ¬ undD 2 2 v w := by unfold undD; omega
      have h3 : doneV 2 2 v w = (w64 (v.tdiv w)) % 256 := by rw [done_res (by omega) h1 h2]; rfl
      unfold doneR
      rw [h3, if_neg h1, if_neg h2]
    rw [e]
    simp [t16, T.den, B.den, A.den, E.den, Cm.den, h, wrap64, and255]
theorem c16x3k1 {F : Nat → List Int → Option (List Int)} {v w : Int} (g14 : F 14 = holdsS) (hv : inI v) (hw : inI w) : t16.den F 0 [3, 1, v, w] = some (0, doneR 3 1 v w) := by
  by_cases h : w = 0
  · subst h
    have e : doneR 3 1 v 0 = [0, 1, 0] := by
      have h1 : trapD 3 0 := ⟨by omega, rfl⟩
      have h2 : ¬ undD 3 1 v 0 := by unfold undD; omega
      have h3 : doneV 3 1 v 0 = 0 := by unfold doneV; rw [if_neg (by omega), if_pos (.inl h1)]
      unfold doneR
      rw [h3, if_pos h1, if_neg h2]
    rw [e]
    simp [t16, T.den, B.den, A.den, E.den, Cm.den]
  · by_cases hu : v = -9223372036854775808 ∧ w = -1
    · have e : doneR 3 1 v w = [0, 0, 1] := by
        have h1 : ¬ trapD 3 w := fun q => h q.2
        have h2 : undD 3 1 v w := .inl ⟨by omega, rfl, hu.1, hu.2⟩
        have h3 : doneV 3 1 v w = 0 := by unfold doneV; rw [if_neg (by omega), if_pos (.inr h2)]
        unfold doneR
        rw [h3, if_neg h1, if_pos h2]
      rw [e]
      simp [t16, T.den, B.den, A.den, E.den, Cm.den, hu.1, hu.2]
    · have e : doneR 3 1 v w = [v.tmod w, 0, 0] := by
        have h1 : ¬ trapD 3 w := fun q => h q.2
        have h2 : ¬ undD 3 1 v w := by unfold undD; omega
        have h3 : doneV 3 1 v w = v.tmod w := by rw [done_res (by omega) h1 h2]; rfl
        unfold doneR
        rw [h3, if_neg h1, if_neg h2]
      rw [e]
      by_cases u1 : v = -9223372036854775808
      · have u2 : ¬ w = -1 := fun q => hu ⟨u1, q⟩
        simp [t16, T.den, B.den, A.den, E.den, Cm.den, h, u1, u2, wrap64]
      · simp [t16, T.den, B.den, A.den, E.den, Cm.den, h, u1, wrap64]
theorem c16x3k2 {F : Nat → List Int → Option (List Int)} {v w : Int} (g14 : F 14 = holdsS) (hv : inI v) (hw : inI w) : t16.den F 0 [3, 2, v, w] = some (0, doneR 3 2 v w) := by
  by_cases h : w = 0
  · subst h
    have e : doneR 3 2 v 0 = [0, 1, 0] := by
      have h1 : trapD 3 0 := ⟨by omega, rfl⟩
      have h2 : ¬ undD 3 2 v 0 := by unfold undD; omega
      have h3 : doneV 3 2 v 0 = 0 := by unfold doneV; rw [if_neg (by omega), if_pos (.inl h1)]
      unfold doneR
      rw [h3, if_pos h1, if_neg h2]
    rw [e]
    simp [t16, T.den, B.den, A.den, E.den, Cm.den]
  · have e : doneR 3 2 v w = [(v.tmod w) % 256, 0, 0] := by
      have h1 : ¬ trapD 3 w := fun q => h q.2
      have h2 : ¬ undD 3 2 v w := by unfold undD; omega
      have h3 : doneV 3 2 v w = (v.tmod w) % 256 := by rw [done_res (by omega) h1 h2]; rfl
      unfold doneR
      rw [h3, if_neg h1, if_neg h2]
    rw [e]
    simp [t16, T.den, B.den, A.den, E.den, Cm.den, h, wrap64, and255]
theorem c16x4k1 {F : Nat → List Int → Option (List Int)} {v w : Int} (g14 : F 14 = holdsS) (hv : inI v) (hw : inI w) : t16.den F 0 [4, 1, v, w] = some (0, doneR 4 1 v w) := by
  have e : doneR 4 1 v w = [w64 (v + w), 0, 0] := by
    have h3 : doneV 4 1 v w = w64 (v + w) := by rw [done_plain (by omega) (by omega) (by omega) (by omega) (by omega)]; rfl
    unfold doneR
    rw [h3, if_neg (no_trap (by omega) (by omega)), if_neg (no_und (by omega) (by omega) (by omega) (by omega))]
  rw [e]
  simp [t16, T.den, B.den, A.den, E.den, Cm.den, wrap64, and255, and255a, d_and, d_xor, d_or, mx_eq]
theorem c16x4k2 {F : Nat → List Int → Option (List Int)} {v w : Int} (g14 : F 14 = holdsS) (hv : inI v) (hw : inI w) : t16.den F 0 [4, 2, v, w] = some (0, doneR 4 2 v w) := by
  have e : doneR 4 2 v w = [(w64 (v + w)) % 256, 0, 0] := by
    have h3 : doneV 4 2 v w = (w64 (v + w)) % 256 := by rw [done_plain (by omega) (by omega) (by omega) (by omega) (by omega)]; rfl
    unfold doneR
    rw [h3, if_neg (no_trap (by omega) (by omega)), if_neg (no_und (by omega) (by omega) (by omega) (by omega))]
  rw [e]
  simp [t16, T.den, B.den, A.den, E.den, Cm.den, wrap64, and255, and255a, d_and, d_xor, d_or, mx_eq]
theorem c16x5k1 {F : Nat → List Int → Option (List Int)} {v w : Int} (g14 : F 14 = holdsS) (hv : inI v) (hw : inI w) : t16.den F 0 [5, 1, v, w] = some (0, doneR 5 1 v w) := by
  have e : doneR 5 1 v w = [w64 (v - w), 0, 0] := by
    have h3 : doneV 5 1 v w = w64 (v - w) := by rw [done_plain (by omega) (by omega) (by omega) (by omega) (by omega)]; rfl
    unfold doneR
    rw [h3, if_neg (no_trap (by omega) (by omega)), if_neg (no_und (by omega) (by omega) (by omega) (by omega))]
  rw [e]
  simp [t16, T.den, B.den, A.den, E.den, Cm.den, wrap64, and255, and255a, d_and, d_xor, d_or, mx_eq]
theorem c16x5k2 {F : Nat → List Int → Option (List Int)} {v w : Int} (g14 : F 14 = holdsS) (hv : inI v) (hw : inI w) : t16.den F 0 [5, 2, v, w] = some (0, doneR 5 2 v w) := by
  have e : doneR 5 2 v w = [(w64 (v - w)) % 256, 0, 0] := by
    have h3 : doneV 5 2 v w = (w64 (v - w)) % 256 := by rw [done_plain (by omega) (by omega) (by omega) (by omega) (by omega)]; rfl
    unfold doneR
    rw [h3, if_neg (no_trap (by omega) (by omega)), if_neg (no_und (by omega) (by omega) (by omega) (by omega))]
  rw [e]
  simp [t16, T.den, B.den, A.den, E.den, Cm.den, wrap64, and255, and255a, d_and, d_xor, d_or, mx_eq]
theorem c16x6k1 {F : Nat → List Int → Option (List Int)} {v w : Int} (g14 : F 14 = holdsS) (hv : inI v) (hw : inI w) : t16.den F 0 [6, 1, v, w] = some (0, doneR 6 1 v w) := by
  have et : topK 1 = 63 := by decide
  have h1 : ¬ trapD 6 w := no_trap (by omega) (by omega)
  by_cases h : w < 0 ∨ 63 < w
  · have e : doneR 6 1 v w = [0, 0, 1] := by
      have h2 : undD 6 1 v w := .inr ⟨by omega, by rw [et]; exact h⟩
      have h3 : doneV 6 1 v w = 0 := by unfold doneV; rw [if_neg (by omega), if_pos (.inr h2)]
      unfold doneR
      rw [h3, if_neg h1, if_pos h2]
    rw [e]
    rcases h with h | h
    · simp [t16, T.den, B.den, A.den, E.den, Cm.den, h]
    · have n1 : ¬ w < 0 := by omega
      have n2 : ¬ w < 64 := by omega
      have n3 : 64 ≤ w := by omega
      simp [t16, T.den, B.den, A.den, E.den, Cm.den, n1, n2, n3]
  · have e : doneR 6 1 v w = [w64 (shlF v w), 0, 0] := by
      have h2 : ¬ undD 6 1 v w := by unfold undD; rw [et]; omega
      have h3 : doneV 6 1 v w = w64 (shlF v w) := by rw [done_res (by omega) h1 h2]; rfl
      unfold doneR
      rw [h3, if_neg h1, if_neg h2]
    rw [e]
    have n2 : w < 64 := by omega
    have n3 : ¬ 64 ≤ w := by omega
    have n1 : ¬ w < 0 := by omega
    have r1 : w % 18446744073709551616 = w := by unfold inI at hw; omega
    have s1 : ∀ x : Int, x * 2 ^ (min w.toNat IntKind.i64.bits) = shlF x w := fun x => mul_shl x (by omega) (by omega)
    have s2 : ∀ x, Int.fdiv x (2 ^ (min w.toNat IntKind.i64.bits)) = shrF x w := fun x => fdiv_shr x (by omega) (by omega)
    simp [t16, T.den, B.den, A.den, E.den, Cm.den, n1, n2, n3, r1, wrap64, wrapU, s1, s2, and255]
theorem c16x6k2 {F : Nat → List Int → Option (List Int)} {v w : Int} (g14 : F 14 = holdsS) (hv : inI v) (hw : inI w) : t16.den F 0 [6, 2, v, w] = some (0, doneR 6 2 v w) := by
  have et : topK 2 = 7 := by decide
  have h1 : ¬ trapD 6 w := no_trap (by omega) (by omega)
  by_cases h : w < 0 ∨ 7 < w
  · have e : doneR 6 2 v w = [0, 0, 1] := by
      have h2 : undD 6 2 v w := .inr ⟨by omega, by rw [et]; exact h⟩
      have h3 : doneV 6 2 v w = 0 := by unfold doneV; rw [if_neg (by omega), if_pos (.inr h2)]
      unfold doneR
      rw [h3, if_neg h1, if_pos h2]
    rw [e]
    rcases h with h | h
    · simp [t16, T.den, B.den, A.den, E.den, Cm.den, h]
    · have n1 : ¬ w < 0 := by omega
      have n2 : ¬ w < 8 := by omega
      have n3 : 8 ≤ w := by omega
      simp [t16, T.den, B.den, A.den, E.den, Cm.den, n1, n2, n3]
  · have e : doneR 6 2 v w = [(w64 (shlF v w)) % 256, 0, 0] := by
      have h2 : ¬ undD 6 2 v w := by unfold undD; rw [et]; omega
      have h3 : doneV 6 2 v w = (w64 (shlF v w)) % 256 := by rw [done_res (by omega) h1 h2]; rfl
      unfold doneR
      rw [h3, if_neg h1, if_neg h2]
    rw [e]
    have n2 : w < 8 := by omega
    have n3 : ¬ 8 ≤ w := by omega
    have n1 : ¬ w < 0 := by omega
    have r1 : w % 18446744073709551616 = w := by unfold inI at hw; omega
    have s1 : ∀ x : Int, x * 2 ^ (min w.toNat IntKind.i64.bits) = shlF x w := fun x => mul_shl x (by omega) (by omega)
    have s2 : ∀ x, Int.fdiv x (2 ^ (min w.toNat IntKind.i64.bits)) = shrF x w := fun x => fdiv_shr x (by omega) (by omega)
    simp [t16, T.den, B.den, A.den, E.den, Cm.den, n1, n2, n3, r1, wrap64, wrapU, s1, s2, and255]
theorem c16x7k1 {F : Nat → List Int → Option (List Int)} {v w : Int} (g14 : F 14 = holdsS) (hv : inI v) (hw : inI w) : t16.den F 0 [7, 1, v, w] = some (0, doneR 7 1 v w) := by
  have et : topK 1 = 63 := by decide
  have h1 : ¬ trapD 7 w := no_trap (by omega) (by omega)
  by_cases h : w < 0 ∨ 63 < w
  · have e : doneR 7 1 v w = [0, 0, 1] := by
      have h2 : undD 7 1 v w := .inr ⟨by omega, by rw [et]; exact h⟩
      have h3 : doneV 7 1 v w = 0 := by unfold doneV; rw [if_neg (by omega), if_pos (.inr h2)]
      unfold doneR
      rw [h3, if_neg h1, if_pos h2]
    rw [e]
    rcases h with h | h
    · simp [t16, T.den, B.den, A.den, E.den, Cm.den, h]
    · have n1 : ¬ w < 0 := by omega
      have n2 : ¬ w < 64 := by omega
      have n3 : 64 ≤ w := by omega
      simp [t16, T.den, B.den, A.den, E.den, Cm.den, n1, n2, n3]
  · have e : doneR 7 1 v w = [shrF v w, 0, 0] := by
      have h2 : ¬ undD 7 1 v w := by unfold undD; rw [et]; omega
      have h3 : doneV 7 1 v w = shrF v w := by rw [done_res (by omega) h1 h2]; rfl
      unfold doneR
      rw [h3, if_neg h1, if_neg h2]
    rw [e]
    have n2 : w < 64 := by omega
    have n3 : ¬ 64 ≤ w := by omega
    have n1 : ¬ w < 0 := by omega
    have r1 : w % 18446744073709551616 = w := by unfold inI at hw; omega
    have s1 : ∀ x : Int, x * 2 ^ (min w.toNat IntKind.i64.bits) = shlF x w := fun x => mul_shl x (by omega) (by omega)
    have s2 : ∀ x, Int.fdiv x (2 ^ (min w.toNat IntKind.i64.bits)) = shrF x w := fun x => fdiv_shr x (by omega) (by omega)
    simp [t16, T.den, B.den, A.den, E.den, Cm.den, n1, n2, n3, r1, wrap64, wrapU, s1, s2, and255]
theorem c16x7k2 {F : Nat → List Int → Option (List Int)} {v w : Int} (g14 : F 14 = holdsS) (hv : inI v) (hw : inI w) : t16.den F 0 [7, 2, v, w] = some (0, doneR 7 2 v w) := by
  have et : topK 2 = 7 := by decide
  have h1 : ¬ trapD 7 w := no_trap (by omega) (by omega)
  by_cases h : w < 0 ∨ 7 < w
  · have e : doneR 7 2 v w = [0, 0, 1] := by
      have h2 : undD 7 2 v w := .inr ⟨by omega, by rw [et]; exact h⟩
      have h3 : doneV 7 2 v w = 0 := by unfold doneV; rw [if_neg (by omega), if_pos (.inr h2)]
      unfold doneR
      rw [h3, if_neg h1, if_pos h2]
    rw [e]
    rcases h with h | h
    · simp [t16, T.den, B.den, A.den, E.den, Cm.den, h]
    · have n1 : ¬ w < 0 := by omega
      have n2 : ¬ w < 8 := by omega
      have n3 : 8 ≤ w := by omega
      simp [t16, T.den, B.den, A.den, E.den, Cm.den, n1, n2, n3]
  · have e : doneR 7 2 v w = [(shrF v w) % 256, 0, 0] := by
      have h2 : ¬ undD 7 2 v w := by unfold undD; rw [et]; omega
      have h3 : doneV 7 2 v w = (shrF v w) % 256 := by rw [done_res (by omega) h1 h2]; rfl
      unfold doneR
      rw [h3, if_neg h1, if_neg h2]
    rw [e]
    have n2 : w < 8 := by omega
    have n3 : ¬ 8 ≤ w := by omega
    have n1 : ¬ w < 0 := by omega
    have r1 : w % 18446744073709551616 = w := by unfold inI at hw; omega
    have s1 : ∀ x : Int, x * 2 ^ (min w.toNat IntKind.i64.bits) = shlF x w := fun x => mul_shl x (by omega) (by omega)
    have s2 : ∀ x, Int.fdiv x (2 ^ (min w.toNat IntKind.i64.bits)) = shrF x w := fun x => fdiv_shr x (by omega) (by omega)
    simp [t16, T.den, B.den, A.den, E.den, Cm.den, n1, n2, n3, r1, wrap64, wrapU, s1, s2, and255]
theorem c16x8k1 {F : Nat → List Int → Option (List Int)} {v w : Int} (g14 : F 14 = holdsS) (hv : inI v) (hw : inI w) : t16.den F 0 [8, 1, v, w] = some (0, doneR 8 1 v w) := by
  have e : doneR 8 1 v w = [andB v w, 0, 0] := by
    have h3 : doneV 8 1 v w = andB v w := by rw [done_plain (by omega) (by omega) (by omega) (by omega) (by omega)]; rfl
    unfold doneR
    rw [h3, if_neg (no_trap (by omega) (by omega)), if_neg (no_und (by omega) (by omega) (by omega) (by omega))]
  rw [e]
  simp [t16, T.den, B.den, A.den, E.den, Cm.den, wrap64, and255, and255a, d_and, d_xor, d_or, mx_eq]
theorem c16x8k2 {F : Nat → List Int → Option (List Int)} {v w : Int} (g14 : F 14 = holdsS) (hv : inI v) (hw : inI w) : t16.den F 0 [8, 2, v, w] = some (0, doneR 8 2 v w) := by
  have e : doneR 8 2 v w = [(andB v w) % 256, 0, 0] := by
    have h3 : doneV 8 2 v w = (andB v w) % 256 := by rw [done_plain (by omega) (by omega) (by omega) (by omega) (by omega)]; rfl
    unfold doneR
    rw [h3, if_neg (no_trap (by omega) (by omega)), if_neg (no_und (by omega) (by omega) (by omega) (by omega))]
  rw [e]
  simp [t16, T.den, B.den, A.den, E.den, Cm.den, wrap64, and255, and255a, d_and, d_xor, d_or, mx_eq]
theorem c16x9k1 {F : Nat → List Int → Option (List Int)} {v w : Int} (g14 : F 14 = holdsS) (hv : inI v) (hw : inI w) : t16.den F 0 [9, 1, v, w] = some (0, doneR 9 1 v w) := by
  have e : doneR 9 1 v w = [xorB v w, 0, 0] := by
    have h3 : doneV 9 1 v w = xorB v w := by rw [done_plain (by omega) (by omega) (by omega) (by omega) (by omega)]; rfl
    unfold doneR
    rw [h3, if_neg (no_trap (by omega) (by omega)), if_neg (no_und (by omega) (by omega) (by omega) (by omega))]
  rw [e]
  simp [t16, T.den, B.den, A.den, E.den, Cm.den, wrap64, and255, and255a, d_and, d_xor, d_or, mx_eq]
theorem c16x9k2 {F : Nat → List Int → Option (List Int)} {v w : Int} (g14 : F 14 = holdsS) (hv : inI v) (hw : inI w) : t16.den F 0 [9, 2, v, w] = some (0, doneR 9 2 v w) := by
  have e : doneR 9 2 v w = [(xorB v w) % 256, 0, 0] := by
    have h3 : doneV 9 2 v w = (xorB v w) % 256 := by rw [done_plain (by omega) (by omega) (by omega) (by omega) (by omega)]; rfl
    unfold doneR
    rw [h3, if_neg (no_trap (by omega) (by omega)), if_neg (no_und (by omega) (by omega) (by omega) (by omega))]
  rw [e]
  simp [t16, T.den, B.den, A.den, E.den, Cm.den, wrap64, and255, and255a, d_and, d_xor, d_or, mx_eq]
theorem c16x10k1 {F : Nat → List Int → Option (List Int)} {v w : Int} (g14 : F 14 = holdsS) (hv : inI v) (hw : inI w) : t16.den F 0 [10, 1, v, w] = some (0, doneR 10 1 v w) := by
  have e : doneR 10 1 v w = [orB v w, 0, 0] := by
    have h3 : doneV 10 1 v w = orB v w := by rw [done_plain (by omega) (by omega) (by omega) (by omega) (by omega)]; rfl
    unfold doneR
    rw [h3, if_neg (no_trap (by omega) (by omega)), if_neg (no_und (by omega) (by omega) (by omega) (by omega))]
  rw [e]
  simp [t16, T.den, B.den, A.den, E.den, Cm.den, wrap64, and255, and255a, d_and, d_xor, d_or, mx_eq]
theorem c16x10k2 {F : Nat → List Int → Option (List Int)} {v w : Int} (g14 : F 14 = holdsS) (hv : inI v) (hw : inI w) : t16.den F 0 [10, 2, v, w] = some (0, doneR 10 2 v w) := by
  have e : doneR 10 2 v w = [(orB v w) % 256, 0, 0] := by
    have h3 : doneV 10 2 v w = (orB v w) % 256 := by rw [done_plain (by omega) (by omega) (by omega) (by omega) (by omega)]; rfl
    unfold doneR
    rw [h3, if_neg (no_trap (by omega) (by omega)), if_neg (no_und (by omega) (by omega) (by omega) (by omega))]
  rw [e]
  simp [t16, T.den, B.den, A.den, E.den, Cm.den, wrap64, and255, and255a, d_and, d_xor, d_or, mx_eq]
theorem c16x11k1 {F : Nat → List Int → Option (List Int)} {v w : Int} (g14 : F 14 = holdsS) (hv : inI v) (hw : inI w) : t16.den F 0 [11, 1, v, w] = some (0, doneR 11 1 v w) := by
  have f14 : F 14 [11, v, w] = some [if holdsP 11 v w then 1 else 0] := by rw [g14]; rfl
  have e : doneR 11 1 v w = [if holdsP 11 v w then 1 else 0, 0, 0] := rfl
  rw [e]
  by_cases h : holdsP 11 v w
  · rw [if_pos h] at f14 ⊢
    simp [t16, T.den, B.den, A.den, E.den, Cm.den, f14]
  · rw [if_neg h] at f14 ⊢
    simp [t16, T.den, B.den, A.den, E.den, Cm.den, f14]
theorem c16x11k2 {F : Nat → List Int → Option (List Int)} {v w : Int} (g14 : F 14 = holdsS) (hv : inI v) (hw : inI w) : t16.den F 0 [11, 2, v, w] = some (0, doneR 11 2 v w) := by
  have f14 : F 14 [11, v, w] = some [if holdsP 11 v w then 1 else 0] := by rw [g14]; rfl
  have e : doneR 11 2 v w = [if holdsP 11 v w then 1 else 0, 0, 0] := rfl
  rw [e]
  by_cases h : holdsP 11 v w
  · rw [if_pos h] at f14 ⊢
    simp [t16, T.den, B.den, A.den, E.den, Cm.den, f14]
  · rw [if_neg h] at f14 ⊢
    simp [t16, T.den, B.den, A.den, E.den, Cm.den, f14]
theorem c16x11k3 {F : Nat → List Int → Option (List Int)} {v w : Int} (g14 : F 14 = holdsS) (hv : inI v) (hw : inI w) : t16.den F 0 [11, 3, v, w] = some (0, doneR 11 3 v w) := by
  have f14 : F 14 [11, v, w] = some [if holdsP 11 v w then 1 else 0] := by rw [g14]; rfl
  have e : doneR 11 3 v w = [if holdsP 11 v w then 1 else 0, 0, 0] := rfl
  rw [e]
  by_cases h : holdsP 11 v w
  · rw [if_pos h] at f14 ⊢
    simp [t16, T.den, B.den, A.den, E.den, Cm.den, f14]
  · rw [if_neg h] at f14 ⊢
    simp [t16, T.den, B.den, A.den, E.den, Cm.den, f14]
theorem c16x12k1 {F : Nat → List Int → Option (List Int)} {v w : Int} (g14 : F 14 = holdsS) (hv : inI v) (hw : inI w) : t16.den F 0 [12, 1, v, w] = some (0, doneR 12 1 v w) := by
  have f14 : F 14 [12, v, w] = some [if holdsP 12 v w then 1 else 0] := by rw [g14]; rfl
  have e : doneR 12 1 v w = [if holdsP 12 v w then 1 else 0, 0, 0] := rfl
  rw [e]
  by_cases h : holdsP 12 v w
  · rw [if_pos h] at f14 ⊢
    simp [t16, T.den, B.den, A.den, E.den, Cm.den, f14]
  · rw [if_neg h] at f14 ⊢
    simp [t16, T.den, B.den, A.den, E.den, Cm.den, f14]
theorem c16x12k2 {F : Nat → List Int → Option (List Int)} {v w : Int} (g14 : F 14 = holdsS) (hv : inI v) (hw : inI w) : t16.den F 0 [12, 2, v, w] = some (0, doneR 12 2 v w) := by
  have f14 : F 14 [12, v, w] = some [if holdsP 12 v w then 1 else 0] := by rw [g14]; rfl
  have e : doneR 12 2 v w = [if holdsP 12 v w then 1 else 0, 0, 0] := rfl
  rw [e]
  by_cases h : holdsP 12 v w
  · rw [if_pos h] at f14 ⊢
    simp [t16, T.den, B.den, A.den, E.den, Cm.den, f14]
  · rw [if_neg h] at f14 ⊢
    simp [t16, T.den, B.den, A.den, E.den, Cm.den, f14]
theorem c16x12k3 {F : Nat → List Int → Option (List Int)} {v w : Int} (g14 : F 14 = holdsS) (hv : inI v) (hw : inI w) : t16.den F 0 [12, 3, v, w] = some (0, doneR 12 3 v w) := by
  have f14 : F 14 [12, v, w] = some [if holdsP 12 v w then 1 else 0] := by rw [g14]; rfl
  have e : doneR 12 3 v w = [if holdsP 12 v w then 1 else 0, 0, 0] := rfl
  rw [e]
  by_cases h : holdsP 12 v w
  · rw [if_pos h] at f14 ⊢
    simp [t16, T.den, B.den, A.den, E.den, Cm.den, f14]
  · rw [if_neg h] at f14 ⊢
    simp [t16, T.den, B.den, A.den, E.den, Cm.den, f14]
theorem c16x13k1 {F : Nat → List Int → Option (List Int)} {v w : Int} (g14 : F 14 = holdsS) (hv : inI v) (hw : inI w) : t16.den F 0 [13, 1, v, w] = some (0, doneR 13 1 v w) := by
  have f14 : F 14 [13, v, w] = some [if holdsP 13 v w then 1 else 0] := by rw [g14]; rfl
  have e : doneR 13 1 v w = [if holdsP 13 v w then 1 else 0, 0, 0] := rfl
  rw [e]
  by_cases h : holdsP 13 v w
  · rw [if_pos h] at f14 ⊢
    simp [t16, T.den, B.den, A.den, E.den, Cm.den, f14]
  · rw [if_neg h] at f14 ⊢
    simp [t16, T.den, B.den, A.den, E.den, Cm.den, f14]
theorem c16x13k2 {F : Nat → List Int → Option (List Int)} {v w : Int} (g14 : F 14 = holdsS) (hv : inI v) (hw : inI w) : t16.den F 0 [13, 2, v, w] = some (0, doneR 13 2 v w) := by
  have f14 : F 14 [13, v, w] = some [if holdsP 13 v w then 1 else 0] := by rw [g14]; rfl
  have e : doneR 13 2 v w = [if holdsP 13 v w then 1 else 0, 0, 0] := rfl
  rw [e]
  by_cases h : holdsP 13 v w
  · rw [if_pos h] at f14 ⊢
    simp [t16, T.den, B.den, A.den, E.den, Cm.den, f14]
  · rw [if_neg h] at f14 ⊢
    simp [t16, T.den, B.den, A.den, E.den, Cm.den, f14]
theorem c16x14k1 {F : Nat → List Int → Option (List Int)} {v w : Int} (g14 : F 14 = holdsS) (hv : inI v) (hw : inI w) : t16.den F 0 [14, 1, v, w] = some (0, doneR 14 1 v w) := by
  have f14 : F 14 [14, v, w] = some [if holdsP 14 v w then 1 else 0] := by rw [g14]; rfl
  have e : doneR 14 1 v w = [if holdsP 14 v w then 1 else 0, 0, 0] := rfl
  rw [e]
  by_cases h : holdsP 14 v w
  · rw [if_pos h] at f14 ⊢
    simp [t16, T.den, B.den, A.den, E.den, Cm.den, f14]
  · rw [if_neg h] at f14 ⊢
    simp [t16, T.den, B.den, A.den, E.den, Cm.den, f14]
theorem c16x14k2 {F : Nat → List Int → Option (List Int)} {v w : Int} (g14 : F 14 = holdsS) (hv : inI v) (hw : inI w) : t16.den F 0 [14, 2, v, w] = some (0, doneR 14 2 v w) := by
  have f14 : F 14 [14, v, w] = some [if holdsP 14 v w then 1 else 0] := by rw [g14]; rfl
  have e : doneR 14 2 v w = [if holdsP 14 v w then 1 else 0, 0, 0] := rfl
  rw [e]
  by_cases h : holdsP 14 v w
  · rw [if_pos h] at f14 ⊢
    simp [t16, T.den, B.den, A.den, E.den, Cm.den, f14]
  · rw [if_neg h] at f14 ⊢
    simp [t16, T.den, B.den, A.den, E.den, Cm.den, f14]
theorem c16x15k1 {F : Nat → List Int → Option (List Int)} {v w : Int} (g14 : F 14 = holdsS) (hv : inI v) (hw : inI w) : t16.den F 0 [15, 1, v, w] = some (0, doneR 15 1 v w) := by
  have f14 : F 14 [15, v, w] = some [if holdsP 15 v w then 1 else 0] := by rw [g14]; rfl
  have e : doneR 15 1 v w = [if holdsP 15 v w then 1 else 0, 0, 0] := rfl
  rw [e]
  by_cases h : holdsP 15 v w
  · rw [if_pos h] at f14 ⊢
    simp [t16, T.den, B.den, A.den, E.den, Cm.den, f14]
  · rw [if_neg h] at f14 ⊢
    simp [t16, T.den, B.den, A.den, E.den, Cm.den, f14]
theorem c16x15k2 {F : Nat → List Int → Option (List Int)} {v w : Int} (g14 : F 14 = holdsS) (hv : inI v) (hw : inI w) : t16.den F 0 [15, 2, v, w] = some (0, doneR 15 2 v w) := by
  have f14 : F 14 [15, v, w] = some [if holdsP 15 v w then 1 else 0] := by rw [g14]; rfl
  have e : doneR 15 2 v w = [if holdsP 15 v w then 1 else 0, 0, 0] := rfl
  rw [e]
  by_cases h : holdsP 15 v w
  · rw [if_pos h] at f14 ⊢
    simp [t16, T.den, B.den, A.den, E.den, Cm.den, f14]
  · rw [if_neg h] at f14 ⊢
    simp [t16, T.den, B.den, A.den, E.den, Cm.den, f14]
theorem c16x16k1 {F : Nat → List Int → Option (List Int)} {v w : Int} (g14 : F 14 = holdsS) (hv : inI v) (hw : inI w) : t16.den F 0 [16, 1, v, w] = some (0, doneR 16 1 v w) := by
  have f14 : F 14 [16, v, w] = some [if holdsP 16 v w then 1 else 0] := by rw [g14]; rfl
  have e : doneR 16 1 v w = [if holdsP 16 v w then 1 else 0, 0, 0] := rfl
  rw [e]
  by_cases h : holdsP 16 v w
  · rw [if_pos h] at f14 ⊢
    simp [t16, T.den, B.den, A.den, E.den, Cm.den, f14]
  · rw [if_neg h] at f14 ⊢
    simp [t16, T.den, B.den, A.den, E.den, Cm.den, f14]
theorem c16x16k2 {F : Nat → List Int → Option (List Int)} {v w : Int} (g14 : F 14 = holdsS) (hv : inI v) (hw : inI w) : t16.den F 0 [16, 2, v, w] = some (0, doneR 16 2 v w) := by
  have f14 : F 14 [16, v, w] = some [if holdsP 16 v w then 1 else 0] := by rw [g14]; rfl
  have e : doneR 16 2 v w = [if holdsP 16 v w then 1 else 0, 0, 0] := rfl
  rw [e]
  by_cases h : holdsP 16 v w
  · rw [if_pos h] at f14 ⊢
    simp [t16, T.den, B.den, A.den, E.den, Cm.den, f14]
  · rw [if_neg h] at f14 ⊢
    simp [t16, T.den, B.den, A.den, E.den, Cm.den, f14]
theorem c16x17k3 {F : Nat → List Int → Option (List Int)} {v w : Int} (g14 : F 14 = holdsS) (hv : inI v) (hw : inI w) : t16.den F 0 [17, 3, v, w] = some (0, doneR 17 3 v w) := by
  have e : doneR 17 3 v w = [w64 (v * w), 0, 0] := by
    have h3 : doneV 17 3 v w = w64 (v * w) := by rw [done_plain (by omega) (by omega) (by omega) (by omega) (by omega)]; rfl
    unfold doneR
    rw [h3, if_neg (no_trap (by omega) (by omega)), if_neg (no_und (by omega) (by omega) (by omega) (by omega))]
  rw [e]
  simp [t16, T.den, B.den, A.den, E.den, Cm.den, wrap64, and255, and255a, d_and, d_xor, d_or, mx_eq]
theorem c16x18k3 {F : Nat → List Int → Option (List Int)} {v w : Int} (g14 : F 14 = holdsS) (hv : inI v) (hw : inI w) : t16.den F 0 [18, 3, v, w] = some (0, doneR 18 3 v w) := by
  have e : doneR 18 3 v w = [max v w, 0, 0] := by
    have h3 : doneV 18 3 v w = max v w := by rw [done_plain (by omega) (by omega) (by omega) (by omega) (by omega)]; rfl
    unfold doneR
    rw [h3, if_neg (no_trap (by omega) (by omega)), if_neg (no_und (by omega) (by omega) (by omega) (by omega))]
  rw [e]
  simp [t16, T.den, B.den, A.den, E.den, Cm.den, wrap64, and255, and255a, d_and, d_xor, d_or, mx_eq]
def p16 : Sp := (16, sg16, doneS)
theorem e16 : Ent p16 := ent_of unAll (l := [p14]) (ents_cons e14 ents_nil) q16 fun args rs h hl => by
  match args, hl with
  | [op, k, v, w], _ =>
    simp only [doneS] at h
    split at h
    · rename_i hr
      cases h
      obtain ⟨hv, hw, hf⟩ := hr
      refine ⟨0, ?_⟩
      unfold fitsB at hf
      have hk : k = 1 ∨ k = 2 ∨ k = 3 := by omega
      rcases hk with rfl | rfl | rfl
      · rcases (show op = 1 ∨ op = 2 ∨ op = 3 ∨ op = 4 ∨ op = 5 ∨ op = 6 ∨ op = 7 ∨ op = 8 ∨ op = 9 ∨ op = 10 ∨ op = 11 ∨ op = 12 ∨ op = 13 ∨ op = 14 ∨ op = 15 ∨ op = 16 by omega) with rfl | rfl | rfl | rfl | rfl | rfl | rfl | rfl | rfl | rfl | rfl | rfl | rfl | rfl | rfl | rfl
        · exact c16x1k1 rfl hv hw
        · exact c16x2k1 rfl hv hw
        · exact c16x3k1 rfl hv hw
        · exact c16x4k1 rfl hv hw
        · exact c16x5k1 rfl hv hw
        · exact c16x6k1 rfl hv hw
        · exact c16x7k1 rfl hv hw
        · exact c16x8k1 rfl hv hw
        · exact c16x9k1 rfl hv hw
        · exact c16x10k1 rfl hv hw
        · exact c16x11k1 rfl hv hw
        · exact c16x12k1 rfl hv hw
        · exact c16x13k1 rfl hv hw
        · exact c16x14k1 rfl hv hw
        · exact c16x15k1 rfl hv hw
        · exact c16x16k1 rfl hv hw
      · rcases (show op = 1 ∨ op = 2 ∨ op = 3 ∨ op = 4 ∨ op = 5 ∨ op = 6 ∨ op = 7 ∨ op = 8 ∨ op = 9 ∨ op = 10 ∨ op = 11 ∨ op = 12 ∨ op = 13 ∨ op = 14 ∨ op = 15 ∨ op = 16 by omega) with rfl | rfl | rfl | rfl | rfl | rfl | rfl | rfl | rfl | rfl | rfl | rfl | rfl | rfl | rfl | rfl
        · exact c16x1k2 rfl hv hw
        · exact c16x2k2 rfl hv hw
        · exact c16x3k2 rfl hv hw
        · exact c16x4k2 rfl hv hw
        · exact c16x5k2 rfl hv hw
        · exact c16x6k2 rfl hv hw
        · exact c16x7k2 rfl hv hw
        · exact c16x8k2 rfl hv hw
        · exact c16x9k2 rfl hv hw
        · exact c16x10k2 rfl hv hw
        · exact c16x11k2 rfl hv hw
        · exact c16x12k2 rfl hv hw
        · exact c16x13k2 rfl hv hw
        · exact c16x14k2 rfl hv hw
        · exact c16x15k2 rfl hv hw
        · exact c16x16k2 rfl hv hw
      · rcases (show op = 11 ∨ op = 12 ∨ op = 17 ∨ op = 18 by omega) with rfl | rfl | rfl | rfl
        · exact c16x11k3 rfl hv hw
        · exact c16x12k3 rfl hv hw
        · exact c16x17k3 rfl hv hw
        · exact c16x18k3 rfl hv hw
    · cases h
end Go.SXR
