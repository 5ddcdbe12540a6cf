/- RANGES: plain facts on products, quotients, remainders and shifts of numbers of two intervals. -/
import Derived.Test.YtncaejnkpmmoeaaDoorSxRX
set_option linter.unusedVariables false
set_option linter.unusedSimpArgs false
namespace Go.SXR

/-! ### Least and greatest of four -/
def lo4 (p q r s : Int) : Int := min (min (min p q) r) s
def hi4 (p q r s : Int) : Int := max (max (max p q) r) s
/-- Between two numbers, whichever is the greater one. -/
def Btw (x y z : Int) : Prop := min x z ≤ y ∧ y ≤ max x z
theorem Btw.of_le {x y z : Int} (h1 : x ≤ y) (h2 : y ≤ z) : Btw x y z := by unfold Btw; omega
theorem Btw.of_ge {x y z : Int} (h1 : z ≤ y) (h2 : y ≤ x) : Btw x y z := by unfold Btw; omega
/-- The extremes of a function over some pairs. -/
structure Ext (f : Int → Int → Int) (S : Int → Int → Prop) (lo hi : Int) : Prop where
  all : ∀ v w, S v w → lo ≤ f v w ∧ f v w ≤ hi
  low : ∃ v w, S v w ∧ f v w = lo
  high : ∃ v w, S v w ∧ f v w = hi
theorem Ext.uniq {f : Int → Int → Int} {S : Int → Int → Prop} {lo hi lo' hi' : Int} (h : Ext f S lo hi) (h' : Ext f S lo' hi') : lo = lo' ∧ hi = hi' := by
  obtain ⟨v1, w1, s1, e1⟩ := h.low
  obtain ⟨v2, w2, s2, e2⟩ := h'.low
  obtain ⟨v3, w3, s3, e3⟩ := h.high
  obtain ⟨v4, w4, s4, e4⟩ := h'.high
  have a1 := h'.all v1 w1 s1
  have a2 := h.all v2 w2 s2
  have a3 := h'.all v3 w3 s3
  have a4 := h.all v4 w4 s4
  omega
theorem Ext.mono {f : Int → Int → Int} {S S' : Int → Int → Prop} {lo hi lo' hi' : Int} (h : Ext f S lo hi) (h' : Ext f S' lo' hi') (hs : ∀ v w, S v w → S' v w) : lo' ≤ lo ∧ hi ≤ hi' := by
  obtain ⟨v1, w1, s1, e1⟩ := h.low
  obtain ⟨v3, w3, s3, e3⟩ := h.high
  have a1 := h'.all v1 w1 (hs _ _ s1)
  have a3 := h'.all v3 w3 (hs _ _ s3)
  omega
theorem Ext.le {f : Int → Int → Int} {S : Int → Int → Prop} {lo hi : Int} (h : Ext f S lo hi) : lo ≤ hi := by
  obtain ⟨v1, w1, s1, e1⟩ := h.low
  have a1 := h.all v1 w1 s1
  omega
theorem Ext.union {f : Int → Int → Int} {S S' U : Int → Int → Prop} {lo hi lo' hi' : Int} (h : Ext f S lo hi) (h' : Ext f S' lo' hi') (hu : ∀ v w, U v w ↔ S v w ∨ S' v w) : Ext f U (min lo lo') (max hi hi') := by
  refine ⟨fun v w hv => ?_, ?_, ?_⟩
  · rcases (hu v w).1 hv with hs | hs
    · have := h.all v w hs; omega
    · have := h'.all v w hs; omega
  · rcases Int.le_total lo lo' with hl | hl
    · obtain ⟨v, w, hs, e⟩ := h.low
      exact ⟨v, w, (hu v w).2 (.inl hs), by omega⟩
    · obtain ⟨v, w, hs, e⟩ := h'.low
      exact ⟨v, w, (hu v w).2 (.inr hs), by omega⟩
  · rcases Int.le_total hi hi' with hl | hl
    · obtain ⟨v, w, hs, e⟩ := h'.high
      exact ⟨v, w, (hu v w).2 (.inr hs), by omega⟩
    · obtain ⟨v, w, hs, e⟩ := h.high
      exact ⟨v, w, (hu v w).2 (.inl hs), by omega⟩
theorem Ext.congr {f : Int → Int → Int} {S S' : Int → Int → Prop} {lo hi : Int} (h : Ext f S lo hi) (hu : ∀ v w, S' v w ↔ S v w) : Ext f S' lo hi := by
  refine ⟨fun v w hv => h.all v w ((hu v w).1 hv), ?_, ?_⟩
  · obtain ⟨v, w, hs, e⟩ := h.low; exact ⟨v, w, (hu v w).2 hs, e⟩
  · obtain ⟨v, w, hs, e⟩ := h.high; exact ⟨v, w, (hu v w).2 hs, e⟩
/-- A box of pairs. -/
def Box (a b c d : Int) (v w : Int) : Prop := (a ≤ v ∧ v ≤ b) ∧ c ≤ w ∧ w ≤ d
theorem ext_box {f : Int → Int → Int} {a b c d : Int} (hab : a ≤ b) (hcd : c ≤ d) (h1 : ∀ v w, Box a b c d v w → Btw (f a w) (f v w) (f b w)) (h2 : ∀ v w, Box a b c d v w → Btw (f v c) (f v w) (f v d)) :
    Ext f (Box a b c d) (lo4 (f a c) (f a d) (f b c) (f b d)) (hi4 (f a c) (f a d) (f b c) (f b d)) := by
  have ba : ∀ w, c ≤ w → w ≤ d → Box a b c d a w := fun w p q => ⟨⟨Int.le_refl _, hab⟩, p, q⟩
  have bb : ∀ w, c ≤ w → w ≤ d → Box a b c d b w := fun w p q => ⟨⟨hab, Int.le_refl _⟩, p, q⟩
  refine ⟨fun v w hv => ?_, ?_, ?_⟩
  · have g1 := h1 v w hv
    have g2 := h2 a w (ba w hv.2.1 hv.2.2)
    have g3 := h2 b w (bb w hv.2.1 hv.2.2)
    unfold Btw at g1 g2 g3
    unfold lo4 hi4
    omega
  · have : lo4 (f a c) (f a d) (f b c) (f b d) = f a c ∨ lo4 (f a c) (f a d) (f b c) (f b d) = f a d ∨ lo4 (f a c) (f a d) (f b c) (f b d) = f b c ∨ lo4 (f a c) (f a d) (f b c) (f b d) = f b d := by unfold lo4; omega
    rcases this with h | h | h | h <;> rw [h]
    · exact ⟨a, c, ba c (Int.le_refl _) hcd, rfl⟩
    · exact ⟨a, d, ba d hcd (Int.le_refl _), rfl⟩
    · exact ⟨b, c, bb c (Int.le_refl _) hcd, rfl⟩
    · exact ⟨b, d, bb d hcd (Int.le_refl _), rfl⟩
  · have : hi4 (f a c) (f a d) (f b c) (f b d) = f a c ∨ hi4 (f a c) (f a d) (f b c) (f b d) = f a d ∨ hi4 (f a c) (f a d) (f b c) (f b d) = f b c ∨ hi4 (f a c) (f a d) (f b c) (f b d) = f b d := by unfold hi4; omega
    rcases this with h | h | h | h <;> rw [h]
    · exact ⟨a, c, ba c (Int.le_refl _) hcd, rfl⟩
    · exact ⟨a, d, ba d hcd (Int.le_refl _), rfl⟩
    · exact ⟨b, c, bb c (Int.le_refl _) hcd, rfl⟩
    · exact ⟨b, d, bb d hcd (Int.le_refl _), rfl⟩

/-! ### Sums, differences, products -/
theorem btw_mulR {a v b : Int} (w : Int) (h1 : a ≤ v) (h2 : v ≤ b) : Btw (a * w) (v * w) (b * w) := by
  rcases Int.le_total 0 w with h | h
  · exact .of_le (Int.mul_le_mul_of_nonneg_right h1 h) (Int.mul_le_mul_of_nonneg_right h2 h)
  · exact .of_ge (Int.mul_le_mul_of_nonpos_right h2 h) (Int.mul_le_mul_of_nonpos_right h1 h)
theorem btw_mulL {c w d : Int} (v : Int) (h1 : c ≤ w) (h2 : w ≤ d) : Btw (v * c) (v * w) (v * d) := by
  have := btw_mulR v h1 h2
  rwa [Int.mul_comm c, Int.mul_comm w, Int.mul_comm d] at this
theorem ext_mul {a b c d : Int} (hab : a ≤ b) (hcd : c ≤ d) : Ext (· * ·) (Box a b c d) (lo4 (a * c) (a * d) (b * c) (b * d)) (hi4 (a * c) (a * d) (b * c) (b * d)) :=
  ext_box hab hcd (fun v w h => btw_mulR w h.1.1 h.1.2) (fun v w h => btw_mulL v h.2.1 h.2.2)
theorem ext_add {a b c d : Int} (hab : a ≤ b) (hcd : c ≤ d) : Ext (· + ·) (Box a b c d) (a + c) (b + d) :=
  ⟨fun v w h => by unfold Box at h; omega, ⟨a, c, by unfold Box; omega, rfl⟩, ⟨b, d, by unfold Box; omega, rfl⟩⟩
theorem ext_sub {a b c d : Int} (hab : a ≤ b) (hcd : c ≤ d) : Ext (· - ·) (Box a b c d) (a - d) (b - c) :=
  ⟨fun v w h => by unfold Box at h; omega, ⟨a, d, by unfold Box; omega, rfl⟩, ⟨b, c, by unfold Box; omega, rfl⟩⟩

/-! ### Quotients -/
theorem tdiv_mono {u v w : Int} (h : u ≤ v) (hw : 0 < w) : u.tdiv w ≤ v.tdiv w := Int.tdiv_le_tdiv hw h
theorem btw_divR {a v b w : Int} (h1 : a ≤ v) (h2 : v ≤ b) (hw : w ≠ 0) : Btw (a.tdiv w) (v.tdiv w) (b.tdiv w) := by
  rcases Int.lt_or_gt_of_ne hw with h | h
  · have e : ∀ x : Int, x.tdiv w = - (x.tdiv (-w)) := fun x => by rw [Int.tdiv_neg, Int.neg_neg]
    rw [e a, e v, e b]
    have := tdiv_mono h1 (show 0 < -w by omega)
    have := tdiv_mono h2 (show 0 < -w by omega)
    exact .of_ge (by omega) (by omega)
  · exact .of_le (tdiv_mono h1 h) (tdiv_mono h2 h)
theorem div_anti {v w1 w2 : Int} (hv : 0 ≤ v) (h1 : 0 < w1) (h : w1 ≤ w2) : v.tdiv w2 ≤ v.tdiv w1 := by
  obtain ⟨n, rfl⟩ := Int.eq_ofNat_of_zero_le hv
  obtain ⟨p, rfl⟩ := Int.eq_ofNat_of_zero_le (Int.le_of_lt h1)
  obtain ⟨q, rfl⟩ := Int.eq_ofNat_of_zero_le (show 0 ≤ w2 by omega)
  rw [← Int.ofNat_tdiv, ← Int.ofNat_tdiv]
  exact Int.ofNat_le.2 (Nat.div_le_div_left (by omega) (by omega))
theorem btw_divL_pos {v c w d : Int} (hc : 0 < c) (h1 : c ≤ w) (h2 : w ≤ d) : Btw (v.tdiv c) (v.tdiv w) (v.tdiv d) := by
  rcases Int.le_total 0 v with h | h
  · exact .of_ge (div_anti h (by omega) h2) (div_anti h hc h1)
  · have e : ∀ x : Int, v.tdiv x = - ((-v).tdiv x) := fun x => by rw [Int.neg_tdiv, Int.neg_neg]
    rw [e c, e w, e d]
    have := div_anti (v := -v) (by omega) (show 0 < w by omega) h2
    have := div_anti (v := -v) (by omega) hc h1
    exact .of_le (by omega) (by omega)
theorem btw_divL_neg {v c w d : Int} (hd : d < 0) (h1 : c ≤ w) (h2 : w ≤ d) : Btw (v.tdiv c) (v.tdiv w) (v.tdiv d) := by
  have e : ∀ x : Int, v.tdiv x = - (v.tdiv (-x)) := fun x => by rw [Int.tdiv_neg, Int.neg_neg]
  rw [e c, e w, e d]
  have := btw_divL_pos (v := v) (c := -d) (w := -w) (d := -c) (by omega) (by omega) (by omega)
  unfold Btw at *
  omega
theorem ext_div {a b c d : Int} (hab : a ≤ b) (hcd : c ≤ d) (h : 0 < c ∨ d < 0) : Ext Int.tdiv (Box a b c d) (lo4 (a.tdiv c) (a.tdiv d) (b.tdiv c) (b.tdiv d)) (hi4 (a.tdiv c) (a.tdiv d) (b.tdiv c) (b.tdiv d)) :=
  ext_box hab hcd (fun v w hb => btw_divR hb.1.1 hb.1.2 (by unfold Box at hb; omega)) (fun v w hb => h.elim (fun h => btw_divL_pos h hb.2.1 hb.2.2) (fun h => btw_divL_neg h hb.2.1 hb.2.2))

/-! ### Remainders -/
theorem tmod_bounds (v w : Int) (hw : w ≠ 0) : (0 ≤ v → 0 ≤ v.tmod w ∧ v.tmod w ≤ v) ∧ (v ≤ 0 → v ≤ v.tmod w ∧ v.tmod w ≤ 0) ∧ -(w.natAbs : Int) < v.tmod w ∧ v.tmod w < w.natAbs := by
  have pos : ∀ (n : Nat) (w : Int), w ≠ 0 → 0 ≤ (n : Int).tmod w ∧ (n : Int).tmod w ≤ n ∧ (n : Int).tmod w < w.natAbs := by
    intro n w hw
    have hn : w.natAbs ≠ 0 := Int.natAbs_ne_zero.2 hw
    have e : (n : Int).tmod w = ((n % w.natAbs : Nat) : Int) := by
      rcases Int.le_total 0 w with h | h
      · obtain ⟨m, rfl⟩ := Int.eq_ofNat_of_zero_le h
        rfl
      · obtain ⟨m, hm⟩ := Int.eq_ofNat_of_zero_le (show 0 ≤ -w by omega)
        have : w = -(m : Int) := by omega
        subst this
        rw [Int.tmod_neg]
        simp
        rfl
    rw [e]
    have h1 := Nat.mod_lt n (Nat.pos_of_ne_zero hn)
    have h2 := Nat.mod_le n w.natAbs
    omega
  rcases Int.le_total 0 v with h | h
  · obtain ⟨n, rfl⟩ := Int.eq_ofNat_of_zero_le h
    have := pos n w hw
    refine ⟨fun _ => ⟨this.1, this.2.1⟩, fun h0 => ?_, ?_, this.2.2⟩
    · omega
    · omega
  · obtain ⟨n, hn⟩ := Int.eq_ofNat_of_zero_le (show 0 ≤ -v by omega)
    have hv : v = -(n : Int) := by omega
    subst hv
    have := pos n w hw
    rw [Int.neg_tmod]
    refine ⟨fun h0 => ?_, fun _ => ?_, ?_, ?_⟩ <;> omega
theorem tmod_small {v w : Int} (hw : v.natAbs < w.natAbs) : v.tmod w = v := by
  have h := Int.mul_tdiv_add_tmod v w
  have h0 : v.tdiv w = 0 := by
    have := Int.natAbs_tdiv v w
    have e : v.natAbs.div w.natAbs = 0 := Nat.div_eq_of_lt hw
    rw [e] at this
    exact Int.natAbs_eq_zero.1 this
  rw [h0] at h
  omega

/-! ### Powers of two, shifts -/
def p2 (m : Int) : Int := 2 ^ m.toNat
theorem p2_pos (m : Int) : 0 < p2 m := Int.pow_pos (by decide)
theorem p2_mono {m n : Int} (h : m ≤ n) : p2 m ≤ p2 n := by
  unfold p2
  have : (2 : Nat) ^ m.toNat ≤ 2 ^ n.toNat := Nat.pow_le_pow_right (by decide) (by omega)
  have := Int.ofNat_le.2 this
  simpa using this
theorem btw_shlL {v c w d : Int} (h1 : c ≤ w) (h2 : w ≤ d) : Btw (v * p2 c) (v * p2 w) (v * p2 d) := btw_mulL v (p2_mono h1) (p2_mono h2)
theorem ext_shl {a b c d : Int} (hab : a ≤ b) (hcd : c ≤ d) : Ext (fun v w => v * p2 w) (Box a b c d) (lo4 (a * p2 c) (a * p2 d) (b * p2 c) (b * p2 d)) (hi4 (a * p2 c) (a * p2 d) (b * p2 c) (b * p2 d)) :=
  ext_box (f := fun v w => v * p2 w) hab hcd (fun v w h => btw_mulR _ h.1.1 h.1.2) (fun v w h => btw_shlL h.2.1 h.2.2)
theorem p2_add {m n : Int} (hm : 0 ≤ m) (hn : 0 ≤ n) : p2 (m + n) = p2 m * p2 n := by
  unfold p2
  rw [Int.toNat_add hm hn, Int.pow_add]
theorem ediv_btw0 {x c : Int} (hc : 0 < c) : (0 ≤ x → 0 ≤ x / c ∧ x / c ≤ x) ∧ (x ≤ 0 → x ≤ x / c ∧ x / c ≤ 0) := by
  refine ⟨fun h => ⟨Int.ediv_nonneg h (Int.le_of_lt hc), Int.ediv_le_self c h⟩, fun h => ⟨?_, ?_⟩⟩
  · refine Int.le_ediv_of_mul_le hc ?_
    have := Int.mul_le_mul_of_nonpos_right (show (1 : Int) ≤ c by omega) h
    rw [Int.mul_comm c x] at this
    omega
  · have h0 := Int.ediv_le_ediv hc h
    rw [Int.zero_ediv] at h0
    exact h0
theorem btw_shrL {v c w d : Int} (h0 : 0 ≤ c) (h1 : c ≤ w) (h2 : w ≤ d) : Btw (v / p2 c) (v / p2 w) (v / p2 d) := by
  have step : ∀ m n, 0 ≤ m → m ≤ n → (0 ≤ v → 0 ≤ v / p2 m ∧ v / p2 n ≤ v / p2 m) ∧ (v ≤ 0 → v / p2 m ≤ v / p2 n) := by
    intro m n hm hmn
    have e : p2 n = p2 m * p2 (n - m) := by rw [← p2_add hm (by omega)]; congr 1; omega
    have e2 : v / p2 n = v / p2 m / p2 (n - m) := by rw [e, Int.ediv_ediv_of_nonneg (Int.le_of_lt (p2_pos m))]
    rw [e2]
    have hb := ediv_btw0 (x := v) (p2_pos m)
    have hc := ediv_btw0 (x := v / p2 m) (p2_pos (n - m))
    exact ⟨fun h => ⟨(hb.1 h).1, (hc.1 (hb.1 h).1).2⟩, fun h => (hc.2 (hb.2 h).2).1⟩
  rcases Int.le_total 0 v with h | h
  · exact .of_ge ((step w d (by omega) h2).1 h).2 ((step c w h0 h1).1 h).2
  · exact .of_le ((step c w h0 h1).2 h) ((step w d (by omega) h2).2 h)
theorem ext_shr {a b c d : Int} (hab : a ≤ b) (hcd : c ≤ d) (h0 : 0 ≤ c) : Ext (fun v w => v / p2 w) (Box a b c d) (lo4 (a / p2 c) (a / p2 d) (b / p2 c) (b / p2 d)) (hi4 (a / p2 c) (a / p2 d) (b / p2 c) (b / p2 d)) :=
  ext_box (f := fun v w => v / p2 w) hab hcd (fun v w h => .of_le (Int.ediv_le_ediv (p2_pos w) h.1.1) (Int.ediv_le_ediv (p2_pos w) h.1.2)) (fun v w h => btw_shrL (by unfold Box at h; omega) h.2.1 h.2.2)
end Go.SXR
